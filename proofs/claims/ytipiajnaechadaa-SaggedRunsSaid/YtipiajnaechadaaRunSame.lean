/-
  A run's answers, whatever started; what stays of a run when the document's starts, and the other way round.
-/
import Derived.Test.YtipiajnaechadaaRefSame
import Derived.Test.YtipiajnaechadaaRefMay
import Derived.Test.YtipiajnaechadaaRunAll
namespace Go.Proofs.Ytipiajnaechadaa
set_option linter.unusedVariables false
open Go.RowKit

section
variable {w w' : World} {r g : Nat} {F L R x : Int} {A : List (Int × Int)}
theorem urun_at (h : RunAt w r g F L R x A) (t : Int) (ht : U t) :
    Calls Try.prog 36 #[.pointer (some ⟨r, 0, none⟩), .int .u64 t] w fun e w' => e = .returned (.int .u64 (qA F L R x A t)) ∧ Below w.heap.size w w' := by
  by_cases hA : A = []
  · subst hA; exact run_at0 h t
  · have e : qA F L R x A t = vA F L R A (max t x) := by unfold qA; rw [not_empty hA]; rfl
    rw [e]; exact run_at h hA t ht
theorem urun_ahead (h : RunAt w r g F L R x A) (t : Int) (ht : U t) :
    Calls Try.prog 40 #[.pointer (some ⟨r, 0, none⟩), .int .u64 t] w fun e w' => e = .returned (.int .u64 (qE F L R x A t)) ∧ Below w.heap.size w w' := by
  by_cases hA : A = []
  · subst hA; exact run_ahead0 h t
  · have e : qE F L R x A t = vE F L R A (max t x) := by unfold qE; rw [not_empty hA]; rfl
    rw [e]; exact run_ahead h hA t ht
theorem urun_reach (h : RunAt w r g F L R x A) (y : Int) (hy : U y) :
    Calls Try.prog 38 #[.pointer (some ⟨r, 0, none⟩), .int .u64 y] w fun e w' => e = .returned (.int .u64 (qR F L R x A y)) ∧ Below w.heap.size w w' := by
  by_cases hA : A = []
  · subst hA; exact run_reach0 h y
  · have e : qR F L R x A y = ansI (fun t => vA F L R A (max t x)) x y := by unfold qR; rw [not_empty hA]; rfl
    rw [e]; exact (run_reach h hA y hy).mono fun _ _ k => k.fix (vA_max_mono h.may h.num.1)
theorem urun_elig (h : RunAt w r g F L R x A) (y : Int) (hy : U y) :
    Calls Try.prog 42 #[.pointer (some ⟨r, 0, none⟩), .int .u64 y] w fun e w' => e = .returned (.int .u64 (qL F L R x A y)) ∧ Below w.heap.size w w' := by
  by_cases hA : A = []
  · subst hA; exact run_elig0 h y
  · have e : qL F L R x A y = ansI (fun t => vE F L R A (max t x)) x y := by unfold qL; rw [not_empty hA]; rfl
    rw [e]; exact (run_elig h hA y hy).mono fun _ _ k => k.fix (vE_max_mono h.may h.num.1)
theorem urun_last (h : RunAt w r g F L R x A) (hl : lastX A = x) :
    Calls Try.prog 31 #[.pointer (some ⟨r, 0, none⟩)] w fun e w' => e = .returned (.tuple #[.int .u64 x, .bool (!A.isEmpty)]) ∧ w = w' := by
  by_cases hA : A = []
  · subst hA; obtain rfl : 0 = x := hl; exact run_last0 h
  · rw [not_empty hA]; exact run_last h hA
theorem urun_many (h : RunAt w r g F L R x A) :
    Calls Try.prog 34 #[.pointer (some ⟨r, 0, none⟩)] w fun e w' => e = .returned (.int .i64 A.length) ∧ w = w' := by
  by_cases hA : A = []
  · subst hA; exact run_many0 h
  · exact run_many h hA

theorem ownsRow_ref {base c B size n : Nat} {e : TypeId} {v : Value} {xs : List Value} (h : w.ownsRow B e size v n xs) (hg : RefGrown w w' base c) (he : e ≠ 22) (hc : ∀ cs, ¬ Blk w c e cs) : w'.ownsRow B e size v n xs := by
  obtain ⟨hl, h | ⟨b, cap, cur, hv, hb, hblk, hr⟩⟩ := h
  · exact ⟨hl, .inl h⟩
  · have hB : Blk w b e cur := hblk
    exact ⟨hl, .inr ⟨b, cap, cur, hv, hb, (show w'.heap[b]? = _ from hB.ref hg (by rintro rfl; exact hc _ hB) he), hr⟩⟩
/-- the document's run starts a copy: a run is as it was -/
theorem RunAt.ref {base c : Nat} {cs : Array Value} (h : RunAt w r g F L R x A) (hg : RefGrown w w' base c) (hc : Blk w c 70 cs) : RunAt w' r g F L R x A := by
  rcases h with ⟨h1, h2, h3⟩ | ⟨h1, ⟨K, h2⟩, h3⟩
  · obtain ⟨⟨p, q, hB, h4⟩, h5⟩ := h2
    exact .inl ⟨h1.ref hg (blk_ne h1 hc (by decide)) (by decide), ⟨⟨p, q, hB.ref hg (blk_ne hB hc (by decide)) (by decide), h4⟩, h5, ‹_›, ‹_›, ‹_›, ‹_›, ‹_›⟩, h3⟩
  · obtain ⟨v, hB, hr⟩ := h2.at_
    exact .inr ⟨h1.ref hg (blk_ne h1 hc (by decide)) (by decide), ⟨K, ⟨v, hB.ref hg (blk_ne hB hc (by decide)) (by decide), ownsRow_ref hr hg (by decide) (fun cs' hb => blk_ne hb hc (by decide) rfl)⟩, h2.may, h2.le, h2.run, h2.num, h2.x0, h2.x1, h2.few, h2.one⟩, h3⟩
/-- a run starts a copy: the document's is as it was -/
theorem RefAt.stay {base q : Nat} {F' L' R' x' : Int} {A' : List (Int × Int)} (h : RefAt w q base F L R x A) (h' : RunAt w r g F' L' R' x' A') (hw : w.grownBy w' (some g)) : RefAt w' q base F L R x A := by
  rcases h' with h' | ⟨_, ⟨K, hK⟩, _⟩
  · obtain ⟨h1, h2, hB, _⟩ := h'.2.1.blk
    exact h.grown hw hB (by decide) (by decide)
  · obtain ⟨v, hB, _⟩ := hK.at_
    exact h.grown hw hB (by decide) (by decide)

end

end Go.Proofs.Ytipiajnaechadaa
