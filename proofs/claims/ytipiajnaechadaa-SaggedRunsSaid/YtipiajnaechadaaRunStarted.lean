/-
  What stays when another run starts a copy; an answer that is known; the law's own 'started'.
-/
import Derived.Test.YtipiajnaechadaaRunMake
import Derived.Test.YtipiajnaechadaaActs
namespace Go.Proofs.Ytipiajnaechadaa
set_option linter.unusedVariables false
open Go.RowKit

section
variable {w w' : World} {r g : Nat} {F L R x : Int} {A : List (Int × Int)}
theorem blk_ne {w : World} {a b t t' : Nat} {cs cs' : Array Value} (h : Blk w a t cs) (h' : Blk w b t' cs') (ht : t ≠ t') : a ≠ b := by
  rintro rfl
  unfold Blk at h h'
  rw [h] at h'
  injection h' with h'
  injection h' with h1 h2
  exact ht h2
theorem RunAt.gblk (h : RunAt w r g F L R x A) : ∃ t cs, Blk w g t cs ∧ t ≠ 94 ∧ t ≠ 65 := by
  rcases h with h | ⟨_, ⟨K, hK⟩, _⟩
  · obtain ⟨h1, h2, hB, _⟩ := h.2.1.blk
    exact ⟨_, _, hB, by decide, by decide⟩
  · obtain ⟨v, hB, _⟩ := hK.at_
    exact ⟨_, _, hB, by decide, by decide⟩
theorem Live.stay2 {K : List (Int × Int)} {g' : Nat} {t : Nat} {cs : Array Value} (h : Live w g F L R x K A) (hg : g' ≠ g) (hB : Blk w g' t cs) (ht : t ≠ 94) (hw : w.grownBy w' (some g')) : Live w' g F L R x K A := by
  obtain ⟨v, hb, hr⟩ := h.at_
  refine ⟨⟨v, hb.grown hw (by simpa using Ne.symm hg), hr.kept hw ?_⟩, h.may, h.le, h.run, h.num, h.x0, h.x1, h.few, h.one⟩
  rcases hr.2 with ⟨hv, _⟩ | ⟨b, cp, cur, hv, _, hblk, _⟩
  · rw [hv]; exact .inl rfl
  · rw [hv]
    refine .inr fun he => ?_
    have : b = g' := by simpa [Value.ownBlock] using he
    exact blk_ne (t := 94) (show Blk w b _ cur from hblk) hB (Ne.symm ht) this
theorem BentAt.stay {g' : Nat} (h : BentAt w g F L R x A) (hg : g' ≠ g) (hw : w.grownBy w' (some g')) : BentAt w' g F L R x A := by
  obtain ⟨⟨h1, h2, hB, h3⟩, r⟩ := h
  exact ⟨⟨h1, h2, hB.grown hw (by simpa using Ne.symm hg), h3⟩, r, ‹_›, ‹_›, ‹_›, ‹_›, ‹_›⟩
/-- another run's copy starts: this one is as it was -/
theorem RunAt.stay {r' g' : Nat} {F' L' R' x' : Int} {A' : List (Int × Int)} (h : RunAt w r g F L R x A) (h' : RunAt w r' g' F' L' R' x' A') (hg : g' ≠ g) (hw : w.grownBy w' (some g')) : RunAt w' r g F L R x A := by
  obtain ⟨t, cs, hB, ht1, ht2⟩ := h'.gblk
  rcases h with ⟨h1, h2, h3⟩ | ⟨h1, ⟨K, h2⟩, h3⟩
  · exact .inl ⟨h1.grown hw (by have := blk_ne hB h1 ht2; simpa using Ne.symm this), h2.stay hg hw, h3⟩
  · exact .inr ⟨h1.grown hw (by have := blk_ne hB h1 ht2; simpa using Ne.symm this), ⟨K, h2.stay2 hg hB ht1 hw⟩, h3⟩
end

theorem Back.is {v : Int → Int} {x y n k : Int} (h : Back v x y n) (hm : ∀ t u, x ≤ t → t ≤ u → v t ≤ v u) (hk : x ≤ k) (hk2 : k < 9223372036854775808) (h1 : y ≤ v k) (h2 : k = x ∨ v (k - 1) < y) : n = k := by
  rcases Int.lt_trichotomy n k with hlt | heq | hgt
  · exfalso
    have h3 := (h.le hm (e := k - 1) (by omega) (by omega)).2
    rcases h2 with h2 | h2
    · have := h.x_le; omega
    · omega
  · exact heq
  · have := h.gt hm hk hgt; omega
theorem vA_max_mono {F L R x : Int} {A : List (Int × Int)} (h : MayC F L R) (hA : ∀ a ∈ A, a.1 ≤ x ∧ 0 ≤ a.2) : ∀ t u, x ≤ t → t ≤ u → (fun t => vA F L R A (max t x)) t ≤ (fun t => vA F L R A (max t x)) u := by
  intro t u ht htu
  exact vA_mono h hA (by omega) (by omega)
theorem vE_max_mono {F L R x : Int} {A : List (Int × Int)} (h : MayC F L R) (hA : ∀ a ∈ A, a.1 ≤ x ∧ 0 ≤ a.2) : ∀ t u, x ≤ t → t ≤ u → (fun t => vE F L R A (max t x)) t ≤ (fun t => vE F L R A (max t x)) u := by
  intro t u ht htu
  exact vE_mono h hA (by omega) (by omega)
theorem u_small {n : Int} (h : 0 ≤ n) (h2 : n ≤ 9223372036854775808) : U n := ⟨h, by omega⟩





end Go.Proofs.Ytipiajnaechadaa
