/-
  Can curves be kept, what is spare beside them: sums.Kept, sums.Spare.
-/
import Derived.Test.YtkeffkfjgblicaaLateAll
import Derived.Deep.RegionLaw
import Derived.Deep.DrawnRows
namespace Go.Proofs.Ytkeffkfjgblicaa
set_option linter.unusedVariables false
open Go.RowKit

noncomputable instance (l : List Cv) (r : Int) : Decidable (Keep l r) := Classical.propDecidable _
theorem kept_any (v : Value) (l : List Cv) (r : Int) (w : World) (h : CvAt w v l) (hr : U r) :
    Calls Try.prog 19 #[v, .int .u64 r] w fun e w' => e = .returned (.bool (decide (Keep l r))) ∧ Below w.heap.size w w' := by
  have hl := late_any v l r w h hr
  clear h
  go_enter Try.func19, Try.ntmps19
  go_wp2_with fail
  refine hl.mono ?_
  clear hl
  rintro e w1 ⟨n, rfl, hI, hb⟩
  have hk : decide (Keep l r) = (n == 9223372036854775808) := by
    rw [Bool.eq_iff_iff, decide_eq_true_eq, ← hI.keep]; simp
  have HK := Lib.hid hk; have HB := Lib.hid hb
  clear hI hb hk
  go_wp2_with fail
  go_ret
  exact ⟨by rw [HK.out]; rfl, HB.out⟩

/-- what sums.Spare hands back -/
def SpareW (w : World) (l : List Cv) (r : Int) (e : Ending) (w' : World) : Prop :=
  ((∃ n : Int, e = .returned (.tuple #[.int .u64 n, .bool true]) ∧ Keep l r ∧ IsSpare l r n) ∨ (e = .returned (.tuple #[.int .u64 0, .bool false]) ∧ ¬ Keep l r)) ∧ Below w.heap.size w w'

/-- a clone, as a row of the call's own -/
def CloneW (w0 w : World) (l : List Cv) (e : Ending) (w' : World) : Prop := ∃ v, e = .returned v ∧ w'.ownsRow w0.heap.size 31 3 v l.length (cvCells l) ∧ Below w.heap.size w w'
theorem clone_row (w0 w : World) (v : Value) (l : List Cv) (h : CvAt w v l) (h0 : w0.heap.size ≤ w.heap.size) :
    Calls Try.prog 55 #[v] w (CloneW w0 w l) := by
  obtain ⟨a, cap, rfl⟩ : ∃ a cap, v = .slice a l.length cap := by obtain ⟨_, _, a, cap, e, _⟩ := h; exact ⟨a, cap, e⟩
  refine (clone_any a cap l w h).mono ?_
  rintro e w' ⟨v, rfl, hb, ⟨rfl, rfl⟩ | ⟨g, c, rfl, hr⟩⟩
  · exact ⟨_, rfl, World.ownsRow_nil _ _ _ _, hb⟩
  · refine ⟨_, rfl, ?_, hb⟩
    obtain ⟨hlen, hcase⟩ := hr
    refine ⟨hlen, ?_⟩
    rcases hcase with h | ⟨g', c', cur, e, h1, h2⟩
    · exact .inl h
    · exact .inr ⟨g', c', cur, e, by omega, h2⟩
theorem cvCells_append (a b : List Cv) : cvCells (a ++ b) = cvCells a ++ cvCells b := by simp [cvCells]
theorem CvAt.of_owns {w : World} {base : Nat} {v : Value} {l : List Cv} (h : w.ownsRow base 31 3 v l.length (cvCells l)) (hu : UU l) (hl : l.length ≤ 1000000) : CvAt w v l := by
  rcases h.2 with ⟨rfl, h0⟩ | ⟨g, cap, cur, rfl, h1, h2⟩
  · obtain rfl : l = [] := List.eq_nil_of_length_eq_zero h0
    exact ⟨hu, hl, none, 0, rfl, .inl rfl⟩
  · exact CvAt.of_row h hu hl

/-- the question's closure: a straight curve beside -/
def BesW (w : World) (l : List Cv) (r : Int) (i : Nat) (e : Ending) (w' : World) : Prop := e = .returned (.bool (!decide (Keep (l ++ [(0, 0, (i : Int) + 1)]) r))) ∧ Below w.heap.size w w'
set_option maxHeartbeats 4000000 in
theorem beside_any (v : Value) (l : List Cv) (r : Int) (vb rb i : Nat) (w : World) (h : CvAt w v l) (hbv : Boxed w vb 22 v) (hbr : Boxed w rb 23 (.int .u64 r)) (hr : U r) (hi : i ≤ 1048575) (hl : l.length < 1000000) :
    Calls Try.prog 54 (#[.int .i64 i] ++ #[.pointer (some ⟨vb, 0, none⟩), .pointer (some ⟨rb, 0, none⟩)]) w (BesW w l r i) := by
  obtain ⟨i0, hi0, hz0, hz1, hz2⟩ := info_parts info_curve
  have hcl := fun W (hW : Below w.heap.size w W) => clone_row w W v l (h.later hW) hW.size
  have hkp := fun W v' (hW : CvAt W v' (l ++ [(0, 0, (i : Int) + 1)])) => kept_any v' (l ++ [(0, 0, (i : Int) + 1)]) r W hW hr
  have huu : UU (l ++ [(0, 0, (i : Int) + 1)]) := fun c hc => by
    rcases List.mem_append.1 hc with hc | hc
    · exact h.1 c hc
    · simp at hc; subst hc; exact ⟨⟨by simp, by simp⟩, ⟨by simp, by simp⟩, ⟨by simp; omega, by simp; omega⟩⟩
  have cv := hbv.cell; have cr := hbr.cell
  have cV : ∀ W, Below w.heap.size w W → W.cell? ⟨vb, 0, none⟩ = some v := fun W hW => (hW.cell (p := ⟨vb, 0, none⟩) hbv.lt).trans cv
  have cR : ∀ W, Below w.heap.size w W → W.cell? ⟨rb, 0, none⟩ = some (.int .u64 r) := fun W hW => (hW.cell (p := ⟨rb, 0, none⟩) hbr.lt).trans cr
  have cvA := fun n o => cV ((w.drewN n).alloc o) ((below_drewN (Below.refl _ w) n).alloc (Nat.le_refl _) o)
  have crA := fun n o => cR ((w.drewN n).alloc o) ((below_drewN (Below.refl _ w) n).alloc (Nat.le_refl _) o)
  have cvB := fun o => cV (w.alloc o) ((Below.refl _ w).alloc (Nat.le_refl _) o)
  have crB := fun o => cR (w.alloc o) ((Below.refl _ w).alloc (Nat.le_refl _) o)
  have wi : IntKind.u64.wrap (i : Int) = (i : Int) := IntWalk.u64_in _ (by omega)
  have wi1 : IntKind.u64.wrap ((i : Int) + 1) = (i : Int) + 1 := IntWalk.u64_in _ (by omega)
  have HCL := Lib.hid hcl; have HKP := Lib.hid hkp; have HUU := Lib.hid huu; have CV := Lib.hid cV; have CR := Lib.hid cR
  obtain ⟨a, n0, cap, rfl⟩ : ∃ a n cap, v = .slice a n cap := by obtain ⟨_, _, a, cap, e, _⟩ := h; exact ⟨a, _, cap, e⟩
  clear hcl hkp huu cV cR h hbv hbr
  go_enter Try.func54, Try.ntmps54
  go_wp2
  go_region_law (first
    | (go_simp; go_at_call 55; refine (HCL.out _ (by go_grown <;> exact below_drewN (Below.refl _ _) _)).mono ?_; rintro e w1 ⟨v1, rfl, hown, hb1⟩; have hbw : Below w.heap.size w w1 := (by first | exact hb1 | exact (Below.trans (by go_grown <;> exact below_drewN (Below.refl _ _) _) (hb1.mono (by simp; try omega)))); have d1 := CV.out w1 hbw; have d2 := CR.out w1 hbw; have d3 := fun o => CV.out (w1.alloc o) (hbw.alloc hbw.size o); have d4 := fun o => CR.out (w1.alloc o) (hbw.alloc hbw.size o))
    | (go_simp; go_at_call 19; refine (HKP.out _ _ hcv2).mono ?_; rintro e w3 ⟨rfl, hb3⟩)
    | (refine step_append_lies _ rfl (.tmp 6) (.tmp 11) 22 rfl w.heap.size 31 i0 (.agg #[.int .u64 0, .int .u64 0, .int .u64 0]) 3 24 Try.underlying22 hi0 hz0 hz1 hz2 rfl (by decide) _ l.length _ rfl (by first | exact hown | exact hown.alloc _) ⟨_, 0, none⟩ 1 1 [.int .u64 0, .int .u64 0, .int .u64 ((i : Int) + 1)] rfl rfl (by first | exact World.news_of_block (heap_alloc_new _ _) | exact World.news_of_block ((hb1.block _ (by simp)).trans (heap_alloc_new _ _))) (by simp [Value.oneCell']) (by decide) (by unfold maxLen; omega) (by omega) (by have := hb1.size; simp at this ⊢; omega) _ rfl ?_; intro g cp w2 hown2 hgr2 hat2 hlt2; have hbw2 : Below w.heap.size w w2 := (by first | exact hbw.grown hgr2 hbw.size (fun k hk => (hown.lt k hk).1) | exact (hbw.alloc hbw.size _).grown hgr2 (by have := hbw.size; simp; omega) (fun k hk => (hown.lt k hk).1)); have d5 := CR.out w2 hbw2; have hcv2 : CvAt w2 (.slice (some ⟨g, 0, none⟩) (l.length + 1) cp) (l ++ [(0, 0, (i : Int) + 1)]) := (CvAt.of_owns (base := w.heap.size) (by simpa [cvCells_append, cvCells, cvC] using hown2) HUU.out (by simp; omega))))
  all_goals
    go_wp2
    go_ret
    exact ⟨rfl, hbw2.trans (hb3.mono hbw2.size)⟩
end Go.Proofs.Ytkeffkfjgblicaa
