/-
  A run is made; a copy goes on alone.
-/
import Derived.Test.YtipiajnaechadaaRunAll
import Derived.Test.YtipiajnaechadaaRegM
namespace Go.Proofs.Ytipiajnaechadaa
set_option linter.unusedVariables false
open Go.RowKit
attribute [local go_sem] quietR quietAtR quietUponR midAt midUpon

/-- what run.New tells of a curve that may be -/
def Made (w : World) (F L R : Int) (e : Ending) (w' : World) : Prop :=
  ∃ r g, e = .returned (.pointer (some ⟨r, 0, none⟩)) ∧ w.heap.size ≤ g ∧ RunAt w' r g F L R 0 [] ∧ Below w.heap.size w w'

set_option maxHeartbeats 1000000 in
theorem run_new (F L R : Int) (w : World) (hF : 0 ≤ F) (hL : 0 ≤ L) (hR : 0 ≤ R) (h1 : mayB F L R = true) :
    Calls Try.prog 6 #[.agg #[.int .u64 F, .int .u64 L, .int .u64 R]] w (Made w F L R) := by
  have hal := (Below.refl w.heap.size w).alloc (Nat.le_refl _) (.cells #[.int .u64 F, .int .u64 L, .int .u64 R] 24)
  have nb := Blk.new w 24 #[.int .u64 F, .int .u64 L, .int .u64 R]
  have nl := nb.lt
  have HN := Lib.hid nb; have H := Lib.hid h1
  clear nb h1
  by_cases h2 : R < F
  · go_enter Try.func6, Try.ntmps6
    go_wp2_with (first
      | (go_at_call 28; refine (may_any F L R _ hL).mono ?_; rintro e w1 ⟨rfl, hb1⟩; rw [H.out]; have n1 := HN.out.below hb1 nl; have a0 := n1.cell 0; have a1 := n1.cell 1; have a2 := n1.cell 2; simp only [List.getElem?_toArray, List.getElem?_cons_zero, List.getElem?_cons_succ] at a0 a1 a2)
      | (go_at_call 29; refine (bnew_ok F L R _ hF hL hR H.out h2).mono ?_; rintro e w2 ⟨g, rfl, hg, hB, hb2⟩; have HB := Lib.hid hB; clear hB; have n2 := n1.below hb2 n1.lt; have b0 := n2.cell 0; have b1 := n2.cell 1; have b2 := n2.cell 2; simp only [List.getElem?_toArray, List.getElem?_cons_zero, List.getElem?_cons_succ] at b0 b1 b2))
    have hb3 : Below w.heap.size w w2 := (hal.trans (hb1.mono hal.size)).trans (hb2.mono (Nat.le_trans hal.size hb1.size))
    go_ret
    have hal2 := (Below.refl w2.heap.size w2).alloc (Nat.le_refl _) (.cells #[.int .u64 F, .int .u64 L, .int .u64 R, ifB g] 65)
    exact ⟨w2.heap.size, g, rfl, Nat.le_trans (Nat.le_trans hal.size hb1.size) hg, .inl ⟨Blk.new _ _ _, HB.out.below hal2, HB.out.lt⟩, hb3.trans (hal2.mono hb3.size)⟩
  · have h2' : F ≤ R := by omega
    go_enter Try.func6, Try.ntmps6
    go_wp2_with (first
      | (go_at_call 28; refine (may_any F L R _ hL).mono ?_; rintro e w1 ⟨rfl, hb1⟩; rw [H.out]; have n1 := HN.out.below hb1 nl; have a0 := n1.cell 0; have a1 := n1.cell 1; have a2 := n1.cell 2; simp only [List.getElem?_toArray, List.getElem?_cons_zero, List.getElem?_cons_succ] at a0 a1 a2)
      | (go_at_call 29; refine (bnew_no F L R _ hL H.out h2').mono ?_; rintro e w2 ⟨rfl, hb2⟩; have n2 := n1.below hb2 n1.lt; have b0 := n2.cell 0; have b1 := n2.cell 1; have b2 := n2.cell 2; simp only [List.getElem?_toArray, List.getElem?_cons_zero, List.getElem?_cons_succ] at b0 b1 b2)
      | (go_at_call 22; refine (live_new _ hF hL hR H.out h2').mono ?_; rintro e w3 ⟨g, rfl, hg, hB, hb3⟩; have HB := Lib.hid hB; clear hB; have n3 := n2.below hb3 n2.lt; have d0 := n3.cell 0; have d1 := n3.cell 1; have d2 := n3.cell 2; simp only [List.getElem?_toArray, List.getElem?_cons_zero, List.getElem?_cons_succ] at d0 d1 d2))
    have hb4 : Below w.heap.size w w2 := (hal.trans (hb1.mono hal.size)).trans (hb2.mono (Nat.le_trans hal.size hb1.size))
    have hb5 : Below w.heap.size w w3 := hb4.trans (hb3.mono hb4.size)
    go_ret
    have hal2 := (Below.refl w3.heap.size w3).alloc (Nat.le_refl _) (.cells #[.int .u64 F, .int .u64 L, .int .u64 R, ifS g] 65)
    exact ⟨w3.heap.size, g, rfl, Nat.le_trans hb4.size hg, .inr ⟨Blk.new _ _ _, ⟨_, HB.out.below hal2⟩, HB.out.lt⟩, hb5.trans (hal2.mono hb5.size)⟩

set_option maxHeartbeats 1000000 in
theorem run_new_no (F L R : Int) (w : World) (hL : 0 ≤ L) (h1 : mayB F L R = false) :
    Calls Try.prog 6 #[.agg #[.int .u64 F, .int .u64 L, .int .u64 R]] w fun e w' => e = .returned (.pointer none) ∧ Below w.heap.size w w' := by
  have hal := (Below.refl w.heap.size w).alloc (Nat.le_refl _) (.cells #[.int .u64 F, .int .u64 L, .int .u64 R] 24)
  have H := Lib.hid h1
  clear h1
  go_enter Try.func6, Try.ntmps6
  go_wp2_with (go_at_call 28; refine (may_any F L R _ hL).mono ?_; rintro e w1 ⟨rfl, hb1⟩; rw [H.out])
  go_ret
  exact ⟨rfl, hal.trans (hb1.mono hal.size)⟩

end Go.Proofs.Ytipiajnaechadaa
