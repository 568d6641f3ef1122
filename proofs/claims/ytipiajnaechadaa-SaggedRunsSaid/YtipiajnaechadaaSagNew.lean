/-
  sagged.New: a run without copies of a curve that may be and is not bent; else nil and ErrCurve.
-/
import Derived.Test.YtipiajnaechadaaSagLeast
import Derived.Test.YtipiajnaechadaaCurves
namespace Go.Proofs.Ytipiajnaechadaa
set_option linter.unusedVariables false
open Go.RowKit

set_option maxHeartbeats 1000000 in
theorem snew_ok (F L R : Int) (w : World) (hL : 0 ≤ L) (h1 : mayB F L R = true) (h2 : F ≤ R) :
    Calls Try.prog 22 #[.agg #[.int .u64 F, .int .u64 L, .int .u64 R]] w fun e w' =>
      ∃ g, e = .returned (.tuple #[.pointer (some ⟨g, 0, none⟩), .int .i64 0]) ∧ w.heap.size ≤ g ∧ SagAt w' g F L R 0 0 [] ∧ Below w.heap.size w w' := by
  have hal := (Below.refl w.heap.size w).alloc (Nat.le_refl _) (.cells #[.int .u64 F, .int .u64 L, .int .u64 R] 24)
  have nb := Blk.new w 24 #[.int .u64 F, .int .u64 L, .int .u64 R]
  have nl := nb.lt
  have HN := Lib.hid nb
  clear nb
  have hd : decide (R < F) = false := by simp; omega
  go_enter Try.func22, Try.ntmps22
  go_wp2_with (first
    | (go_at_call 28; refine (may_any F L R _ hL).mono ?_; rintro e w1 ⟨rfl, hb1⟩; have n1 := HN.out.below hb1 nl; have a0 := n1.cell 0; have a1 := n1.cell 1; have a2 := n1.cell 2; simp only [List.getElem?_toArray, List.getElem?_cons_zero, List.getElem?_cons_succ] at a0 a1 a2)
    | (go_at_call 49; refine (bent_any F L R _).mono ?_; rintro e w2 ⟨rfl, hb2⟩; have n2 := n1.below hb2 n1.lt; have b0 := n2.cell 0; have b1 := n2.cell 1; have b2 := n2.cell 2; simp only [List.getElem?_toArray, List.getElem?_cons_zero, List.getElem?_cons_succ] at b0 b1 b2))
  have hb3 : Below w.heap.size w w2 := (hal.trans (hb1.mono hal.size)).trans (hb2.mono (Nat.le_trans hal.size hb1.size))
  go_ret2
  exact ⟨w2.heap.size, rfl, hb3.size, ⟨_, Blk.new _ _ _, World.ownsRow_nil _ _ _ _⟩, hb3.alloc hb3.size _⟩

end Go.Proofs.Ytipiajnaechadaa
