/-
  sagged.New where there is no run.
-/
import Derived.Test.YtipiajnaechadaaSagLive
namespace Go.Proofs.Ytipiajnaechadaa
set_option linter.unusedVariables false
open Go.RowKit

set_option maxHeartbeats 1000000 in
theorem snew_no (F L R : Int) (w : World) (hL : 0 ≤ L) (h : mayB F L R = false ∨ (mayB F L R = true ∧ R < F)) :
    Calls Try.prog 22 #[.agg #[.int .u64 F, .int .u64 L, .int .u64 R]] w fun e w' =>
      e = .returned (.tuple #[.pointer none, .int .i64 30]) ∧ Below w.heap.size w w' := by
  have hal := (Below.refl w.heap.size w).alloc (Nat.le_refl _) (.cells #[.int .u64 F, .int .u64 L, .int .u64 R] 24)
  have nb := Blk.new w 24 #[.int .u64 F, .int .u64 L, .int .u64 R]
  have nl := nb.lt
  have HN := Lib.hid nb
  clear nb
  rcases h with h1 | ⟨h1, h2⟩
  · go_enter Try.func22, Try.ntmps22
    go_wp2_with (go_at_call 28; refine (may_any F L R _ hL).mono ?_; rintro e w1 ⟨rfl, hb1⟩)
    go_ret2
    exact ⟨rfl, hal.trans (hb1.mono hal.size)⟩
  · have hd : decide (R < F) = true := by simp; omega
    go_enter Try.func22, Try.ntmps22
    go_wp2_with (first
      | (go_at_call 28; refine (may_any F L R _ hL).mono ?_; rintro e w1 ⟨rfl, hb1⟩; have n1 := HN.out.below hb1 nl; have a0 := n1.cell 0; have a1 := n1.cell 1; have a2 := n1.cell 2; simp only [List.getElem?_toArray, List.getElem?_cons_zero, List.getElem?_cons_succ] at a0 a1 a2)
      | (go_at_call 49; refine (bent_any F L R _).mono ?_; rintro e w2 ⟨rfl, hb2⟩))
    go_ret2
    exact ⟨rfl, (hal.trans (hb1.mono hal.size)).trans (hb2.mono (Nat.le_trans hal.size hb1.size))⟩

end Go.Proofs.Ytipiajnaechadaa
