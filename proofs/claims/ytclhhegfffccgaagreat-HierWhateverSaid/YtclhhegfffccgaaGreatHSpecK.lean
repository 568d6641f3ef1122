/-
  What spec.May asks of a spec: kind. (Printed by wip/mkhspec.py.)
-/
import Derived.Test.YtclhhegfffccgaaGreatHSpecA
namespace Go.Proofs.YtclhhegfffccgaaGreat
set_option linter.unusedVariables false
open Go.RowKit
attribute [local go_sem ↓] Go.wp_at_zero Go.wp_at_succ
attribute [local go_sem] quietR quietAtR quietUponR midAt midUpon

set_option maxRecDepth 100000 in
set_option maxHeartbeats 4000000 in
theorem kind_any (s : Sp) (w : World) (hw : WfSp s) :
    Calls Tryz.prog 69 #[spV s] w fun e w' => e = .returned (.int .u8 (kindB s)) ∧ Below w.heap.size w w' := by
  obtain ⟨id, pa, lf, ⟨F1, L1, R1⟩, ⟨F2, L2, R2⟩, ⟨F3, L3, R3⟩, pk, by_⟩ := s
  unfold spV spC kindB
  dsimp only
  have h1 := fun w => cnone_any F1 L1 R1 w
  have h2 := fun w => cnone_any F2 L2 R2 w
  generalize noneB (F1, L1, R1) = b1 at h1 ⊢
  generalize noneB (F2, L2, R2) = b2 at h2 ⊢
  have H := Lib.hid (BxAt.new w 36 #[.int .i64 id, .int .i64 pa, .bool lf, .int .u64 F1, .int .u64 L1, .int .u64 R1, .int .u64 F2, .int .u64 L2, .int .u64 R2, .int .u64 F3, .int .u64 L3, .int .u64 R3, .int .i64 pk, .int .i64 by_])
  cases lf <;> cases b1 <;> cases b2
  all_goals
    go_enter Tryz.func69, Tryz.ntmps69
    go_upto_region 1 with fail
    generalize w.alloc (.cells #[.int .i64 id, .int .i64 pa, _, .int .u64 F1, .int .u64 L1, .int .u64 R1, .int .u64 F2, .int .u64 L2, .int .u64 R2, .int .u64 F3, .int .u64 L3, .int .u64 R3, .int .i64 pk, .int .i64 by_] 36) = W0 at H ⊢
    have l1 := H.out.1.lt
    have o2 := fun e => (over_cell (w := W0) (e := e) (o := 2) l1).trans (H.out.1.cell 2)
    have o3 := fun e => (over_cell (w := W0) (e := e) (o := 3) l1).trans (H.out.1.cell 3)
    have o4 := fun e => (over_cell (w := W0) (e := e) (o := 4) l1).trans (H.out.1.cell 4)
    have o5 := fun e => (over_cell (w := W0) (e := e) (o := 5) l1).trans (H.out.1.cell 5)
    have o6 := fun e => (over_cell (w := W0) (e := e) (o := 6) l1).trans (H.out.1.cell 6)
    have o7 := fun e => (over_cell (w := W0) (e := e) (o := 7) l1).trans (H.out.1.cell 7)
    have o8 := fun e => (over_cell (w := W0) (e := e) (o := 8) l1).trans (H.out.1.cell 8)
    simp only [List.getElem?_toArray, List.getElem?_cons_zero, List.getElem?_cons_succ] at o2 o3 o4 o5 o6 o7 o8
    have g1 := fun e => h1 (over W0 e)
    have g2 := fun e => h2 (over W0 e)
    clear h1 h2
    refine wp_region_over (by kernel_rfl) (by kernel_rfl) ?_
    repeat (first | go_big_quiet_skip | (go_big_quiet_want; go_big_quiet_op; first | go_big_quiet_on | (apply Exists.intro; refine ⟨fun e => ?_, ?_⟩; (focus (go_at_call 70; first | with_reducible exact calls_over (g1 _) | with_reducible exact calls_over (g2 _))); go_big_quiet_on)))
    refine wpQuiet_nil ?_
    rintro W2 ⟨e2, he2⟩
    have hb2 := over_below W0 e2
    rw [← he2] at hb2
    clear he2 o2 o3 o4 o5 o6 o7 o8 g1 g2
    have H2 := Lib.hid (BxAt.step H.out hb2)
    have k2 := H2.out.1.cell 2
    simp only [List.getElem?_toArray, List.getElem?_cons_zero, List.getElem?_cons_succ] at k2
    clear hb2 H l1
    go_wp2_with fail
    go_ret
    exact ⟨rfl, H2.out.2⟩
end Go.Proofs.YtclhhegfffccgaaGreat
