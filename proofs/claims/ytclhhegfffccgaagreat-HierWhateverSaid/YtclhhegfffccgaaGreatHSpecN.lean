/-
  What spec.May asks of a spec: named. (Printed by wip/mkhspec.py.)
-/
import Derived.Test.YtclhhegfffccgaaGreatHSpecA
namespace Go.Proofs.YtclhhegfffccgaaGreat
set_option linter.unusedVariables false
open Go.RowKit
attribute [local go_sem ↓] Go.wp_at_zero Go.wp_at_succ
attribute [local go_sem] quietR quietAtR quietUponR midAt midUpon

set_option maxRecDepth 100000 in
set_option maxHeartbeats 4000000 in
theorem named_any (s : Sp) (w : World) (hw : WfSp s) :
    Calls Tryz.prog 48 #[spV s] w fun e w' => e = .returned (.bool (namedB s)) ∧ Below w.heap.size w w' := by
  obtain ⟨id, pa, lf, ⟨F1, L1, R1⟩, ⟨F2, L2, R2⟩, ⟨F3, L3, R3⟩, pk, by_⟩ := s
  obtain ⟨_, u1, u2, u3⟩ := hw
  unfold UC at u1 u2 u3
  unfold spV spC namedB
  dsimp only at u1 u2 u3 ⊢
  have h1 := fun w => in_any id 1 65535 w
  have h2 := fun w => in_any pa 0 65535 w
  generalize inB id 1 65535 = b1 at h1 ⊢
  generalize inB pa 0 65535 = b2 at h2 ⊢
  generalize hb3 : (id != pa) = b3
  have H := Lib.hid (BxAt.new w 36 #[.int .i64 id, .int .i64 pa, .bool lf, .int .u64 F1, .int .u64 L1, .int .u64 R1, .int .u64 F2, .int .u64 L2, .int .u64 R2, .int .u64 F3, .int .u64 L3, .int .u64 R3, .int .i64 pk, .int .i64 by_])
  have k0 := H.out.1.cell 0; have k1 := H.out.1.cell 1; have k2 := H.out.1.cell 2; have k3 := H.out.1.cell 3; have k4 := H.out.1.cell 4; have k5 := H.out.1.cell 5; have k6 := H.out.1.cell 6; have k7 := H.out.1.cell 7; have k8 := H.out.1.cell 8; have k9 := H.out.1.cell 9; have k10 := H.out.1.cell 10; have k11 := H.out.1.cell 11; have k12 := H.out.1.cell 12; have k13 := H.out.1.cell 13; simp only [List.getElem?_toArray, List.getElem?_cons_zero, List.getElem?_cons_succ] at k0 k1 k2 k3 k4 k5 k6 k7 k8 k9 k10 k11 k12 k13
  cases b1 <;> cases b2 <;> cases b3
  all_goals
    go_enter Tryz.func48, Tryz.ntmps48
    go_wp2_with (first | (go_at_call 67; (with_reducible refine (h1 _).mono ?_); rintro e W1 ⟨rfl, rfl⟩) | (go_at_call 67; (with_reducible refine (h2 _).mono ?_); rintro e W1 ⟨rfl, rfl⟩))
    go_ret
    exact ⟨rfl, H.out.2⟩
end Go.Proofs.YtclhhegfffccgaaGreat
