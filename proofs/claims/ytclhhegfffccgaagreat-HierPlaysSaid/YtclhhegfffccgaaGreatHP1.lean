/- Lemmas of the claim, merged: HSpecN, HSpecC, HSpecK, HSpecS, HSpecH, HSpecU, HMay, HPlain. No conditions beyond those that each states. -/
import Derived.Test.YtclhhegfffccgaaGreatHSpecA
import Derived.Laws.EntriesVeiled
import Derived.WalkSpells
import Derived.Test.YtclhhegfffccgaaGreatMaps
/-
  What spec.May asks of a spec: named. (Printed by wip/mkhspec.py.)
-/
namespace Go.Proofs.YtclhhegfffccgaaGreat
set_option linter.unusedVariables false
open Go.RowKit
attribute [local go_sem ↓] Go.wp_at_zero Go.wp_at_succ
attribute [local go_sem] quietR quietAtR quietUponR midAt midUpon

set_option maxRecDepth 100000 in
set_option maxHeartbeats 4000000 in
theorem named_any (s : Sp) (w : World) (hw : WfSp s) :
    Calls Tryz.prog 48 #[spV s] w fun e w' => e = .returned (.bool (namedB s)) ∧ Below w.heap.size w w' := by
  obtain ⟨id, pa, lf, ⟨F1, L1, R1⟩, ⟨F2, L2, R2⟩, ⟨F3, L3, R3⟩, pk, by_⟩ := s
  obtain ⟨_, u1, u2, u3⟩ := hw
  unfold UC at u1 u2 u3
  unfold spV spC namedB
  dsimp only at u1 u2 u3 ⊢
  have h1 := fun w => in_any id 1 65535 w
  have h2 := fun w => in_any pa 0 65535 w
  generalize inB id 1 65535 = b1 at h1 ⊢
  generalize inB pa 0 65535 = b2 at h2 ⊢
  generalize hb3 : (id != pa) = b3
  have H := Lib.hid (BxAt.new w 36 #[.int .i64 id, .int .i64 pa, .bool lf, .int .u64 F1, .int .u64 L1, .int .u64 R1, .int .u64 F2, .int .u64 L2, .int .u64 R2, .int .u64 F3, .int .u64 L3, .int .u64 R3, .int .i64 pk, .int .i64 by_])
  have k0 := H.out.1.cell 0; have k1 := H.out.1.cell 1; have k2 := H.out.1.cell 2; have k3 := H.out.1.cell 3; have k4 := H.out.1.cell 4; have k5 := H.out.1.cell 5; have k6 := H.out.1.cell 6; have k7 := H.out.1.cell 7; have k8 := H.out.1.cell 8; have k9 := H.out.1.cell 9; have k10 := H.out.1.cell 10; have k11 := H.out.1.cell 11; have k12 := H.out.1.cell 12; have k13 := H.out.1.cell 13; simp only [List.getElem?_toArray, List.getElem?_cons_zero, List.getElem?_cons_succ] at k0 k1 k2 k3 k4 k5 k6 k7 k8 k9 k10 k11 k12 k13
  cases b1 <;> cases b2 <;> cases b3
  all_goals
    go_enter Tryz.func48, Tryz.ntmps48
    go_wp2_with (first | (go_at_call 67; (with_reducible refine (h1 _).mono ?_); rintro e W1 ⟨rfl, rfl⟩) | (go_at_call 67; (with_reducible refine (h2 _).mono ?_); rintro e W1 ⟨rfl, rfl⟩))
    go_ret
    exact ⟨rfl, H.out.2⟩
end Go.Proofs.YtclhhegfffccgaaGreat
/-
  What spec.May asks of a spec: curves. (Printed by wip/mkhspec.py.)
-/
namespace Go.Proofs.YtclhhegfffccgaaGreat
set_option linter.unusedVariables false
open Go.RowKit
attribute [local go_sem ↓] Go.wp_at_zero Go.wp_at_succ
attribute [local go_sem] quietR quietAtR quietUponR midAt midUpon

set_option maxRecDepth 100000 in
set_option maxHeartbeats 4000000 in
theorem curves_any (s : Sp) (w : World) (hw : WfSp s) :
    Calls Tryz.prog 49 #[spV s] w fun e w' => e = .returned (.bool (curvesB s)) ∧ Below w.heap.size w w' := by
  obtain ⟨id, pa, lf, ⟨F1, L1, R1⟩, ⟨F2, L2, R2⟩, ⟨F3, L3, R3⟩, pk, by_⟩ := s
  obtain ⟨_, u1, u2, u3⟩ := hw
  unfold UC at u1 u2 u3
  unfold spV spC curvesB okC
  dsimp only at u1 u2 u3 ⊢
  have h1 := fun w => may_any F1 L1 R1 w u1.2.1.1
  have h2 := fun w => may_any F2 L2 R2 w u2.2.1.1
  have h3 := fun w => may_any F3 L3 R3 w u3.2.1.1
  generalize mayB F1 L1 R1 = b1 at h1 ⊢
  generalize mayB F2 L2 R2 = b2 at h2 ⊢
  generalize mayB F3 L3 R3 = b3 at h3 ⊢
  have H := Lib.hid (BxAt.new w 36 #[.int .i64 id, .int .i64 pa, .bool lf, .int .u64 F1, .int .u64 L1, .int .u64 R1, .int .u64 F2, .int .u64 L2, .int .u64 R2, .int .u64 F3, .int .u64 L3, .int .u64 R3, .int .i64 pk, .int .i64 by_])
  have k0 := H.out.1.cell 0; have k1 := H.out.1.cell 1; have k2 := H.out.1.cell 2; have k3 := H.out.1.cell 3; have k4 := H.out.1.cell 4; have k5 := H.out.1.cell 5; have k6 := H.out.1.cell 6; have k7 := H.out.1.cell 7; have k8 := H.out.1.cell 8; have k9 := H.out.1.cell 9; have k10 := H.out.1.cell 10; have k11 := H.out.1.cell 11; have k12 := H.out.1.cell 12; have k13 := H.out.1.cell 13; simp only [List.getElem?_toArray, List.getElem?_cons_zero, List.getElem?_cons_succ] at k0 k1 k2 k3 k4 k5 k6 k7 k8 k9 k10 k11 k12 k13
  cases b1 <;> cases b2 <;> cases b3
  all_goals
    go_enter Tryz.func49, Tryz.ntmps49
    go_wp2_with (first | (go_at_call 68; (with_reducible refine (h1 _).mono ?_); rintro e W1 ⟨rfl, hb⟩; have H2 := Lib.hid (BxAt.step H.out hb); clear H hb; clear k0 k1 k2 k3 k4 k5 k6 k7 k8 k9 k10 k11 k12 k13; have H := Lib.hid H2.out; clear H2; have k0 := H.out.1.cell 0; have k1 := H.out.1.cell 1; have k2 := H.out.1.cell 2; have k3 := H.out.1.cell 3; have k4 := H.out.1.cell 4; have k5 := H.out.1.cell 5; have k6 := H.out.1.cell 6; have k7 := H.out.1.cell 7; have k8 := H.out.1.cell 8; have k9 := H.out.1.cell 9; have k10 := H.out.1.cell 10; have k11 := H.out.1.cell 11; have k12 := H.out.1.cell 12; have k13 := H.out.1.cell 13; simp only [List.getElem?_toArray, List.getElem?_cons_zero, List.getElem?_cons_succ] at k0 k1 k2 k3 k4 k5 k6 k7 k8 k9 k10 k11 k12 k13) | (go_at_call 68; (with_reducible refine (h2 _).mono ?_); rintro e W1 ⟨rfl, hb⟩; have H2 := Lib.hid (BxAt.step H.out hb); clear H hb; clear k0 k1 k2 k3 k4 k5 k6 k7 k8 k9 k10 k11 k12 k13; have H := Lib.hid H2.out; clear H2; have k0 := H.out.1.cell 0; have k1 := H.out.1.cell 1; have k2 := H.out.1.cell 2; have k3 := H.out.1.cell 3; have k4 := H.out.1.cell 4; have k5 := H.out.1.cell 5; have k6 := H.out.1.cell 6; have k7 := H.out.1.cell 7; have k8 := H.out.1.cell 8; have k9 := H.out.1.cell 9; have k10 := H.out.1.cell 10; have k11 := H.out.1.cell 11; have k12 := H.out.1.cell 12; have k13 := H.out.1.cell 13; simp only [List.getElem?_toArray, List.getElem?_cons_zero, List.getElem?_cons_succ] at k0 k1 k2 k3 k4 k5 k6 k7 k8 k9 k10 k11 k12 k13) | (go_at_call 68; (with_reducible refine (h3 _).mono ?_); rintro e W1 ⟨rfl, hb⟩; have H2 := Lib.hid (BxAt.step H.out hb); clear H hb; clear k0 k1 k2 k3 k4 k5 k6 k7 k8 k9 k10 k11 k12 k13; have H := Lib.hid H2.out; clear H2; have k0 := H.out.1.cell 0; have k1 := H.out.1.cell 1; have k2 := H.out.1.cell 2; have k3 := H.out.1.cell 3; have k4 := H.out.1.cell 4; have k5 := H.out.1.cell 5; have k6 := H.out.1.cell 6; have k7 := H.out.1.cell 7; have k8 := H.out.1.cell 8; have k9 := H.out.1.cell 9; have k10 := H.out.1.cell 10; have k11 := H.out.1.cell 11; have k12 := H.out.1.cell 12; have k13 := H.out.1.cell 13; simp only [List.getElem?_toArray, List.getElem?_cons_zero, List.getElem?_cons_succ] at k0 k1 k2 k3 k4 k5 k6 k7 k8 k9 k10 k11 k12 k13))
    go_ret
    exact ⟨rfl, H.out.2⟩
end Go.Proofs.YtclhhegfffccgaaGreat
/-
  What spec.May asks of a spec: kind. (Printed by wip/mkhspec.py.)
-/
namespace Go.Proofs.YtclhhegfffccgaaGreat
set_option linter.unusedVariables false
open Go.RowKit
attribute [local go_sem ↓] Go.wp_at_zero Go.wp_at_succ
attribute [local go_sem] quietR quietAtR quietUponR midAt midUpon

set_option maxRecDepth 100000 in
set_option maxHeartbeats 4000000 in
theorem kind_any (s : Sp) (w : World) (hw : WfSp s) :
    Calls Tryz.prog 69 #[spV s] w fun e w' => e = .returned (.int .u8 (kindB s)) ∧ Below w.heap.size w w' := by
  obtain ⟨id, pa, lf, ⟨F1, L1, R1⟩, ⟨F2, L2, R2⟩, ⟨F3, L3, R3⟩, pk, by_⟩ := s
  unfold spV spC kindB
  dsimp only
  have h1 := fun w => cnone_any F1 L1 R1 w
  have h2 := fun w => cnone_any F2 L2 R2 w
  generalize noneB (F1, L1, R1) = b1 at h1 ⊢
  generalize noneB (F2, L2, R2) = b2 at h2 ⊢
  have H := Lib.hid (BxAt.new w 36 #[.int .i64 id, .int .i64 pa, .bool lf, .int .u64 F1, .int .u64 L1, .int .u64 R1, .int .u64 F2, .int .u64 L2, .int .u64 R2, .int .u64 F3, .int .u64 L3, .int .u64 R3, .int .i64 pk, .int .i64 by_])
  cases lf <;> cases b1 <;> cases b2
  all_goals
    go_enter Tryz.func69, Tryz.ntmps69
    go_upto_region 1 with fail
    generalize w.alloc (.cells #[.int .i64 id, .int .i64 pa, _, .int .u64 F1, .int .u64 L1, .int .u64 R1, .int .u64 F2, .int .u64 L2, .int .u64 R2, .int .u64 F3, .int .u64 L3, .int .u64 R3, .int .i64 pk, .int .i64 by_] 36) = W0 at H ⊢
    have l1 := H.out.1.lt
    have o2 := fun e => (over_cell (w := W0) (e := e) (o := 2) l1).trans (H.out.1.cell 2)
    have o3 := fun e => (over_cell (w := W0) (e := e) (o := 3) l1).trans (H.out.1.cell 3)
    have o4 := fun e => (over_cell (w := W0) (e := e) (o := 4) l1).trans (H.out.1.cell 4)
    have o5 := fun e => (over_cell (w := W0) (e := e) (o := 5) l1).trans (H.out.1.cell 5)
    have o6 := fun e => (over_cell (w := W0) (e := e) (o := 6) l1).trans (H.out.1.cell 6)
    have o7 := fun e => (over_cell (w := W0) (e := e) (o := 7) l1).trans (H.out.1.cell 7)
    have o8 := fun e => (over_cell (w := W0) (e := e) (o := 8) l1).trans (H.out.1.cell 8)
    simp only [List.getElem?_toArray, List.getElem?_cons_zero, List.getElem?_cons_succ] at o2 o3 o4 o5 o6 o7 o8
    have g1 := fun e => h1 (over W0 e)
    have g2 := fun e => h2 (over W0 e)
    clear h1 h2
    refine wp_region_over (by kernel_rfl) (by kernel_rfl) ?_
    repeat (first | go_big_quiet_skip | (go_big_quiet_want; go_big_quiet_op; first | go_big_quiet_on | (apply Exists.intro; refine ⟨fun e => ?_, ?_⟩; (focus (go_at_call 70; first | with_reducible exact calls_over (g1 _) | with_reducible exact calls_over (g2 _))); go_big_quiet_on)))
    refine wpQuiet_nil ?_
    rintro W2 ⟨e2, he2⟩
    have hb2 := over_below W0 e2
    rw [← he2] at hb2
    clear he2 o2 o3 o4 o5 o6 o7 o8 g1 g2
    have H2 := Lib.hid (BxAt.step H.out hb2)
    have k2 := H2.out.1.cell 2
    simp only [List.getElem?_toArray, List.getElem?_cons_zero, List.getElem?_cons_succ] at k2
    clear hb2 H l1
    go_wp2_with fail
    go_ret
    exact ⟨rfl, H2.out.2⟩
end Go.Proofs.YtclhhegfffccgaaGreat
/-
  What spec.May asks of a spec: shaped. (Printed by wip/mkhspec.py.)
-/
namespace Go.Proofs.YtclhhegfffccgaaGreat
set_option linter.unusedVariables false
open Go.RowKit
attribute [local go_sem ↓] Go.wp_at_zero Go.wp_at_succ
attribute [local go_sem] quietR quietAtR quietUponR midAt midUpon

set_option maxRecDepth 100000 in
set_option maxHeartbeats 4000000 in
theorem shaped_any (s : Sp) (w : World) (hw : WfSp s) :
    Calls Tryz.prog 50 #[spV s] w fun e w' => e = .returned (.bool (shapedB s)) ∧ Below w.heap.size w w' := by
  obtain ⟨id, pa, lf, ⟨F1, L1, R1⟩, ⟨F2, L2, R2⟩, ⟨F3, L3, R3⟩, pk, by_⟩ := s
  obtain ⟨_, u1, u2, u3⟩ := hw
  unfold UC at u1 u2 u3
  unfold spV spC shapedB
  dsimp only at u1 u2 u3 ⊢
  have h0 := fun w => kind_any ⟨id, pa, lf, (F1, L1, R1), (F2, L2, R2), (F3, L3, R3), pk, by_⟩ w ⟨‹_›, ⟨u1, u2, u3⟩⟩
  unfold spV spC kindB at h0
  dsimp only at h0
  have h1 := fun w => cnone_any F1 L1 R1 w
  have h2 := fun w => cnone_any F2 L2 R2 w
  have h3 := fun w => in_any pk 1 4096 w
  have h4 := fun w => in_any by_ 1 16777216 w
  generalize noneB (F1, L1, R1) = b1 at h0 h1 ⊢
  generalize noneB (F2, L2, R2) = b2 at h0 h2 ⊢
  generalize inB pk 1 4096 = b3 at h3 ⊢
  generalize inB by_ 1 16777216 = b4 at h4 ⊢
  generalize hb5 : (pk == 0) = b5
  generalize hb6 : (by_ == 0) = b6
  have H := Lib.hid (BxAt.new w 36 #[.int .i64 id, .int .i64 pa, .bool lf, .int .u64 F1, .int .u64 L1, .int .u64 R1, .int .u64 F2, .int .u64 L2, .int .u64 R2, .int .u64 F3, .int .u64 L3, .int .u64 R3, .int .i64 pk, .int .i64 by_])
  have k0 := H.out.1.cell 0; have k1 := H.out.1.cell 1; have k2 := H.out.1.cell 2; have k3 := H.out.1.cell 3; have k4 := H.out.1.cell 4; have k5 := H.out.1.cell 5; have k6 := H.out.1.cell 6; have k7 := H.out.1.cell 7; have k8 := H.out.1.cell 8; have k9 := H.out.1.cell 9; have k10 := H.out.1.cell 10; have k11 := H.out.1.cell 11; have k12 := H.out.1.cell 12; have k13 := H.out.1.cell 13; simp only [List.getElem?_toArray, List.getElem?_cons_zero, List.getElem?_cons_succ] at k0 k1 k2 k3 k4 k5 k6 k7 k8 k9 k10 k11 k12 k13
  cases lf
  · clear h0 h3 h4
    cases b1 <;> cases b2 <;> cases b5 <;> cases b6
    all_goals
      go_enter Tryz.func50, Tryz.ntmps50
      go_wp2_with (first | (go_at_call 70; (with_reducible refine (h1 _).mono ?_); rintro e W1 ⟨rfl, hb⟩; have H2 := Lib.hid (BxAt.step H.out hb); clear H hb; clear k0 k1 k2 k3 k4 k5 k6 k7 k8 k9 k10 k11 k12 k13; have H := Lib.hid H2.out; clear H2; have k0 := H.out.1.cell 0; have k1 := H.out.1.cell 1; have k2 := H.out.1.cell 2; have k3 := H.out.1.cell 3; have k4 := H.out.1.cell 4; have k5 := H.out.1.cell 5; have k6 := H.out.1.cell 6; have k7 := H.out.1.cell 7; have k8 := H.out.1.cell 8; have k9 := H.out.1.cell 9; have k10 := H.out.1.cell 10; have k11 := H.out.1.cell 11; have k12 := H.out.1.cell 12; have k13 := H.out.1.cell 13; simp only [List.getElem?_toArray, List.getElem?_cons_zero, List.getElem?_cons_succ] at k0 k1 k2 k3 k4 k5 k6 k7 k8 k9 k10 k11 k12 k13) | (go_at_call 70; (with_reducible refine (h2 _).mono ?_); rintro e W1 ⟨rfl, hb⟩; have H2 := Lib.hid (BxAt.step H.out hb); clear H hb; clear k0 k1 k2 k3 k4 k5 k6 k7 k8 k9 k10 k11 k12 k13; have H := Lib.hid H2.out; clear H2; have k0 := H.out.1.cell 0; have k1 := H.out.1.cell 1; have k2 := H.out.1.cell 2; have k3 := H.out.1.cell 3; have k4 := H.out.1.cell 4; have k5 := H.out.1.cell 5; have k6 := H.out.1.cell 6; have k7 := H.out.1.cell 7; have k8 := H.out.1.cell 8; have k9 := H.out.1.cell 9; have k10 := H.out.1.cell 10; have k11 := H.out.1.cell 11; have k12 := H.out.1.cell 12; have k13 := H.out.1.cell 13; simp only [List.getElem?_toArray, List.getElem?_cons_zero, List.getElem?_cons_succ] at k0 k1 k2 k3 k4 k5 k6 k7 k8 k9 k10 k11 k12 k13))
      go_ret
      exact ⟨rfl, H.out.2⟩
  · clear h1 h2 hb5 hb6
    cases b1 <;> cases b2 <;> cases b3 <;> cases b4
    all_goals
      simp only [Bool.false_eq_true, Bool.true_eq_false, if_true, if_false] at h0
      go_enter Tryz.func50, Tryz.ntmps50
      go_wp2_with (first | (go_at_call 69; (with_reducible refine (h0 _).mono ?_); rintro e W1 ⟨rfl, hb⟩; have H2 := Lib.hid (BxAt.step H.out hb); clear H hb; clear k0 k1 k2 k3 k4 k5 k6 k7 k8 k9 k10 k11 k12 k13; have H := Lib.hid H2.out; clear H2; have k0 := H.out.1.cell 0; have k1 := H.out.1.cell 1; have k2 := H.out.1.cell 2; have k3 := H.out.1.cell 3; have k4 := H.out.1.cell 4; have k5 := H.out.1.cell 5; have k6 := H.out.1.cell 6; have k7 := H.out.1.cell 7; have k8 := H.out.1.cell 8; have k9 := H.out.1.cell 9; have k10 := H.out.1.cell 10; have k11 := H.out.1.cell 11; have k12 := H.out.1.cell 12; have k13 := H.out.1.cell 13; simp only [List.getElem?_toArray, List.getElem?_cons_zero, List.getElem?_cons_succ] at k0 k1 k2 k3 k4 k5 k6 k7 k8 k9 k10 k11 k12 k13) | (go_at_call 67; (with_reducible refine (h3 _).mono ?_); rintro e W1 ⟨rfl, rfl⟩) | (go_at_call 67; (with_reducible refine (h4 _).mono ?_); rintro e W1 ⟨rfl, rfl⟩))
      go_ret
      exact ⟨rfl, H.out.2⟩
end Go.Proofs.YtclhhegfffccgaaGreat
/-
  What spec.May asks of a spec: shared. (Printed by wip/mkhspec.py.)
-/
namespace Go.Proofs.YtclhhegfffccgaaGreat
set_option linter.unusedVariables false
open Go.RowKit
attribute [local go_sem ↓] Go.wp_at_zero Go.wp_at_succ
attribute [local go_sem] quietR quietAtR quietUponR midAt midUpon

set_option maxRecDepth 100000 in
set_option maxHeartbeats 4000000 in
theorem shared_any (s : Sp) (w : World) (hw : WfSp s) :
    Calls Tryz.prog 51 #[spV s] w fun e w' => e = .returned (.bool (sharedB s)) ∧ Below w.heap.size w w' := by
  obtain ⟨id, pa, lf, ⟨F1, L1, R1⟩, ⟨F2, L2, R2⟩, ⟨F3, L3, R3⟩, pk, by_⟩ := s
  obtain ⟨_, u1, u2, u3⟩ := hw
  unfold UC at u1 u2 u3
  unfold spV spC sharedB
  dsimp only at u1 u2 u3 ⊢
  have h1 := fun w => goes_any F2 L2 R2 w
  have h2 := fun w => goes_any F3 L3 R3 w
  have h3 := fun w => cnone_any F3 L3 R3 w
  have h4 := fun w => cnone_any F2 L2 R2 w
  generalize goesB (F2, L2, R2) = b1 at h1 ⊢
  generalize goesB (F3, L3, R3) = b2 at h2 ⊢
  generalize noneB (F3, L3, R3) = b3 at h3 ⊢
  generalize noneB (F2, L2, R2) = b4 at h4 ⊢
  have H := Lib.hid (BxAt.new w 36 #[.int .i64 id, .int .i64 pa, .bool lf, .int .u64 F1, .int .u64 L1, .int .u64 R1, .int .u64 F2, .int .u64 L2, .int .u64 R2, .int .u64 F3, .int .u64 L3, .int .u64 R3, .int .i64 pk, .int .i64 by_])
  have k0 := H.out.1.cell 0; have k1 := H.out.1.cell 1; have k2 := H.out.1.cell 2; have k3 := H.out.1.cell 3; have k4 := H.out.1.cell 4; have k5 := H.out.1.cell 5; have k6 := H.out.1.cell 6; have k7 := H.out.1.cell 7; have k8 := H.out.1.cell 8; have k9 := H.out.1.cell 9; have k10 := H.out.1.cell 10; have k11 := H.out.1.cell 11; have k12 := H.out.1.cell 12; have k13 := H.out.1.cell 13; simp only [List.getElem?_toArray, List.getElem?_cons_zero, List.getElem?_cons_succ] at k0 k1 k2 k3 k4 k5 k6 k7 k8 k9 k10 k11 k12 k13
  cases b1 <;> cases b2 <;> cases b3 <;> cases b4
  all_goals
    go_enter Tryz.func51, Tryz.ntmps51
    go_wp2_with (first | (go_at_call 71; (with_reducible refine (h1 _).mono ?_); rintro e W1 ⟨rfl, hb⟩; have H2 := Lib.hid (BxAt.step H.out hb); clear H hb; clear k0 k1 k2 k3 k4 k5 k6 k7 k8 k9 k10 k11 k12 k13; have H := Lib.hid H2.out; clear H2; have k0 := H.out.1.cell 0; have k1 := H.out.1.cell 1; have k2 := H.out.1.cell 2; have k3 := H.out.1.cell 3; have k4 := H.out.1.cell 4; have k5 := H.out.1.cell 5; have k6 := H.out.1.cell 6; have k7 := H.out.1.cell 7; have k8 := H.out.1.cell 8; have k9 := H.out.1.cell 9; have k10 := H.out.1.cell 10; have k11 := H.out.1.cell 11; have k12 := H.out.1.cell 12; have k13 := H.out.1.cell 13; simp only [List.getElem?_toArray, List.getElem?_cons_zero, List.getElem?_cons_succ] at k0 k1 k2 k3 k4 k5 k6 k7 k8 k9 k10 k11 k12 k13) | (go_at_call 71; (with_reducible refine (h2 _).mono ?_); rintro e W1 ⟨rfl, hb⟩; have H2 := Lib.hid (BxAt.step H.out hb); clear H hb; clear k0 k1 k2 k3 k4 k5 k6 k7 k8 k9 k10 k11 k12 k13; have H := Lib.hid H2.out; clear H2; have k0 := H.out.1.cell 0; have k1 := H.out.1.cell 1; have k2 := H.out.1.cell 2; have k3 := H.out.1.cell 3; have k4 := H.out.1.cell 4; have k5 := H.out.1.cell 5; have k6 := H.out.1.cell 6; have k7 := H.out.1.cell 7; have k8 := H.out.1.cell 8; have k9 := H.out.1.cell 9; have k10 := H.out.1.cell 10; have k11 := H.out.1.cell 11; have k12 := H.out.1.cell 12; have k13 := H.out.1.cell 13; simp only [List.getElem?_toArray, List.getElem?_cons_zero, List.getElem?_cons_succ] at k0 k1 k2 k3 k4 k5 k6 k7 k8 k9 k10 k11 k12 k13) | (go_at_call 70; (with_reducible refine (h3 _).mono ?_); rintro e W1 ⟨rfl, hb⟩; have H2 := Lib.hid (BxAt.step H.out hb); clear H hb; clear k0 k1 k2 k3 k4 k5 k6 k7 k8 k9 k10 k11 k12 k13; have H := Lib.hid H2.out; clear H2; have k0 := H.out.1.cell 0; have k1 := H.out.1.cell 1; have k2 := H.out.1.cell 2; have k3 := H.out.1.cell 3; have k4 := H.out.1.cell 4; have k5 := H.out.1.cell 5; have k6 := H.out.1.cell 6; have k7 := H.out.1.cell 7; have k8 := H.out.1.cell 8; have k9 := H.out.1.cell 9; have k10 := H.out.1.cell 10; have k11 := H.out.1.cell 11; have k12 := H.out.1.cell 12; have k13 := H.out.1.cell 13; simp only [List.getElem?_toArray, List.getElem?_cons_zero, List.getElem?_cons_succ] at k0 k1 k2 k3 k4 k5 k6 k7 k8 k9 k10 k11 k12 k13) | (go_at_call 70; (with_reducible refine (h4 _).mono ?_); rintro e W1 ⟨rfl, hb⟩; have H2 := Lib.hid (BxAt.step H.out hb); clear H hb; clear k0 k1 k2 k3 k4 k5 k6 k7 k8 k9 k10 k11 k12 k13; have H := Lib.hid H2.out; clear H2; have k0 := H.out.1.cell 0; have k1 := H.out.1.cell 1; have k2 := H.out.1.cell 2; have k3 := H.out.1.cell 3; have k4 := H.out.1.cell 4; have k5 := H.out.1.cell 5; have k6 := H.out.1.cell 6; have k7 := H.out.1.cell 7; have k8 := H.out.1.cell 8; have k9 := H.out.1.cell 9; have k10 := H.out.1.cell 10; have k11 := H.out.1.cell 11; have k12 := H.out.1.cell 12; have k13 := H.out.1.cell 13; simp only [List.getElem?_toArray, List.getElem?_cons_zero, List.getElem?_cons_succ] at k0 k1 k2 k3 k4 k5 k6 k7 k8 k9 k10 k11 k12 k13))
    go_ret
    exact ⟨rfl, H.out.2⟩
end Go.Proofs.YtclhhegfffccgaaGreat
/-
  What spec.May asks of a spec: under. (Printed by wip/mkhspec.py.)
-/
namespace Go.Proofs.YtclhhegfffccgaaGreat
set_option linter.unusedVariables false
open Go.RowKit
attribute [local go_sem ↓] Go.wp_at_zero Go.wp_at_succ
attribute [local go_sem] quietR quietAtR quietUponR midAt midUpon

set_option maxRecDepth 100000 in
set_option maxHeartbeats 4000000 in
theorem under_any (s : Sp) (w : World) (hw : WfSp s) :
    Calls Tryz.prog 52 #[spV s] w fun e w' => e = .returned (.bool (underB s)) ∧ Below w.heap.size w w' := by
  obtain ⟨id, pa, lf, ⟨F1, L1, R1⟩, ⟨F2, L2, R2⟩, ⟨F3, L3, R3⟩, pk, by_⟩ := s
  obtain ⟨_, u1, u2, u3⟩ := hw
  unfold UC at u1 u2 u3
  unfold spV spC underB
  dsimp only at u1 u2 u3 ⊢
  have h1 := fun w => cnone_any F1 L1 R1 w
  have h2 := fun w => cnone_any F3 L3 R3 w
  have h3 := fun w => below_any (F1, L1, R1) (F3, L3, R3) w u1 u3
  unfold BelW cvV at h3
  dsimp only at h3
  generalize noneB (F1, L1, R1) = b1 at h1 ⊢
  generalize noneB (F3, L3, R3) = b2 at h2 ⊢
  generalize decide (BelowP (F1, L1, R1) (F3, L3, R3)) = b3 at h3 ⊢
  have H := Lib.hid (BxAt.new w 36 #[.int .i64 id, .int .i64 pa, .bool lf, .int .u64 F1, .int .u64 L1, .int .u64 R1, .int .u64 F2, .int .u64 L2, .int .u64 R2, .int .u64 F3, .int .u64 L3, .int .u64 R3, .int .i64 pk, .int .i64 by_])
  have k0 := H.out.1.cell 0; have k1 := H.out.1.cell 1; have k2 := H.out.1.cell 2; have k3 := H.out.1.cell 3; have k4 := H.out.1.cell 4; have k5 := H.out.1.cell 5; have k6 := H.out.1.cell 6; have k7 := H.out.1.cell 7; have k8 := H.out.1.cell 8; have k9 := H.out.1.cell 9; have k10 := H.out.1.cell 10; have k11 := H.out.1.cell 11; have k12 := H.out.1.cell 12; have k13 := H.out.1.cell 13; simp only [List.getElem?_toArray, List.getElem?_cons_zero, List.getElem?_cons_succ] at k0 k1 k2 k3 k4 k5 k6 k7 k8 k9 k10 k11 k12 k13
  cases b1 <;> cases b2 <;> cases b3
  all_goals
    go_enter Tryz.func52, Tryz.ntmps52
    go_wp2_with (first | (go_at_call 70; (with_reducible refine (h1 _).mono ?_); rintro e W1 ⟨rfl, hb⟩; have H2 := Lib.hid (BxAt.step H.out hb); clear H hb; clear k0 k1 k2 k3 k4 k5 k6 k7 k8 k9 k10 k11 k12 k13; have H := Lib.hid H2.out; clear H2; have k0 := H.out.1.cell 0; have k1 := H.out.1.cell 1; have k2 := H.out.1.cell 2; have k3 := H.out.1.cell 3; have k4 := H.out.1.cell 4; have k5 := H.out.1.cell 5; have k6 := H.out.1.cell 6; have k7 := H.out.1.cell 7; have k8 := H.out.1.cell 8; have k9 := H.out.1.cell 9; have k10 := H.out.1.cell 10; have k11 := H.out.1.cell 11; have k12 := H.out.1.cell 12; have k13 := H.out.1.cell 13; simp only [List.getElem?_toArray, List.getElem?_cons_zero, List.getElem?_cons_succ] at k0 k1 k2 k3 k4 k5 k6 k7 k8 k9 k10 k11 k12 k13) | (go_at_call 70; (with_reducible refine (h2 _).mono ?_); rintro e W1 ⟨rfl, hb⟩; have H2 := Lib.hid (BxAt.step H.out hb); clear H hb; clear k0 k1 k2 k3 k4 k5 k6 k7 k8 k9 k10 k11 k12 k13; have H := Lib.hid H2.out; clear H2; have k0 := H.out.1.cell 0; have k1 := H.out.1.cell 1; have k2 := H.out.1.cell 2; have k3 := H.out.1.cell 3; have k4 := H.out.1.cell 4; have k5 := H.out.1.cell 5; have k6 := H.out.1.cell 6; have k7 := H.out.1.cell 7; have k8 := H.out.1.cell 8; have k9 := H.out.1.cell 9; have k10 := H.out.1.cell 10; have k11 := H.out.1.cell 11; have k12 := H.out.1.cell 12; have k13 := H.out.1.cell 13; simp only [List.getElem?_toArray, List.getElem?_cons_zero, List.getElem?_cons_succ] at k0 k1 k2 k3 k4 k5 k6 k7 k8 k9 k10 k11 k12 k13) | (go_at_call 72; (with_reducible refine (h3 _).mono ?_); rintro e W1 ⟨rfl, hb⟩; have H2 := Lib.hid (BxAt.step H.out hb); clear H hb; clear k0 k1 k2 k3 k4 k5 k6 k7 k8 k9 k10 k11 k12 k13; have H := Lib.hid H2.out; clear H2; have k0 := H.out.1.cell 0; have k1 := H.out.1.cell 1; have k2 := H.out.1.cell 2; have k3 := H.out.1.cell 3; have k4 := H.out.1.cell 4; have k5 := H.out.1.cell 5; have k6 := H.out.1.cell 6; have k7 := H.out.1.cell 7; have k8 := H.out.1.cell 8; have k9 := H.out.1.cell 9; have k10 := H.out.1.cell 10; have k11 := H.out.1.cell 11; have k12 := H.out.1.cell 12; have k13 := H.out.1.cell 13; simp only [List.getElem?_toArray, List.getElem?_cons_zero, List.getElem?_cons_succ] at k0 k1 k2 k3 k4 k5 k6 k7 k8 k9 k10 k11 k12 k13))
    go_ret
    exact ⟨rfl, H.out.2⟩
end Go.Proofs.YtclhhegfffccgaaGreat
/-
  What spec.May answers: nothing wrong just if a spec is as it should be. (Printed by wip/mkhmay.py.)
-/
namespace Go.Proofs.YtclhhegfffccgaaGreat
set_option linter.unusedVariables false
open Go.RowKit
attribute [local go_sem ↓] Go.wp_at_zero Go.wp_at_succ
attribute [local go_sem] quietR quietAtR quietUponR midAt midUpon

def MayW (s : Sp) (w : World) (e : Ending) (w' : World) : Prop := ∃ er : Int, e = .returned (.int .i64 er) ∧ decide (er = 0) = mayS s ∧ Below w.heap.size w w'
noncomputable def askB (s : Sp) : Nat → Bool
  | 0 => namedB s
  | 1 => curvesB s
  | 2 => shapedB s
  | 3 => sharedB s
  | _ => underB s
theorem may_yes {s : Sp} (h : ∀ j, j < 5 → askB s j = true) : mayS s = true := by
  have h0 : namedB s = true := h 0 (by decide)
  have h1 : curvesB s = true := h 1 (by decide)
  have h2 : shapedB s = true := h 2 (by decide)
  have h3 : sharedB s = true := h 3 (by decide)
  have h4 : underB s = true := h 4 (by decide)
  unfold mayS
  rw [h0, h1, h2, h3, h4]; rfl
theorem may_no {s : Sp} {j : Nat} (hj : j < 5) (h : askB s j = false) : mayS s = false := by
  unfold mayS
  rcases (show j = 0 ∨ j = 1 ∨ j = 2 ∨ j = 3 ∨ j = 4 by omega) with rfl | rfl | rfl | rfl | rfl <;> simp only [askB] at h <;> rw [h] <;> simp

set_option maxRecDepth 100000 in
set_option maxHeartbeats 8000000 in
theorem spmay_any (s : Sp) (w : World) (hw : WfSp s) : Calls Tryz.prog 27 #[spV s] w (MayW s w) := by
  have hq0 := fun W => named_any s W hw
  have hq1 := fun W => curves_any s W hw
  have hq2 := fun W => shaped_any s W hw
  have hq3 := fun W => shared_any s W hw
  have hq4 := fun W => under_any s W hw
  obtain ⟨ask, hask⟩ : ∃ ask, ask = askB s := ⟨_, rfl⟩
  rw [show namedB s = ask 0 by rw [hask]; rfl] at hq0
  rw [show curvesB s = ask 1 by rw [hask]; rfl] at hq1
  rw [show shapedB s = ask 2 by rw [hask]; rfl] at hq2
  rw [show sharedB s = ask 3 by rw [hask]; rfl] at hq3
  rw [show underB s = ask 4 by rw [hask]; rfl] at hq4
  unfold spV spC at *
  have HS := Lib.hid hask
  clear hask hw
  have hyes : (∀ j, j < 5 → ask j = true) → mayS s = true := fun h => may_yes (by rw [← HS.out]; exact h)
  have hno : ∀ j, j < 5 → ask j = false → mayS s = false := fun j hj h => may_no hj (by rw [← HS.out]; exact h)
  clear HS
  unfold MayW
  generalize mayS s = ms at hyes hno ⊢
  obtain ⟨id, pa, lf, ⟨F1, L1, R1⟩, ⟨F2, L2, R2⟩, ⟨F3, L3, R3⟩, pk, by_⟩ := s
  dsimp only at hq0 hq1 hq2 hq3 hq4 ⊢
  have H0 := Lib.hid (BxAt.new w 36 #[.int .i64 id, .int .i64 pa, .bool lf, .int .u64 F1, .int .u64 L1, .int .u64 R1, .int .u64 F2, .int .u64 L2, .int .u64 R2, .int .u64 F3, .int .u64 L3, .int .u64 R3, .int .i64 pk, .int .i64 by_])
  have HY := Lib.hid hyes; have HN := Lib.hid hno
  have HQ := Lib.hid (And.intro hq0 (And.intro hq1 (And.intro hq2 (And.intro hq3 hq4))))
  clear hyes hno hq0 hq1 hq2 hq3 hq4
  go_enter Tryz.func27, Tryz.ntmps27
  go_wp2_with fail
  go_loopw [11] (fun v11 W => ∃ k : Nat, v11 = .int .i64 k ∧ k ≤ 5 ∧ (∀ j, j < k → ask j = true) ∧ BxAt w W 36 #[.int .i64 id, .int .i64 pa, .bool lf, .int .u64 F1, .int .u64 L1, .int .u64 R1, .int .u64 F2, .int .u64 L2, .int .u64 R2, .int .u64 F3, .int .u64 L3, .int .u64 R3, .int .i64 pk, .int .i64 by_]) (fun v11 _ => (5 - Go.RowKit.intOf v11).toNat)
  case atStart => exact ⟨0, rfl, by omega, fun j hj => by omega, H0.out⟩
  case round =>
    obtain ⟨k, rfl, hk, hlow, hbx⟩ := hrel
    have HL := Lib.hid hlow
    have H := Lib.hid hbx
    clear hlow hbx H0
    rcases (show k = 0 ∨ k = 1 ∨ k = 2 ∨ k = 3 ∨ k = 4 ∨ k = 5 by omega) with rfl | rfl | rfl | rfl | rfl | rfl
    · have hq := HQ.out.1
      obtain ⟨b, hb⟩ : ∃ b, ask 0 = b := ⟨_, rfl⟩
      rw [hb] at hq
      have HB := Lib.hid hb
      have hb1 := (Below.refl wr.heap.size wr).alloc (Nat.le_refl _) (.cells #[.func (.func 48) #[] #[], .int .i64 130] 78)
      have hn1 := Blk.new wr 78 #[.func (.func 48) #[] #[], .int .i64 130]
      have H1 := Lib.hid (And.intro (H.out.step hb1) hn1)
      clear hb hb1 hn1
      have i0 : ∀ w, (Instr.index 79 (.agg #[.func (.func 48) #[] #[], .int .i64 130, .func (.func 49) #[] #[], .int .i64 30, .func (.func 50) #[] #[], .int .i64 130, .func (.func 51) #[] #[], .int .i64 130, .func (.func 52) #[] #[], .int .i64 130]) (.int .i64 0)).run Tryz.prog w = .ok (.agg #[.func (.func 48) #[] #[], .int .i64 130]) w := fun _ => by kernel_rfl
      go_upto_region 4 with fail
      clear i0
      generalize wr.alloc (.cells #[.func (.func 48) #[] #[], .int .i64 130] 78) = W1 at H1 ⊢
      have c0 := H1.out.2.cell 0; have c1 := H1.out.2.cell 1
      simp only [List.getElem?_toArray, List.getElem?_cons_zero, List.getElem?_cons_succ] at c0 c1
      have k0 := H1.out.1.1.cell 0; have k1 := H1.out.1.1.cell 1; have k2 := H1.out.1.1.cell 2; have k3 := H1.out.1.1.cell 3; have k4 := H1.out.1.1.cell 4; have k5 := H1.out.1.1.cell 5; have k6 := H1.out.1.1.cell 6; have k7 := H1.out.1.1.cell 7; have k8 := H1.out.1.1.cell 8; have k9 := H1.out.1.1.cell 9; have k10 := H1.out.1.1.cell 10; have k11 := H1.out.1.1.cell 11; have k12 := H1.out.1.1.cell 12; have k13 := H1.out.1.1.cell 13; simp only [List.getElem?_toArray, List.getElem?_cons_zero, List.getElem?_cons_succ] at k0 k1 k2 k3 k4 k5 k6 k7 k8 k9 k10 k11 k12 k13
      cases b
      all_goals
        go_wp2_with (go_at_call 48; (with_reducible refine (hq _).mono ?_); rintro e W2 ⟨rfl, hb2⟩; have H2 := Lib.hid (And.intro (H1.out.1.step hb2) (H1.out.2.below hb2 H1.out.2.lt)); clear H1 hb2 c0 c1; clear k0 k1 k2 k3 k4 k5 k6 k7 k8 k9 k10 k11 k12 k13; have c1 := H2.out.2.cell 1; simp only [List.getElem?_toArray, List.getElem?_cons_zero, List.getElem?_cons_succ] at c1)
      · go_ret
        exact ⟨_, rfl, by rw [HN.out 0 (by decide) HB.out]; rfl, H2.out.1.2⟩
      · go_roundw
        case measure => (simp [Go.RowKit.intOf]; try omega)
        case rel => exact ⟨1, by go_num, by omega, fun j hj => by
          by_cases e : j = 0
          · subst e; exact HB.out
          · exact HL.out j (by omega), H2.out.1⟩
    · have hq := HQ.out.2.1
      obtain ⟨b, hb⟩ : ∃ b, ask 1 = b := ⟨_, rfl⟩
      rw [hb] at hq
      have HB := Lib.hid hb
      have hb1 := (Below.refl wr.heap.size wr).alloc (Nat.le_refl _) (.cells #[.func (.func 49) #[] #[], .int .i64 30] 78)
      have hn1 := Blk.new wr 78 #[.func (.func 49) #[] #[], .int .i64 30]
      have H1 := Lib.hid (And.intro (H.out.step hb1) hn1)
      clear hb hb1 hn1
      have i0 : ∀ w, (Instr.index 79 (.agg #[.func (.func 48) #[] #[], .int .i64 130, .func (.func 49) #[] #[], .int .i64 30, .func (.func 50) #[] #[], .int .i64 130, .func (.func 51) #[] #[], .int .i64 130, .func (.func 52) #[] #[], .int .i64 130]) (.int .i64 1)).run Tryz.prog w = .ok (.agg #[.func (.func 49) #[] #[], .int .i64 30]) w := fun _ => by kernel_rfl
      go_upto_region 4 with fail
      clear i0
      generalize wr.alloc (.cells #[.func (.func 49) #[] #[], .int .i64 30] 78) = W1 at H1 ⊢
      have c0 := H1.out.2.cell 0; have c1 := H1.out.2.cell 1
      simp only [List.getElem?_toArray, List.getElem?_cons_zero, List.getElem?_cons_succ] at c0 c1
      have k0 := H1.out.1.1.cell 0; have k1 := H1.out.1.1.cell 1; have k2 := H1.out.1.1.cell 2; have k3 := H1.out.1.1.cell 3; have k4 := H1.out.1.1.cell 4; have k5 := H1.out.1.1.cell 5; have k6 := H1.out.1.1.cell 6; have k7 := H1.out.1.1.cell 7; have k8 := H1.out.1.1.cell 8; have k9 := H1.out.1.1.cell 9; have k10 := H1.out.1.1.cell 10; have k11 := H1.out.1.1.cell 11; have k12 := H1.out.1.1.cell 12; have k13 := H1.out.1.1.cell 13; simp only [List.getElem?_toArray, List.getElem?_cons_zero, List.getElem?_cons_succ] at k0 k1 k2 k3 k4 k5 k6 k7 k8 k9 k10 k11 k12 k13
      cases b
      all_goals
        go_wp2_with (go_at_call 49; (with_reducible refine (hq _).mono ?_); rintro e W2 ⟨rfl, hb2⟩; have H2 := Lib.hid (And.intro (H1.out.1.step hb2) (H1.out.2.below hb2 H1.out.2.lt)); clear H1 hb2 c0 c1; clear k0 k1 k2 k3 k4 k5 k6 k7 k8 k9 k10 k11 k12 k13; have c1 := H2.out.2.cell 1; simp only [List.getElem?_toArray, List.getElem?_cons_zero, List.getElem?_cons_succ] at c1)
      · go_ret
        exact ⟨_, rfl, by rw [HN.out 1 (by decide) HB.out]; rfl, H2.out.1.2⟩
      · go_roundw
        case measure => (simp [Go.RowKit.intOf]; try omega)
        case rel => exact ⟨2, by go_num, by omega, fun j hj => by
          by_cases e : j = 1
          · subst e; exact HB.out
          · exact HL.out j (by omega), H2.out.1⟩
    · have hq := HQ.out.2.2.1
      obtain ⟨b, hb⟩ : ∃ b, ask 2 = b := ⟨_, rfl⟩
      rw [hb] at hq
      have HB := Lib.hid hb
      have hb1 := (Below.refl wr.heap.size wr).alloc (Nat.le_refl _) (.cells #[.func (.func 50) #[] #[], .int .i64 130] 78)
      have hn1 := Blk.new wr 78 #[.func (.func 50) #[] #[], .int .i64 130]
      have H1 := Lib.hid (And.intro (H.out.step hb1) hn1)
      clear hb hb1 hn1
      have i0 : ∀ w, (Instr.index 79 (.agg #[.func (.func 48) #[] #[], .int .i64 130, .func (.func 49) #[] #[], .int .i64 30, .func (.func 50) #[] #[], .int .i64 130, .func (.func 51) #[] #[], .int .i64 130, .func (.func 52) #[] #[], .int .i64 130]) (.int .i64 2)).run Tryz.prog w = .ok (.agg #[.func (.func 50) #[] #[], .int .i64 130]) w := fun _ => by kernel_rfl
      go_upto_region 4 with fail
      clear i0
      generalize wr.alloc (.cells #[.func (.func 50) #[] #[], .int .i64 130] 78) = W1 at H1 ⊢
      have c0 := H1.out.2.cell 0; have c1 := H1.out.2.cell 1
      simp only [List.getElem?_toArray, List.getElem?_cons_zero, List.getElem?_cons_succ] at c0 c1
      have k0 := H1.out.1.1.cell 0; have k1 := H1.out.1.1.cell 1; have k2 := H1.out.1.1.cell 2; have k3 := H1.out.1.1.cell 3; have k4 := H1.out.1.1.cell 4; have k5 := H1.out.1.1.cell 5; have k6 := H1.out.1.1.cell 6; have k7 := H1.out.1.1.cell 7; have k8 := H1.out.1.1.cell 8; have k9 := H1.out.1.1.cell 9; have k10 := H1.out.1.1.cell 10; have k11 := H1.out.1.1.cell 11; have k12 := H1.out.1.1.cell 12; have k13 := H1.out.1.1.cell 13; simp only [List.getElem?_toArray, List.getElem?_cons_zero, List.getElem?_cons_succ] at k0 k1 k2 k3 k4 k5 k6 k7 k8 k9 k10 k11 k12 k13
      cases b
      all_goals
        go_wp2_with (go_at_call 50; (with_reducible refine (hq _).mono ?_); rintro e W2 ⟨rfl, hb2⟩; have H2 := Lib.hid (And.intro (H1.out.1.step hb2) (H1.out.2.below hb2 H1.out.2.lt)); clear H1 hb2 c0 c1; clear k0 k1 k2 k3 k4 k5 k6 k7 k8 k9 k10 k11 k12 k13; have c1 := H2.out.2.cell 1; simp only [List.getElem?_toArray, List.getElem?_cons_zero, List.getElem?_cons_succ] at c1)
      · go_ret
        exact ⟨_, rfl, by rw [HN.out 2 (by decide) HB.out]; rfl, H2.out.1.2⟩
      · go_roundw
        case measure => (simp [Go.RowKit.intOf]; try omega)
        case rel => exact ⟨3, by go_num, by omega, fun j hj => by
          by_cases e : j = 2
          · subst e; exact HB.out
          · exact HL.out j (by omega), H2.out.1⟩
    · have hq := HQ.out.2.2.2.1
      obtain ⟨b, hb⟩ : ∃ b, ask 3 = b := ⟨_, rfl⟩
      rw [hb] at hq
      have HB := Lib.hid hb
      have hb1 := (Below.refl wr.heap.size wr).alloc (Nat.le_refl _) (.cells #[.func (.func 51) #[] #[], .int .i64 130] 78)
      have hn1 := Blk.new wr 78 #[.func (.func 51) #[] #[], .int .i64 130]
      have H1 := Lib.hid (And.intro (H.out.step hb1) hn1)
      clear hb hb1 hn1
      have i0 : ∀ w, (Instr.index 79 (.agg #[.func (.func 48) #[] #[], .int .i64 130, .func (.func 49) #[] #[], .int .i64 30, .func (.func 50) #[] #[], .int .i64 130, .func (.func 51) #[] #[], .int .i64 130, .func (.func 52) #[] #[], .int .i64 130]) (.int .i64 3)).run Tryz.prog w = .ok (.agg #[.func (.func 51) #[] #[], .int .i64 130]) w := fun _ => by kernel_rfl
      go_upto_region 4 with fail
      clear i0
      generalize wr.alloc (.cells #[.func (.func 51) #[] #[], .int .i64 130] 78) = W1 at H1 ⊢
      have c0 := H1.out.2.cell 0; have c1 := H1.out.2.cell 1
      simp only [List.getElem?_toArray, List.getElem?_cons_zero, List.getElem?_cons_succ] at c0 c1
      have k0 := H1.out.1.1.cell 0; have k1 := H1.out.1.1.cell 1; have k2 := H1.out.1.1.cell 2; have k3 := H1.out.1.1.cell 3; have k4 := H1.out.1.1.cell 4; have k5 := H1.out.1.1.cell 5; have k6 := H1.out.1.1.cell 6; have k7 := H1.out.1.1.cell 7; have k8 := H1.out.1.1.cell 8; have k9 := H1.out.1.1.cell 9; have k10 := H1.out.1.1.cell 10; have k11 := H1.out.1.1.cell 11; have k12 := H1.out.1.1.cell 12; have k13 := H1.out.1.1.cell 13; simp only [List.getElem?_toArray, List.getElem?_cons_zero, List.getElem?_cons_succ] at k0 k1 k2 k3 k4 k5 k6 k7 k8 k9 k10 k11 k12 k13
      cases b
      all_goals
        go_wp2_with (go_at_call 51; (with_reducible refine (hq _).mono ?_); rintro e W2 ⟨rfl, hb2⟩; have H2 := Lib.hid (And.intro (H1.out.1.step hb2) (H1.out.2.below hb2 H1.out.2.lt)); clear H1 hb2 c0 c1; clear k0 k1 k2 k3 k4 k5 k6 k7 k8 k9 k10 k11 k12 k13; have c1 := H2.out.2.cell 1; simp only [List.getElem?_toArray, List.getElem?_cons_zero, List.getElem?_cons_succ] at c1)
      · go_ret
        exact ⟨_, rfl, by rw [HN.out 3 (by decide) HB.out]; rfl, H2.out.1.2⟩
      · go_roundw
        case measure => (simp [Go.RowKit.intOf]; try omega)
        case rel => exact ⟨4, by go_num, by omega, fun j hj => by
          by_cases e : j = 3
          · subst e; exact HB.out
          · exact HL.out j (by omega), H2.out.1⟩
    · have hq := HQ.out.2.2.2.2
      obtain ⟨b, hb⟩ : ∃ b, ask 4 = b := ⟨_, rfl⟩
      rw [hb] at hq
      have HB := Lib.hid hb
      have hb1 := (Below.refl wr.heap.size wr).alloc (Nat.le_refl _) (.cells #[.func (.func 52) #[] #[], .int .i64 130] 78)
      have hn1 := Blk.new wr 78 #[.func (.func 52) #[] #[], .int .i64 130]
      have H1 := Lib.hid (And.intro (H.out.step hb1) hn1)
      clear hb hb1 hn1
      have i0 : ∀ w, (Instr.index 79 (.agg #[.func (.func 48) #[] #[], .int .i64 130, .func (.func 49) #[] #[], .int .i64 30, .func (.func 50) #[] #[], .int .i64 130, .func (.func 51) #[] #[], .int .i64 130, .func (.func 52) #[] #[], .int .i64 130]) (.int .i64 4)).run Tryz.prog w = .ok (.agg #[.func (.func 52) #[] #[], .int .i64 130]) w := fun _ => by kernel_rfl
      go_upto_region 4 with fail
      clear i0
      generalize wr.alloc (.cells #[.func (.func 52) #[] #[], .int .i64 130] 78) = W1 at H1 ⊢
      have c0 := H1.out.2.cell 0; have c1 := H1.out.2.cell 1
      simp only [List.getElem?_toArray, List.getElem?_cons_zero, List.getElem?_cons_succ] at c0 c1
      have k0 := H1.out.1.1.cell 0; have k1 := H1.out.1.1.cell 1; have k2 := H1.out.1.1.cell 2; have k3 := H1.out.1.1.cell 3; have k4 := H1.out.1.1.cell 4; have k5 := H1.out.1.1.cell 5; have k6 := H1.out.1.1.cell 6; have k7 := H1.out.1.1.cell 7; have k8 := H1.out.1.1.cell 8; have k9 := H1.out.1.1.cell 9; have k10 := H1.out.1.1.cell 10; have k11 := H1.out.1.1.cell 11; have k12 := H1.out.1.1.cell 12; have k13 := H1.out.1.1.cell 13; simp only [List.getElem?_toArray, List.getElem?_cons_zero, List.getElem?_cons_succ] at k0 k1 k2 k3 k4 k5 k6 k7 k8 k9 k10 k11 k12 k13
      cases b
      all_goals
        go_wp2_with (go_at_call 52; (with_reducible refine (hq _).mono ?_); rintro e W2 ⟨rfl, hb2⟩; have H2 := Lib.hid (And.intro (H1.out.1.step hb2) (H1.out.2.below hb2 H1.out.2.lt)); clear H1 hb2 c0 c1; clear k0 k1 k2 k3 k4 k5 k6 k7 k8 k9 k10 k11 k12 k13; have c1 := H2.out.2.cell 1; simp only [List.getElem?_toArray, List.getElem?_cons_zero, List.getElem?_cons_succ] at c1)
      · go_ret
        exact ⟨_, rfl, by rw [HN.out 4 (by decide) HB.out]; rfl, H2.out.1.2⟩
      · go_roundw
        case measure => (simp [Go.RowKit.intOf]; try omega)
        case rel => exact ⟨5, by go_num, by omega, fun j hj => by
          by_cases e : j = 4
          · subst e; exact HB.out
          · exact HL.out j (by omega), H2.out.1⟩
    · go_wp2_with fail
      go_ret
      exact ⟨_, rfl, by rw [HY.out HL.out]; rfl, H.out.2⟩
end Go.Proofs.YtclhhegfffccgaaGreat
/-
  A tree of classes, in plain words: what may come, change and go, who is under whom, the path of each.
-/
namespace Go.Proofs.YtclhhegfffccgaaGreat
set_option linter.unusedVariables false
open Go.RowKit

/-- a class: its spec, how deep it stands -/
abbrev Cl := Sp × Int
abbrev Mp := List (Int × Cl)
def kids (M : Mp) (k : Int) : List Int := (M.filter fun q => decide (q.2.1.pa = k)).map (·.1)
def depthM (M : Mp) (pa : Int) : Int := if pa = 0 then 1 else match lookM M pa with
  | some c => if c.1.lf = true ∨ 8 ≤ c.2 then 0 else c.2 + 1
  | none => 0
def withC (c s : Sp) : Sp := { c with r := s.r, s := s.s, u := s.u }
noncomputable def addM (M : Mp) (s : Sp) : Int × Mp := if mayS s = false then (130, M) else if 64 ≤ M.length then (4, M) else if (lookM M s.id).isSome = true then (80, M) else if depthM M s.pa = 0 then (160, M) else (0, putM M s.id (s, depthM M s.pa))
noncomputable def changeM (M : Mp) (s : Sp) : Int × Mp := match lookM M s.id with
  | none => (81, M)
  | some c => if mayS (withC c.1 s) = false then (130, M) else (0, putM M s.id (withC c.1 s, c.2))
def dropM (M : Mp) (id : Int) : Int × Mp := match lookM M id with
  | none => (81, M)
  | some c => if kids M id = [] then (0, delM M id) else (161, M)

structure OkCl (M : Mp) (k : Int) (c : Cl) : Prop where
  id : c.1.id = k
  wf : WfSp c.1
  may : mayS c.1 = true
  d1 : 1 ≤ c.2
  d8 : c.2 ≤ 8
  up : c.1.pa = 0 ∧ c.2 = 1 ∨ ∃ p, lookM M c.1.pa = some p ∧ p.1.lf = false ∧ c.2 = p.2 + 1
structure InvT (M : Mp) : Prop where
  rise : Rising M
  few : M.length ≤ 64
  ok : ∀ k c, lookM M k = some c → OkCl M k c

theorem may_named {s : Sp} (h : mayS s = true) : 1 ≤ s.id ∧ s.id ≤ 65535 ∧ 0 ≤ s.pa ∧ s.pa ≤ 65535 ∧ s.id ≠ s.pa := by
  unfold mayS namedB inB at h
  simp only [Bool.and_eq_true, decide_eq_true_eq, bne_iff_ne] at h
  exact ⟨h.1.1.1.1.1.1.1, h.1.1.1.1.1.1.2, h.1.1.1.1.1.2.1, h.1.1.1.1.1.2.2, h.1.1.1.1.2⟩
theorem InvT.pos {M : Mp} (h : InvT M) {k : Int} {c : Cl} (hk : lookM M k = some c) : 1 ≤ k ∧ k ≤ 65535 := by
  have o := h.ok k c hk
  have := may_named o.may
  have := o.id
  omega
theorem InvT.zero {M : Mp} (h : InvT M) : lookM M 0 = none := by
  cases e : lookM M 0 with
  | none => rfl
  | some c => have := (h.pos e).1; omega
theorem look_of_mem {α : Type} : ∀ {M : List (Int × α)} {k : Int} {c : α}, Rising M → (k, c) ∈ M → lookM M k = some c
  | [], k, c, _, h => by simp at h
  | p :: r, k, c, hr, h => by
    have h1 := (List.pairwise_cons.1 hr).1
    rcases List.mem_cons.1 h with rfl | h
    · simp [lookM]
    · have := h1 _ h
      dsimp only at this
      unfold lookM
      rw [if_neg (by omega)]
      exact look_of_mem (List.pairwise_cons.1 hr).2 h
theorem mem_of_look {α : Type} : ∀ {M : List (Int × α)} {k : Int} {c : α}, lookM M k = some c → (k, c) ∈ M
  | [], k, c, h => by cases h
  | p :: r, k, c, h => by
    unfold lookM at h
    split at h
    · rename_i e
      cases h
      subst e
      exact .head _
    · exact .tail _ (mem_of_look h)
theorem mem_kids {M : Mp} (hr : Rising M) {k x : Int} : x ∈ kids M k ↔ ∃ c, lookM M x = some c ∧ c.1.pa = k := by
  unfold kids
  rw [List.mem_map]
  constructor
  · rintro ⟨⟨y, c⟩, hm, rfl⟩
    rw [List.mem_filter] at hm
    exact ⟨c, look_of_mem hr hm.1, by simpa using hm.2⟩
  · rintro ⟨c, hl, rfl⟩
    exact ⟨(x, c), List.mem_filter.2 ⟨mem_of_look hl, by simp⟩, rfl⟩
theorem kids_rising {M : Mp} (hr : Rising M) (k : Int) : (kids M k).Pairwise (· < ·) := by
  unfold kids
  exact List.pairwise_map.2 (List.Pairwise.filter _ hr)
theorem kids_len (M : Mp) (k : Int) : (kids M k).length ≤ M.length := by unfold kids; rw [List.length_map]; exact List.length_filter_le _ _
theorem kids_cons (q : Int × Cl) (M : Mp) (k : Int) : kids (q :: M) k = if q.2.1.pa = k then q.1 :: kids M k else kids M k := by
  unfold kids
  by_cases h : q.2.1.pa = k
  · rw [List.filter_cons_of_pos (by simpa using h), if_pos h]; rfl
  · rw [List.filter_cons_of_neg (by simpa using h), if_neg h]
theorem count_none {l : List Int} {x : Int} (h : ∀ y ∈ l, x < y) : l.countP (· < x) = 0 := by
  rw [List.countP_eq_zero]
  intro y hy
  have := h y hy
  simp
  omega
theorem kids_ins {id : Int} {c : Cl} : ∀ {M : Mp}, Rising M → lookM M id = none →
    kids (putM M id c) c.1.pa = (kids M c.1.pa).take ((kids M c.1.pa).countP (· < id)) ++ [id] ++ (kids M c.1.pa).drop ((kids M c.1.pa).countP (· < id))
  | [], _, _ => by simp [putM, kids]
  | p :: r, hr, hn => by
    have h1 := (List.pairwise_cons.1 hr).1
    have hp : p.1 ≠ id := look_none.1 hn p (.head _)
    have hnr : lookM r id = none := look_none.2 fun q hq => look_none.1 hn q (.tail _ hq)
    have ih := kids_ins (c := c) (List.pairwise_cons.1 hr).2 hnr
    unfold putM
    by_cases hlt : id < p.1
    · rw [if_pos hlt]
      have h0 : (kids (p :: r) c.1.pa).countP (· < id) = 0 := count_none fun y hy => by
        obtain ⟨c', hl, _⟩ := (mem_kids hr).1 hy
        rcases List.mem_cons.1 (mem_of_look hl) with e | hm
        · have : y = p.1 := by rw [← e]
          omega
        · have := h1 _ hm
          dsimp only at this
          omega
      rw [h0, kids_cons, if_pos rfl]
      simp
    · rw [if_neg hlt, if_neg hp, kids_cons, kids_cons]
      by_cases hk : p.2.1.pa = c.1.pa
      · rw [if_pos hk, if_pos hk, ih, List.countP_cons_of_pos (by simp; omega)]
        simp
      · rw [if_neg hk, if_neg hk, ih]
theorem kids_put_other {id k : Int} {c : Cl} (hk : c.1.pa ≠ k) : ∀ {M : Mp}, lookM M id = none → kids (putM M id c) k = kids M k
  | [], _ => by simp [putM, kids, hk]
  | p :: r, hn => by
    have hp : p.1 ≠ id := look_none.1 hn p (.head _)
    have hnr : lookM r id = none := look_none.2 fun q hq => look_none.1 hn q (.tail _ hq)
    unfold putM
    by_cases hlt : id < p.1
    · rw [if_pos hlt, kids_cons, if_neg hk]
    · rw [if_neg hlt, if_neg hp, kids_cons, kids_cons, kids_put_other hk hnr]
theorem kids_put_same {id k : Int} {c c0 : Cl} (hpa : c.1.pa = c0.1.pa) : ∀ {M : Mp}, Rising M → lookM M id = some c0 → kids (putM M id c) k = kids M k
  | [], _, h => by cases h
  | p :: r, hr, hl => by
    have h1 := (List.pairwise_cons.1 hr).1
    unfold lookM at hl
    unfold putM
    by_cases hp : p.1 = id
    · rw [if_pos hp] at hl
      cases hl
      rw [if_neg (by omega), if_pos hp, kids_cons, kids_cons]
      simp only [hpa, hp]
    · rw [if_neg hp] at hl
      have := h1 _ (mem_of_look hl)
      dsimp only at this
      rw [if_neg (by omega), if_neg hp, kids_cons, kids_cons, kids_put_same hpa (List.pairwise_cons.1 hr).2 hl]
theorem kids_del (M : Mp) (id k : Int) : kids (delM M id) k = (kids M k).filter fun x => !decide (x = id) := by
  unfold kids delM
  rw [List.filter_map, List.filter_filter, List.filter_filter]
  congr 1
  refine List.filter_congr fun q _ => ?_
  simp [Bool.and_comm]
theorem put_len_same {α : Type} {id : Int} {c c0 : α} : ∀ {M : List (Int × α)}, Rising M → lookM M id = some c0 → (putM M id c).length = M.length
  | [], _, h => by cases h
  | p :: r, hr, hl => by
    have h1 := (List.pairwise_cons.1 hr).1
    unfold lookM at hl
    unfold putM
    by_cases hp : p.1 = id
    · rw [if_neg (by omega), if_pos hp]; rfl
    · rw [if_neg hp] at hl
      have := h1 _ (mem_of_look hl)
      dsimp only at this
      rw [if_neg (by omega), if_neg hp, List.length_cons, put_len_same (List.pairwise_cons.1 hr).2 hl, List.length_cons]
theorem put_len_new {α : Type} {k : Int} {v : α} : ∀ {M : List (Int × α)}, lookM M k = none → (putM M k v).length = M.length + 1
  | [], _ => rfl
  | p :: r, hn => by
    have hp : p.1 ≠ k := look_none.1 hn p (.head _)
    have hnr : lookM r k = none := look_none.2 fun q hq => look_none.1 hn q (.tail _ hq)
    unfold putM
    by_cases hlt : k < p.1
    · rw [if_pos hlt]; simp
    · rw [if_neg hlt, if_neg hp, List.length_cons, put_len_new hnr, List.length_cons]
theorem withC_id (c s : Sp) : (withC c s).id = c.id := rfl
theorem withC_pa (c s : Sp) : (withC c s).pa = c.pa := rfl
theorem withC_lf (c s : Sp) : (withC c s).lf = c.lf := rfl

theorem inv_nil : InvT [] := ⟨by simp [Rising], by simp, fun k c h => by cases h⟩
theorem InvT.add {M : Mp} (h : InvT M) {s : Sp} (hw : WfSp s) : InvT (addM M s).2 := by
  unfold addM
  by_cases h1 : mayS s = false
  · rw [if_pos h1]; exact h
  · rw [if_neg h1]
    by_cases h2 : 64 ≤ M.length
    · rw [if_pos h2]; exact h
    · rw [if_neg h2]
      by_cases h3 : (lookM M s.id).isSome = true
      · rw [if_pos h3]; exact h
      · rw [if_neg h3]
        by_cases h4 : depthM M s.pa = 0
        · rw [if_pos h4]; exact h
        · rw [if_neg h4]
          have hn : lookM M s.id = none := by simpa using h3
          have hm : mayS s = true := by simpa using h1
          have hd : 1 ≤ depthM M s.pa ∧ depthM M s.pa ≤ 8 ∧ (s.pa = 0 ∧ depthM M s.pa = 1 ∨ ∃ p, lookM M s.pa = some p ∧ p.1.lf = false ∧ depthM M s.pa = p.2 + 1) := by
            unfold depthM at h4 ⊢
            by_cases h5 : s.pa = 0
            · simp only [h5, if_true]; exact ⟨by omega, by omega, .inl ⟨trivial, trivial⟩⟩
            · rw [if_neg h5] at h4 ⊢
              cases e : lookM M s.pa with
              | none => rw [e] at h4; simp at h4
              | some p =>
                rw [e] at h4
                simp only at h4 ⊢
                by_cases h6 : p.1.lf = true ∨ 8 ≤ p.2
                · rw [if_pos h6] at h4; exact absurd rfl h4
                · rw [if_neg h6]
                  have := (h.ok _ _ e).d1
                  exact ⟨by omega, by omega, .inr ⟨p, rfl, by
                    cases hh : p.1.lf
                    · rfl
                    · exact absurd (.inl hh) h6, rfl⟩⟩
          refine ⟨rising_put _ _ h.rise, by rw [put_len_new hn]; omega, fun k c hk => ?_⟩
          by_cases e : k = s.id
          · subst e
            rw [look_put_same] at hk
            cases hk
            refine ⟨rfl, hw, hm, hd.1, hd.2.1, ?_⟩
            rcases hd.2.2 with hd | ⟨p, hp, hl, hd⟩
            · exact .inl hd
            · refine .inr ⟨p, ?_, hl, hd⟩
              have hne : s.pa ≠ s.id := by intro e; rw [e, hn] at hp; cases hp
              show lookM (putM M s.id _) s.pa = some p
              rw [look_put_other _ hne]; exact hp
          · dsimp only at hk ⊢
            rw [look_put_other _ e] at hk
            have o := h.ok k c hk
            refine ⟨o.id, o.wf, o.may, o.d1, o.d8, ?_⟩
            rcases o.up with hu | ⟨p, hp, hl, hd'⟩
            · exact .inl hu
            · refine .inr ⟨p, ?_, hl, hd'⟩
              have hne : c.1.pa ≠ s.id := by intro e; rw [e, hn] at hp; cases hp
              rw [look_put_other _ hne]; exact hp
theorem InvT.change {M : Mp} (h : InvT M) {s : Sp} (hw : WfSp s) : InvT (changeM M s).2 := by
  unfold changeM
  cases e : lookM M s.id with
  | none => exact h
  | some c =>
    dsimp only
    by_cases h1 : mayS (withC c.1 s) = false
    · rw [if_pos h1]; exact h
    · rw [if_neg h1]
      have hm : mayS (withC c.1 s) = true := by simpa using h1
      have o := h.ok _ _ e
      refine ⟨rising_put _ _ h.rise, by rw [put_len_same h.rise e]; exact h.few, fun k c' hk => ?_⟩
      have hup : ∀ (c1 : Sp) (d1 : Int), (c1.pa = 0 ∧ d1 = 1 ∨ ∃ p, lookM M c1.pa = some p ∧ p.1.lf = false ∧ d1 = p.2 + 1) → (c1.pa = 0 ∧ d1 = 1 ∨ ∃ p, lookM (putM M s.id (withC c.1 s, c.2)) c1.pa = some p ∧ p.1.lf = false ∧ d1 = p.2 + 1) := by
        rintro c1 d1 (hu | ⟨p, hp, hl, hd⟩)
        · exact .inl hu
        · right
          by_cases e2 : c1.pa = s.id
          · rw [e2, e] at hp
            cases hp
            exact ⟨(withC c.1 s, c.2), by rw [e2, look_put_same], hl, hd⟩
          · exact ⟨p, by rw [look_put_other _ e2]; exact hp, hl, hd⟩
      by_cases e3 : k = s.id
      · subst e3
        dsimp only at hk
        rw [look_put_same] at hk
        cases hk
        exact ⟨o.id, ⟨o.wf.1, hw.2⟩, hm, o.d1, o.d8, hup _ _ o.up⟩
      · dsimp only at hk
        rw [look_put_other _ e3] at hk
        have o' := h.ok k c' hk
        exact ⟨o'.id, o'.wf, o'.may, o'.d1, o'.d8, hup _ _ o'.up⟩
theorem InvT.drop {M : Mp} (h : InvT M) (id : Int) : InvT (dropM M id).2 := by
  unfold dropM
  cases e : lookM M id with
  | none => exact h
  | some c =>
    dsimp only
    by_cases h1 : kids M id = []
    · rw [if_pos h1]
      refine ⟨rising_del h.rise id, Nat.le_trans (del_length id M) h.few, fun k c' hk => ?_⟩
      dsimp only at hk ⊢
      have hne : k ≠ id := by rintro rfl; rw [look_del_same] at hk; cases hk
      rw [look_del_other hne] at hk
      have o := h.ok k c' hk
      refine ⟨o.id, o.wf, o.may, o.d1, o.d8, ?_⟩
      rcases o.up with hu | ⟨p, hp, hl, hd⟩
      · exact .inl hu
      · refine .inr ⟨p, ?_, hl, hd⟩
        have hne2 : c'.1.pa ≠ id := by
          intro e2
          have : k ∈ kids M id := (mem_kids h.rise).2 ⟨c', hk, e2⟩
          rw [h1] at this
          simp at this
        rw [look_del_other hne2]; exact hp
    · rw [if_neg h1]; exact h

/-- a class, its parent, and so on -/
def pathF (M : Mp) : Nat → Int → List Int
  | 0, _ => []
  | n + 1, id => match lookM M id with
    | none => []
    | some c => id :: pathF M n c.1.pa
theorem pathF_none {M : Mp} {id : Int} (h : lookM M id = none) : ∀ n, pathF M n id = []
  | 0 => rfl
  | n + 1 => by unfold pathF; rw [h]
theorem pathF_some {M : Mp} {id : Int} {c : Cl} (h : lookM M id = some c) (n : Nat) : pathF M (n + 1) id = id :: pathF M n c.1.pa := by
  conv => lhs; unfold pathF
  rw [h]
theorem InvT.pathF_len {M : Mp} (h : InvT M) : ∀ (n : Nat) {id : Int} {c : Cl}, lookM M id = some c → c.2 ≤ n → ((pathF M n id).length : Int) = c.2
  | 0, id, c, hk, hn => by have := (h.ok _ _ hk).d1; omega
  | n + 1, id, c, hk, hn => by
    rw [pathF_some hk, List.length_cons]
    rcases (h.ok _ _ hk).up with ⟨h0, h1⟩ | ⟨p, hp, hl, hd⟩
    · rw [h0, pathF_none h.zero]; simp; omega
    · have := h.pathF_len n hp (by omega)
      omega
theorem InvT.pathF_more {M : Mp} (h : InvT M) : ∀ (n m : Nat) {id : Int}, (∀ c, lookM M id = some c → c.2 ≤ n ∧ c.2 ≤ m) → pathF M n id = pathF M m id
  | n, m, id, hc => by
    cases e : lookM M id with
    | none => rw [pathF_none e, pathF_none e]
    | some c =>
      have hb := hc c e
      have h1 := (h.ok _ _ e).d1
      obtain ⟨n', rfl⟩ : ∃ n', n = n' + 1 := ⟨n - 1, by omega⟩
      obtain ⟨m', rfl⟩ : ∃ m', m = m' + 1 := ⟨m - 1, by omega⟩
      rw [pathF_some e, pathF_some e, h.pathF_more n' m' (fun c' hc' => by
        rcases (h.ok _ _ e).up with ⟨h0, _⟩ | ⟨p, hp, hl, hd⟩
        · rw [h0, h.zero] at hc'; cases hc'
        · rw [hp] at hc'; cases hc'; omega)]
theorem InvT.pathF_last {M : Mp} (h : InvT M) : ∀ (n : Nat) {id : Int} {c : Cl}, lookM M id = some c → c.2 ≤ n → ∃ x t, (pathF M n id)[(pathF M n id).length - 1]? = some x ∧ lookM M x = some t ∧ t.1.pa = 0
  | 0, id, c, hk, hn => by have := (h.ok _ _ hk).d1; omega
  | n + 1, id, c, hk, hn => by
    rw [pathF_some hk]
    rcases (h.ok _ _ hk).up with ⟨h0, h1⟩ | ⟨p, hp, hl, hd⟩
    · rw [h0, pathF_none h.zero]
      exact ⟨id, c, rfl, hk, h0⟩
    · obtain ⟨x, t, hx, ht, h0⟩ := h.pathF_last n hp (by omega)
      have hlen := h.pathF_len n hp (by omega)
      have := (h.ok _ _ hp).d1
      obtain ⟨j, hj⟩ : ∃ j, (pathF M n c.1.pa).length = j + 1 := ⟨(pathF M n c.1.pa).length - 1, by omega⟩
      refine ⟨x, t, ?_, ht, h0⟩
      rw [List.length_cons, hj]
      rw [hj] at hx
      simpa using hx
def pathM (M : Mp) (id : Int) : List Int := pathF M 8 id

theorem filter_sum {α : Type} (f : α → Int) : ∀ (K : List Int), K.Nodup → ∀ (M : List α), (∀ q ∈ M, f q ∈ K) → (K.map fun k => (M.filter fun q => decide (f q = k)).length).sum = M.length
  | K, hK, [], _ => by
    simp only [List.filter_nil, List.length_nil]
    induction K with
    | nil => rfl
    | cons a K ih => simp only [List.map_cons, List.sum_cons, Nat.zero_add]; exact ih (List.nodup_cons.1 hK).2 (by simp)
  | K, hK, q :: M, hq => by
    have ih := filter_sum f K hK M fun x hx => hq x (.tail _ hx)
    rw [List.length_cons, ← ih]
    have hm := hq q (.head _)
    clear ih hq
    induction K with
    | nil => simp at hm
    | cons a K ih =>
      obtain ⟨ha, hK'⟩ := List.nodup_cons.1 hK
      simp only [List.map_cons, List.sum_cons]
      by_cases e : f q = a
      · have hrest : ∀ k ∈ K, ((q :: M).filter fun q => decide (f q = k)).length = (M.filter fun q => decide (f q = k)).length := fun k hk => by
          rw [List.filter_cons_of_neg (by simp; intro e2; exact ha (by rw [← e, e2]; exact hk))]
        rw [List.map_congr_left hrest, List.filter_cons_of_pos (by simpa using e), List.length_cons]
        omega
      · have hmk : f q ∈ K := by
          rcases List.mem_cons.1 hm with h | h
          · exact absurd h e
          · exact h
        rw [ih hK' hmk, List.filter_cons_of_neg (by simpa using e)]
        omega
theorem InvT.sum {M : Mp} (h : InvT M) : ((0 :: M.map (·.1)).map fun k => (kids M k).length).sum = M.length := by
  have hn : (0 :: M.map (·.1)).Nodup := by
    refine List.nodup_cons.2 ⟨fun hm => ?_, ?_⟩
    · obtain ⟨⟨k, c⟩, hq, e⟩ := List.mem_map.1 hm
      have := h.pos (look_of_mem h.rise hq)
      dsimp only at e
      omega
    · refine List.pairwise_map.2 (List.Pairwise.imp (fun h => ?_) h.rise)
      omega
  have := filter_sum (fun q : Int × Cl => q.2.1.pa) _ hn M fun q hq => by
    obtain ⟨k, c⟩ := q
    rcases (h.ok _ _ (look_of_mem h.rise hq)).up with ⟨h0, _⟩ | ⟨p, hp, _⟩
    · exact List.mem_cons.2 (.inl h0)
    · exact List.mem_cons.2 (.inr (List.mem_map.2 ⟨(c.1.pa, p), mem_of_look hp, rfl⟩))
  rw [← this]
  unfold kids
  simp only [List.length_map]
theorem InvT.leaf {M : Mp} (h : InvT M) {k : Int} {c : Cl} (hk : lookM M k = some c) (hl : c.1.lf = true) : kids M k = [] := by
  cases e : kids M k with
  | nil => rfl
  | cons x l =>
    obtain ⟨c', h1, h2⟩ := (mem_kids h.rise).1 (by rw [e]; exact .head _ : x ∈ kids M k)
    rcases (h.ok _ _ h1).up with ⟨h0, _⟩ | ⟨p, hp, hpl, _⟩
    · have := (h.pos hk).1
      omega
    · rw [h2, hk] at hp
      cases hp
      rw [hl] at hpl
      cases hpl
end Go.Proofs.YtclhhegfffccgaaGreat
