/- Lemmas of the claim, merged: R13, RtAdd, RtChP, RtChange. No conditions beyond those that each states. -/
import Derived.Test.YtclhhegfffccgaaGreatHP6
import Derived.Test.YtclhhegfffccgaaGreatHP1
import Derived.Deep.DeepCutAuto
import Derived.BigQuiet
import Derived.Deep.QuietTactic
import Derived.Test.YtclhhegfffccgaaGreatHP4
import Derived.BigRegion
/-
  The document's May of a spec: nothing wrong just if the spec is as it should be. (Printed by wip/mkr13.py.)
-/
namespace Go.Proofs.YtclhhegfffccgaaGreat
set_option linter.unusedVariables false
open Go.RowKit
attribute [local go_sem ↓] Go.wp_at_zero Go.wp_at_succ
attribute [local go_sem] quietR quietAtR quietUponR midAt midUpon

theorem rcnone_any (F L R : Int) (w : World) :
    Calls Tryz.prog 58 #[.agg #[.int .u64 F, .int .u64 L, .int .u64 R]] w fun e w' => e = .returned (.bool (noneB (F, L, R))) ∧ Below w.heap.size w w' := by
  unfold noneB
  by_cases h1 : F = 0
  · by_cases h2 : L = 0
    · by_cases h3 : R = 0
      · subst h1 h2 h3
        go_enter Tryz.func58, Tryz.ntmps58
        go_wp2
        go_ret
        exact ⟨rfl, by go_grown⟩
      · go_enter Tryz.func58, Tryz.ntmps58
        go_wp2
        go_ret
        exact ⟨by simp [h3], by go_grown⟩
    · go_enter Tryz.func58, Tryz.ntmps58
      go_wp2
      go_ret
      exact ⟨by simp [h2], by go_grown⟩
  · go_enter Tryz.func58, Tryz.ntmps58
    go_wp2
    go_ret
    exact ⟨by simp [h1], by go_grown⟩
set_option maxRecDepth 100000 in
set_option maxHeartbeats 8000000 in
theorem r13may_any (s : Sp) (w : World) (hw : WfSp s) : Calls Tryz.prog 31 #[spV s] w (MayW s w) := by
  have hmay : mayS s = (namedB s && curvesB s && shapedB s && sharedB s && underB s) := rfl
  have hu := hw.2
  unfold MayW
  unfold namedB curvesB shapedB sharedB underB goesB at hmay
  obtain ⟨id, pa, lf, ⟨F1, L1, R1⟩, ⟨F2, L2, R2⟩, ⟨F3, L3, R3⟩, pk, by_⟩ := s
  unfold UC at hu
  obtain ⟨u1, u2, u3⟩ := hu
  unfold spV spC
  dsimp only at u1 u2 u3 hmay ⊢
  have hm1 := fun W => rmay_any F1 L1 R1 W u1.2.1.1
  have hm2 := fun W => rmay_any F2 L2 R2 W u2.2.1.1
  have hm3 := fun W => rmay_any F3 L3 R3 W u3.2.1.1
  have hn1 := fun W => rcnone_any F1 L1 R1 W
  have hn2 := fun W => rcnone_any F2 L2 R2 W
  have hn3 := fun W => rcnone_any F3 L3 R3 W
  have hbl := fun W => r4below_any (F1, L1, R1) (F3, L3, R3) W u1 u3
  unfold BelW cvV at hbl
  have hr2 := u2.2.2.1; have hr3 := u3.2.2.1
  unfold okC at hmay
  dsimp only at hbl hmay
  generalize mayB F1 L1 R1 = m1 at hm1 hmay
  generalize mayB F2 L2 R2 = m2 at hm2 hmay
  generalize mayB F3 L3 R3 = m3 at hm3 hmay
  generalize noneB (F1, L1, R1) = n1 at hn1 hmay
  generalize noneB (F2, L2, R2) = n2 at hn2 hmay
  generalize noneB (F3, L3, R3) = n3 at hn3 hmay
  generalize decide (BelowP (F1, L1, R1) (F3, L3, R3)) = bl at hbl hmay
  generalize mayS _ = ms at hmay ⊢
  have HM := Lib.hid hmay
  have H := Lib.hid (BxAt.new w 36 #[.int .i64 id, .int .i64 pa, .bool lf, .int .u64 F1, .int .u64 L1, .int .u64 R1, .int .u64 F2, .int .u64 L2, .int .u64 R2, .int .u64 F3, .int .u64 L3, .int .u64 R3, .int .i64 pk, .int .i64 by_])
  clear hmay hw u1 u2 u3
  obtain ⟨b1, hb1⟩ : ∃ b, (inB id 1 65535 && inB pa 0 65535 && (id != pa)) = b := ⟨_, rfl⟩
  have HB1 := Lib.hid hb1
  clear hb1
  go_enter Tryz.func31, Tryz.ntmps31
  go_upto_region 1 with fail
  generalize w.alloc (.cells #[.int .i64 id, .int .i64 pa, .bool lf, .int .u64 F1, .int .u64 L1, .int .u64 R1, .int .u64 F2, .int .u64 L2, .int .u64 R2, .int .u64 F3, .int .u64 L3, .int .u64 R3, .int .i64 pk, .int .i64 by_] 36) = W0 at H ⊢
  have k0 := H.out.1.cell 0; have k1 := H.out.1.cell 1; have k2 := H.out.1.cell 2; have k3 := H.out.1.cell 3; have k4 := H.out.1.cell 4; have k5 := H.out.1.cell 5; have k6 := H.out.1.cell 6; have k7 := H.out.1.cell 7; have k8 := H.out.1.cell 8; have k9 := H.out.1.cell 9; have k10 := H.out.1.cell 10; have k11 := H.out.1.cell 11; have k12 := H.out.1.cell 12; have k13 := H.out.1.cell 13; simp only [List.getElem?_toArray, List.getElem?_cons_zero, List.getElem?_cons_succ] at k0 k1 k2 k3 k4 k5 k6 k7 k8 k9 k10 k11 k12 k13
  go_cut [30] from 6 (fun vc wx => vc = .bool (!b1) ∧ BxAt w wx 36 #[.int .i64 id, .int .i64 pa, .bool lf, .int .u64 F1, .int .u64 L1, .int .u64 R1, .int .u64 F2, .int .u64 L2, .int .u64 R2, .int .u64 F3, .int .u64 L3, .int .u64 R3, .int .i64 pk, .int .i64 by_])
  case first =>
    have no : (id < 1 ∨ 65535 < id ∨ pa < 0 ∨ 65535 < pa ∨ pa = id) → b1 = false := fun h => by
      cases b1 with
      | false => rfl
      | true => exfalso; have := HB1.out; simp [inB] at this; omega
    have yes : ¬ (id < 1 ∨ 65535 < id ∨ pa < 0 ∨ 65535 < pa ∨ pa = id) → b1 = true := fun h => by
      cases b1 with
      | true => rfl
      | false => exfalso; have := HB1.out; simp [inB] at this; omega
    by_cases h1 : id < 1
    · have hb := no (.inl h1)
      subst hb
      clear no yes
      go_wp2_with fail
      go_meet
      exact ⟨rfl, H.out⟩
    by_cases h2 : 65535 < id
    · have hb := no (.inr (.inl h2))
      subst hb
      clear no yes
      go_wp2_with fail
      go_meet
      exact ⟨rfl, H.out⟩
    by_cases h3 : pa < 0
    · have hb := no (.inr (.inr (.inl h3)))
      subst hb
      clear no yes
      go_wp2_with fail
      go_meet
      exact ⟨rfl, H.out⟩
    by_cases h4 : 65535 < pa
    · have hb := no (.inr (.inr (.inr (.inl h4))))
      subst hb
      clear no yes
      go_wp2_with fail
      go_meet
      exact ⟨rfl, H.out⟩
    by_cases h5 : pa = id
    · have hb := no (.inr (.inr (.inr (.inr h5))))
      have heq : (pa == id) = true := by simpa using h5
      subst hb
      clear no yes h5
      go_wp2_with fail
      go_meet
      exact ⟨rfl, H.out⟩
    · have hb := yes (by omega)
      have heq : (pa == id) = false := by simpa using h5
      subst hb
      clear no yes h5
      go_wp2_with fail
      go_meet
      exact ⟨rfl, H.out⟩
  case rest =>
    obtain ⟨hvc, hH⟩ := hcut
    rw [hvc]
    clear k0 k1 k2 k3 k4 k5 k6 k7 k8 k9 k10 k11 k12 k13
    clear H hvc
    have H := Lib.hid hH
    clear hH
    cases b1 with
    | false =>
      go_wp2_with fail
      go_ret
      exact ⟨130, rfl, by rw [HM.out, HB1.out]; rfl, H.out.2⟩
    | true =>
      have k0 := H.out.1.cell 0; have k1 := H.out.1.cell 1; have k2 := H.out.1.cell 2; have k3 := H.out.1.cell 3; have k4 := H.out.1.cell 4; have k5 := H.out.1.cell 5; have k6 := H.out.1.cell 6; have k7 := H.out.1.cell 7; have k8 := H.out.1.cell 8; have k9 := H.out.1.cell 9; have k10 := H.out.1.cell 10; have k11 := H.out.1.cell 11; have k12 := H.out.1.cell 12; have k13 := H.out.1.cell 13; simp only [List.getElem?_toArray, List.getElem?_cons_zero, List.getElem?_cons_succ] at k0 k1 k2 k3 k4 k5 k6 k7 k8 k9 k10 k11 k12 k13
      go_upto_region 3 with fail
      go_cut [46] from 31 (fun vc wx => vc = .bool (!(m1 && m2 && m3)) ∧ BxAt w wx 36 #[.int .i64 id, .int .i64 pa, .bool lf, .int .u64 F1, .int .u64 L1, .int .u64 R1, .int .u64 F2, .int .u64 L2, .int .u64 R2, .int .u64 F3, .int .u64 L3, .int .u64 R3, .int .i64 pk, .int .i64 by_])
      case first =>
        cases m1 <;> cases m2 <;> cases m3
        all_goals
          go_wp2_with (first | (go_at_call 57; (with_reducible refine (hm1 _).mono ?_); rintro e W1 ⟨rfl, hb⟩; have H2 := Lib.hid (BxAt.step H.out hb); clear H hb; clear k0 k1 k2 k3 k4 k5 k6 k7 k8 k9 k10 k11 k12 k13; have H := Lib.hid H2.out; clear H2; have k0 := H.out.1.cell 0; have k1 := H.out.1.cell 1; have k2 := H.out.1.cell 2; have k3 := H.out.1.cell 3; have k4 := H.out.1.cell 4; have k5 := H.out.1.cell 5; have k6 := H.out.1.cell 6; have k7 := H.out.1.cell 7; have k8 := H.out.1.cell 8; have k9 := H.out.1.cell 9; have k10 := H.out.1.cell 10; have k11 := H.out.1.cell 11; have k12 := H.out.1.cell 12; have k13 := H.out.1.cell 13; simp only [List.getElem?_toArray, List.getElem?_cons_zero, List.getElem?_cons_succ] at k0 k1 k2 k3 k4 k5 k6 k7 k8 k9 k10 k11 k12 k13) | (go_at_call 57; (with_reducible refine (hm2 _).mono ?_); rintro e W1 ⟨rfl, hb⟩; have H2 := Lib.hid (BxAt.step H.out hb); clear H hb; clear k0 k1 k2 k3 k4 k5 k6 k7 k8 k9 k10 k11 k12 k13; have H := Lib.hid H2.out; clear H2; have k0 := H.out.1.cell 0; have k1 := H.out.1.cell 1; have k2 := H.out.1.cell 2; have k3 := H.out.1.cell 3; have k4 := H.out.1.cell 4; have k5 := H.out.1.cell 5; have k6 := H.out.1.cell 6; have k7 := H.out.1.cell 7; have k8 := H.out.1.cell 8; have k9 := H.out.1.cell 9; have k10 := H.out.1.cell 10; have k11 := H.out.1.cell 11; have k12 := H.out.1.cell 12; have k13 := H.out.1.cell 13; simp only [List.getElem?_toArray, List.getElem?_cons_zero, List.getElem?_cons_succ] at k0 k1 k2 k3 k4 k5 k6 k7 k8 k9 k10 k11 k12 k13) | (go_at_call 57; (with_reducible refine (hm3 _).mono ?_); rintro e W1 ⟨rfl, hb⟩; have H2 := Lib.hid (BxAt.step H.out hb); clear H hb; clear k0 k1 k2 k3 k4 k5 k6 k7 k8 k9 k10 k11 k12 k13; have H := Lib.hid H2.out; clear H2; have k0 := H.out.1.cell 0; have k1 := H.out.1.cell 1; have k2 := H.out.1.cell 2; have k3 := H.out.1.cell 3; have k4 := H.out.1.cell 4; have k5 := H.out.1.cell 5; have k6 := H.out.1.cell 6; have k7 := H.out.1.cell 7; have k8 := H.out.1.cell 8; have k9 := H.out.1.cell 9; have k10 := H.out.1.cell 10; have k11 := H.out.1.cell 11; have k12 := H.out.1.cell 12; have k13 := H.out.1.cell 13; simp only [List.getElem?_toArray, List.getElem?_cons_zero, List.getElem?_cons_succ] at k0 k1 k2 k3 k4 k5 k6 k7 k8 k9 k10 k11 k12 k13))
          go_meet
          exact ⟨rfl, H.out⟩
      case rest =>
        obtain ⟨hvc, hH⟩ := hcut
        rw [hvc]
        clear k0 k1 k2 k3 k4 k5 k6 k7 k8 k9 k10 k11 k12 k13
        clear H hvc hm1 hm2 hm3
        have H := Lib.hid hH
        clear hH
        obtain ⟨b2, hb2⟩ : ∃ b, (m1 && m2 && m3) = b := ⟨_, rfl⟩
        rw [hb2]
        have HB2 := Lib.hid hb2
        clear hb2
        cases b2 with
        | false =>
          go_wp2_with fail
          go_ret
          exact ⟨30, rfl, by rw [HM.out, HB1.out, HB2.out]; rfl, H.out.2⟩
        | true =>
          go_upto_region 5 with fail
          have o3 := fun e => (over_cell (w := wc) (e := e) (o := 3) H.out.1.lt).trans (H.out.1.cell 3); have o4 := fun e => (over_cell (w := wc) (e := e) (o := 4) H.out.1.lt).trans (H.out.1.cell 4); have o5 := fun e => (over_cell (w := wc) (e := e) (o := 5) H.out.1.lt).trans (H.out.1.cell 5); have o6 := fun e => (over_cell (w := wc) (e := e) (o := 6) H.out.1.lt).trans (H.out.1.cell 6); have o7 := fun e => (over_cell (w := wc) (e := e) (o := 7) H.out.1.lt).trans (H.out.1.cell 7); have o8 := fun e => (over_cell (w := wc) (e := e) (o := 8) H.out.1.lt).trans (H.out.1.cell 8); have o9 := fun e => (over_cell (w := wc) (e := e) (o := 9) H.out.1.lt).trans (H.out.1.cell 9); have o10 := fun e => (over_cell (w := wc) (e := e) (o := 10) H.out.1.lt).trans (H.out.1.cell 10); have o11 := fun e => (over_cell (w := wc) (e := e) (o := 11) H.out.1.lt).trans (H.out.1.cell 11); simp only [List.getElem?_toArray, List.getElem?_cons_zero, List.getElem?_cons_succ] at o3 o4 o5 o6 o7 o8 o9 o10 o11
          refine wp_region_over (by kernel_rfl) (by kernel_rfl) ?_
          repeat (first | go_big_quiet_skip | (go_big_quiet_want; go_big_quiet_op; first | go_big_quiet_on | (apply Exists.intro; refine ⟨fun e => ?_, ?_⟩; (focus (first | (go_at_call 58; with_reducible exact calls_over (hn1 _)) | (go_at_call 58; with_reducible exact calls_over (hn2 _)) | (go_at_call 58; with_reducible exact calls_over (hn3 _)))); go_big_quiet_on)))
          refine wpQuiet_nil ?_
          rintro W5 ⟨e5, he5⟩
          have hb5 := over_below wc e5
          rw [← he5] at hb5
          have H5 := Lib.hid (BxAt.step H.out hb5)
          clear H he5 hb5 hn1 hn2 hn3 o3 o4 o5 o6 o7 o8 o9 o10 o11
          have H := Lib.hid H5.out
          clear H5
          have k0 := H.out.1.cell 0; have k1 := H.out.1.cell 1; have k2 := H.out.1.cell 2; have k3 := H.out.1.cell 3; have k4 := H.out.1.cell 4; have k5 := H.out.1.cell 5; have k6 := H.out.1.cell 6; have k7 := H.out.1.cell 7; have k8 := H.out.1.cell 8; have k9 := H.out.1.cell 9; have k10 := H.out.1.cell 10; have k11 := H.out.1.cell 11; have k12 := H.out.1.cell 12; have k13 := H.out.1.cell 13; simp only [List.getElem?_toArray, List.getElem?_cons_zero, List.getElem?_cons_succ] at k0 k1 k2 k3 k4 k5 k6 k7 k8 k9 k10 k11 k12 k13
          obtain ⟨b3, hb3⟩ : ∃ b, (if lf = true then (!(n1 && n2)) && inB pk 1 4096 && inB by_ 1 16777216 else n1 && !n2 && (pk == 0) && (by_ == 0)) = b := ⟨_, rfl⟩
          have HB3 := Lib.hid hb3
          clear hb3
          go_upto_region 6 with fail
          go_cut [88] from 59 (fun vc wx => vc = .bool (lf && !b3) ∧ BxAt w wx 36 #[.int .i64 id, .int .i64 pa, .bool lf, .int .u64 F1, .int .u64 L1, .int .u64 R1, .int .u64 F2, .int .u64 L2, .int .u64 R2, .int .u64 F3, .int .u64 L3, .int .u64 R3, .int .i64 pk, .int .i64 by_])
          case first =>
            cases lf with
            | false =>
              go_wp2_with fail
              go_meet
              exact ⟨rfl, H.out⟩
            | true =>
              have hb3 : ((!(n1 && n2)) && inB pk 1 4096 && inB by_ 1 16777216) = b3 := HB3.out
              cases hnn : (n1 && n2) with
              | true =>
                have hb : b3 = false := by rw [← hb3, hnn]; rfl
                subst hb
                clear hb3
                simp only [Bool.and_eq_true] at hnn
                obtain ⟨rfl, rfl⟩ := hnn
                go_wp2_with fail
                go_meet
                exact ⟨rfl, H.out⟩
              | false =>
                have no : (pk < 1 ∨ 4096 < pk ∨ by_ < 1 ∨ 16777216 < by_) → b3 = false := fun h => by
                  cases b3 with
                  | false => rfl
                  | true => exfalso; have := hb3; rw [hnn] at this; simp [inB] at this; omega
                have yes : ¬ (pk < 1 ∨ 4096 < pk ∨ by_ < 1 ∨ 16777216 < by_) → b3 = true := fun h => by
                  cases b3 with
                  | true => rfl
                  | false => exfalso; have := hb3; rw [hnn] at this; simp [inB] at this; omega
                clear hb3
                have HNO := Lib.hid no
                have HYES := Lib.hid yes
                clear no yes
                cases n1 <;> cases n2
                all_goals first | (exfalso; revert hnn; decide) | skip
                all_goals
                  clear hnn
                  by_cases h1 : pk < 1
                  · have hb := HNO.out (.inl h1)
                    subst hb
                    go_wp2_with fail
                    go_meet
                    exact ⟨rfl, H.out⟩
                  by_cases h2 : 4096 < pk
                  · have hb := HNO.out (.inr (.inl h2))
                    subst hb
                    go_wp2_with fail
                    go_meet
                    exact ⟨rfl, H.out⟩
                  by_cases h3 : by_ < 1
                  · have hb := HNO.out (.inr (.inr (.inl h3)))
                    subst hb
                    go_wp2_with fail
                    go_meet
                    exact ⟨rfl, H.out⟩
                  by_cases h4 : 16777216 < by_
                  · have hb := HNO.out (.inr (.inr (.inr h4)))
                    subst hb
                    go_wp2_with fail
                    go_meet
                    exact ⟨rfl, H.out⟩
                  have hb := HYES.out (by omega)
                  subst hb
                  go_wp2_with fail
                  go_meet
                  exact ⟨rfl, H.out⟩
          case rest =>
            obtain ⟨hvc, hH⟩ := hcut
            rw [hvc]
            clear k0 k1 k2 k3 k4 k5 k6 k7 k8 k9 k10 k11 k12 k13
            clear H hvc
            have H := Lib.hid hH
            clear hH
            cases hs : (lf && !b3) with
            | true =>
              have hb : b3 = false := by cases b3 with | false => rfl | true => simp at hs
              subst hb
              go_wp2_with fail
              go_ret
              exact ⟨130, rfl, by rw [HM.out, HB3.out]; simp, H.out.2⟩
            | false =>
              have HS := Lib.hid hs
              clear hs
              have k0 := H.out.1.cell 0; have k1 := H.out.1.cell 1; have k2 := H.out.1.cell 2; have k3 := H.out.1.cell 3; have k4 := H.out.1.cell 4; have k5 := H.out.1.cell 5; have k6 := H.out.1.cell 6; have k7 := H.out.1.cell 7; have k8 := H.out.1.cell 8; have k9 := H.out.1.cell 9; have k10 := H.out.1.cell 10; have k11 := H.out.1.cell 11; have k12 := H.out.1.cell 12; have k13 := H.out.1.cell 13; simp only [List.getElem?_toArray, List.getElem?_cons_zero, List.getElem?_cons_succ] at k0 k1 k2 k3 k4 k5 k6 k7 k8 k9 k10 k11 k12 k13
              go_upto_region 8 with fail
              go_cut [108] from 89 (fun vc wx => vc = .bool (!lf && !b3) ∧ BxAt w wx 36 #[.int .i64 id, .int .i64 pa, .bool lf, .int .u64 F1, .int .u64 L1, .int .u64 R1, .int .u64 F2, .int .u64 L2, .int .u64 R2, .int .u64 F3, .int .u64 L3, .int .u64 R3, .int .i64 pk, .int .i64 by_])
              case first =>
                cases lf with
                | true =>
                  go_wp2_with fail
                  go_meet
                  exact ⟨rfl, H.out⟩
                | false =>
                  have hb3 : (n1 && !n2 && (pk == 0) && (by_ == 0)) = b3 := HB3.out
                  cases hnn : (n1 && !n2) with
                  | false =>
                    have hb : b3 = false := by rw [← hb3, hnn]; rfl
                    subst hb
                    clear hb3
                    cases n1 <;> cases n2
                    all_goals first | (exfalso; revert hnn; decide) | skip
                    all_goals
                      clear hnn
                      go_wp2_with fail
                      go_meet
                      exact ⟨rfl, H.out⟩
                  | true =>
                    rw [hnn] at hb3
                    cases n1 <;> cases n2
                    all_goals first | (exfalso; revert hnn; decide) | skip
                    clear hnn
                    by_cases h1 : pk = 0
                    · subst h1
                      by_cases h2 : by_ = 0
                      · subst h2
                        have hb : b3 = true := by rw [← hb3]; rfl
                        subst hb
                        clear hb3
                        go_wp2_with fail
                        go_meet
                        exact ⟨rfl, H.out⟩
                      · have heq : (by_ == 0) = false := by simpa using h2
                        have hne : (by_ != 0) = true := by simpa using h2
                        have hb : b3 = false := by rw [← hb3, heq]; rfl
                        subst hb
                        clear hb3 h2
                        go_wp2_with fail
                        go_meet
                        exact ⟨rfl, H.out⟩
                    · have heq : (pk == 0) = false := by simpa using h1
                      have hne : (pk != 0) = true := by simpa using h1
                      have hb : b3 = false := by rw [← hb3, heq]; rfl
                      subst hb
                      clear hb3 h1
                      go_wp2_with fail
                      go_meet
                      exact ⟨rfl, H.out⟩
              case rest =>
                obtain ⟨hvc, hH⟩ := hcut
                rw [hvc]
                clear k0 k1 k2 k3 k4 k5 k6 k7 k8 k9 k10 k11 k12 k13
                clear H hvc
                have H := Lib.hid hH
                clear hH
                cases hs2 : (!lf && !b3) with
                | true =>
                  have hb : b3 = false := by cases b3 with | false => rfl | true => simp at hs2
                  subst hb
                  go_wp2_with fail
                  go_ret
                  exact ⟨130, rfl, by rw [HM.out, HB3.out]; simp, H.out.2⟩
                | false =>
                  have hb : b3 = true := by
                    have h1 := HS.out
                    cases b3 with
                    | true => rfl
                    | false => cases lf <;> simp at h1 hs2
                  subst hb
                  clear hs2 HS
                  have k0 := H.out.1.cell 0; have k1 := H.out.1.cell 1; have k2 := H.out.1.cell 2; have k3 := H.out.1.cell 3; have k4 := H.out.1.cell 4; have k5 := H.out.1.cell 5; have k6 := H.out.1.cell 6; have k7 := H.out.1.cell 7; have k8 := H.out.1.cell 8; have k9 := H.out.1.cell 9; have k10 := H.out.1.cell 10; have k11 := H.out.1.cell 11; have k12 := H.out.1.cell 12; have k13 := H.out.1.cell 13; simp only [List.getElem?_toArray, List.getElem?_cons_zero, List.getElem?_cons_succ] at k0 k1 k2 k3 k4 k5 k6 k7 k8 k9 k10 k11 k12 k13
                  obtain ⟨b4, hb4⟩ : ∃ b, ((n2 || decide (0 < R2)) && (n3 || decide (0 < R3)) && (n3 || !n2)) = b := ⟨_, rfl⟩
                  have HB4 := Lib.hid hb4
                  clear hb4
                  go_upto_region 10 with fail
                  go_cut [131] from 109 (fun vc wx => vc = .bool (!b4) ∧ BxAt w wx 36 #[.int .i64 id, .int .i64 pa, .bool lf, .int .u64 F1, .int .u64 L1, .int .u64 R1, .int .u64 F2, .int .u64 L2, .int .u64 R2, .int .u64 F3, .int .u64 L3, .int .u64 R3, .int .i64 pk, .int .i64 by_])
                  case first =>
                    have hz2 : (R2 == 0) = !decide (0 < R2) := by
                      by_cases h : R2 = 0
                      · subst h; rfl
                      · have h1 : (R2 == 0) = false := by simpa using h
                        rw [h1, decide_eq_true (by omega)]; rfl
                    have hz3 : (R3 == 0) = !decide (0 < R3) := by
                      by_cases h : R3 = 0
                      · subst h; rfl
                      · have h1 : (R3 == 0) = false := by simpa using h
                        rw [h1, decide_eq_true (by omega)]; rfl
                    have hb4 := HB4.out
                    generalize decide (0 < R2) = g2 at hz2 hb4
                    generalize decide (0 < R3) = g3 at hz3 hb4
                    cases n2 <;> cases n3 <;> cases g2 <;> cases g3
                    all_goals
                      subst hb4
                      simp only [Bool.not_true, Bool.not_false] at hz2 hz3
                      go_wp2_with fail
                      go_meet
                      exact ⟨rfl, H.out⟩
                  case rest =>
                    obtain ⟨hvc, hH⟩ := hcut
                    rw [hvc]
                    clear k0 k1 k2 k3 k4 k5 k6 k7 k8 k9 k10 k11 k12 k13
                    clear H hvc
                    have H := Lib.hid hH
                    clear hH
                    cases b4 with
                    | false =>
                      go_wp2_with fail
                      go_ret
                      exact ⟨130, rfl, by rw [HM.out, HB4.out]; simp, H.out.2⟩
                    | true =>
                      have k0 := H.out.1.cell 0; have k1 := H.out.1.cell 1; have k2 := H.out.1.cell 2; have k3 := H.out.1.cell 3; have k4 := H.out.1.cell 4; have k5 := H.out.1.cell 5; have k6 := H.out.1.cell 6; have k7 := H.out.1.cell 7; have k8 := H.out.1.cell 8; have k9 := H.out.1.cell 9; have k10 := H.out.1.cell 10; have k11 := H.out.1.cell 11; have k12 := H.out.1.cell 12; have k13 := H.out.1.cell 13; simp only [List.getElem?_toArray, List.getElem?_cons_zero, List.getElem?_cons_succ] at k0 k1 k2 k3 k4 k5 k6 k7 k8 k9 k10 k11 k12 k13
                      go_upto_region 12 with fail
                      go_cut [143] from 132 (fun vc wx => vc = .bool (!(n1 || n3 || bl)) ∧ BxAt w wx 36 #[.int .i64 id, .int .i64 pa, .bool lf, .int .u64 F1, .int .u64 L1, .int .u64 R1, .int .u64 F2, .int .u64 L2, .int .u64 R2, .int .u64 F3, .int .u64 L3, .int .u64 R3, .int .i64 pk, .int .i64 by_])
                      case first =>
                        cases n1 <;> cases n3 <;> cases bl
                        all_goals
                          go_wp2_with (go_at_call 59; (with_reducible refine (hbl _).mono ?_); rintro e W1 ⟨rfl, hb⟩; have H2 := Lib.hid (BxAt.step H.out hb); clear H hb; clear k0 k1 k2 k3 k4 k5 k6 k7 k8 k9 k10 k11 k12 k13; have H := Lib.hid H2.out; clear H2; have k0 := H.out.1.cell 0; have k1 := H.out.1.cell 1; have k2 := H.out.1.cell 2; have k3 := H.out.1.cell 3; have k4 := H.out.1.cell 4; have k5 := H.out.1.cell 5; have k6 := H.out.1.cell 6; have k7 := H.out.1.cell 7; have k8 := H.out.1.cell 8; have k9 := H.out.1.cell 9; have k10 := H.out.1.cell 10; have k11 := H.out.1.cell 11; have k12 := H.out.1.cell 12; have k13 := H.out.1.cell 13; simp only [List.getElem?_toArray, List.getElem?_cons_zero, List.getElem?_cons_succ] at k0 k1 k2 k3 k4 k5 k6 k7 k8 k9 k10 k11 k12 k13)
                          go_meet
                          exact ⟨rfl, H.out⟩
                      case rest =>
                        obtain ⟨hvc, hH⟩ := hcut
                        rw [hvc]
                        clear k0 k1 k2 k3 k4 k5 k6 k7 k8 k9 k10 k11 k12 k13
                        clear H hvc
                        have H := Lib.hid hH
                        clear hH
                        obtain ⟨b5, hb5⟩ : ∃ b, (n1 || n3 || bl) = b := ⟨_, rfl⟩
                        rw [hb5]
                        have HB5 := Lib.hid hb5
                        clear hb5
                        cases b5 with
                        | false =>
                          go_wp2_with fail
                          go_ret
                          exact ⟨130, rfl, by rw [HM.out, HB5.out]; simp, H.out.2⟩
                        | true =>
                          go_wp2_with fail
                          go_ret
                          exact ⟨0, rfl, by rw [HM.out, HB1.out, HB2.out, HB3.out, HB4.out, HB5.out]; rfl, H.out.2⟩
end Go.Proofs.YtclhhegfffccgaaGreat
/-
  The document's tree: a class comes. (Printed by wip/mkrtadd.py.)
-/
namespace Go.Proofs.YtclhhegfffccgaaGreat
set_option linter.unusedVariables false
open Go.RowKit Go.Maps
attribute [local go_sem ↓] Go.wp_at_zero Go.wp_at_succ
attribute [local go_sem] quietR quietAtR quietUponR midAt midUpon

/-- two appends: the new one, what lies behind it -/
theorem sr_two (ty1 ty2 : TypeId) {A B : List Sp} {e : Sp} {w0 w : World} {x y : Value} (hw : Below w0.heap.size w0 w) (hA : w.ownsRow w0.heap.size 36 14 x A.length (srCells A)) (hB : SrAt w0 y B) (hl : A.length + B.length < 1000000) :
    ∃ a2 c2 w2, (Builtin.append_ #[27, 27] ty1 #[x, .slice (some ⟨w.heap.size, 0, none⟩) 1 1]).run Tryz.prog (w.alloc (.cells (spC e) 36)) = .ok (.slice a2 (A ++ [e]).length c2) w2 ∧ Below w0.heap.size w0 w2 ∧
      ∃ a3 c3 w3, (Builtin.append_ #[27, 27] ty2 #[.slice a2 (A ++ [e]).length c2, y]).run Tryz.prog w2 = .ok (.slice a3 (A ++ [e] ++ B).length c3) w3 ∧ w3.ownsRow w0.heap.size 36 14 (.slice a3 (A ++ [e] ++ B).length c3) (A ++ [e] ++ B).length (srCells (A ++ [e] ++ B)) ∧ Below w0.heap.size w0 w3 := by
  have hb1 := (Below.refl w.heap.size w).alloc (Nat.le_refl _) (.cells (spC e) 36)
  have hb2 := hw.trans (hb1.mono hw.size)
  obtain ⟨v2, w2, r2, o2, b2, g2⟩ := sr_app ty1 (base := w0.heap.size) (A := A) (B := [e]) (sr_lit (Blk.new w 36 (spC e))) (owns_laterS hA hb1) hb2.size (by simp; omega)
  have hb3 := hb2.trans b2
  obtain ⟨a2, c2, e2⟩ := owns_sliceS o2
  rw [e2] at r2 o2
  obtain ⟨v3, w3, r3, o3, b3, g3⟩ := sr_app ty2 (base := w0.heap.size) (A := A ++ [e]) (B := B) (hB.later hb3) o2 hb3.size (by simp; omega)
  obtain ⟨a3, c3, e3⟩ := owns_sliceS o3
  rw [e3] at r3 o3
  exact ⟨a2, c2, w2, r2, hb3, a3, c3, w3, r3, o3, hb3.trans b3⟩
set_option maxRecDepth 100000 in
set_option maxHeartbeats 8000000 in
theorem rtadd_any (p : Nat) (v : Value) (L : List Sp) (s : Sp) (w : World) (h : RtAt w p v L) (hw : WfSp s) (hfew : L.length ≤ 1000) :
    Calls Tryz.prog 9 #[.pointer (some ⟨p, 0, none⟩), spV s] w fun e w' => e = .returned (.int .i64 (addS L s).1) ∧ TurnR w p v (addS L s).2 w' := by
  have hmay := fun W => r13may_any s W hw
  have hb0 := (Below.refl w.heap.size w).alloc (Nat.le_refl _) (.cells (spC s) 36)
  have hB0 := Blk.new w 36 (spC s)
  have H0 := Lib.hid h
  have HBW := Lib.hid hb0
  have H := Lib.hid (h.later hb0)
  unfold MayW at hmay
  unfold spV spC at *
  obtain ⟨a, cap, hv⟩ : ∃ a cap, v = .slice a L.length cap := by obtain ⟨_, a, cap, e, _⟩ := h.sr; exact ⟨a, cap, e⟩
  have HB := Lib.hid hB0
  obtain ⟨ms, hms⟩ : ∃ b, mayS s = b := ⟨_, rfl⟩
  rw [hms] at hmay
  have HMS := Lib.hid hms
  clear h hb0 hB0 hms hw
  obtain ⟨res, hres⟩ : ∃ r, addS L s = r := ⟨_, rfl⟩
  rw [hres]
  have HR := Lib.hid hres
  clear hres
  obtain ⟨id, pa, lf, ⟨F1, L1, R1⟩, ⟨F2, L2, R2⟩, ⟨F3, L3, R3⟩, pk, by_⟩ := s
  dsimp only at HB H HBW hmay ⊢
  go_enter Tryz.func9, Tryz.ntmps9
  go_upto_region 1 with fail
  generalize w.alloc (.cells #[.int .i64 id, .int .i64 pa, .bool lf, .int .u64 F1, .int .u64 L1, .int .u64 R1, .int .u64 F2, .int .u64 L2, .int .u64 R2, .int .u64 F3, .int .u64 L3, .int .u64 R3, .int .i64 pk, .int .i64 by_] 36) = W0 at H HB HBW ⊢
  have k0 := HB.out.cell 0; have k1 := HB.out.cell 1; have k2 := HB.out.cell 2; have k3 := HB.out.cell 3; have k4 := HB.out.cell 4; have k5 := HB.out.cell 5; have k6 := HB.out.cell 6; have k7 := HB.out.cell 7; have k8 := HB.out.cell 8; have k9 := HB.out.cell 9; have k10 := HB.out.cell 10; have k11 := HB.out.cell 11; have k12 := HB.out.cell 12; have k13 := HB.out.cell 13; simp only [List.getElem?_toArray, List.getElem?_cons_zero, List.getElem?_cons_succ] at k0 k1 k2 k3 k4 k5 k6 k7 k8 k9 k10 k11 k12 k13
  go_wp2_with fail
  refine (hmay W0).mono ?_
  clear hmay k0 k1 k2 k3 k4 k5 k6 k7 k8 k9 k10 k11 k12 k13
  rintro e W1 ⟨er, rfl, her, hb1⟩
  have H1 := Lib.hid (H.out.later hb1)
  have HB1 := Lib.hid (HB.out.below hb1 HB.out.lt)
  have HBW1 := Lib.hid (HBW.out.trans (hb1.mono HBW.out.size))
  clear H HB HBW hb1
  have H := H1; have HB := HB1; have HBW := HBW1
  clear H1 HB1 HBW1
  have HNO := Lib.hid (show TurnR w p v L W1 from ⟨v, H.out, fun b hb => .inl hb, Fr.of_below HBW.out⟩)
  by_cases her0 : er = 0
  rotate_left
  · have hne : (er != 0) = true := by simpa using her0
    rw [decide_eq_false her0] at her
    subst her
    have HG := Lib.hid (show res = (130, L) by rw [← HR.out]; unfold addS; rw [if_pos HMS.out])
    clear her0
    go_wp2_with fail
    go_ret
    exact ⟨by rw [HG.out]; rfl, by rw [HG.out]; exact HNO.out⟩
  subst her0
  rw [decide_eq_true rfl] at her
  subst her
  have c0 := H.out.blk.cell 0
  simp only [List.getElem?_toArray, List.getElem?_cons_zero, List.getElem?_cons_succ] at c0
  rw [hv] at c0
  by_cases h64 : 64 ≤ L.length
  · have h64i : (64 : Int) ≤ (L.length : Int) := by omega
    have HG := Lib.hid (show res = (4, L) by rw [← HR.out]; unfold addS; rw [if_neg (by rw [HMS.out]; simp), if_pos h64])
    clear h64
    go_wp2_with fail
    go_ret
    exact ⟨by rw [HG.out]; rfl, by rw [HG.out]; exact HNO.out⟩
  have h64i : ¬ (64 : Int) ≤ (L.length : Int) := by omega
  have hat := rtat_any p v L id W1 H.out
  have k0 := HB.out.cell 0; have k1 := HB.out.cell 1; have k2 := HB.out.cell 2; have k3 := HB.out.cell 3; have k4 := HB.out.cell 4; have k5 := HB.out.cell 5; have k6 := HB.out.cell 6; have k7 := HB.out.cell 7; have k8 := HB.out.cell 8; have k9 := HB.out.cell 9; have k10 := HB.out.cell 10; have k11 := HB.out.cell 11; have k12 := HB.out.cell 12; have k13 := HB.out.cell 13; simp only [List.getElem?_toArray, List.getElem?_cons_zero, List.getElem?_cons_succ] at k0 k1 k2 k3 k4 k5 k6 k7 k8 k9 k10 k11 k12 k13
  go_wp2_with fail
  refine hat.mono ?_
  clear hat h64i k0 k1 k2 k3 k4 k5 k6 k7 k8 k9 k10 k11 k12 k13
  rintro e9 w1 ⟨r, rfl, hpos, hw1⟩
  rw [hw1]
  clear hw1
  rcases hpos with ⟨i, e, he, hid, rfl, hg⟩ | ⟨hnone, rfl, hg⟩
  · have hri : (0 : Int) ≤ (i : Int) := by omega
    have HG := Lib.hid (show res = (80, L) by rw [← HR.out]; unfold addS; rw [if_neg (by rw [HMS.out]; simp), if_neg h64, if_pos (by show (getL L id).isSome = true; rw [hg]; rfl)])
    clear he hid hg h64
    go_wp2_with fail
    go_ret
    exact ⟨by rw [HG.out]; rfl, by rw [HG.out]; exact HNO.out⟩
  have HN := Lib.hid (show (getL L id).isSome = false by rw [hg]; rfl)
  have H64 := Lib.hid h64
  clear hnone hg h64
  obtain ⟨up, hup⟩ : ∃ b, upS L pa = b := ⟨_, rfl⟩
  have hres : res = if up = false then (160, L) else (0, insS L ⟨id, pa, lf, (F1, L1, R1), (F2, L2, R2), (F3, L3, R3), pk, by_⟩) := by
    rw [← HR.out, ← hup]
    unfold addS
    rw [if_neg (by rw [HMS.out]; simp), if_neg H64.out, if_neg (by show ¬ (getL L id).isSome = true; rw [HN.out]; simp)]
  have HRES := Lib.hid hres
  clear hres HR HMS HN
  have k0 := HB.out.cell 0; have k1 := HB.out.cell 1; have k2 := HB.out.cell 2; have k3 := HB.out.cell 3; have k4 := HB.out.cell 4; have k5 := HB.out.cell 5; have k6 := HB.out.cell 6; have k7 := HB.out.cell 7; have k8 := HB.out.cell 8; have k9 := HB.out.cell 9; have k10 := HB.out.cell 10; have k11 := HB.out.cell 11; have k12 := HB.out.cell 12; have k13 := HB.out.cell 13; simp only [List.getElem?_toArray, List.getElem?_cons_zero, List.getElem?_cons_succ] at k0 k1 k2 k3 k4 k5 k6 k7 k8 k9 k10 k11 k12 k13
  go_upto_if 26 with fail
  go_cut [4] from 5 (fun vc wx => vc = .int .i64 0 ∧ up = true ∧ Below W1.heap.size W1 wx)
  case first =>
    by_cases hpa : pa = 0
    · have hne : (pa != 0) = false := by simpa using hpa
      have hut : up = true := by rw [← hup]; unfold upS; simp [hpa]
      clear hup hpa
      go_wp2_with fail
      go_meet
      exact ⟨rfl, hut, Below.refl _ _⟩
    · have hne : (pa != 0) = true := by simpa using hpa
      have hget := rtget_any p v L pa W1 H.out
      have hup2 : (match getL L pa with | none => false | some c => !c.lf && decide ((Go.Proofs.YtclhhegfffccgaaGreat.pathL L (L.length + 1) pa).length < 8)) = up := by
        rw [← hup]; unfold upS; rw [decide_eq_false hpa, Bool.false_or]; rfl
      clear hup hpa
      cases e : getL L pa with
      | none =>
        rw [e] at hget hup2
        have hut : false = up := hup2
        subst hut
        unfold spV spC sp0 at hget
        dsimp only [Option.getD, Option.isSome] at hget
        clear hup2 e
        have HQ := Lib.hid (show res = (160, L) by rw [HRES.out, if_pos rfl])
        go_wp2_with fail
        refine hget.mono ?_
        clear hget c0 k0 k1 k2 k3 k4 k5 k6 k7 k8 k9 k10 k11 k12 k13
        rintro e9 w2 ⟨rfl, hb2⟩
        have hb3 := (Below.refl w2.heap.size w2).alloc (Nat.le_refl _) (.cells #[.int .i64 0, .int .i64 0, .bool false, .int .u64 0, .int .u64 0, .int .u64 0, .int .u64 0, .int .u64 0, .int .u64 0, .int .u64 0, .int .u64 0, .int .u64 0, .int .i64 0, .int .i64 0] 36)
        have HF := Lib.hid (show TurnR w p v L (w2.alloc (.cells #[.int .i64 0, .int .i64 0, .bool false, .int .u64 0, .int .u64 0, .int .u64 0, .int .u64 0, .int .u64 0, .int .u64 0, .int .u64 0, .int .u64 0, .int .u64 0, .int .i64 0, .int .i64 0] 36)) from ⟨v, (H.out.later hb2).later hb3, fun b hb => .inl hb, ((Fr.of_below HBW.out).trans (Fr.of_below hb2)).trans (Fr.of_below hb3)⟩)
        clear hb2 hb3
        go_wp2_with fail
        go_ret
        exact ⟨by rw [HQ.out]; rfl, by rw [HQ.out]; exact HF.out⟩
      | some c =>
        rw [e] at hget hup2
        clear e
        obtain ⟨ci, cpa, clf, ⟨G1, M1, N1⟩, ⟨G2, M2, N2⟩, ⟨G3, M3, N3⟩, cpk, cby⟩ := c
        unfold spV spC at hget
        dsimp only [Option.getD, Option.isSome] at hget hup2
        go_wp2_with fail
        refine hget.mono ?_
        clear hget c0 k0 k1 k2 k3 k4 k5 k6 k7 k8 k9 k10 k11 k12 k13
        rintro e9 w2 ⟨rfl, hb2⟩
        have hb3 := (Below.refl w2.heap.size w2).alloc (Nat.le_refl _) (.cells #[.int .i64 ci, .int .i64 cpa, .bool clf, .int .u64 G1, .int .u64 M1, .int .u64 N1, .int .u64 G2, .int .u64 M2, .int .u64 N2, .int .u64 G3, .int .u64 M3, .int .u64 N3, .int .i64 cpk, .int .i64 cby] 36)
        have hB3 := Lib.hid (hb2.trans (hb3.mono hb2.size))
        have H3 := Lib.hid ((H.out.later hb2).later hb3)
        have HB3 := Lib.hid ((HB.out.below hb2 HB.out.lt).below hb3 (Nat.lt_of_lt_of_le HB.out.lt hb2.size))
        have hpath := rtpath_any p v L pa _ H3.out hfew
        have k1 := HB3.out.cell 1; have k2 := (Blk.new w2 36 #[.int .i64 ci, .int .i64 cpa, .bool clf, .int .u64 G1, .int .u64 M1, .int .u64 N1, .int .u64 G2, .int .u64 M2, .int .u64 N2, .int .u64 G3, .int .u64 M3, .int .u64 N3, .int .i64 cpk, .int .i64 cby]).cell 2
        simp only [List.getElem?_toArray, List.getElem?_cons_zero, List.getElem?_cons_succ] at k1 k2
        clear hb2 hb3
        cases clf with
        | true =>
          have hut : false = up := by rw [← hup2]; rfl
          subst hut
          clear hup2 hpath
          have HQ := Lib.hid (show res = (160, L) by rw [HRES.out, if_pos rfl])
          have HF := Lib.hid (show TurnR w p v L _ from ⟨v, H3.out, fun b hb => .inl hb, (Fr.of_below HBW.out).trans (Fr.of_below hB3.out)⟩)
          go_wp2_with fail
          go_ret
          exact ⟨by rw [HQ.out]; rfl, by rw [HQ.out]; exact HF.out⟩
        | false =>
          obtain ⟨pl, hpl⟩ : ∃ n, (Go.Proofs.YtclhhegfffccgaaGreat.pathL L (L.length + 1) pa).length = n := ⟨_, rfl⟩
          rw [hpl] at hup2
          have HPL := Lib.hid hpl
          clear hpl
          go_wp2_with fail
          refine hpath.mono ?_
          clear hpath k1 k2
          rintro e9 w4 ⟨u, rfl, hown, hb4⟩
          obtain ⟨ua, uc, rfl⟩ := owns_sliceS hown
          rw [HPL.out]
          clear hown
          have hB4 := Lib.hid (hB3.out.trans (hb4.mono hB3.out.size))
          have H4 := Lib.hid (H3.out.later hb4)
          clear hb4
          by_cases h8 : pl < 8
          · have hut : true = up := by rw [← hup2]; simp [h8]
            have h8i : ¬ (8 : Int) ≤ (pl : Int) := by omega
            subst hut
            clear hup2 h8
            go_wp2_with fail
            go_meet
            exact ⟨rfl, by first | rfl | trivial, hB4.out⟩
          · have hut : false = up := by rw [← hup2]; simp [h8]
            have h8i : (8 : Int) ≤ (pl : Int) := by omega
            subst hut
            clear hup2 h8
            have HQ := Lib.hid (show res = (160, L) by rw [HRES.out, if_pos rfl])
            have HF := Lib.hid (show TurnR w p v L w4 from ⟨v, H4.out, fun b hb => .inl hb, (Fr.of_below HBW.out).trans (Fr.of_below hB4.out)⟩)
            go_wp2_with fail
            go_ret
            exact ⟨by rw [HQ.out]; rfl, by rw [HQ.out]; exact HF.out⟩
  case rest =>
    obtain ⟨Wc, rfl⟩ : ∃ W, W = wc := ⟨_, rfl⟩
    obtain ⟨hvc, hut, hbx⟩ := hcut
    rw [hvc]
    subst hut
    have HG := Lib.hid (show res = (0, insS L ⟨id, pa, lf, (F1, L1, R1), (F2, L2, R2), (F3, L3, R3), pk, by_⟩) by rw [HRES.out, if_neg (by simp)])
    have H2 := Lib.hid (H.out.later hbx)
    have HB2 := Lib.hid (HB.out.below hbx HB.out.lt)
    have HBW2 := Lib.hid (HBW.out.trans (hbx.mono HBW.out.size))
    clear hvc hbx hup c0 k0 k1 k2 k3 k4 k5 k6 k7 k8 k9 k10 k11 k12 k13 HNO HRES H HB HBW
    obtain ⟨hl, _⟩ := H2.out.sr
    go_wp2_with fail
    go_loopw [7, 8] (fun vo vi wr => ∃ k : Nat, vi = .int .i64 k ∧ k ≤ L.length ∧ wr.ownsRow Wc.heap.size 36 14 vo (L.take k).length (srCells (L.take k)) ∧ Below Wc.heap.size Wc wr ∧ ∀ (j : Nat) x, j < k → L[j]? = some x → x.id < id) (fun _ vi _ => (L.length - Go.RowKit.intOf vi).toNat)
    case atStart => exact ⟨0, rfl, Nat.zero_le _, World.ownsRow_nil _ _ _ _, Below.refl _ _, fun j x hj => by omega⟩
    case round =>
      obtain ⟨k, rfl, hk, hown, hbr, hlo⟩ := hrel
      have HO := Lib.hid (And.intro hown (And.intro hbr hlo))
      clear hown hbr hlo
      have HR := Lib.hid (H2.out.later HO.out.2.1)
      have HBR := Lib.hid (HB2.out.below HO.out.2.1 HB2.out.lt)
      have c0 := HR.out.blk.cell 0
      simp only [List.getElem?_toArray, List.getElem?_cons_zero, List.getElem?_cons_succ] at c0
      rw [hv] at c0
      obtain ⟨tst, htst⟩ : ∃ t : Bool, (match L[k]? with | some x => decide (x.id < id) | none => false) = t := ⟨_, rfl⟩
      have HT := Lib.hid htst
      clear htst
      go_upto_region 13 with fail
      go_cut [67] from 48 to 68 (fun vc wx => vc = .bool tst ∧ ∃ n, wx = wr.drewN n)
      case first =>
        have k0 := HBR.out.cell 0
        simp only [List.getElem?_toArray, List.getElem?_cons_zero, List.getElem?_cons_succ] at k0
        by_cases hlt : k < L.length
        · obtain ⟨x, hx⟩ : ∃ x, L[k]? = some x := ⟨_, List.getElem?_eq_getElem hlt⟩
          have ht := HT.out
          rw [hx] at ht
          obtain ⟨_, a', cap', e1, h3⟩ := HR.out.sr
          rw [hv] at e1
          cases e1
          obtain ⟨b, off, rfl, hbl, hcap, hc⟩ := h3.resolve_left (fun h => by rw [h] at hlt; cases hlt)
          obtain ⟨q0, -⟩ := sr_row (hc k x hx)
          obtain ⟨xi, xpa, xlf, x4, x5, x6, x7, x8⟩ := x
          (try dsimp only at q0)
          have ht : decide (xi < id) = tst := ht
          have hd : decide ((k : Int) < (L.length : Int)) = true := by simpa using hlt
          clear hc hx h3
          cases tst with
          | true =>
            have hxi : xi < id := by simpa using ht
            clear ht
            go_quiet (fail)
            go_wp2
            go_meet
            exact ⟨rfl, _, rfl⟩
          | false =>
            have hxi : ¬ xi < id := by simpa using ht
            clear ht
            go_quiet (fail)
            go_wp2
            go_meet
            exact ⟨rfl, _, rfl⟩
        · have ht : false = tst := by
            rw [← HT.out, List.getElem?_eq_none (by omega)]
          subst ht
          have hd : decide ((k : Int) < (L.length : Int)) = false := by simpa using hlt
          go_quiet (fail)
          go_wp2
          go_meet
          exact ⟨rfl, _, rfl⟩
      case rest =>
        obtain ⟨hvc, n9, hwc⟩ := hcut
        rw [hvc, hwc]
        clear hvc hwc
        have hbd : Below wr.heap.size wr (wr.drewN n9) := below_drewN (Below.refl _ _) _
        have HO2 := Lib.hid (And.intro (owns_laterS HO.out.1 hbd) (And.intro (HO.out.2.1.trans (hbd.mono HO.out.2.1.size)) HO.out.2.2))
        have HR2 := Lib.hid (HR.out.later hbd)
        have HBR2 := Lib.hid (HBR.out.below hbd HBR.out.lt)
        clear HO HR HBR c0 hbd
        generalize wr.drewN n9 = wq at HO2 HR2 HBR2 ⊢
        have HO := HO2; have HR := HR2; have HBR := HBR2
        clear HO2 HR2 HBR2
        have c0 := HR.out.blk.cell 0
        simp only [List.getElem?_toArray, List.getElem?_cons_zero, List.getElem?_cons_succ] at c0
        rw [hv] at c0
        have hts := HT.out
        cases tst with
        | true =>
          have hlt : k < L.length := Nat.lt_of_not_le fun h => by
            rw [List.getElem?_eq_none h] at hts
            cases hts
          obtain ⟨e, he⟩ : ∃ e, L[k]? = some e := ⟨_, List.getElem?_eq_getElem hlt⟩
          rw [he] at hts
          have hlo2 : ∀ (j : Nat) x, j < k + 1 → L[j]? = some x → x.id < id := fun j x hj hx => by
            by_cases hjk : j = k
            · subst hjk
              rw [hx] at he
              cases he
              exact of_decide_eq_true hts
            · exact HO.out.2.2 j x (by omega) hx
          have HL2 := Lib.hid hlo2
          obtain ⟨_, a', cap', e1, h3⟩ := HR.out.sr
          rw [hv] at e1
          cases e1
          obtain ⟨b, off, rfl, hbl, hcap, hc⟩ := h3.resolve_left (fun h => by rw [h] at hlt; cases hlt)
          obtain ⟨q0, q1, q2, q3, q4, q5, q6, q7, q8, q9, q10, q11, q12, q13⟩ := sr_row (hc k e he)
          have hA : L.take (k + 1) = L.take k ++ [e] := by rw [List.take_add_one, he]; rfl
          have hb3 := (Below.refl wq.heap.size wq).alloc (Nat.le_refl _) (.cells (spC e) 36)
          obtain ⟨v', w', hr, ho', hbl', hg⟩ := sr_app 27 (base := Wc.heap.size) (A := L.take k) (B := [e]) (sr_lit (Blk.new wq 36 (spC e))) (owns_laterS HO.out.1 hb3) (Nat.le_trans HO.out.2.1.size hb3.size) (by rw [List.length_take]; simp; omega)
          rw [← hA] at ho'
          have hb4 : Below Wc.heap.size Wc w' := (HO.out.2.1.trans (hb3.mono HO.out.2.1.size)).trans hbl'
          have HF := Lib.hid (And.intro ho' (And.intro hb4 HL2.out))
          have hki : (0 : Int) ≤ (k : Int) := by omega
          have hkl : (k : Int) < (L.length : Int) := by omega
          obtain ⟨xi, xpa, xlf, ⟨X4, X5, X6⟩, ⟨X7, X8, X9⟩, ⟨Y1, Y2, Y3⟩, xpk, xby⟩ := e
          unfold spC at hr
          dsimp only at q0 q1 q2 q3 q4 q5 q6 q7 q8 q9 q10 q11 q12 q13 hr
          obtain ⟨oa, oc, hoe⟩ := owns_sliceS HO.out.1
          clear hts he hlo2 h3 hc hA hb3 ho' hbl' hg hb4 HO
          subst hoe
          go_wp2_with (at_builtin; refine wpList_append_runH rfl _ _ _ rfl _ _ _ rfl rfl hr ?_; clear hr)
          go_roundw
          case measure => (simp [Go.RowKit.intOf]; try omega)
          case rel => exact ⟨k + 1, by go_num, by omega, HF.out.1, HF.out.2.1, HF.out.2.2⟩
        | false =>
          have hins : insS L ⟨id, pa, lf, (F1, L1, R1), (F2, L2, R2), (F3, L3, R3), pk, by_⟩ = L.take k ++ ⟨id, pa, lf, (F1, L1, R1), (F2, L2, R2), (F3, L3, R3), pk, by_⟩ :: L.drop k := insS_at (fun j x hj hx => HO.out.2.2 j x hj hx) (fun x hx => by
            rw [hx] at hts
            exact of_decide_eq_false hts) hk
          have HI := Lib.hid hins
          have hlk : (L.take k).length = k := by rw [List.length_take]; omega
          obtain ⟨oa, oc, hoe⟩ := owns_sliceS HO.out.1
          rw [hlk] at hoe
          subst hoe
          have hki : (0 : Int) ≤ (k : Int) := by omega
          have hkl : (k : Int) ≤ (L.length : Int) := by omega
          have hsr := H2.out.sr
          clear hts hins HR HBR
          rcases H2.out.own.2 with ⟨hnil, hl0⟩ | ⟨g9, cap9, cur9, hv9, -, hg9, hcap9, -⟩
          · have hL : L = [] := List.eq_nil_of_length_eq_zero hl0
            obtain rfl : k = 0 := by rw [hl0] at hk; omega
            rw [hnil] at hv hsr
            simp only [Value.slice.injEq] at hv
            obtain ⟨rfl, hL0, rfl⟩ := hv
            rw [← hL0] at c0
            have hdp : SrAt Wc (.slice none 0 0) (L.drop 0) := by rw [hL]; exact ⟨by simp, none, 0, rfl, .inl rfl⟩
            have HL0 := Lib.hid (And.intro hL hl0)
            clear hL0 hL hl0
            subst hnil
            obtain ⟨a2, c2, w2, r1, hbb2, a3, c3, w3, r2, o3, hbb⟩ := sr_two 27 27 (e := ⟨id, pa, lf, (F1, L1, R1), (F2, L2, R2), (F3, L3, R3), pk, by_⟩) HO.out.2.1 HO.out.1 hdp (by rw [List.length_take, List.length_drop]; omega)
            unfold spC at r1
            dsimp only at r1
            rw [show (L.take 0 ++ [(⟨id, pa, lf, (F1, L1, R1), (F2, L2, R2), (F3, L3, R3), pk, by_⟩ : Sp)]).length = 1 by rw [List.length_append, List.length_take, List.length_cons, List.length_nil]; omega] at r1 r2
            obtain ⟨N9, hN9⟩ : ∃ n, (L.take 0 ++ [(⟨id, pa, lf, (F1, L1, R1), (F2, L2, R2), (F3, L3, R3), pk, by_⟩ : Sp)] ++ L.drop 0).length = n := ⟨_, rfl⟩
            rw [hN9] at r2 o3
            have hfin : TurnR w p (.slice none 0 0) (insS L ⟨id, pa, lf, (F1, L1, R1), (F2, L2, R2), (F3, L3, R3), pk, by_⟩) (w3.setCell ⟨p, 0, none⟩ (.slice a3 N9 c3)) := by
              have hl9 : N9 ≤ 1000000 := by rw [← hN9]; simp only [List.length_append, List.length_take, List.length_drop, List.length_cons, List.length_nil]; omega
              have o4 := o3
              rw [← hN9] at o4 hl9
              have hlf := SrAt.of_owns o4 hl9
              have hcat : L.take 0 ++ [(⟨id, pa, lf, (F1, L1, R1), (F2, L2, R2), (F3, L3, R3), pk, by_⟩ : Sp)] ++ L.drop 0 = insS L ⟨id, pa, lf, (F1, L1, R1), (F2, L2, R2), (F3, L3, R3), pk, by_⟩ := by rw [HI.out]; simp
              have hfar : ∀ b, (Value.slice a3 N9 c3).ownBlock = some b → b ≠ p := fun b hb => by
                have := (owns_geS o3 b hb).1
                have := H2.out.blk.lt
                omega
              rw [hcat] at o4 hlf
              rw [show (insS L ⟨id, pa, lf, (F1, L1, R1), (F2, L2, R2), (F3, L3, R3), pk, by_⟩).length = N9 by rw [← hcat, hN9]] at o4 hlf
              refine ⟨_, ⟨(H2.out.blk.below hbb H2.out.blk.lt).set_ 0 _, ?_, ?_⟩, fun b hb => .inr (Nat.le_trans HBW2.out.size (owns_geS o3 b hb).1), ((Fr.of_below HBW2.out).trans (Fr.of_below hbb)).trans (Fr.setT rfl)⟩
              · exact hlf.kept (by simp) fun b hb _ => Below.heap_setCell _ ⟨p, 0, none⟩ _ b (hfar b hb)
              · rw [show (insS L ⟨id, pa, lf, (F1, L1, R1), (F2, L2, R2), (F3, L3, R3), pk, by_⟩).length = N9 by rw [← hcat, hN9]]
                exact owns_heapS (owns_baseS o4 (Nat.zero_le _)) fun b hb => Below.heap_setCell _ ⟨p, 0, none⟩ _ b (hfar b hb)
            have HFIN := Lib.hid hfin
            have cc3 := (H2.out.blk.below hbb H2.out.blk.lt).cell 0
            have ff3 := (H2.out.blk.below hbb H2.out.blk.lt).frozen 0
            simp only [List.getElem?_toArray, List.getElem?_cons_zero, List.getElem?_cons_succ] at cc3
            have hBox := HB2.out.below HO.out.2.1 HB2.out.lt
            have k0 := hBox.cell 0; have k1 := hBox.cell 1; have k2 := hBox.cell 2; have k3 := hBox.cell 3; have k4 := hBox.cell 4; have k5 := hBox.cell 5; have k6 := hBox.cell 6; have k7 := hBox.cell 7; have k8 := hBox.cell 8; have k9 := hBox.cell 9; have k10 := hBox.cell 10; have k11 := hBox.cell 11; have k12 := hBox.cell 12; have k13 := hBox.cell 13; simp only [List.getElem?_toArray, List.getElem?_cons_zero, List.getElem?_cons_succ] at k0 k1 k2 k3 k4 k5 k6 k7 k8 k9 k10 k11 k12 k13
            clear hdp hfin hbb hbb2 o3 hN9 hBox
            go_wp2_with (at_builtin; first | (refine wpList_append_runH rfl _ _ _ rfl _ _ _ rfl rfl r1 ?_; clear r1) | (refine wpList_append_runH rfl _ _ _ rfl _ _ _ rfl rfl r2 ?_; clear r2))
            go_ret
            exact ⟨by rw [HG.out]; rfl, by rw [HG.out]; exact HFIN.out⟩
          · rw [hv] at hv9
            cases hv9
            rw [hv] at hsr
            have hdp := sr_drop hsr hk
            rcases Classical.em (cap = k) with hce | hce
            · rw [if_pos hce] at hdp
              have hce2 : (cap = k) = True := eq_true hce
              clear hce
              obtain ⟨a2, c2, w2, r1, hbb2, a3, c3, w3, r2, o3, hbb⟩ := sr_two 27 27 (e := ⟨id, pa, lf, (F1, L1, R1), (F2, L2, R2), (F3, L3, R3), pk, by_⟩) HO.out.2.1 HO.out.1 hdp (by rw [List.length_take, List.length_drop]; omega)
              unfold spC at r1
              dsimp only at r1
              rw [show (L.take k ++ [(⟨id, pa, lf, (F1, L1, R1), (F2, L2, R2), (F3, L3, R3), pk, by_⟩ : Sp)]).length = k + 1 by rw [List.length_append, List.length_take, List.length_cons, List.length_nil]; omega] at r1 r2
              obtain ⟨N9, hN9⟩ : ∃ n, (L.take k ++ [(⟨id, pa, lf, (F1, L1, R1), (F2, L2, R2), (F3, L3, R3), pk, by_⟩ : Sp)] ++ L.drop k).length = n := ⟨_, rfl⟩
              rw [hN9] at r2 o3
              have hfin : TurnR w p (.slice (some ⟨g9, 0, none⟩) L.length cap) (insS L ⟨id, pa, lf, (F1, L1, R1), (F2, L2, R2), (F3, L3, R3), pk, by_⟩) (w3.setCell ⟨p, 0, none⟩ (.slice a3 N9 c3)) := by
                have hl9 : N9 ≤ 1000000 := by rw [← hN9]; simp only [List.length_append, List.length_take, List.length_drop, List.length_cons, List.length_nil]; omega
                have o4 := o3
                rw [← hN9] at o4 hl9
                have hlf := SrAt.of_owns o4 hl9
                have hcat : L.take k ++ [(⟨id, pa, lf, (F1, L1, R1), (F2, L2, R2), (F3, L3, R3), pk, by_⟩ : Sp)] ++ L.drop k = insS L ⟨id, pa, lf, (F1, L1, R1), (F2, L2, R2), (F3, L3, R3), pk, by_⟩ := by rw [HI.out]; simp
                have hfar : ∀ b, (Value.slice a3 N9 c3).ownBlock = some b → b ≠ p := fun b hb => by
                  have := (owns_geS o3 b hb).1
                  have := H2.out.blk.lt
                  omega
                rw [hcat] at o4 hlf
                rw [show (insS L ⟨id, pa, lf, (F1, L1, R1), (F2, L2, R2), (F3, L3, R3), pk, by_⟩).length = N9 by rw [← hcat, hN9]] at o4 hlf
                refine ⟨_, ⟨(H2.out.blk.below hbb H2.out.blk.lt).set_ 0 _, ?_, ?_⟩, fun b hb => .inr (Nat.le_trans HBW2.out.size (owns_geS o3 b hb).1), ((Fr.of_below HBW2.out).trans (Fr.of_below hbb)).trans (Fr.setT rfl)⟩
                · exact hlf.kept (by simp) fun b hb _ => Below.heap_setCell _ ⟨p, 0, none⟩ _ b (hfar b hb)
                · rw [show (insS L ⟨id, pa, lf, (F1, L1, R1), (F2, L2, R2), (F3, L3, R3), pk, by_⟩).length = N9 by rw [← hcat, hN9]]
                  exact owns_heapS (owns_baseS o4 (Nat.zero_le _)) fun b hb => Below.heap_setCell _ ⟨p, 0, none⟩ _ b (hfar b hb)
              have HFIN := Lib.hid hfin
              have cc3 := (H2.out.blk.below hbb H2.out.blk.lt).cell 0
              have ff3 := (H2.out.blk.below hbb H2.out.blk.lt).frozen 0
              simp only [List.getElem?_toArray, List.getElem?_cons_zero, List.getElem?_cons_succ] at cc3
              have hBox := HB2.out.below HO.out.2.1 HB2.out.lt
              have k0 := hBox.cell 0; have k1 := hBox.cell 1; have k2 := hBox.cell 2; have k3 := hBox.cell 3; have k4 := hBox.cell 4; have k5 := hBox.cell 5; have k6 := hBox.cell 6; have k7 := hBox.cell 7; have k8 := hBox.cell 8; have k9 := hBox.cell 9; have k10 := hBox.cell 10; have k11 := hBox.cell 11; have k12 := hBox.cell 12; have k13 := hBox.cell 13; simp only [List.getElem?_toArray, List.getElem?_cons_zero, List.getElem?_cons_succ] at k0 k1 k2 k3 k4 k5 k6 k7 k8 k9 k10 k11 k12 k13
              clear hdp hfin hbb hbb2 o3 hN9 hBox
              go_wp2_with (at_builtin; first | (refine wpList_append_runH rfl _ _ _ rfl _ _ _ rfl rfl r1 ?_; clear r1) | (refine wpList_append_runH rfl _ _ _ rfl _ _ _ rfl rfl r2 ?_; clear r2))
              go_ret
              exact ⟨by rw [HG.out]; rfl, by rw [HG.out, hv]; exact HFIN.out⟩
            · rw [if_neg hce] at hdp
              simp only [Option.map_some, Addr.add_lit, Nat.zero_add] at hdp
              obtain ⟨a2, c2, w2, r1, hbb2, a3, c3, w3, r2, o3, hbb⟩ := sr_two 27 27 (e := ⟨id, pa, lf, (F1, L1, R1), (F2, L2, R2), (F3, L3, R3), pk, by_⟩) HO.out.2.1 HO.out.1 hdp (by rw [List.length_take, List.length_drop]; omega)
              unfold spC at r1
              dsimp only at r1
              rw [show (L.take k ++ [(⟨id, pa, lf, (F1, L1, R1), (F2, L2, R2), (F3, L3, R3), pk, by_⟩ : Sp)]).length = k + 1 by rw [List.length_append, List.length_take, List.length_cons, List.length_nil]; omega] at r1 r2
              obtain ⟨N9, hN9⟩ : ∃ n, (L.take k ++ [(⟨id, pa, lf, (F1, L1, R1), (F2, L2, R2), (F3, L3, R3), pk, by_⟩ : Sp)] ++ L.drop k).length = n := ⟨_, rfl⟩
              rw [hN9] at r2 o3
              have hfin : TurnR w p (.slice (some ⟨g9, 0, none⟩) L.length cap) (insS L ⟨id, pa, lf, (F1, L1, R1), (F2, L2, R2), (F3, L3, R3), pk, by_⟩) (w3.setCell ⟨p, 0, none⟩ (.slice a3 N9 c3)) := by
                have hl9 : N9 ≤ 1000000 := by rw [← hN9]; simp only [List.length_append, List.length_take, List.length_drop, List.length_cons, List.length_nil]; omega
                have o4 := o3
                rw [← hN9] at o4 hl9
                have hlf := SrAt.of_owns o4 hl9
                have hcat : L.take k ++ [(⟨id, pa, lf, (F1, L1, R1), (F2, L2, R2), (F3, L3, R3), pk, by_⟩ : Sp)] ++ L.drop k = insS L ⟨id, pa, lf, (F1, L1, R1), (F2, L2, R2), (F3, L3, R3), pk, by_⟩ := by rw [HI.out]; simp
                have hfar : ∀ b, (Value.slice a3 N9 c3).ownBlock = some b → b ≠ p := fun b hb => by
                  have := (owns_geS o3 b hb).1
                  have := H2.out.blk.lt
                  omega
                rw [hcat] at o4 hlf
                rw [show (insS L ⟨id, pa, lf, (F1, L1, R1), (F2, L2, R2), (F3, L3, R3), pk, by_⟩).length = N9 by rw [← hcat, hN9]] at o4 hlf
                refine ⟨_, ⟨(H2.out.blk.below hbb H2.out.blk.lt).set_ 0 _, ?_, ?_⟩, fun b hb => .inr (Nat.le_trans HBW2.out.size (owns_geS o3 b hb).1), ((Fr.of_below HBW2.out).trans (Fr.of_below hbb)).trans (Fr.setT rfl)⟩
                · exact hlf.kept (by simp) fun b hb _ => Below.heap_setCell _ ⟨p, 0, none⟩ _ b (hfar b hb)
                · rw [show (insS L ⟨id, pa, lf, (F1, L1, R1), (F2, L2, R2), (F3, L3, R3), pk, by_⟩).length = N9 by rw [← hcat, hN9]]
                  exact owns_heapS (owns_baseS o4 (Nat.zero_le _)) fun b hb => Below.heap_setCell _ ⟨p, 0, none⟩ _ b (hfar b hb)
              have HFIN := Lib.hid hfin
              have cc3 := (H2.out.blk.below hbb H2.out.blk.lt).cell 0
              have ff3 := (H2.out.blk.below hbb H2.out.blk.lt).frozen 0
              simp only [List.getElem?_toArray, List.getElem?_cons_zero, List.getElem?_cons_succ] at cc3
              have hBox := HB2.out.below HO.out.2.1 HB2.out.lt
              have k0 := hBox.cell 0; have k1 := hBox.cell 1; have k2 := hBox.cell 2; have k3 := hBox.cell 3; have k4 := hBox.cell 4; have k5 := hBox.cell 5; have k6 := hBox.cell 6; have k7 := hBox.cell 7; have k8 := hBox.cell 8; have k9 := hBox.cell 9; have k10 := hBox.cell 10; have k11 := hBox.cell 11; have k12 := hBox.cell 12; have k13 := hBox.cell 13; simp only [List.getElem?_toArray, List.getElem?_cons_zero, List.getElem?_cons_succ] at k0 k1 k2 k3 k4 k5 k6 k7 k8 k9 k10 k11 k12 k13
              clear hdp hfin hbb hbb2 o3 hN9 hBox
              go_wp2_with (at_builtin; first | (refine wpList_append_runH rfl _ _ _ rfl _ _ _ rfl rfl r1 ?_; clear r1) | (refine wpList_append_runH rfl _ _ _ rfl _ _ _ rfl rfl r2 ?_; clear r2))
              go_ret
              exact ⟨by rw [HG.out]; rfl, by rw [HG.out, hv]; exact HFIN.out⟩
end Go.Proofs.YtclhhegfffccgaaGreat
/-
  The document's tree, in plain words: a class's curves are changed.
-/
namespace Go.Proofs.YtclhhegfffccgaaGreat
set_option linter.unusedVariables false
open Go.RowKit Go.Maps

/-- the one of an id is replaced -/
def setS (L : List Sp) (c : Sp) : List Sp := L.map fun e => if e.id = c.id then c else e
noncomputable def changeS (L : List Sp) (s : Sp) : Int × List Sp := match getL L s.id with
  | none => (81, L)
  | some c => if mayS (withC c s) = false then (130, L) else (0, setS L (withC c s))
theorem setS_no {c : Sp} : ∀ {L : List Sp}, (∀ e ∈ L, e.id ≠ c.id) → setS L c = L
  | [], _ => rfl
  | x :: L, h => by
    unfold setS
    rw [List.map_cons, if_neg (h x (List.mem_cons_self ..))]
    exact congrArg (x :: ·) (setS_no fun e he => h e (List.mem_cons_of_mem _ he))
theorem setS_at {c : Sp} : ∀ {L : List Sp} {i : Nat} {e : Sp}, (L.Pairwise fun a b => a.id ≠ b.id) → L[i]? = some e → e.id = c.id → setS L c = L.set i c
  | [], i, e, _, h, _ => by cases h
  | x :: L, 0, e, hp, h, he => by
    cases h
    unfold setS
    rw [List.map_cons, if_pos he]
    exact congrArg (c :: ·) (setS_no fun y hy hh => (List.pairwise_cons.1 hp).1 y hy (he.trans hh.symm))
  | x :: L, i + 1, e, hp, h, he => by
    have hx : x.id ≠ c.id := fun hh => (List.pairwise_cons.1 hp).1 e (List.mem_of_getElem? h) (hh.trans he.symm)
    unfold setS
    rw [List.map_cons, if_neg hx]
    exact congrArg (x :: ·) (setS_at (List.pairwise_cons.1 hp).2 h he)
theorem sps_set {c : Sp} {d : Int} : ∀ {M : Mp}, (∀ q ∈ M, q.2.1.id = q.1) → Rising M → (lookM M c.id).isSome = true → setS (sps M) c = sps (putM M c.id (c, d))
  | [], _, _, h => by cases h
  | q :: M, h, hr, hs => by
    have hk := h q (List.mem_cons_self ..)
    have hr1 := (List.pairwise_cons.1 hr).1
    show (if q.2.1.id = c.id then c else q.2.1) :: setS (sps M) c = sps (if c.id < q.1 then (c.id, (c, d)) :: q :: M else if q.1 = c.id then (c.id, (c, d)) :: M else q :: putM M c.id (c, d))
    rw [hk]
    by_cases e : q.1 = c.id
    · rw [if_pos e, if_neg (by omega), if_pos e]
      refine congrArg (c :: ·) (setS_no fun y hy => ?_)
      obtain ⟨z, hz, rfl⟩ := List.mem_map.1 hy
      have := hr1 z hz
      rw [h z (List.mem_cons_of_mem _ hz)]
      omega
    · rw [if_neg e]
      have hs2 : (lookM M c.id).isSome = true := by
        rw [show lookM (q :: M) c.id = if q.1 = c.id then some q.2 else lookM M c.id from rfl, if_neg e] at hs
        exact hs
      obtain ⟨v, hv⟩ := Option.isSome_iff_exists.1 hs2
      have := hr1 _ (mem_of_look hv)
      dsimp only at this
      rw [if_neg (by omega), if_neg e, sps_set (d := d) (fun x hx => h x (List.mem_cons_of_mem _ hx)) (List.pairwise_cons.1 hr).2 hs2]
      rfl
theorem InvT.changeS {M : Mp} (h : InvT M) (s : Sp) : changeS (sps M) s = ((changeM M s).1, sps (changeM M s).2) := by
  unfold Go.Proofs.YtclhhegfffccgaaGreat.changeS changeM
  rw [getL_sps h.key]
  cases e : lookM M s.id with
  | none => rfl
  | some c =>
    show (if mayS (withC c.1 s) = false then _ else _) = _
    dsimp only
    by_cases h1 : mayS (withC c.1 s) = false
    · rw [if_pos h1, if_pos h1]
    · rw [if_neg h1, if_neg h1]
      have hid : (withC c.1 s).id = s.id := (h.ok _ _ e).id
      have := sps_set (c := withC c.1 s) (d := c.2) h.key h.rise (by rw [hid, e]; rfl)
      rw [hid] at this
      rw [this]
end Go.Proofs.YtclhhegfffccgaaGreat
/-
  The document's tree: a class's curves are changed. (Printed by wip/mkrtchange.py.)
-/
namespace Go.Proofs.YtclhhegfffccgaaGreat
set_option linter.unusedVariables false
open Go.RowKit Go.Maps
attribute [local go_sem ↓] Go.wp_at_zero Go.wp_at_succ
attribute [local go_sem] quietR quietAtR quietUponR midAt midUpon plain plainUpon

theorem plain_store_at {P : Program} {o : Oper} {a : Act} {W : World} {K : Act → World → Prop} (ty : TypeId) (x y : Operand) (b off : Nat) (cs : List Value) (t : TypeId) (cur : Array Value) (hB : Blk W b t cur) (hsz : off + cs.length ≤ cur.size) (ho : o.op = .store ty x y) (hx : a.eval x = .pointer (some ⟨b, off, none⟩)) (hy : a.eval y = .agg cs.toArray)
    (hi : (P.info? ty).map (·.size) = some cs.length) (h1 : cs.toArray.all (·.oneCell') = true) (h : K (a.put o.dst undef) (W.setCells b off cs)) : plain P o a W K := by
  have hr := run_storeVar_mid (P := P) W b off ty cs.toArray (fun j hj => by
    have hj : j < cs.length := by simpa using hj
    exact ⟨by rw [hB.cell, Array.getElem?_eq_getElem (by omega)]; rfl, hB.frozen _⟩) (by simpa using hi) h1
  unfold plain execOp
  simp only [ho, hx, hy, Instr.storeAt, Instr.sureAddr, Sem.run_bind, Sem.run_pure, Result.andThen_ok, hr, plainUpon]
  simpa using h
theorem owns_set {W : World} {L : List Sp} {g cap i : Nat} {c : Sp} (h : W.ownsRow 0 36 14 (.slice (some ⟨g, 0, none⟩) L.length cap) L.length (srCells L)) (hi : i < L.length) :
    (W.setCells g (i * 14) (spL c)).ownsRow 0 36 14 (.slice (some ⟨g, 0, none⟩) (L.set i c).length cap) (L.set i c).length (srCells (L.set i c)) := by
  refine ⟨by rw [srCells_length], ?_⟩
  rcases h.2 with ⟨h0, _⟩ | ⟨g', cap', cur, e, h1, h2, h3, h4, h5, h6⟩
  · cases h0
  cases e
  refine .inr ⟨g, cap, setL cur (i * 14) (spL c), by rw [List.length_set], h1, Blk.setCells (spL c) (i * 14) h2, by rw [List.length_set]; exact h3, h4, by rw [setL_size]; exact h5, ?_⟩
  have hat : ∀ k, k < L.length * 14 → cur[k]? = (srCells L)[k]? := fun k hk => by
    rw [← h6, List.getElem?_take, if_pos hk]
    simp
  apply List.ext_getElem?
  intro k
  rw [List.length_set]
  by_cases hk : k < L.length * 14
  · rw [List.getElem?_take, if_pos hk, Array.getElem?_toList, setL_at _ _ _ _ (by rw [h5]; have : L.length * 14 ≤ cap * 14 := Nat.mul_le_mul_right _ h3; omega), spL_len]
    have hd : k = k / 14 * 14 + k % 14 := by omega
    have hm : k % 14 < 14 := by omega
    by_cases hin : k / 14 = i
    · rw [if_pos (by omega)]
      have hs : (L.set i c)[k / 14]? = some c := by rw [hin, List.getElem?_set, if_pos rfl, if_pos hi]
      rw [hd, srCells_at _ _ c _ hs hm]
      congr 1
      omega
    · rw [if_neg (by omega), hat k hk]
      obtain ⟨e, he⟩ : ∃ e, L[k / 14]? = some e := ⟨_, List.getElem?_eq_getElem (by omega)⟩
      have hs : (L.set i c)[k / 14]? = some e := by rw [List.getElem?_set, if_neg (fun h => hin h.symm)]; exact he
      rw [hd, srCells_at _ _ e _ hs hm, srCells_at _ _ e _ he hm]
  · rw [List.getElem?_eq_none (by rw [List.length_take]; omega), List.getElem?_eq_none (by rw [srCells_length, List.length_set]; omega)]
/-- the document's tree turned, its row in place -/
def TurnC (w : World) (p : Nat) (v : Value) (L : List Sp) (w' : World) : Prop := ∃ v', RtAt w' p v' L ∧ (∀ b, v'.ownBlock = some b → v.ownBlock = some b ∨ w.heap.size ≤ b) ∧ Fr (fun b => b = p ∨ v.ownBlock = some b) w w'
theorem TurnR.c {w w' : World} {p : Nat} {v : Value} {L : List Sp} (h : TurnR w p v L w') : TurnC w p v L w' := by
  obtain ⟨v', h1, h2, h3⟩ := h
  exact ⟨v', h1, h2, h3.weak fun b _ h => .inl h⟩
theorem TurnC.same {w w' : World} {p : Nat} {v : Value} {L : List Sp} (h : RtAt w p v L) (hb : Below w.heap.size w w') : TurnC w p v L w' := ⟨v, h.later hb, fun b hb => .inl hb, Fr.of_below hb⟩
set_option maxRecDepth 100000 in
set_option maxHeartbeats 8000000 in
theorem rtchange_any (p : Nat) (v : Value) (L : List Sp) (s : Sp) (w : World) (h : RtAt w p v L) (hw : WfSp s) (hL : ∀ e ∈ L, WfSp e) (hinv : L.Pairwise fun a b => a.id ≠ b.id) :
    Calls Tryz.prog 25 #[.pointer (some ⟨p, 0, none⟩), spV s] w fun e w' => e = .returned (.int .i64 (changeS L s).1) ∧ TurnC w p v (changeS L s).2 w' := by
  have hb0 := (Below.refl w.heap.size w).alloc (Nat.le_refl _) (.cells (spC s) 36)
  have hB0 := Blk.new w 36 (spC s)
  have H0 := Lib.hid (And.intro h (And.intro hw (And.intro hL hinv)))
  have HBW := Lib.hid hb0
  have HB := Lib.hid hB0
  have hat := rtat_any p v L s.id _ (h.later hb0)
  unfold spV
  unfold spC at *
  obtain ⟨a, cap, hv⟩ : ∃ a cap, v = .slice a L.length cap := by obtain ⟨_, a, cap, e, _⟩ := h.sr; exact ⟨a, cap, e⟩
  clear h hw hL hinv hb0 hB0
  go_enter Tryz.func25, Tryz.ntmps25
  go_upto_region 1 with fail
  generalize w.alloc (.cells #[.int .i64 s.id, .int .i64 s.pa, .bool s.lf, .int .u64 s.r.1, .int .u64 s.r.2.1, .int .u64 s.r.2.2, .int .u64 s.s.1, .int .u64 s.s.2.1, .int .u64 s.s.2.2, .int .u64 s.u.1, .int .u64 s.u.2.1, .int .u64 s.u.2.2, .int .i64 s.pk, .int .i64 s.by_] 36) = W0 at hat HB HBW ⊢
  have k0 := HB.out.cell 0
  simp only [List.getElem?_toArray, List.getElem?_cons_zero, List.getElem?_cons_succ] at k0
  go_wp2_with fail
  refine hat.mono ?_
  clear hat k0
  rintro e9 w1 ⟨r, rfl, hpos, hw1⟩
  rw [hw1]
  clear hw1
  rcases hpos with ⟨i, e, he, hid, rfl, hg⟩ | ⟨_, rfl, hg⟩
  rotate_left
  · have HG := Lib.hid (show changeS L s = (81, L) by unfold changeS; rw [hg])
    clear hg
    go_wp2_with fail
    go_ret
    exact ⟨by rw [HG.out]; rfl, by rw [HG.out]; exact TurnC.same H0.out.1 HBW.out⟩
  have hlt := (List.getElem?_eq_some_iff.1 he).1
  have hni : ¬ (i : Int) < 0 := by omega
  have hni0 : (0 : Int) ≤ (i : Int) := by omega
  have hlti : (i : Int) < (L.length : Int) := by omega
  have H := Lib.hid (H0.out.1.later HBW.out)
  have c0 := H.out.blk.cell 0
  simp only [List.getElem?_toArray, List.getElem?_cons_zero, List.getElem?_cons_succ] at c0
  rw [hv] at c0
  have hown := H.out.own
  have hsr := H.out.sr
  rw [hv] at hown hsr
  obtain ⟨_, a', cap', e1, h3⟩ := hsr
  cases e1
  obtain ⟨b, off, rfl, hbl, hcap, hc⟩ := h3.resolve_left (fun h => by rw [h] at hlt; cases hlt)
  obtain rfl : off = 0 := by
    rcases hown.2 with ⟨h0, _⟩ | ⟨g', cap', cur, e, _⟩
    · cases h0
    · cases e; rfl
  obtain ⟨q0, q1, q2, q3, q4, q5, q6, q7, q8, q9, q10, q11, q12, q13⟩ := sr_row (hc i e he)
  have hne : b ≠ p := by
    rintro rfl
    rcases hown.2 with ⟨h0, _⟩ | ⟨g', cap', cur, e, _, h2, _⟩
    · cases h0
    · cases e
      have := h2.symm.trans H.out.blk
      simp only [Option.some.injEq, Obj.cells.injEq] at this
      exact absurd this.2.1 (by decide)
  have HO := Lib.hid (And.intro hown (And.intro hbl (And.intro hne (And.intro he (And.intro hid (And.intro hg hlt))))))
  have hb1 := (Below.refl W0.heap.size W0).alloc (Nat.le_refl _) (.cells #[.int .i64 e.id, .int .i64 e.pa, .bool e.lf, .int .u64 e.r.1, .int .u64 e.r.2.1, .int .u64 e.r.2.2, .int .u64 e.s.1, .int .u64 e.s.2.1, .int .u64 e.s.2.2, .int .u64 e.u.1, .int .u64 e.u.2.1, .int .u64 e.u.2.2, .int .i64 e.pk, .int .i64 e.by_] 36)
  have hB1 := Blk.new W0 36 #[.int .i64 e.id, .int .i64 e.pa, .bool e.lf, .int .u64 e.r.1, .int .u64 e.r.2.1, .int .u64 e.r.2.2, .int .u64 e.s.1, .int .u64 e.s.2.1, .int .u64 e.s.2.2, .int .u64 e.u.1, .int .u64 e.u.2.1, .int .u64 e.u.2.2, .int .i64 e.pk, .int .i64 e.by_]
  have H2 := Lib.hid (H.out.later hb1)
  have HB2 := Lib.hid (And.intro (HB.out.below hb1 HB.out.lt) hB1)
  have HBW2 := Lib.hid (And.intro (HBW.out.trans (hb1.mono HBW.out.size)) (And.intro HBW.out.size (And.intro (owns_laterS HO.out.1 hb1) (And.intro hb1 (Nat.le_refl W0.heap.size)))))
  clear hown h3 hc hbl hne he hid hg hlt hb1 hB1
  simp only [Nat.zero_add] at q0 q1 q2 q3 q4 q5 q6 q7 q8 q9 q10 q11 q12 q13
  go_upto_region 5 with fail
  clear q0 q1 q2 q3 q4 q5 q6 q7 q8 q9 q10 q11 q12 q13 c0
  generalize W0.alloc (.cells #[.int .i64 e.id, .int .i64 e.pa, .bool e.lf, .int .u64 e.r.1, .int .u64 e.r.2.1, .int .u64 e.r.2.2, .int .u64 e.s.1, .int .u64 e.s.2.1, .int .u64 e.s.2.2, .int .u64 e.u.1, .int .u64 e.u.2.1, .int .u64 e.u.2.2, .int .i64 e.pk, .int .i64 e.by_] 36) = W3 at H2 HB2 HBW2 ⊢
  generalize hBB : W0.heap.size = B at HB2 ⊢
  have HBB := Lib.hid hBB
  clear hBB
  have b0 := HB2.out.1.cell 0; have b1 := HB2.out.1.cell 1; have b2 := HB2.out.1.cell 2; have b3 := HB2.out.1.cell 3; have b4 := HB2.out.1.cell 4; have b5 := HB2.out.1.cell 5; have b6 := HB2.out.1.cell 6; have b7 := HB2.out.1.cell 7; have b8 := HB2.out.1.cell 8; have b9 := HB2.out.1.cell 9; have b10 := HB2.out.1.cell 10; have b11 := HB2.out.1.cell 11; have b12 := HB2.out.1.cell 12; have b13 := HB2.out.1.cell 13
  simp only [List.getElem?_toArray, List.getElem?_cons_zero, List.getElem?_cons_succ] at b0 b1 b2 b3 b4 b5 b6 b7 b8 b9 b10 b11 b12 b13
  have c0 := HB2.out.2.cell 0; have c1 := HB2.out.2.cell 1; have c2 := HB2.out.2.cell 2; have c3 := HB2.out.2.cell 3; have c4 := HB2.out.2.cell 4; have c5 := HB2.out.2.cell 5; have c6 := HB2.out.2.cell 6; have c7 := HB2.out.2.cell 7; have c8 := HB2.out.2.cell 8; have c9 := HB2.out.2.cell 9; have c10 := HB2.out.2.cell 10; have c11 := HB2.out.2.cell 11; have c12 := HB2.out.2.cell 12; have c13 := HB2.out.2.cell 13
  simp only [List.getElem?_toArray, List.getElem?_cons_zero, List.getElem?_cons_succ] at c0 c1 c2 c3 c4 c5 c6 c7 c8 c9 c10 c11 c12 c13
  have f0 := HB2.out.2.frozen 0; have f1 := HB2.out.2.frozen 1; have f2 := HB2.out.2.frozen 2; have f3 := HB2.out.2.frozen 3; have f4 := HB2.out.2.frozen 4; have f5 := HB2.out.2.frozen 5; have f6 := HB2.out.2.frozen 6; have f7 := HB2.out.2.frozen 7; have f8 := HB2.out.2.frozen 8; have f9 := HB2.out.2.frozen 9; have f10 := HB2.out.2.frozen 10; have f11 := HB2.out.2.frozen 11; have f12 := HB2.out.2.frozen 12; have f13 := HB2.out.2.frozen 13
  go_region
  have hgr : W3.grownBy (W3.setCells B 3 [.int .u64 s.r.1, .int .u64 s.r.2.1, .int .u64 s.r.2.2, .int .u64 s.s.1, .int .u64 s.s.2.1, .int .u64 s.s.2.2, .int .u64 s.u.1, .int .u64 s.u.2.1, .int .u64 s.u.2.2]).drew (some B) := grown_transH (grown_setCells B _ _ W3) (grown_drewH _)
  have hC4 := (HB2.out.2.setCells [.int .u64 s.r.1, .int .u64 s.r.2.1, .int .u64 s.r.2.2, .int .u64 s.s.1, .int .u64 s.s.2.1, .int .u64 s.s.2.2, .int .u64 s.u.1, .int .u64 s.u.2.1, .int .u64 s.u.2.2] 3).drew
  rw [show setL #[.int .i64 e.id, .int .i64 e.pa, .bool e.lf, .int .u64 e.r.1, .int .u64 e.r.2.1, .int .u64 e.r.2.2, .int .u64 e.s.1, .int .u64 e.s.2.1, .int .u64 e.s.2.2, .int .u64 e.u.1, .int .u64 e.u.2.1, .int .u64 e.u.2.2, .int .i64 e.pk, .int .i64 e.by_] 3 [.int .u64 s.r.1, .int .u64 s.r.2.1, .int .u64 s.r.2.2, .int .u64 s.s.1, .int .u64 s.s.2.1, .int .u64 s.s.2.2, .int .u64 s.u.1, .int .u64 s.u.2.1, .int .u64 s.u.2.2] = #[.int .i64 e.id, .int .i64 e.pa, .bool e.lf, .int .u64 s.r.1, .int .u64 s.r.2.1, .int .u64 s.r.2.2, .int .u64 s.s.1, .int .u64 s.s.2.1, .int .u64 s.s.2.2, .int .u64 s.u.1, .int .u64 s.u.2.1, .int .u64 s.u.2.2, .int .i64 e.pk, .int .i64 e.by_] by kernel_rfl] at hC4
  have hBx : W0.heap.size ≤ B := Nat.le_of_eq HBB.out
  have hbw : Below W0.heap.size W0 (W3.setCells B 3 [.int .u64 s.r.1, .int .u64 s.r.2.1, .int .u64 s.r.2.2, .int .u64 s.s.1, .int .u64 s.s.2.1, .int .u64 s.s.2.2, .int .u64 s.u.1, .int .u64 s.u.2.1, .int .u64 s.u.2.2]).drew := HBW2.out.2.2.2.1.grown hgr HBW2.out.2.2.2.1.size fun q e => by cases e; exact hBx
  have H4 := Lib.hid (And.intro (H.out.later hbw) (And.intro (owns_laterS HO.out.1 hbw) (HB.out.below hbw HB.out.lt)))
  have HC4 := Lib.hid hC4
  have HBW4 := Lib.hid (And.intro (HBW.out.trans (hbw.mono HBW.out.size)) hbw)
  clear hgr hC4 hBx hbw HB2 HBW2 H2 b0 b1 b2 b3 b4 b5 b6 b7 b8 b9 b10 b11 b12 b13 c0 c1 c2 c3 c4 c5 c6 c7 c8 c9 c10 c11 c12 c13 f0 f1 f2 f3 f4 f5 f6 f7 f8 f9 f10 f11 f12 f13
  change Exit.then _ _ Exit.normal _ (W3.setCells B 3 [.int .u64 s.r.1, .int .u64 s.r.2.1, .int .u64 s.r.2.2, .int .u64 s.s.1, .int .u64 s.s.2.1, .int .u64 s.s.2.2, .int .u64 s.u.1, .int .u64 s.u.2.1, .int .u64 s.u.2.2]).drew
  generalize (W3.setCells B 3 [.int .u64 s.r.1, .int .u64 s.r.2.1, .int .u64 s.r.2.2, .int .u64 s.s.1, .int .u64 s.s.2.1, .int .u64 s.s.2.2, .int .u64 s.u.1, .int .u64 s.u.2.1, .int .u64 s.u.2.2]).drew = W4 at H4 HC4 HBW4 ⊢
  have hwf : WfSp (withC e s) := ⟨(H0.out.2.2.1 e (List.mem_of_getElem? HO.out.2.2.2.1)).1, H0.out.2.1.2⟩
  have hmay := fun W => r13may_any (withC e s) W hwf
  unfold MayW spV spC at hmay
  obtain ⟨ms, hms⟩ : ∃ b, mayS (withC e s) = b := ⟨_, rfl⟩
  rw [hms] at hmay
  have HMS := Lib.hid hms
  clear hwf hms
  unfold withC at hmay
  dsimp only at hmay
  have c0 := HC4.out.cell 0; have c1 := HC4.out.cell 1; have c2 := HC4.out.cell 2; have c3 := HC4.out.cell 3; have c4 := HC4.out.cell 4; have c5 := HC4.out.cell 5; have c6 := HC4.out.cell 6; have c7 := HC4.out.cell 7; have c8 := HC4.out.cell 8; have c9 := HC4.out.cell 9; have c10 := HC4.out.cell 10; have c11 := HC4.out.cell 11; have c12 := HC4.out.cell 12; have c13 := HC4.out.cell 13
  simp only [List.getElem?_toArray, List.getElem?_cons_zero, List.getElem?_cons_succ] at c0 c1 c2 c3 c4 c5 c6 c7 c8 c9 c10 c11 c12 c13
  go_wp2_with fail
  refine (hmay _).mono ?_
  clear hmay c0 c1 c2 c3 c4 c5 c6 c7 c8 c9 c10 c11 c12 c13
  rintro e9 W5 ⟨er, rfl, her, hb5⟩
  have H5 := Lib.hid (And.intro (H4.out.1.later hb5) (And.intro (owns_laterS H4.out.2.1 hb5) (HC4.out.below hb5 HC4.out.lt)))
  have HBW5 := Lib.hid (HBW4.out.1.trans (hb5.mono HBW4.out.1.size))
  clear hb5 H4 HC4 HBW4
  cases ms with
  | false =>
    have hne : (er != 0) = true := by simpa using her
    have HG := Lib.hid (show changeS L s = (130, L) by unfold changeS; rw [HO.out.2.2.2.2.2.1]; dsimp only; rw [if_pos HMS.out])
    clear her
    go_wp2_with fail
    go_ret
    exact ⟨by rw [HG.out]; rfl, by rw [HG.out, hv]; exact TurnC.same (hv ▸ H0.out.1) HBW5.out⟩
  | true =>
    obtain rfl : er = 0 := by simpa using her
    have hset : setS L (withC e s) = L.set i (withC e s) := setS_at H0.out.2.2.2 HO.out.2.2.2.1 rfl
    have HG := Lib.hid (show changeS L s = (0, L.set i (withC e s)) by unfold changeS; rw [HO.out.2.2.2.2.2.1]; dsimp only; rw [if_neg (by rw [HMS.out]; simp), hset])
    clear her hset
    go_upto_region 8 with fail
    have l1 := H5.out.1.blk.lt; have l3 := H5.out.2.2.lt
    have o0 := fun e9 => (over_cell (w := W5) (e := e9) (o := 0) l1).trans (H5.out.1.blk.cell 0)
    simp only [List.getElem?_toArray, List.getElem?_cons_zero, List.getElem?_cons_succ] at o0
    rw [hv] at o0
    have c0 := fun e9 => (over_cell (w := W5) (e := e9) (o := 0) l3).trans (H5.out.2.2.cell 0); have c1 := fun e9 => (over_cell (w := W5) (e := e9) (o := 1) l3).trans (H5.out.2.2.cell 1); have c2 := fun e9 => (over_cell (w := W5) (e := e9) (o := 2) l3).trans (H5.out.2.2.cell 2); have c3 := fun e9 => (over_cell (w := W5) (e := e9) (o := 3) l3).trans (H5.out.2.2.cell 3); have c4 := fun e9 => (over_cell (w := W5) (e := e9) (o := 4) l3).trans (H5.out.2.2.cell 4); have c5 := fun e9 => (over_cell (w := W5) (e := e9) (o := 5) l3).trans (H5.out.2.2.cell 5); have c6 := fun e9 => (over_cell (w := W5) (e := e9) (o := 6) l3).trans (H5.out.2.2.cell 6); have c7 := fun e9 => (over_cell (w := W5) (e := e9) (o := 7) l3).trans (H5.out.2.2.cell 7); have c8 := fun e9 => (over_cell (w := W5) (e := e9) (o := 8) l3).trans (H5.out.2.2.cell 8); have c9 := fun e9 => (over_cell (w := W5) (e := e9) (o := 9) l3).trans (H5.out.2.2.cell 9); have c10 := fun e9 => (over_cell (w := W5) (e := e9) (o := 10) l3).trans (H5.out.2.2.cell 10); have c11 := fun e9 => (over_cell (w := W5) (e := e9) (o := 11) l3).trans (H5.out.2.2.cell 11); have c12 := fun e9 => (over_cell (w := W5) (e := e9) (o := 12) l3).trans (H5.out.2.2.cell 12); have c13 := fun e9 => (over_cell (w := W5) (e := e9) (o := 13) l3).trans (H5.out.2.2.cell 13)
    simp only [List.getElem?_toArray, List.getElem?_cons_zero, List.getElem?_cons_succ] at c0 c1 c2 c3 c4 c5 c6 c7 c8 c9 c10 c11 c12 c13
    have hfl := HO.out.2.2.2.2.2.2
    have hlt1 : i < L.length := hfl
    have hic : i * 14 + 14 ≤ L.length * 14 := by omega
    refine wp_region_over_tail 7 (by kernel_rfl) (by kernel_rfl) ?_
    simp only [List.take_succ_cons, List.take_zero, List.drop_succ_cons, List.drop_zero]
    repeat (first | go_big_quiet_skip | (go_big_quiet_want; go_big_quiet_op; go_big_quiet_on))
    refine wpQuiet_nil ?_
    rintro W6 ⟨e6, he6⟩
    have hb6 := over_below W5 e6
    rw [← he6] at hb6
    clear he6 o0 c0 c1 c2 c3 c4 c5 c6 c7 c8 c9 c10 c11 c12 c13 l1 l3
    have ho6 := owns_laterS H5.out.2.1 hb6
    have hth : W6.there b (i * 14) 14 := fun j hj => by
      rcases ho6.2 with ⟨h0, _⟩ | ⟨g', cap', cur, e, h1, h2, h3, h4, h5, h6⟩
      · cases h0
      · cases e
        have hbk : Blk W6 b 36 cur := h2
        have : L.length * 14 ≤ cap * 14 := Nat.mul_le_mul_right _ h3
        exact ⟨by rw [hbk.cell, Array.getElem?_eq_getElem (by omega)]; rfl, hbk.frozen _⟩
    have hgr : W6.grownBy (W6.setCells b (i * 14) (spL (withC e s))) (some b) := grown_setCells b _ _ W6
    have ho7 := owns_set (c := withC e s) ho6 hlt1
    have hb7 := HBW5.out.trans (hb6.mono HBW5.out.size)
    have hblk := ((H5.out.1.blk.below hb6 H5.out.1.blk.lt).grown hgr (fun h => HO.out.2.2.1 (Option.some.inj h).symm))
    have hfin : TurnC w p (.slice (some ⟨b, 0, none⟩) L.length cap) (L.set i (withC e s)) (W6.setCells b (i * 14) (spL (withC e s))) := by
      refine ⟨_, ⟨?_, SrAt.of_owns ho7 (by rw [List.length_set]; exact H0.out.1.sr.1), ho7⟩, fun b hb => .inl hb, (Fr.of_below hb7).trans (Fr.of_grown hgr fun q e => by cases e; exact .inr rfl)⟩
      rw [List.length_set, ← hv]
      exact hblk
    have HFIN := Lib.hid hfin
    clear hgr ho6 ho7 hb7 hblk hfin hb6
    refine wpList_store_mid rfl 36 _ _ rfl b (i * 14) (spC (withC e s)) (by first | rfl | (simp [Act.eval]; done) | trace_state) (by first | rfl | trace_state) hth (by kernel_rfl) (by kernel_rfl) ?_
    clear hth
    go_wp2_with fail
    go_ret
    exact ⟨by rw [HG.out]; rfl, by rw [HG.out, hv]; exact HFIN.out⟩
end Go.Proofs.YtclhhegfffccgaaGreat
