/-
  The statements' words of layer 4: same rows, the chapter's examples.
-/
import Derived.Test.YtkeffkfjgblicaaSpare
import Derived.Test.YtkeffkfjgblicaaBelow
import Derived.Deep.QuietTactic
import Derived.BigQuiet
import Derived.Deep.DrawnRows
import Derived.Test.YtkeffkfjgblicaaRegN
namespace Go.Proofs.Ytkeffkfjgblicaa
set_option linter.unusedVariables false
open Go.RowKit
attribute [local go_sem ↓] Go.wp_at_zero Go.wp_at_succ
attribute [local go_sem] quietR quietAtR quietUponR midAt midUpon

theorem WordsAt.of_owns {w : World} {base : Nat} {v : Value} {ks : List Int} {n : Nat} (h : w.ownsRow base 23 1 v n (ks.map (Value.int .u64))) (hn : n = ks.length) (h0 : 0 < n) : WordsAt w v ks := by
  subst hn
  obtain ⟨g, cap, rfl, h1, h2⟩ := h.form h0
  refine ⟨g, 0, cap, rfl, h2, fun i x hx => ?_⟩
  rw [Nat.zero_add, h.cellAt i (by have := (List.getElem?_eq_some_iff.1 hx).1; omega), List.getElem?_map, hx]; rfl
theorem WordsAt.of_blk {w : World} {B cap : Nat} {ks : List Int} (h : Blk w B 23 (ks.map (Value.int .u64)).toArray) : WordsAt w (.slice (some ⟨B, 0, none⟩) ks.length cap) ks := by
  refine ⟨B, 0, cap, rfl, h.lt, fun i x hx => ?_⟩
  rw [Nat.zero_add, h.cell]
  simp [hx]

/-- rows that are the same -/
theorem same_eq (va vb : Value) (ks : List Int) (w : World) (ha : WordsAt w va ks) (hb : WordsAt w vb ks) (hl : ks.length ≤ 2000000) :
    Calls Try.prog 14 #[va, vb] w fun e w' => e = .returned (.bool true) ∧ Below w.heap.size w w' := by
  obtain ⟨g, off, cap, rfl, hg, hc⟩ := ha.ex
  obtain ⟨g2, off2, cap2, rfl, hg2, hc2⟩ := hb.ex
  obtain ⟨n, hn⟩ : ∃ n, n = ks.length := ⟨_, rfl⟩
  rw [← hn] at hl ⊢
  have HN := Lib.hid hn; have HC := Lib.hid hc; have HC2 := Lib.hid hc2
  clear ha hb hn hc hc2
  go_enter Try.func14, Try.ntmps14
  go_wp2_with fail
  go_loopw [5] (fun vi W => ∃ k : Nat, vi = .int .i64 k ∧ k ≤ n ∧ Below w.heap.size w W) (fun vi _ => (n - Go.RowKit.intOf vi).toNat)
  case atStart => exact ⟨0, rfl, by omega, Below.refl _ _⟩
  case round =>
    obtain ⟨k, rfl, hk, hB⟩ := hrel
    have HB := Lib.hid hB
    by_cases hlt : k < n
    · obtain ⟨x, hx⟩ : ∃ x, ks[k]? = some x := ⟨_, List.getElem?_eq_getElem (by have := HN.out; omega)⟩
      have c1 := (hB.cell (p := ⟨g, off + k, none⟩) hg).trans (HC.out k x hx)
      have c2 := (hB.cell (p := ⟨g2, off2 + k, none⟩) hg2).trans (HC2.out k x hx)
      clear hB hx
      go_wp2
      go_quiet (fail)
      go_wp2
      go_roundw
      case measure => (simp [Go.RowKit.intOf]; try omega)
      case rel => exact ⟨k + 1, by go_num, by omega, below_drewN HB.out _⟩
    · obtain rfl : k = n := by omega
      clear hB
      go_wp2
      go_ret
      exact ⟨rfl, HB.out⟩

/-! ## the chapter's examples -/
def exL : List Cv := [(3, 10, 1), (0, 0, 2)]
theorem exL_at (t : Int) (h : 0 ≤ t) : vS exL t = 3 * min t 10 + (t - min t 10) + 2 * t := by
  have h1 : okC (3, 10, 1) = true := by decide
  have h2 : okC (0, 0, 2) = true := by decide
  simp only [vS, exL, h1, h2, if_true, vC]
  unfold W
  rw [Int.min_eq_right h]; omega
theorem exL_nn : NN exL := fun c hc => by simp [exL] at hc; rcases hc with rfl | rfl <;> simp
theorem ex_late (t r : Int) (h : 0 ≤ t) : Lt exL r t ↔ r * t < 3 * min t 10 + (t - min t 10) + 2 * t := by unfold Lt; rw [exL_at t h]
theorem ex_keep5 : Keep exL 5 := fun t t0 t1 => by rw [ex_late t 5 t0]; omega
theorem ex_keep6 : Keep exL 6 := fun t t0 t1 => by rw [ex_late t 6 t0]; omega
theorem ex_no4 : ¬ Keep exL 4 := fun h => h 1 (by decide) (by decide) ((ex_late 1 4 (by decide)).2 (by decide))
theorem ex_late4 : IsLate exL 4 1 := .inr ⟨by decide, by decide, (ex_late 1 4 (by decide)).2 (by decide), fun t t0 t1 => by rw [ex_late t 4 t0]; omega⟩
theorem ex_late5 : IsLate exL 5 9223372036854775808 := .inl ⟨rfl, ex_keep5⟩
theorem ex_spare5 : IsSpare exL 5 0 := ⟨by decide, by decide, keep_straight0.2 ex_keep5, .inr fun h => by
  have := h 1 (by decide) (by decide)
  unfold Lt at this
  rw [vS_straight (by decide) (by decide), exL_at 1 (by decide)] at this
  revert this; decide⟩
theorem ex_spare6 : IsSpare exL 6 1 := ⟨by decide, by decide, fun t t0 t1 => by
    unfold Lt
    rw [vS_straight (by decide) t0, exL_at t t0]; omega, .inr fun h => by
  have := h 1 (by decide) (by decide)
  unfold Lt at this
  rw [vS_straight (by decide) (by decide), exL_at 1 (by decide)] at this
  revert this; decide⟩
theorem ex_corn : IsCorn exL [10] := ⟨by simp, fun n => by
  simp only [exL, List.mem_cons, List.not_mem_nil, or_false]
  constructor
  · rintro rfl; exact ⟨(3, 10, 1), .inl rfl, by decide, by decide, rfl⟩
  · rintro ⟨c, rfl | rfl, h1, h2, h3⟩
    · exact h3.symm
    · exact absurd rfl h2⟩
theorem ex_below : BelowP (0, 0, 2) (0, 0, 3) := ⟨by decide, by decide, fun t ht => by
  unfold vC W; simp only; rw [Int.min_eq_right ht]; omega⟩
theorem ex_nobelow : ¬ BelowP (3, 10, 1) (0, 0, 2) := fun h => by have := h.2.2 1 (by decide); revert this; decide
theorem ex_nil : Keep [] 0 := fun t _ _ => by simp [Lt, vS]
attribute [local irreducible] TStep
set_option maxRecDepth 100000 in
set_option maxHeartbeats 4000000 in
theorem awake_any (w : World) : Calls Try.prog 25 #[] w fun e w' => e = .returned (.bool true) ∧ Below w.heap.size w w' := by
  have huu : UU exL := fun c hc => by
    simp [exL] at hc
    rcases hc with rfl | rfl <;> (unfold U; simp)
  have hB := Blk.new w 31 #[.int .u64 3, .int .u64 10, .int .u64 1, .int .u64 0, .int .u64 0, .int .u64 2]
  have hcv : CvAt (w.alloc (.cells #[.int .u64 3, .int .u64 10, .int .u64 1, .int .u64 0, .int .u64 0, .int .u64 2] 31)) (.slice (some ⟨w.heap.size, 0, none⟩) 2 2) exL := CvAt.of_blk (l := exL) hB huu (by decide) (by decide)
  have hb := (Below.refl w.heap.size w).alloc (Nat.le_refl _) (.cells #[.int .u64 3, .int .u64 10, .int .u64 1, .int .u64 0, .int .u64 0, .int .u64 2] 31)
  obtain ⟨W0, hW0⟩ : ∃ W0, w.alloc (.cells #[.int .u64 3, .int .u64 10, .int .u64 1, .int .u64 0, .int .u64 0, .int .u64 2] 31) = W0 := ⟨_, rfl⟩
  rw [hW0] at hB hcv hb
  have HB := Lib.hid hB; have HCV := Lib.hid hcv; have HBW := Lib.hid hb; have HW0 := Lib.hid hW0
  clear hB hcv hb hW0 huu
  go_enter Try.func25, Try.ntmps25
  go_wp2_with fail
  rw [HW0.out]
  have HX := Lib.hid (Below.refl W0.heap.size W0)
  refine (spare_any _ exL 5 _ (HCV.out.later HX.out) (by unfold U; omega) (by decide)).mono ?_
  rintro e w' ⟨h, hb⟩
  obtain ⟨rfl, hk⟩ : e = .returned (.tuple #[.int .u64 0, .bool true]) ∧ True := by
    rcases h with ⟨n, h1, h2, h3⟩ | ⟨h1, h2⟩
    · rw [h3.unique ex_spare5] at h1; exact ⟨h1, trivial⟩
    · exact absurd ex_keep5 h2
  clear h hk
  have HX := Lib.hid (HX.out.trans (hb.mono HX.out.size))
  clear hb
  go_wp2_with fail
  refine (spare_any _ exL 6 _ (HCV.out.later HX.out) (by unfold U; omega) (by decide)).mono ?_
  rintro e w' ⟨h, hb⟩
  obtain ⟨rfl, hk⟩ : e = .returned (.tuple #[.int .u64 1, .bool true]) ∧ True := by
    rcases h with ⟨n, h1, h2, h3⟩ | ⟨h1, h2⟩
    · rw [h3.unique ex_spare6] at h1; exact ⟨h1, trivial⟩
    · exact absurd ex_keep6 h2
  clear h hk
  have HX := Lib.hid (HX.out.trans (hb.mono HX.out.size))
  clear hb
  go_wp2_with fail
  refine (spare_any _ exL 4 _ (HCV.out.later HX.out) (by unfold U; omega) (by decide)).mono ?_
  rintro e w' ⟨h, hb⟩
  obtain ⟨rfl, hk⟩ : e = .returned (.tuple #[.int .u64 0, .bool false]) ∧ True := by
    rcases h with ⟨n, h1, h2, h3⟩ | ⟨h1, h2⟩
    · exact absurd h2 ex_no4
    · exact ⟨h1, trivial⟩
  clear h hk
  have HX := Lib.hid (HX.out.trans (hb.mono HX.out.size))
  clear hb
  go_wp2_with fail
  have hfix1 : ∀ e, Calls Try.prog 12 #[.slice (some ⟨w.heap.size, 0, none⟩) 2 2, .int .u64 10] (over w' e) fun r w2 => r = .returned (.agg #[.int .u64 0, .int .u64 50]) ∧ Below (over w' e).heap.size (over w' e) w2 := fun e => by
    have h := sat_any (.slice (some ⟨w.heap.size, 0, none⟩) 2 2) exL 10 (over w' e) ((HCV.out.later HX.out).later (over_below w' e)) (by unfold U; omega)
    rw [exL_at 10 (by decide), show hiW (3 * min 10 10 + (10 - min 10 10) + 2 * 10) = 0 from rfl, show loW (3 * min 10 10 + (10 - min 10 10) + 2 * 10) = 50 from rfl] at h
    exact h
  have hfix2 : ∀ e, Calls Try.prog 17 #[.slice (some ⟨w.heap.size, 0, none⟩) 2 2, .int .u64 4] (over w' e) fun r w2 => r = .returned (.int .u64 1) ∧ Below (over w' e).heap.size (over w' e) w2 := fun e =>
    (late_any (.slice (some ⟨w.heap.size, 0, none⟩) 2 2) exL 4 (over w' e) ((HCV.out.later HX.out).later (over_below w' e)) (by unfold U; omega)).mono fun r w2 ⟨n, he, hI, hb⟩ => ⟨by rw [hI.unique ex_late4] at he; exact he, hb⟩
  have hfix3 : ∀ e, Calls Try.prog 19 #[.slice (some ⟨w.heap.size, 0, none⟩) 2 2, .int .u64 4] (over w' e) fun r w2 => r = .returned (.bool false) ∧ Below (over w' e).heap.size (over w' e) w2 := fun e => by
    have h := kept_any (.slice (some ⟨w.heap.size, 0, none⟩) 2 2) exL 4 (over w' e) ((HCV.out.later HX.out).later (over_below w' e)) (by unfold U; omega)
    rw [decide_eq_false ex_no4] at h
    exact h
  have hfix4 : ∀ e, Calls Try.prog 19 #[.slice (some ⟨w.heap.size, 0, none⟩) 2 2, .int .u64 5] (over w' e) fun r w2 => r = .returned (.bool true) ∧ Below (over w' e).heap.size (over w' e) w2 := fun e => by
    have h := kept_any (.slice (some ⟨w.heap.size, 0, none⟩) 2 2) exL 5 (over w' e) ((HCV.out.later HX.out).later (over_below w' e)) (by unfold U; omega)
    rw [decide_eq_true ex_keep5] at h
    exact h
  have hfix5 : ∀ e, Calls Try.prog 17 #[.slice (some ⟨w.heap.size, 0, none⟩) 2 2, .int .u64 5] (over w' e) fun r w2 => r = .returned (.int .u64 9223372036854775808) ∧ Below (over w' e).heap.size (over w' e) w2 := fun e =>
    (late_any (.slice (some ⟨w.heap.size, 0, none⟩) 2 2) exL 5 (over w' e) ((HCV.out.later HX.out).later (over_below w' e)) (by unfold U; omega)).mono fun r w2 ⟨n, he, hI, hb⟩ => ⟨by rw [hI.unique ex_late5] at he; exact he, hb⟩
  have H1 := Lib.hid hfix1; have H2 := Lib.hid hfix2; have H3 := Lib.hid hfix3; have H4 := Lib.hid hfix4; have H5 := Lib.hid hfix5
  clear hfix1 hfix2 hfix3 hfix4 hfix5
  simp only [List.append]
  refine wp_region_told (w := w') 67 1 [66] [43, 44, 45, 46, 47, 48, 49, 50, 51, 52, 53, 54, 55, 56, 57, 58, 59, 60, 61, 62, 63, 64, 65, 66] [⟨43, 69, [], fun u W' => (∃ a c, u = .slice a 2 c) ∧ WordsAt W' u [0, 10]⟩, ⟨44, 70, [], fun u W' => (∃ a c, u = .slice a 2 c) ∧ WordsAt W' u [0, 10]⟩, ⟨45, 71, [43, 44], fun u W' => u = .bool true⟩, ⟨46, 72, [45], fun u W' => u = .bool true⟩, ⟨47, 73, [46], fun u W' => u = .bool true⟩, ⟨48, 74, [47], fun u W' => u = .slice (some ⟨w.heap.size, 0, none⟩) 2 2⟩, ⟨49, 75, [47, 48], fun u W' => u = .pointer (some ⟨w.heap.size, 3, none⟩)⟩, ⟨50, 76, [47, 49], fun u W' => u = .agg #[.int .u64 0, .int .u64 0, .int .u64 2]⟩, ⟨51, 77, [47], fun u W' => u = .agg #[.int .u64 0, .int .u64 0, .int .u64 3]⟩, ⟨52, 78, [47, 50, 51], fun u W' => u = .bool true⟩, ⟨53, 79, [47, 52], fun u W' => u = .bool true⟩, ⟨54, 80, [53], fun u W' => u = .bool true⟩, ⟨55, 81, [54], fun u W' => u = .slice (some ⟨w.heap.size, 0, none⟩) 2 2⟩, ⟨56, 82, [54, 55], fun u W' => u = .pointer (some ⟨w.heap.size, 0, none⟩)⟩, ⟨57, 83, [54, 56], fun u W' => u = .agg #[.int .u64 3, .int .u64 10, .int .u64 1]⟩, ⟨58, 84, [54], fun u W' => u = .slice (some ⟨w.heap.size, 0, none⟩) 2 2⟩, ⟨59, 85, [54, 58], fun u W' => u = .pointer (some ⟨w.heap.size, 3, none⟩)⟩, ⟨60, 86, [54, 59], fun u W' => u = .agg #[.int .u64 0, .int .u64 0, .int .u64 2]⟩, ⟨61, 87, [54, 57, 60], fun u W' => u = .bool false⟩, ⟨62, 88, [54, 61], fun u W' => u = .bool true⟩, ⟨63, 89, [54, 62], fun u W' => u = .bool true⟩, ⟨64, 90, [63], fun u W' => u = .bool true⟩, ⟨65, 91, [64], fun u W' => u = .bool true⟩, ⟨66, 92, [64, 65], fun u W' => u = .bool true⟩] rfl [] (by kernel_rfl) (by kernel_rfl) (by kernel_rfl) (by kernel_rfl) (by kernel_rfl) (by kernel_rfl) (by kernel_rfl) (fun _ _ _ _ _ h => h) ⟨fun v W1 W2 h hb => ⟨h.1, h.2.later hb⟩, fun v W1 W2 h hb => ⟨h.1, h.2.later hb⟩, fun v W1 W2 h hb => h, fun v W1 W2 h hb => h, fun v W1 W2 h hb => h, fun v W1 W2 h hb => h, fun v W1 W2 h hb => h, fun v W1 W2 h hb => h, fun v W1 W2 h hb => h, fun v W1 W2 h hb => h, fun v W1 W2 h hb => h, fun v W1 W2 h hb => h, fun v W1 W2 h hb => h, fun v W1 W2 h hb => h, fun v W1 W2 h hb => h, fun v W1 W2 h hb => h, fun v W1 W2 h hb => h, fun v W1 W2 h hb => h, fun v W1 W2 h hb => h, fun v W1 W2 h hb => h, fun v W1 W2 h hb => h, fun v W1 W2 h hb => h, fun v W1 W2 h hb => h, fun v W1 W2 h hb => h, trivial⟩ ?_
  intro LL hL
  have HL := Lib.hid hL
  clear hL
  simp only [List.take_succ_cons, List.take_zero, putL]
  iterate 67 (first | refine wpHead_skip (by decide) ?_ | (refine wpHead_step (by decide) (fun K hK => ?_); go_simp; first | (refine hK _ ?_; clear hK K) | (apply Exists.intro; refine ⟨fun _ => ?_, hK _ ?_⟩; (focus (first | (go_at_call 12; with_reducible exact H1.out _) | (go_at_call 17; with_reducible exact H2.out _) | (go_at_call 19; with_reducible exact H3.out _) | (go_at_call 19; with_reducible exact H4.out _) | (go_at_call 17; with_reducible exact H5.out _))); clear hK K)))
  refine wpHead_nil (HL.out _ ?_ ?_)
  · iterate 43 refine midsW_skip rfl ?_
    refine midsW_step ⟨43, 69, [], fun u W' => (∃ a c, u = .slice a 2 c) ∧ WordsAt W' u [0, 10]⟩ rfl ?_ ?_
    · intro vs W hb hf
      clear hf HL
      have hbw := HX.out.trans (hb.mono HX.out.size)
      change TStep _ _ _ (Act.put (Act.put (Act.put (Act.put (Act.put (Act.put (Act.put (Act.put (Act.put (Act.put (Act.put (Act.put (Act.put (Act.put (Act.put (Act.put (Act.put (Act.put (Act.put (Act.put (Act.put (Act.put (Act.put (Act.put _ (some 69) (vs 43)) (some 70) (vs 44)) (some 71) (vs 45)) (some 72) (vs 46)) (some 73) (vs 47)) (some 74) (vs 48)) (some 75) (vs 49)) (some 76) (vs 50)) (some 77) (vs 51)) (some 78) (vs 52)) (some 79) (vs 53)) (some 80) (vs 54)) (some 81) (vs 55)) (some 82) (vs 56)) (some 83) (vs 57)) (some 84) (vs 58)) (some 85) (vs 59)) (some 86) (vs 60)) (some 87) (vs 61)) (some 88) (vs 62)) (some 89) (vs 63)) (some 90) (vs 64)) (some 91) (vs 65)) (some 92) (vs 66)) _ _
      refine tstep_yes (by kernel_rfl) ?_
      have HBW2 := Lib.hid hbw
      clear hb hbw
      go_simp
      exact (corners_any _ exL _ (HCV.out.later HBW2.out)).mono fun e w2 ⟨v, ks, he, hI, hr, hb2⟩ => ⟨v, he, hb2, by
        rw [hI.unique ex_corn] at hr
        refine ⟨?_, WordsAt.of_owns (ks := [0, 10]) hr rfl (by decide)⟩
        obtain ⟨g, cap, rfl, _⟩ := hr.form (by decide)
        exact ⟨_, _, rfl⟩⟩
    refine midsW_step ⟨44, 70, [], fun u W' => (∃ a c, u = .slice a 2 c) ∧ WordsAt W' u [0, 10]⟩ rfl ?_ ?_
    · intro vs W hb hf
      clear hf HL
      have hbw := HX.out.trans (hb.mono HX.out.size)
      change TStep _ _ _ (Act.put (Act.put (Act.put (Act.put (Act.put (Act.put (Act.put (Act.put (Act.put (Act.put (Act.put (Act.put (Act.put (Act.put (Act.put (Act.put (Act.put (Act.put (Act.put (Act.put (Act.put (Act.put (Act.put (Act.put _ (some 69) (vs 43)) (some 70) (vs 44)) (some 71) (vs 45)) (some 72) (vs 46)) (some 73) (vs 47)) (some 74) (vs 48)) (some 75) (vs 49)) (some 76) (vs 50)) (some 77) (vs 51)) (some 78) (vs 52)) (some 79) (vs 53)) (some 80) (vs 54)) (some 81) (vs 55)) (some 82) (vs 56)) (some 83) (vs 57)) (some 84) (vs 58)) (some 85) (vs 59)) (some 86) (vs 60)) (some 87) (vs 61)) (some 88) (vs 62)) (some 89) (vs 63)) (some 90) (vs 64)) (some 91) (vs 65)) (some 92) (vs 66)) _ _
      refine tstep_yes (by kernel_rfl) ?_
      have HBW2 := Lib.hid hbw
      clear hb hbw
      go_simp
      refine ⟨(Below.refl _ _).alloc (Nat.le_refl _) _, ?_⟩
      first | exact WordsAt.of_blk (ks := [0, 10]) (Blk.new _ _ _) | exact ⟨⟨_, _, rfl⟩, WordsAt.of_blk (ks := [0, 10]) (Blk.new _ _ _)⟩
    refine midsW_step ⟨45, 71, [43, 44], fun u W' => u = .bool true⟩ rfl ?_ ?_
    · intro vs W hb hf
      obtain ⟨⟨⟨a43, c43, e43⟩, f43⟩, ⟨⟨a44, c44, e44⟩, f44⟩, _⟩ := hf
      clear HL
      have hbw := HX.out.trans (hb.mono HX.out.size)
      rw [e43] at f43
      rw [e44] at f44
      change TStep _ _ _ (Act.put (Act.put (Act.put (Act.put (Act.put (Act.put (Act.put (Act.put (Act.put (Act.put (Act.put (Act.put (Act.put (Act.put (Act.put (Act.put (Act.put (Act.put (Act.put (Act.put (Act.put (Act.put (Act.put (Act.put _ (some 69) (vs 43)) (some 70) (vs 44)) (some 71) (vs 45)) (some 72) (vs 46)) (some 73) (vs 47)) (some 74) (vs 48)) (some 75) (vs 49)) (some 76) (vs 50)) (some 77) (vs 51)) (some 78) (vs 52)) (some 79) (vs 53)) (some 80) (vs 54)) (some 81) (vs 55)) (some 82) (vs 56)) (some 83) (vs 57)) (some 84) (vs 58)) (some 85) (vs 59)) (some 86) (vs 60)) (some 87) (vs 61)) (some 88) (vs 62)) (some 89) (vs 63)) (some 90) (vs 64)) (some 91) (vs 65)) (some 92) (vs 66)) _ _
      rw [e43, e44]
      clear e43 e44
      refine tstep_yes (by kernel_rfl) ?_
      have HBW2 := Lib.hid hbw
      clear hb hbw
      go_simp
      exact (same_eq _ _ [0, 10] _ f43 f44 (by decide)).mono fun e w2 h => ⟨h.1, h.2⟩
    refine midsW_step ⟨46, 72, [45], fun u W' => u = .bool true⟩ rfl ?_ ?_
    · intro vs W hb hf
      obtain ⟨f45, _⟩ := hf
      clear HL
      have hbw := HX.out.trans (hb.mono HX.out.size)
      change TStep _ _ _ (Act.put (Act.put (Act.put (Act.put (Act.put (Act.put (Act.put (Act.put (Act.put (Act.put (Act.put (Act.put (Act.put (Act.put (Act.put (Act.put (Act.put (Act.put (Act.put (Act.put (Act.put (Act.put (Act.put (Act.put _ (some 69) (vs 43)) (some 70) (vs 44)) (some 71) (vs 45)) (some 72) (vs 46)) (some 73) (vs 47)) (some 74) (vs 48)) (some 75) (vs 49)) (some 76) (vs 50)) (some 77) (vs 51)) (some 78) (vs 52)) (some 79) (vs 53)) (some 80) (vs 54)) (some 81) (vs 55)) (some 82) (vs 56)) (some 83) (vs 57)) (some 84) (vs 58)) (some 85) (vs 59)) (some 86) (vs 60)) (some 87) (vs 61)) (some 88) (vs 62)) (some 89) (vs 63)) (some 90) (vs 64)) (some 91) (vs 65)) (some 92) (vs 66)) _ _
      rw [f45]
      clear f45
      refine tstep_yes (by kernel_rfl) ?_
      have HBW2 := Lib.hid hbw
      clear hb hbw
      go_simp
      exact Below.refl _ _
    refine midsW_step ⟨47, 73, [46], fun u W' => u = .bool true⟩ rfl ?_ ?_
    · intro vs W hb hf
      obtain ⟨f46, _⟩ := hf
      clear HL
      have hbw := HX.out.trans (hb.mono HX.out.size)
      change TStep _ _ _ (Act.put (Act.put (Act.put (Act.put (Act.put (Act.put (Act.put (Act.put (Act.put (Act.put (Act.put (Act.put (Act.put (Act.put (Act.put (Act.put (Act.put (Act.put (Act.put (Act.put (Act.put (Act.put (Act.put (Act.put _ (some 69) (vs 43)) (some 70) (vs 44)) (some 71) (vs 45)) (some 72) (vs 46)) (some 73) (vs 47)) (some 74) (vs 48)) (some 75) (vs 49)) (some 76) (vs 50)) (some 77) (vs 51)) (some 78) (vs 52)) (some 79) (vs 53)) (some 80) (vs 54)) (some 81) (vs 55)) (some 82) (vs 56)) (some 83) (vs 57)) (some 84) (vs 58)) (some 85) (vs 59)) (some 86) (vs 60)) (some 87) (vs 61)) (some 88) (vs 62)) (some 89) (vs 63)) (some 90) (vs 64)) (some 91) (vs 65)) (some 92) (vs 66)) _ _
      rw [f46]
      clear f46
      refine tstep_yes (by kernel_rfl) ?_
      have HBW2 := Lib.hid hbw
      clear hb hbw
      go_simp
      exact Below.refl _ _
    refine midsW_step ⟨48, 74, [47], fun u W' => u = .slice (some ⟨w.heap.size, 0, none⟩) 2 2⟩ rfl ?_ ?_
    · intro vs W hb hf
      obtain ⟨f47, _⟩ := hf
      clear HL
      have hbw := HX.out.trans (hb.mono HX.out.size)
      change TStep _ _ _ (Act.put (Act.put (Act.put (Act.put (Act.put (Act.put (Act.put (Act.put (Act.put (Act.put (Act.put (Act.put (Act.put (Act.put (Act.put (Act.put (Act.put (Act.put (Act.put (Act.put (Act.put (Act.put (Act.put (Act.put _ (some 69) (vs 43)) (some 70) (vs 44)) (some 71) (vs 45)) (some 72) (vs 46)) (some 73) (vs 47)) (some 74) (vs 48)) (some 75) (vs 49)) (some 76) (vs 50)) (some 77) (vs 51)) (some 78) (vs 52)) (some 79) (vs 53)) (some 80) (vs 54)) (some 81) (vs 55)) (some 82) (vs 56)) (some 83) (vs 57)) (some 84) (vs 58)) (some 85) (vs 59)) (some 86) (vs 60)) (some 87) (vs 61)) (some 88) (vs 62)) (some 89) (vs 63)) (some 90) (vs 64)) (some 91) (vs 65)) (some 92) (vs 66)) _ _
      rw [f47]
      clear f47
      refine tstep_yes (by kernel_rfl) ?_
      have HBW2 := Lib.hid hbw
      clear hb hbw
      go_simp
      exact Below.refl _ _
    refine midsW_step ⟨49, 75, [47, 48], fun u W' => u = .pointer (some ⟨w.heap.size, 3, none⟩)⟩ rfl ?_ ?_
    · intro vs W hb hf
      obtain ⟨f47, f48, _⟩ := hf
      clear HL
      have hbw := HX.out.trans (hb.mono HX.out.size)
      change TStep _ _ _ (Act.put (Act.put (Act.put (Act.put (Act.put (Act.put (Act.put (Act.put (Act.put (Act.put (Act.put (Act.put (Act.put (Act.put (Act.put (Act.put (Act.put (Act.put (Act.put (Act.put (Act.put (Act.put (Act.put (Act.put _ (some 69) (vs 43)) (some 70) (vs 44)) (some 71) (vs 45)) (some 72) (vs 46)) (some 73) (vs 47)) (some 74) (vs 48)) (some 75) (vs 49)) (some 76) (vs 50)) (some 77) (vs 51)) (some 78) (vs 52)) (some 79) (vs 53)) (some 80) (vs 54)) (some 81) (vs 55)) (some 82) (vs 56)) (some 83) (vs 57)) (some 84) (vs 58)) (some 85) (vs 59)) (some 86) (vs 60)) (some 87) (vs 61)) (some 88) (vs 62)) (some 89) (vs 63)) (some 90) (vs 64)) (some 91) (vs 65)) (some 92) (vs 66)) _ _
      rw [f47, f48]
      clear f47 f48
      refine tstep_yes (by kernel_rfl) ?_
      have HBW2 := Lib.hid hbw
      clear hb hbw
      go_simp
      exact Below.refl _ _
    refine midsW_step ⟨50, 76, [47, 49], fun u W' => u = .agg #[.int .u64 0, .int .u64 0, .int .u64 2]⟩ rfl ?_ ?_
    · intro vs W hb hf
      obtain ⟨f47, f49, _⟩ := hf
      clear HL
      have hbw := HX.out.trans (hb.mono HX.out.size)
      change TStep _ _ _ (Act.put (Act.put (Act.put (Act.put (Act.put (Act.put (Act.put (Act.put (Act.put (Act.put (Act.put (Act.put (Act.put (Act.put (Act.put (Act.put (Act.put (Act.put (Act.put (Act.put (Act.put (Act.put (Act.put (Act.put _ (some 69) (vs 43)) (some 70) (vs 44)) (some 71) (vs 45)) (some 72) (vs 46)) (some 73) (vs 47)) (some 74) (vs 48)) (some 75) (vs 49)) (some 76) (vs 50)) (some 77) (vs 51)) (some 78) (vs 52)) (some 79) (vs 53)) (some 80) (vs 54)) (some 81) (vs 55)) (some 82) (vs 56)) (some 83) (vs 57)) (some 84) (vs 58)) (some 85) (vs 59)) (some 86) (vs 60)) (some 87) (vs 61)) (some 88) (vs 62)) (some 89) (vs 63)) (some 90) (vs 64)) (some 91) (vs 65)) (some 92) (vs 66)) _ _
      rw [f47, f49]
      clear f47 f49
      refine tstep_yes (by kernel_rfl) ?_
      have HBW2 := Lib.hid hbw
      have c0 := (HB.out.below hbw HB.out.lt).cell 0
      have c1 := (HB.out.below hbw HB.out.lt).cell 1
      have c2 := (HB.out.below hbw HB.out.lt).cell 2
      have c3 := (HB.out.below hbw HB.out.lt).cell 3
      have c4 := (HB.out.below hbw HB.out.lt).cell 4
      have c5 := (HB.out.below hbw HB.out.lt).cell 5
      simp only [List.getElem?_toArray, List.getElem?_cons_zero, List.getElem?_cons_succ] at c0 c1 c2 c3 c4 c5
      clear hb hbw
      go_simp
      exact Below.refl _ _
    refine midsW_step ⟨51, 77, [47], fun u W' => u = .agg #[.int .u64 0, .int .u64 0, .int .u64 3]⟩ rfl ?_ ?_
    · intro vs W hb hf
      obtain ⟨f47, _⟩ := hf
      clear HL
      have hbw := HX.out.trans (hb.mono HX.out.size)
      change TStep _ _ _ (Act.put (Act.put (Act.put (Act.put (Act.put (Act.put (Act.put (Act.put (Act.put (Act.put (Act.put (Act.put (Act.put (Act.put (Act.put (Act.put (Act.put (Act.put (Act.put (Act.put (Act.put (Act.put (Act.put (Act.put _ (some 69) (vs 43)) (some 70) (vs 44)) (some 71) (vs 45)) (some 72) (vs 46)) (some 73) (vs 47)) (some 74) (vs 48)) (some 75) (vs 49)) (some 76) (vs 50)) (some 77) (vs 51)) (some 78) (vs 52)) (some 79) (vs 53)) (some 80) (vs 54)) (some 81) (vs 55)) (some 82) (vs 56)) (some 83) (vs 57)) (some 84) (vs 58)) (some 85) (vs 59)) (some 86) (vs 60)) (some 87) (vs 61)) (some 88) (vs 62)) (some 89) (vs 63)) (some 90) (vs 64)) (some 91) (vs 65)) (some 92) (vs 66)) _ _
      rw [f47]
      clear f47
      refine tstep_yes (by kernel_rfl) ?_
      have HBW2 := Lib.hid hbw
      clear hb hbw
      go_simp
      exact Below.refl _ _
    refine midsW_step ⟨52, 78, [47, 50, 51], fun u W' => u = .bool true⟩ rfl ?_ ?_
    · intro vs W hb hf
      obtain ⟨f47, f50, f51, _⟩ := hf
      clear HL
      have hbw := HX.out.trans (hb.mono HX.out.size)
      change TStep _ _ _ (Act.put (Act.put (Act.put (Act.put (Act.put (Act.put (Act.put (Act.put (Act.put (Act.put (Act.put (Act.put (Act.put (Act.put (Act.put (Act.put (Act.put (Act.put (Act.put (Act.put (Act.put (Act.put (Act.put (Act.put _ (some 69) (vs 43)) (some 70) (vs 44)) (some 71) (vs 45)) (some 72) (vs 46)) (some 73) (vs 47)) (some 74) (vs 48)) (some 75) (vs 49)) (some 76) (vs 50)) (some 77) (vs 51)) (some 78) (vs 52)) (some 79) (vs 53)) (some 80) (vs 54)) (some 81) (vs 55)) (some 82) (vs 56)) (some 83) (vs 57)) (some 84) (vs 58)) (some 85) (vs 59)) (some 86) (vs 60)) (some 87) (vs 61)) (some 88) (vs 62)) (some 89) (vs 63)) (some 90) (vs 64)) (some 91) (vs 65)) (some 92) (vs 66)) _ _
      rw [f47, f50, f51]
      clear f47 f50 f51
      refine tstep_yes (by kernel_rfl) ?_
      have HBW2 := Lib.hid hbw
      clear hb hbw
      go_simp
      exact (below_any (0, 0, 2) (0, 0, 3) _ (by unfold U; simp) (by unfold U; simp)).mono fun e w2 h => ⟨by have h1 := h.1; rw [decide_eq_true ex_below] at h1; exact h1, h.2⟩
    refine midsW_step ⟨53, 79, [47, 52], fun u W' => u = .bool true⟩ rfl ?_ ?_
    · intro vs W hb hf
      obtain ⟨f47, f52, _⟩ := hf
      clear HL
      have hbw := HX.out.trans (hb.mono HX.out.size)
      change TStep _ _ _ (Act.put (Act.put (Act.put (Act.put (Act.put (Act.put (Act.put (Act.put (Act.put (Act.put (Act.put (Act.put (Act.put (Act.put (Act.put (Act.put (Act.put (Act.put (Act.put (Act.put (Act.put (Act.put (Act.put (Act.put _ (some 69) (vs 43)) (some 70) (vs 44)) (some 71) (vs 45)) (some 72) (vs 46)) (some 73) (vs 47)) (some 74) (vs 48)) (some 75) (vs 49)) (some 76) (vs 50)) (some 77) (vs 51)) (some 78) (vs 52)) (some 79) (vs 53)) (some 80) (vs 54)) (some 81) (vs 55)) (some 82) (vs 56)) (some 83) (vs 57)) (some 84) (vs 58)) (some 85) (vs 59)) (some 86) (vs 60)) (some 87) (vs 61)) (some 88) (vs 62)) (some 89) (vs 63)) (some 90) (vs 64)) (some 91) (vs 65)) (some 92) (vs 66)) _ _
      rw [f47, f52]
      clear f47 f52
      refine tstep_yes (by kernel_rfl) ?_
      have HBW2 := Lib.hid hbw
      clear hb hbw
      go_simp
      exact Below.refl _ _
    refine midsW_step ⟨54, 80, [53], fun u W' => u = .bool true⟩ rfl ?_ ?_
    · intro vs W hb hf
      obtain ⟨f53, _⟩ := hf
      clear HL
      have hbw := HX.out.trans (hb.mono HX.out.size)
      change TStep _ _ _ (Act.put (Act.put (Act.put (Act.put (Act.put (Act.put (Act.put (Act.put (Act.put (Act.put (Act.put (Act.put (Act.put (Act.put (Act.put (Act.put (Act.put (Act.put (Act.put (Act.put (Act.put (Act.put (Act.put (Act.put _ (some 69) (vs 43)) (some 70) (vs 44)) (some 71) (vs 45)) (some 72) (vs 46)) (some 73) (vs 47)) (some 74) (vs 48)) (some 75) (vs 49)) (some 76) (vs 50)) (some 77) (vs 51)) (some 78) (vs 52)) (some 79) (vs 53)) (some 80) (vs 54)) (some 81) (vs 55)) (some 82) (vs 56)) (some 83) (vs 57)) (some 84) (vs 58)) (some 85) (vs 59)) (some 86) (vs 60)) (some 87) (vs 61)) (some 88) (vs 62)) (some 89) (vs 63)) (some 90) (vs 64)) (some 91) (vs 65)) (some 92) (vs 66)) _ _
      rw [f53]
      clear f53
      refine tstep_yes (by kernel_rfl) ?_
      have HBW2 := Lib.hid hbw
      clear hb hbw
      go_simp
      exact Below.refl _ _
    refine midsW_step ⟨55, 81, [54], fun u W' => u = .slice (some ⟨w.heap.size, 0, none⟩) 2 2⟩ rfl ?_ ?_
    · intro vs W hb hf
      obtain ⟨f54, _⟩ := hf
      clear HL
      have hbw := HX.out.trans (hb.mono HX.out.size)
      change TStep _ _ _ (Act.put (Act.put (Act.put (Act.put (Act.put (Act.put (Act.put (Act.put (Act.put (Act.put (Act.put (Act.put (Act.put (Act.put (Act.put (Act.put (Act.put (Act.put (Act.put (Act.put (Act.put (Act.put (Act.put (Act.put _ (some 69) (vs 43)) (some 70) (vs 44)) (some 71) (vs 45)) (some 72) (vs 46)) (some 73) (vs 47)) (some 74) (vs 48)) (some 75) (vs 49)) (some 76) (vs 50)) (some 77) (vs 51)) (some 78) (vs 52)) (some 79) (vs 53)) (some 80) (vs 54)) (some 81) (vs 55)) (some 82) (vs 56)) (some 83) (vs 57)) (some 84) (vs 58)) (some 85) (vs 59)) (some 86) (vs 60)) (some 87) (vs 61)) (some 88) (vs 62)) (some 89) (vs 63)) (some 90) (vs 64)) (some 91) (vs 65)) (some 92) (vs 66)) _ _
      rw [f54]
      clear f54
      refine tstep_yes (by kernel_rfl) ?_
      have HBW2 := Lib.hid hbw
      clear hb hbw
      go_simp
      exact Below.refl _ _
    refine midsW_step ⟨56, 82, [54, 55], fun u W' => u = .pointer (some ⟨w.heap.size, 0, none⟩)⟩ rfl ?_ ?_
    · intro vs W hb hf
      obtain ⟨f54, f55, _⟩ := hf
      clear HL
      have hbw := HX.out.trans (hb.mono HX.out.size)
      change TStep _ _ _ (Act.put (Act.put (Act.put (Act.put (Act.put (Act.put (Act.put (Act.put (Act.put (Act.put (Act.put (Act.put (Act.put (Act.put (Act.put (Act.put (Act.put (Act.put (Act.put (Act.put (Act.put (Act.put (Act.put (Act.put _ (some 69) (vs 43)) (some 70) (vs 44)) (some 71) (vs 45)) (some 72) (vs 46)) (some 73) (vs 47)) (some 74) (vs 48)) (some 75) (vs 49)) (some 76) (vs 50)) (some 77) (vs 51)) (some 78) (vs 52)) (some 79) (vs 53)) (some 80) (vs 54)) (some 81) (vs 55)) (some 82) (vs 56)) (some 83) (vs 57)) (some 84) (vs 58)) (some 85) (vs 59)) (some 86) (vs 60)) (some 87) (vs 61)) (some 88) (vs 62)) (some 89) (vs 63)) (some 90) (vs 64)) (some 91) (vs 65)) (some 92) (vs 66)) _ _
      rw [f54, f55]
      clear f54 f55
      refine tstep_yes (by kernel_rfl) ?_
      have HBW2 := Lib.hid hbw
      clear hb hbw
      go_simp
      exact Below.refl _ _
    refine midsW_step ⟨57, 83, [54, 56], fun u W' => u = .agg #[.int .u64 3, .int .u64 10, .int .u64 1]⟩ rfl ?_ ?_
    · intro vs W hb hf
      obtain ⟨f54, f56, _⟩ := hf
      clear HL
      have hbw := HX.out.trans (hb.mono HX.out.size)
      change TStep _ _ _ (Act.put (Act.put (Act.put (Act.put (Act.put (Act.put (Act.put (Act.put (Act.put (Act.put (Act.put (Act.put (Act.put (Act.put (Act.put (Act.put (Act.put (Act.put (Act.put (Act.put (Act.put (Act.put (Act.put (Act.put _ (some 69) (vs 43)) (some 70) (vs 44)) (some 71) (vs 45)) (some 72) (vs 46)) (some 73) (vs 47)) (some 74) (vs 48)) (some 75) (vs 49)) (some 76) (vs 50)) (some 77) (vs 51)) (some 78) (vs 52)) (some 79) (vs 53)) (some 80) (vs 54)) (some 81) (vs 55)) (some 82) (vs 56)) (some 83) (vs 57)) (some 84) (vs 58)) (some 85) (vs 59)) (some 86) (vs 60)) (some 87) (vs 61)) (some 88) (vs 62)) (some 89) (vs 63)) (some 90) (vs 64)) (some 91) (vs 65)) (some 92) (vs 66)) _ _
      rw [f54, f56]
      clear f54 f56
      refine tstep_yes (by kernel_rfl) ?_
      have HBW2 := Lib.hid hbw
      have c0 := (HB.out.below hbw HB.out.lt).cell 0
      have c1 := (HB.out.below hbw HB.out.lt).cell 1
      have c2 := (HB.out.below hbw HB.out.lt).cell 2
      have c3 := (HB.out.below hbw HB.out.lt).cell 3
      have c4 := (HB.out.below hbw HB.out.lt).cell 4
      have c5 := (HB.out.below hbw HB.out.lt).cell 5
      simp only [List.getElem?_toArray, List.getElem?_cons_zero, List.getElem?_cons_succ] at c0 c1 c2 c3 c4 c5
      clear hb hbw
      go_simp
      exact Below.refl _ _
    refine midsW_step ⟨58, 84, [54], fun u W' => u = .slice (some ⟨w.heap.size, 0, none⟩) 2 2⟩ rfl ?_ ?_
    · intro vs W hb hf
      obtain ⟨f54, _⟩ := hf
      clear HL
      have hbw := HX.out.trans (hb.mono HX.out.size)
      change TStep _ _ _ (Act.put (Act.put (Act.put (Act.put (Act.put (Act.put (Act.put (Act.put (Act.put (Act.put (Act.put (Act.put (Act.put (Act.put (Act.put (Act.put (Act.put (Act.put (Act.put (Act.put (Act.put (Act.put (Act.put (Act.put _ (some 69) (vs 43)) (some 70) (vs 44)) (some 71) (vs 45)) (some 72) (vs 46)) (some 73) (vs 47)) (some 74) (vs 48)) (some 75) (vs 49)) (some 76) (vs 50)) (some 77) (vs 51)) (some 78) (vs 52)) (some 79) (vs 53)) (some 80) (vs 54)) (some 81) (vs 55)) (some 82) (vs 56)) (some 83) (vs 57)) (some 84) (vs 58)) (some 85) (vs 59)) (some 86) (vs 60)) (some 87) (vs 61)) (some 88) (vs 62)) (some 89) (vs 63)) (some 90) (vs 64)) (some 91) (vs 65)) (some 92) (vs 66)) _ _
      rw [f54]
      clear f54
      refine tstep_yes (by kernel_rfl) ?_
      have HBW2 := Lib.hid hbw
      clear hb hbw
      go_simp
      exact Below.refl _ _
    refine midsW_step ⟨59, 85, [54, 58], fun u W' => u = .pointer (some ⟨w.heap.size, 3, none⟩)⟩ rfl ?_ ?_
    · intro vs W hb hf
      obtain ⟨f54, f58, _⟩ := hf
      clear HL
      have hbw := HX.out.trans (hb.mono HX.out.size)
      change TStep _ _ _ (Act.put (Act.put (Act.put (Act.put (Act.put (Act.put (Act.put (Act.put (Act.put (Act.put (Act.put (Act.put (Act.put (Act.put (Act.put (Act.put (Act.put (Act.put (Act.put (Act.put (Act.put (Act.put (Act.put (Act.put _ (some 69) (vs 43)) (some 70) (vs 44)) (some 71) (vs 45)) (some 72) (vs 46)) (some 73) (vs 47)) (some 74) (vs 48)) (some 75) (vs 49)) (some 76) (vs 50)) (some 77) (vs 51)) (some 78) (vs 52)) (some 79) (vs 53)) (some 80) (vs 54)) (some 81) (vs 55)) (some 82) (vs 56)) (some 83) (vs 57)) (some 84) (vs 58)) (some 85) (vs 59)) (some 86) (vs 60)) (some 87) (vs 61)) (some 88) (vs 62)) (some 89) (vs 63)) (some 90) (vs 64)) (some 91) (vs 65)) (some 92) (vs 66)) _ _
      rw [f54, f58]
      clear f54 f58
      refine tstep_yes (by kernel_rfl) ?_
      have HBW2 := Lib.hid hbw
      clear hb hbw
      go_simp
      exact Below.refl _ _
    refine midsW_step ⟨60, 86, [54, 59], fun u W' => u = .agg #[.int .u64 0, .int .u64 0, .int .u64 2]⟩ rfl ?_ ?_
    · intro vs W hb hf
      obtain ⟨f54, f59, _⟩ := hf
      clear HL
      have hbw := HX.out.trans (hb.mono HX.out.size)
      change TStep _ _ _ (Act.put (Act.put (Act.put (Act.put (Act.put (Act.put (Act.put (Act.put (Act.put (Act.put (Act.put (Act.put (Act.put (Act.put (Act.put (Act.put (Act.put (Act.put (Act.put (Act.put (Act.put (Act.put (Act.put (Act.put _ (some 69) (vs 43)) (some 70) (vs 44)) (some 71) (vs 45)) (some 72) (vs 46)) (some 73) (vs 47)) (some 74) (vs 48)) (some 75) (vs 49)) (some 76) (vs 50)) (some 77) (vs 51)) (some 78) (vs 52)) (some 79) (vs 53)) (some 80) (vs 54)) (some 81) (vs 55)) (some 82) (vs 56)) (some 83) (vs 57)) (some 84) (vs 58)) (some 85) (vs 59)) (some 86) (vs 60)) (some 87) (vs 61)) (some 88) (vs 62)) (some 89) (vs 63)) (some 90) (vs 64)) (some 91) (vs 65)) (some 92) (vs 66)) _ _
      rw [f54, f59]
      clear f54 f59
      refine tstep_yes (by kernel_rfl) ?_
      have HBW2 := Lib.hid hbw
      have c0 := (HB.out.below hbw HB.out.lt).cell 0
      have c1 := (HB.out.below hbw HB.out.lt).cell 1
      have c2 := (HB.out.below hbw HB.out.lt).cell 2
      have c3 := (HB.out.below hbw HB.out.lt).cell 3
      have c4 := (HB.out.below hbw HB.out.lt).cell 4
      have c5 := (HB.out.below hbw HB.out.lt).cell 5
      simp only [List.getElem?_toArray, List.getElem?_cons_zero, List.getElem?_cons_succ] at c0 c1 c2 c3 c4 c5
      clear hb hbw
      go_simp
      exact Below.refl _ _
    refine midsW_step ⟨61, 87, [54, 57, 60], fun u W' => u = .bool false⟩ rfl ?_ ?_
    · intro vs W hb hf
      obtain ⟨f54, f57, f60, _⟩ := hf
      clear HL
      have hbw := HX.out.trans (hb.mono HX.out.size)
      change TStep _ _ _ (Act.put (Act.put (Act.put (Act.put (Act.put (Act.put (Act.put (Act.put (Act.put (Act.put (Act.put (Act.put (Act.put (Act.put (Act.put (Act.put (Act.put (Act.put (Act.put (Act.put (Act.put (Act.put (Act.put (Act.put _ (some 69) (vs 43)) (some 70) (vs 44)) (some 71) (vs 45)) (some 72) (vs 46)) (some 73) (vs 47)) (some 74) (vs 48)) (some 75) (vs 49)) (some 76) (vs 50)) (some 77) (vs 51)) (some 78) (vs 52)) (some 79) (vs 53)) (some 80) (vs 54)) (some 81) (vs 55)) (some 82) (vs 56)) (some 83) (vs 57)) (some 84) (vs 58)) (some 85) (vs 59)) (some 86) (vs 60)) (some 87) (vs 61)) (some 88) (vs 62)) (some 89) (vs 63)) (some 90) (vs 64)) (some 91) (vs 65)) (some 92) (vs 66)) _ _
      rw [f54, f57, f60]
      clear f54 f57 f60
      refine tstep_yes (by kernel_rfl) ?_
      have HBW2 := Lib.hid hbw
      clear hb hbw
      go_simp
      exact (below_any (3, 10, 1) (0, 0, 2) _ (by unfold U; simp) (by unfold U; simp)).mono fun e w2 h => ⟨by have h1 := h.1; rw [decide_eq_false ex_nobelow] at h1; exact h1, h.2⟩
    refine midsW_step ⟨62, 88, [54, 61], fun u W' => u = .bool true⟩ rfl ?_ ?_
    · intro vs W hb hf
      obtain ⟨f54, f61, _⟩ := hf
      clear HL
      have hbw := HX.out.trans (hb.mono HX.out.size)
      change TStep _ _ _ (Act.put (Act.put (Act.put (Act.put (Act.put (Act.put (Act.put (Act.put (Act.put (Act.put (Act.put (Act.put (Act.put (Act.put (Act.put (Act.put (Act.put (Act.put (Act.put (Act.put (Act.put (Act.put (Act.put (Act.put _ (some 69) (vs 43)) (some 70) (vs 44)) (some 71) (vs 45)) (some 72) (vs 46)) (some 73) (vs 47)) (some 74) (vs 48)) (some 75) (vs 49)) (some 76) (vs 50)) (some 77) (vs 51)) (some 78) (vs 52)) (some 79) (vs 53)) (some 80) (vs 54)) (some 81) (vs 55)) (some 82) (vs 56)) (some 83) (vs 57)) (some 84) (vs 58)) (some 85) (vs 59)) (some 86) (vs 60)) (some 87) (vs 61)) (some 88) (vs 62)) (some 89) (vs 63)) (some 90) (vs 64)) (some 91) (vs 65)) (some 92) (vs 66)) _ _
      rw [f54, f61]
      clear f54 f61
      refine tstep_yes (by kernel_rfl) ?_
      have HBW2 := Lib.hid hbw
      clear hb hbw
      go_simp
      exact Below.refl _ _
    refine midsW_step ⟨63, 89, [54, 62], fun u W' => u = .bool true⟩ rfl ?_ ?_
    · intro vs W hb hf
      obtain ⟨f54, f62, _⟩ := hf
      clear HL
      have hbw := HX.out.trans (hb.mono HX.out.size)
      change TStep _ _ _ (Act.put (Act.put (Act.put (Act.put (Act.put (Act.put (Act.put (Act.put (Act.put (Act.put (Act.put (Act.put (Act.put (Act.put (Act.put (Act.put (Act.put (Act.put (Act.put (Act.put (Act.put (Act.put (Act.put (Act.put _ (some 69) (vs 43)) (some 70) (vs 44)) (some 71) (vs 45)) (some 72) (vs 46)) (some 73) (vs 47)) (some 74) (vs 48)) (some 75) (vs 49)) (some 76) (vs 50)) (some 77) (vs 51)) (some 78) (vs 52)) (some 79) (vs 53)) (some 80) (vs 54)) (some 81) (vs 55)) (some 82) (vs 56)) (some 83) (vs 57)) (some 84) (vs 58)) (some 85) (vs 59)) (some 86) (vs 60)) (some 87) (vs 61)) (some 88) (vs 62)) (some 89) (vs 63)) (some 90) (vs 64)) (some 91) (vs 65)) (some 92) (vs 66)) _ _
      rw [f54, f62]
      clear f54 f62
      refine tstep_yes (by kernel_rfl) ?_
      have HBW2 := Lib.hid hbw
      clear hb hbw
      go_simp
      exact Below.refl _ _
    refine midsW_step ⟨64, 90, [63], fun u W' => u = .bool true⟩ rfl ?_ ?_
    · intro vs W hb hf
      obtain ⟨f63, _⟩ := hf
      clear HL
      have hbw := HX.out.trans (hb.mono HX.out.size)
      change TStep _ _ _ (Act.put (Act.put (Act.put (Act.put (Act.put (Act.put (Act.put (Act.put (Act.put (Act.put (Act.put (Act.put (Act.put (Act.put (Act.put (Act.put (Act.put (Act.put (Act.put (Act.put (Act.put (Act.put (Act.put (Act.put _ (some 69) (vs 43)) (some 70) (vs 44)) (some 71) (vs 45)) (some 72) (vs 46)) (some 73) (vs 47)) (some 74) (vs 48)) (some 75) (vs 49)) (some 76) (vs 50)) (some 77) (vs 51)) (some 78) (vs 52)) (some 79) (vs 53)) (some 80) (vs 54)) (some 81) (vs 55)) (some 82) (vs 56)) (some 83) (vs 57)) (some 84) (vs 58)) (some 85) (vs 59)) (some 86) (vs 60)) (some 87) (vs 61)) (some 88) (vs 62)) (some 89) (vs 63)) (some 90) (vs 64)) (some 91) (vs 65)) (some 92) (vs 66)) _ _
      rw [f63]
      clear f63
      refine tstep_yes (by kernel_rfl) ?_
      have HBW2 := Lib.hid hbw
      clear hb hbw
      go_simp
      exact Below.refl _ _
    refine midsW_step ⟨65, 91, [64], fun u W' => u = .bool true⟩ rfl ?_ ?_
    · intro vs W hb hf
      obtain ⟨f64, _⟩ := hf
      clear HL
      have hbw := HX.out.trans (hb.mono HX.out.size)
      change TStep _ _ _ (Act.put (Act.put (Act.put (Act.put (Act.put (Act.put (Act.put (Act.put (Act.put (Act.put (Act.put (Act.put (Act.put (Act.put (Act.put (Act.put (Act.put (Act.put (Act.put (Act.put (Act.put (Act.put (Act.put (Act.put _ (some 69) (vs 43)) (some 70) (vs 44)) (some 71) (vs 45)) (some 72) (vs 46)) (some 73) (vs 47)) (some 74) (vs 48)) (some 75) (vs 49)) (some 76) (vs 50)) (some 77) (vs 51)) (some 78) (vs 52)) (some 79) (vs 53)) (some 80) (vs 54)) (some 81) (vs 55)) (some 82) (vs 56)) (some 83) (vs 57)) (some 84) (vs 58)) (some 85) (vs 59)) (some 86) (vs 60)) (some 87) (vs 61)) (some 88) (vs 62)) (some 89) (vs 63)) (some 90) (vs 64)) (some 91) (vs 65)) (some 92) (vs 66)) _ _
      rw [f64]
      clear f64
      refine tstep_yes (by kernel_rfl) ?_
      have HBW2 := Lib.hid hbw
      clear hb hbw
      go_simp
      exact (kept_any (.slice none 0 0) [] 0 _ ⟨fun c hc => by simp at hc, by simp, none, 0, rfl, .inl rfl⟩ (by unfold U; omega)).mono fun e w2 h => ⟨by have h1 := h.1; rw [decide_eq_true ex_nil] at h1; exact h1, h.2⟩
    refine midsW_step ⟨66, 92, [64, 65], fun u W' => u = .bool true⟩ rfl ?_ ?_
    · intro vs W hb hf
      obtain ⟨f64, f65, _⟩ := hf
      clear HL
      have hbw := HX.out.trans (hb.mono HX.out.size)
      change TStep _ _ _ (Act.put (Act.put (Act.put (Act.put (Act.put (Act.put (Act.put (Act.put (Act.put (Act.put (Act.put (Act.put (Act.put (Act.put (Act.put (Act.put (Act.put (Act.put (Act.put (Act.put (Act.put (Act.put (Act.put (Act.put _ (some 69) (vs 43)) (some 70) (vs 44)) (some 71) (vs 45)) (some 72) (vs 46)) (some 73) (vs 47)) (some 74) (vs 48)) (some 75) (vs 49)) (some 76) (vs 50)) (some 77) (vs 51)) (some 78) (vs 52)) (some 79) (vs 53)) (some 80) (vs 54)) (some 81) (vs 55)) (some 82) (vs 56)) (some 83) (vs 57)) (some 84) (vs 58)) (some 85) (vs 59)) (some 86) (vs 60)) (some 87) (vs 61)) (some 88) (vs 62)) (some 89) (vs 63)) (some 90) (vs 64)) (some 91) (vs 65)) (some 92) (vs 66)) _ _
      rw [f64, f65]
      clear f64 f65
      refine tstep_yes (by kernel_rfl) ?_
      have HBW2 := Lib.hid hbw
      clear hb hbw
      go_simp
      exact Below.refl _ _
    exact midsW_nil
  · intro vs W hb hf
    obtain ⟨f66, _⟩ := hf
    clear HL
    change wpList _ _ _ _ (Act.put (Act.put (Act.put (Act.put (Act.put (Act.put (Act.put (Act.put (Act.put (Act.put (Act.put (Act.put (Act.put (Act.put (Act.put (Act.put (Act.put (Act.put (Act.put (Act.put (Act.put (Act.put (Act.put (Act.put _ (some 69) (vs 43)) (some 70) (vs 44)) (some 71) (vs 45)) (some 72) (vs 46)) (some 73) (vs 47)) (some 74) (vs 48)) (some 75) (vs 49)) (some 76) (vs 50)) (some 77) (vs 51)) (some 78) (vs 52)) (some 79) (vs 53)) (some 80) (vs 54)) (some 81) (vs 55)) (some 82) (vs 56)) (some 83) (vs 57)) (some 84) (vs 58)) (some 85) (vs 59)) (some 86) (vs 60)) (some 87) (vs 61)) (some 88) (vs 62)) (some 89) (vs 63)) (some 90) (vs 64)) (some 91) (vs 65)) (some 92) (vs 66)) _
    rw [f66]
    clear f66
    simp only [List.drop_succ_cons, List.drop_zero, List.take_succ_cons, List.take_zero]
    have HZ := Lib.hid (HBW.out.trans ((HX.out.trans (hb.mono HX.out.size)).mono HBW.out.size))
    clear hb
    go_wp2
    go_ret
    exact ⟨rfl, HZ.out⟩
end Go.Proofs.Ytkeffkfjgblicaa
