/-
  The law UpperNever: who gains only when it fits is at most what the curve has ahead; its walk.
-/
import Derived.Test.YtflnlapfomjggaaUpAwake
import Derived.Test.YtflnlapfomjggaaUpActs
import Derived.Test.YtflnlapfomjggaaRunDue
namespace Go.Proofs.Ytflnlapfomjggaa
set_option linter.unusedVariables false
open Go.RowKit


theorem curve_eq (F L R : Int) (h : ¬ (F = 0 ∧ L = 0 ∧ R = 0)) (W : World) : (binOp .eql 24 (.agg #[.int .u64 F, .int .u64 L, .int .u64 R]) (.agg #[.int .u64 0, .int .u64 0, .int .u64 0])).run Try.prog W = .ok (.bool false) W := by
  have e1 : (F == 0) = decide (F = 0) := rfl
  have e2 : (L == 0) = decide (L = 0) := rfl
  have e3 : (R == 0) = decide (R = 0) := rfl
  by_cases h1 : F = 0
  · subst h1
    by_cases h2 : L = 0
    · subst h2
      have h3 : R ≠ 0 := by omega
      go_simp
    · go_simp
  · go_simp

theorem long21_no (a : Option Addr) (len cap : Nat) (w : World) (h : len ≤ 100) :
    Calls Try.prog 29 #[.slice a len cap] w fun e w' => e = .returned (.bool false) ∧ w = w' := by
  go_enter Try.func29, Try.ntmps29
  go_wp2
  go_ret
  have h2 : decide (100 < (len : Int)) = false := by simp; omega
  exact ⟨congrArg (fun q => Ending.returned (.bool q)) h2, rfl⟩
theorem long21_yes (a : Option Addr) (len cap : Nat) (w : World) (h : 100 < len) :
    Calls Try.prog 29 #[.slice a len cap] w fun e w' => e = .returned (.bool true) ∧ w = w' := by
  go_enter Try.func29, Try.ntmps29
  go_wp2
  go_ret
  have h2 : decide (100 < (len : Int)) = true := by simp; omega
  exact ⟨congrArg (fun q => Ending.returned (.bool q)) h2, rfl⟩

theorem never_law {F L R a f total now x n : Int} {A : List (Int × Int)} (h : MayC F L R) (hm : (a, f) ∈ A) (hA : ∀ k ∈ A, k.1 ≤ x ∧ 0 ≤ k.2) (hb : Back (fun t => vA F L R A (max t x)) x total n) (hn : n ≤ now) (hnow : now < 9223372036854775808) (han : a ≤ now) (hft : f ≤ total) (htot : total ≤ 4611686018427387904) :
    total - f ≤ Proofs.Ytflnlapfomjggaa.cap (W F L R (now - a)) ∧ total ≤ vA F L R A (max now x) := by
  obtain ⟨h1, h2⟩ := hb.le (vA_max_mono h hA) hn hnow
  have hmx : max now x = now := by omega
  rw [hmx] at h2 ⊢
  have h3 : vA F L R A now ≤ atK F L R now (a, f) := minF_le _ _ _ _ hm
  rw [atK_has (hA _ hm).2] at h3
  have h5 := W_nonneg h.f0 h.r0 h.l0 (t := now - a) (by omega)
  have h6 := (hA _ hm).2
  unfold hasK at h3
  simp only at h3 h6
  generalize W F L R (now - a) = q at *
  refine ⟨?_, h2⟩
  unfold cap at *; omega

set_option maxRecDepth 100000 in
set_option maxHeartbeats 2000000 in
theorem never_long (F L R : Int) (a : Option Addr) (len cap : Nat) (w : World) (h : 100 < len) :
    Calls Try.prog 7 #[.agg #[.int .u64 F, .int .u64 L, .int .u64 R], .slice a len cap] w fun e w' => e = .returned (.bool true) ∧ Below w.heap.size w w' := by
  have nb := Blk.new w 24 #[.int .u64 F, .int .u64 L, .int .u64 R]
  have hal := (Below.refl w.heap.size w).alloc (Nat.le_refl _) (.cells #[.int .u64 F, .int .u64 L, .int .u64 R] 24)
  have NB := Lib.hid nb; clear nb
  go_enter Try.func7, Try.ntmps7
  go_wp2_with (first | (go_at_call 28; refine (up_awake _).mono ?_; rintro e' w1 ⟨rfl, hb1⟩; have n1 := NB.out.below hb1 NB.out.lt; have a0 := n1.cell 0; have a1 := n1.cell 1; have a2 := n1.cell 2; simp only [List.getElem?_toArray, List.getElem?_cons_zero, List.getElem?_cons_succ] at a0 a1 a2) | (go_at_call 29; refine (long21_yes _ _ _ _ (by omega)).mono ?_; rintro e' w' ⟨rfl, rfl⟩))
  all_goals
    go_ret
    exact ⟨rfl, hal.trans (hb1.mono hal.size)⟩

set_option maxRecDepth 100000 in
set_option maxHeartbeats 2000000 in
theorem never_nomay (F L R : Int) (a : Option Addr) (len cap : Nat) (w : World) (hL : U L) (hlen : len ≤ 100) (h : mayB F L R = false) :
    Calls Try.prog 7 #[.agg #[.int .u64 F, .int .u64 L, .int .u64 R], .slice a len cap] w fun e w' => e = .returned (.bool true) ∧ Below w.heap.size w w' := by
  have nb := Blk.new w 24 #[.int .u64 F, .int .u64 L, .int .u64 R]
  have hal := (Below.refl w.heap.size w).alloc (Nat.le_refl _) (.cells #[.int .u64 F, .int .u64 L, .int .u64 R] 24)
  have NB := Lib.hid nb; clear nb
  have H := Lib.hid h; clear h
  go_enter Try.func7, Try.ntmps7
  go_wp2_with (first | (go_at_call 28; refine (up_awake _).mono ?_; rintro e' w1 ⟨rfl, hb1⟩; have n1 := NB.out.below hb1 NB.out.lt; have a0 := n1.cell 0; have a1 := n1.cell 1; have a2 := n1.cell 2; simp only [List.getElem?_toArray, List.getElem?_cons_zero, List.getElem?_cons_succ] at a0 a1 a2) | (go_at_call 29; refine (long21_no _ _ _ _ (by omega)).mono ?_; rintro e' w' ⟨rfl, rfl⟩) | (go_at_call 30; refine (may_any F L R _ hL.1).mono ?_; rintro e' w2 ⟨rfl, hb2⟩; rw [H.out]; have n2 := n1.below hb2 n1.lt; clear a0 a1 a2; have a0 := n2.cell 0; have a1 := n2.cell 1; have a2 := n2.cell 2; simp only [List.getElem?_toArray, List.getElem?_cons_zero, List.getElem?_cons_succ] at a0 a1 a2))
  all_goals
    go_ret
    exact ⟨rfl, hal.trans ((hb1.trans (hb2.mono hb1.size)).mono hal.size)⟩

set_option maxRecDepth 100000 in
set_option maxHeartbeats 2000000 in
theorem never_none (F L R : Int) (h0 : F = 0 ∧ L = 0 ∧ R = 0) (a : Option Addr) (len cap : Nat) (w : World) (hlen : len ≤ 100) :
    Calls Try.prog 7 #[.agg #[.int .u64 F, .int .u64 L, .int .u64 R], .slice a len cap] w fun e w' => e = .returned (.bool true) ∧ Below w.heap.size w w' := by
  have nb := Blk.new w 24 #[.int .u64 F, .int .u64 L, .int .u64 R]
  have hal := (Below.refl w.heap.size w).alloc (Nat.le_refl _) (.cells #[.int .u64 F, .int .u64 L, .int .u64 R] 24)
  have NB := Lib.hid nb; clear nb
  obtain ⟨rfl, rfl, rfl⟩ := h0
  have hL : U 0 := ⟨by decide, by decide⟩
  have H := Lib.hid (show mayB 0 0 0 = true by decide)
  go_enter Try.func7, Try.ntmps7
  go_wp2_with (first | (go_at_call 28; refine (up_awake _).mono ?_; rintro e' w1 ⟨rfl, hb1⟩; have n1 := NB.out.below hb1 NB.out.lt; have a0 := n1.cell 0; have a1 := n1.cell 1; have a2 := n1.cell 2; simp only [List.getElem?_toArray, List.getElem?_cons_zero, List.getElem?_cons_succ] at a0 a1 a2) | (go_at_call 29; refine (long21_no _ _ _ _ (by omega)).mono ?_; rintro e' w' ⟨rfl, rfl⟩) | (go_at_call 30; refine (may_any 0 0 0 _ hL.1).mono ?_; rintro e' w2 ⟨rfl, hb2⟩; rw [H.out]; have n2 := n1.below hb2 n1.lt; clear a0 a1 a2; have a0 := n2.cell 0; have a1 := n2.cell 1; have a2 := n2.cell 2; simp only [List.getElem?_toArray, List.getElem?_cons_zero, List.getElem?_cons_succ] at a0 a1 a2))
  all_goals
    go_ret
    exact ⟨rfl, hal.trans ((hb1.trans (hb2.mono hb1.size)).mono hal.size)⟩

set_option maxRecDepth 100000 in
set_option maxHeartbeats 2000000 in
theorem never_some (F L R : Int) (a : Option Addr) (len cap : Nat) (z : List UAct) (w : World) (hF : U F) (hL : U L) (hR : U R) (h0 : ¬ (F = 0 ∧ L = 0 ∧ R = 0)) (h1 : mayB F L R = true) (hz : UActsAt w a len z) (hlen : len ≤ 100) :
    Calls Try.prog 7 #[.agg #[.int .u64 F, .int .u64 L, .int .u64 R], .slice a len cap] w fun e w' => e = .returned (.bool true) ∧ Below w.heap.size w w' := by
  have nb := Blk.new w 24 #[.int .u64 F, .int .u64 L, .int .u64 R]
  have hal := (Below.refl w.heap.size w).alloc (Nat.le_refl _) (.cells #[.int .u64 F, .int .u64 L, .int .u64 R] 24)
  have NB := Lib.hid nb; clear nb
  have hq := curve_eq F L R h0
  have H := Lib.hid h1; have H0 := Lib.hid h0; have HZ := Lib.hid hz; have hM := mayB_spec hF.1 hL.1 hR.1 h1
  have HM := Lib.hid hM; clear h1 hz hM h0
  have hu3 : U F ∧ U L ∧ U R := ⟨hF, hL, hR⟩
  have HU := Lib.hid hu3; clear hu3
  go_enter Try.func7, Try.ntmps7
  go_wp2_with (first | (go_at_call 28; refine (up_awake _).mono ?_; rintro e' w1 ⟨rfl, hb1⟩; have n1 := NB.out.below hb1 NB.out.lt; have a0 := n1.cell 0; have a1 := n1.cell 1; have a2 := n1.cell 2; simp only [List.getElem?_toArray, List.getElem?_cons_zero, List.getElem?_cons_succ] at a0 a1 a2) | (go_at_call 29; refine (long21_no _ _ _ _ (by omega)).mono ?_; rintro e' w' ⟨rfl, rfl⟩) | (go_at_call 30; refine (may_any F L R _ hL.1).mono ?_; rintro e' w2 ⟨rfl, hb2⟩; rw [H.out]; have n2 := n1.below hb2 n1.lt; clear a0 a1 a2; have a0 := n2.cell 0; have a1 := n2.cell 1; have a2 := n2.cell 2; simp only [List.getElem?_toArray, List.getElem?_cons_zero, List.getElem?_cons_succ] at a0 a1 a2) | (go_at_call 31; refine (lnew_some F L R _ hF.1 hL.1 hR.1 H0.out H.out).mono ?_; rintro e' w3 ⟨l, r, g, rfl, hg, hl, hb3⟩; have HL := Lib.hid hl; have hbc := (hb1.trans (hb2.mono hb1.size)).trans (hb3.mono (hb1.trans (hb2.mono hb1.size)).size); have hgw := Nat.le_trans (hb1.trans (hb2.mono hb1.size)).size hg; clear hl hb3 hb2 hb1 hg n1 n2 a0 a1 a2) | (go_at_call 32; refine (lwake HL.out 0 0 0 0 (u_small (by decide) (by decide)) (u_small (by decide) (by decide)) (by decide) (by decide) (by simp)).mono ?_; rintro e' w4 ⟨rfl, hl4, hg4⟩; rw [List.nil_append] at hl4; have HL4 := Lib.hid hl4; have hbc4 := hbc.grown hg4 hbc.size (fun j hj => by (injection hj with hj; omega)); clear hl4 hg4 HL hbc))
  go_loopw [6, 7, 8, 9, 10] (fun nw tt at_ fr i W => ∃ (k : Nat) (now total at0 from0 : Int) (A : List (Int × Int)), k ≤ len ∧ i = .int .i64 k ∧ nw = .int .u64 now ∧ tt = .int .u64 total ∧ at_ = .int .u64 at0 ∧ fr = .int .u64 from0 ∧ LimAt W l r g F L R at0 A ∧ (at0, from0) ∈ A ∧ A.length ≤ k + 1 ∧ 0 ≤ at0 ∧ at0 ≤ now ∧ now ≤ 64 * k ∧ 0 ≤ from0 ∧ from0 ≤ total ∧ total ≤ 1048576 * k ∧ Below (w.alloc (.cells #[.int .u64 F, .int .u64 L, .int .u64 R] 24)).heap.size (w.alloc (.cells #[.int .u64 F, .int .u64 L, .int .u64 R] 24)) W) (fun _ _ _ _ i _ => len - (intOf i).toNat)
  case atStart => exact ⟨0, 0, 0, 0, 0, _, by omega, rfl, rfl, rfl, rfl, rfl, HL4.out, by simp, by simp, by omega, by omega, by omega, by omega, by omega, by omega, hbc4⟩
  case round =>
    obtain ⟨k, now, total, at0, from0, A, hk, rfl, rfl, rfl, rfl, rfl, hl, hmem, hfew, ha0, han, hnk, hf0, hft, htk, hbr⟩ := hrel
    have hnum := hl.num
    have HL := Lib.hid hl; have HMEM := Lib.hid hmem; clear hl hmem
    by_cases hlt : k < len
    · obtain ⟨hzl, hzu, hzc⟩ := (HZ.out.below hal).below hbr
      obtain ⟨b, off, rfl, hbl, hcl⟩ := hzc.resolve_left (by omega)
      obtain ⟨⟨X, Y, wk, cp⟩, hq0⟩ : ∃ q, z[k]? = some q := ⟨_, List.getElem?_eq_getElem (by omega)⟩
      obtain ⟨c0, c1, c2, c3⟩ := hcl k _ hq0
      have hu := hzu _ (List.mem_of_getElem? hq0)
      have hX0 := hu.1.1; have hX1 := hu.1.2; have hY0 := hu.2.1; have hY1 := hu.2.2
      simp only at c0 c1 c2 c3 hX0 hX1 hY0 hY1
      obtain ⟨d, hd⟩ : ∃ d, X.tmod 64 = d := ⟨_, rfl⟩
      obtain ⟨y, hy⟩ : ∃ y, Y.tmod 1048576 = y := ⟨_, rfl⟩
      have hd2 : 0 ≤ d ∧ d < 64 := by rw [← hd, Int.tmod_eq_emod_of_nonneg hX0]; omega
      have hy2 : 0 ≤ y ∧ y < 1048576 := by rw [← hy, Int.tmod_eq_emod_of_nonneg hY0]; omega
      have HN := Lib.hid hnum
      clear hzl hzu hzc hcl hu hq0 hnum
      have hal2 := (Below.refl wr.heap.size wr).alloc (Nat.le_refl _) (.cells #[.int .u64 X, .int .u64 Y, .bool wk, .bool cp] 50)
      have na := Blk.new wr 50 #[.int .u64 X, .int .u64 Y, .bool wk, .bool cp]
      have hx2 := HL.out.below hal2
      have hbw := hbr.trans (hal2.mono hbr.size)
      have nc := NB.out.below hbw NB.out.lt
      have hglt := HL.out.2.1.lt
      have hsz := NB.out.lt
      obtain ⟨nw, hnw⟩ : ∃ nw, now + d = nw := ⟨_, rfl⟩
      obtain ⟨tt, htt⟩ : ∃ tt, total + y = tt := ⟨_, rfl⟩
      have HX := Lib.hid hx2; have NC := Lib.hid nc; have NA := Lib.hid na
      have a0 := nc.cell 0; have a1 := nc.cell 1; have a2 := nc.cell 2; have y0 := na.cell 0; have y1 := na.cell 1; have y2 := na.cell 2
      simp only [List.getElem?_toArray, List.getElem?_cons_zero, List.getElem?_cons_succ] at a0 a1 a2 y0 y1 y2
      clear hx2 nc na HL hal2
      go_upto_region 13 with fail
      generalize wr.alloc (.cells #[.int .u64 X, .int .u64 Y, .bool wk, .bool cp] 50) = wa at *
      clear c0 c1 c2 c3
      rcases wk with _ | _
      · have hA0 : A ≠ [] := by rintro rfl; exact absurd HMEM.out (by simp)
        go_wp2_with (first | (go_at_call 33; refine (lfit HX.out hA0 total ⟨by omega, by omega⟩).mono ?_; rintro e' w6 ⟨n, rfl, hbk, hn0, hn1, hb6⟩; have HB := Lib.hid hbk; clear hbk; have NC2 := Lib.hid (NC.out.below hb6 NC.out.lt); have NA2 := Lib.hid (NA.out.below hb6 NA.out.lt); have hbw2 := hbw.trans (hb6.mono hbw.size); have HX2 := Lib.hid (HX.out.below hb6); clear NC NA hbw HX; have NC := Lib.hid NC2.out; have NA := Lib.hid NA2.out; have hbw := hbw2; have HX := Lib.hid HX2.out; clear NC2 NA2 hbw2 HX2 hb6; clear a0 a1 a2 y1; have a0 := NC.out.cell 0; have a1 := NC.out.cell 1; have a2 := NC.out.cell 2; have y1 := NA.out.cell 1; simp only [List.getElem?_toArray, List.getElem?_cons_zero, List.getElem?_cons_succ] at a0 a1 a2 y1) | (go_at_call 22; refine (at_any F L R _ _ HU.out.1 HU.out.2.1 HU.out.2.2 ⟨by omega, by omega⟩).mono ?_; rintro e' w7 ⟨rfl, hb7⟩; obtain ⟨hw1, hw2⟩ := never_law (now := nw) HM.out HMEM.out HN.out.1 HB.out (by omega) (by omega) (by omega) (by omega) (by omega); (try simp only [Int.sub_self, Int.max_self] at hw1 hw2); have NC2 := Lib.hid (NC.out.below hb7 NC.out.lt); have NA2 := Lib.hid (NA.out.below hb7 NA.out.lt); have hbw2 := hbw.trans (hb7.mono hbw.size); have HX2 := Lib.hid (HX.out.below hb7); clear NC NA hbw HX; have NC := Lib.hid NC2.out; have NA := Lib.hid NA2.out; have hbw := hbw2; have HX := Lib.hid HX2.out; clear NC2 NA2 hbw2 HX2 hb7; clear a0 a1 a2 y1; have a0 := NC.out.cell 0; have a1 := NC.out.cell 1; have a2 := NC.out.cell 2; have y1 := NA.out.cell 1; simp only [List.getElem?_toArray, List.getElem?_cons_zero, List.getElem?_cons_succ] at a0 a1 a2 y1) | (go_at_call 34; refine (lmost HX.out hA0 nw _ ⟨by omega, by omega⟩ rfl).mono ?_; rintro e' w8 ⟨rfl, hb8⟩; have NC2 := Lib.hid (NC.out.below hb8 NC.out.lt); have NA2 := Lib.hid (NA.out.below hb8 NA.out.lt); have hbw2 := hbw.trans (hb8.mono hbw.size); have HX2 := Lib.hid (HX.out.below hb8); clear NC NA hbw HX; have NC := Lib.hid NC2.out; have NA := Lib.hid NA2.out; have hbw := hbw2; have HX := Lib.hid HX2.out; clear NC2 NA2 hbw2 HX2 hb8; clear a0 a1 a2 y1; have a0 := NC.out.cell 0; have a1 := NC.out.cell 1; have a2 := NC.out.cell 2; have y1 := NA.out.cell 1; simp only [List.getElem?_toArray, List.getElem?_cons_zero, List.getElem?_cons_succ] at a0 a1 a2 y1))
        all_goals
          go_roundw
          case rel =>
            first
              | exact ⟨k + 1, nw, total, at0, from0, A, by omega, by go_num, rfl, rfl, rfl, rfl, HX.out, HMEM.out, by omega, ha0, by omega, by omega, hf0, by omega, by omega, hbw⟩
              | exact ⟨k + 1, nw, tt, at0, from0, A, by omega, by go_num, rfl, rfl, rfl, rfl, HX.out, HMEM.out, by omega, ha0, by omega, by omega, hf0, by omega, by omega, hbw⟩
          case measure => simp [intOf]; omega
      · go_wp2_with (go_at_call 32; refine (lwake HX.out nw total nw total ⟨by omega, by omega⟩ ⟨by omega, by omega⟩ (by omega) (by omega) (by omega)).mono ?_; rintro e' w5 ⟨rfl, hx5, hg5⟩)
        have nc5 := NC.out.grown hg5 (by simp; omega)
        have na5 := NA.out.grown hg5 (by simp; omega)
        have hbw5 := hbw.grown hg5 hbw.size (fun j hj => by injection hj with hj; omega)
        obtain ⟨B, hB⟩ : ∃ B, A ++ [(nw, total)] = B := ⟨_, rfl⟩
        have hBl : B.length = A.length + 1 := by rw [← hB]; simp
        have hBm : (nw, total) ∈ B := by rw [← hB]; simp
        rw [hB] at hx5
        have hN5 := hx5.num
        clear HX NC NA hbw HN HMEM hg5 a0 a1 a2 y0 y1 y2
        have HX := Lib.hid hx5; have NC := Lib.hid nc5; have NA := Lib.hid na5; have hbw := hbw5; have HN := Lib.hid hN5; have HMEM := Lib.hid hBm
        have a0 := nc5.cell 0; have a1 := nc5.cell 1; have a2 := nc5.cell 2; have y1 := na5.cell 1
        simp only [List.getElem?_toArray, List.getElem?_cons_zero, List.getElem?_cons_succ] at a0 a1 a2 y1
        clear hx5 nc5 na5 hbw5 hN5 hBm
        have hA0 : B ≠ [] := by rintro rfl; exact absurd HMEM.out (by simp)
        go_wp2_with (first | (go_at_call 33; refine (lfit HX.out hA0 total ⟨by omega, by omega⟩).mono ?_; rintro e' w6 ⟨n, rfl, hbk, hn0, hn1, hb6⟩; have HB := Lib.hid hbk; clear hbk; have NC2 := Lib.hid (NC.out.below hb6 NC.out.lt); have NA2 := Lib.hid (NA.out.below hb6 NA.out.lt); have hbw2 := hbw.trans (hb6.mono hbw.size); have HX2 := Lib.hid (HX.out.below hb6); clear NC NA hbw HX; have NC := Lib.hid NC2.out; have NA := Lib.hid NA2.out; have hbw := hbw2; have HX := Lib.hid HX2.out; clear NC2 NA2 hbw2 HX2 hb6; clear a0 a1 a2 y1; have a0 := NC.out.cell 0; have a1 := NC.out.cell 1; have a2 := NC.out.cell 2; have y1 := NA.out.cell 1; simp only [List.getElem?_toArray, List.getElem?_cons_zero, List.getElem?_cons_succ] at a0 a1 a2 y1) | (go_at_call 22; refine (at_any F L R _ _ HU.out.1 HU.out.2.1 HU.out.2.2 ⟨by omega, by omega⟩).mono ?_; rintro e' w7 ⟨rfl, hb7⟩; obtain ⟨hw1, hw2⟩ := never_law (now := nw) HM.out HMEM.out HN.out.1 HB.out (by omega) (by omega) (by omega) (by omega) (by omega); (try simp only [Int.sub_self, Int.max_self] at hw1 hw2); have NC2 := Lib.hid (NC.out.below hb7 NC.out.lt); have NA2 := Lib.hid (NA.out.below hb7 NA.out.lt); have hbw2 := hbw.trans (hb7.mono hbw.size); have HX2 := Lib.hid (HX.out.below hb7); clear NC NA hbw HX; have NC := Lib.hid NC2.out; have NA := Lib.hid NA2.out; have hbw := hbw2; have HX := Lib.hid HX2.out; clear NC2 NA2 hbw2 HX2 hb7; clear a0 a1 a2 y1; have a0 := NC.out.cell 0; have a1 := NC.out.cell 1; have a2 := NC.out.cell 2; have y1 := NA.out.cell 1; simp only [List.getElem?_toArray, List.getElem?_cons_zero, List.getElem?_cons_succ] at a0 a1 a2 y1) | (go_at_call 34; refine (lmost HX.out hA0 nw _ ⟨by omega, by omega⟩ rfl).mono ?_; rintro e' w8 ⟨rfl, hb8⟩; have NC2 := Lib.hid (NC.out.below hb8 NC.out.lt); have NA2 := Lib.hid (NA.out.below hb8 NA.out.lt); have hbw2 := hbw.trans (hb8.mono hbw.size); have HX2 := Lib.hid (HX.out.below hb8); clear NC NA hbw HX; have NC := Lib.hid NC2.out; have NA := Lib.hid NA2.out; have hbw := hbw2; have HX := Lib.hid HX2.out; clear NC2 NA2 hbw2 HX2 hb8; clear a0 a1 a2 y1; have a0 := NC.out.cell 0; have a1 := NC.out.cell 1; have a2 := NC.out.cell 2; have y1 := NA.out.cell 1; simp only [List.getElem?_toArray, List.getElem?_cons_zero, List.getElem?_cons_succ] at a0 a1 a2 y1))
        all_goals
          go_roundw
          case rel =>
            first
              | exact ⟨k + 1, nw, total, nw, total, B, by omega, by go_num, rfl, rfl, rfl, rfl, HX.out, HMEM.out, by omega, by omega, by omega, by omega, by omega, by omega, by omega, hbw⟩
              | exact ⟨k + 1, nw, tt, nw, total, B, by omega, by go_num, rfl, rfl, rfl, rfl, HX.out, HMEM.out, by omega, by omega, by omega, by omega, by omega, by omega, by omega, hbw⟩
          case measure => simp [intOf]; omega
    · obtain rfl : k = len := by omega
      go_wp2
      go_ret
      exact ⟨rfl, hal.trans (hbr.mono hal.size)⟩


theorem never_walk (F L R : Int) (a : Option Addr) (len cap : Nat) (zs : List (List Value)) (w : World) (hF : U F) (hL : U L) (hR : U R) (hz : IsRows [some .u64, some .u64, none, none] w a len cap zs) :
    Calls Try.prog 7 #[.agg #[.int .u64 F, .int .u64 L, .int .u64 R], .slice a len cap] w fun e w' => e = .returned (.bool true) ∧ Below w.heap.size w w' := by
  obtain ⟨hlen, z, hz'⟩ := uacts_of hz
  by_cases h : 100 < len
  · exact never_long F L R a len cap w h
  · by_cases h1 : mayB F L R = true
    · by_cases h0 : F = 0 ∧ L = 0 ∧ R = 0
      · exact never_none F L R h0 a len cap w (by omega)
      · exact never_some F L R a len cap z w hF hL hR h0 h1 hz' (by omega)
    · exact never_nomay F L R a len cap w hL (by omega) (by simpa using h1)

end Go.Proofs.Ytflnlapfomjggaa
