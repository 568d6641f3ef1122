/-
  The walk of the law SaggedLeast.
-/
import Derived.Test.YtmmodhhheojkfaaSagAbove
namespace Go.Proofs.Ytmmodhhheojkfaa
open Go.RowKit

def earlyB (L x : Int) (A : List (Int × Int)) : Bool := A.all fun a => decide (L ≤ x - a.1)
theorem runA_mono (z : List Act4) : ∀ k, (runA (z.take k)).1 ≤ (runA z).1 := by
  have grow : ∀ (z : List Act4) (s : Int × List (Int × Int)), s.1 ≤ (z.foldl stp s).1 := by
    intro z
    induction z with
    | nil => intro s; exact Int.le_refl _
    | cons q z ih =>
      intro s
      have h1 := ih (stp s q)
      have h2 : s.1 ≤ (stp s q).1 := by unfold stp; simp only; omega
      rw [List.foldl_cons]; omega
  intro k
  have h : runA z = (z.drop k).foldl stp (runA (z.take k)) := by
    unfold runA
    rw [← List.foldl_append, List.take_append_drop]
  rw [h]
  exact grow _ _
theorem minF_snoc (g : Int × Int → Int) (m : Int) (A : List (Int × Int)) (a : Int × Int) : minF g m (A ++ [a]) = min (minF g m A) (g a) := by
  simp [minF, List.foldl_append]
theorem earlyB_snoc (L x : Int) (A : List (Int × Int)) (a : Int × Int) : earlyB L x (A ++ [a]) = (earlyB L x A && decide (L ≤ x - a.1)) := by
  simp [earlyB, List.all_append]

set_option maxRecDepth 100000 in
set_option maxHeartbeats 2000000 in
theorem least_nil (F L R y : Int) (a : Option Addr) (len cap : Nat) (w : World) (hL : 0 ≤ L) (hlen : len ≤ 9223372036854775807) (h : mayB F L R = false ∨ (mayB F L R = true ∧ R < F)) :
    Calls Try.prog 6 #[.agg #[.int .u64 F, .int .u64 L, .int .u64 R], .slice a len cap, .int .u64 y] w fun e w' => e = .returned (.bool true) ∧ Below w.heap.size w w' := by
  have nb := Blk.new w 30 #[.int .u64 F, .int .u64 L, .int .u64 R]
  have hal := (Below.refl w.heap.size w).alloc (Nat.le_refl _) (.cells #[.int .u64 F, .int .u64 L, .int .u64 R] 30)
  have H := Lib.hid h; clear h
  have NB := Lib.hid nb; clear nb
  go_enter Try.func6, Try.ntmps6
  go_wp2_with (first | (go_at_call 33; refine (awake_any _).mono ?_; rintro e w1 ⟨rfl, hb1⟩; have n1 := NB.out.below hb1 NB.out.lt; have a0 := n1.cell 0; have a1 := n1.cell 1; have a2 := n1.cell 2; simp only [List.getElem?_toArray, List.getElem?_cons_zero, List.getElem?_cons_succ] at a0 a1 a2; have hbw1 := hal.trans (hb1.mono hal.size)) | (go_at_call 34; refine (started_nil F L R a len cap _ hL hlen H.out).mono ?_; rintro e w2 ⟨rfl, hb2⟩))
  all_goals
    go_ret
    exact ⟨rfl, hbw1.trans (hb2.mono hbw1.size)⟩

set_option maxRecDepth 100000 in
set_option maxHeartbeats 2000000 in
theorem least_many (F L R y : Int) (a : Option Addr) (len cap : Nat) (w : World) (hF : 0 ≤ F) (hL : 0 ≤ L) (hR : 0 ≤ R) (hlen : len ≤ 9223372036854775807) (h40 : 40 < len) (h1 : mayB F L R = true) (h2 : F ≤ R) :
    Calls Try.prog 6 #[.agg #[.int .u64 F, .int .u64 L, .int .u64 R], .slice a len cap, .int .u64 y] w fun e w' => e = .returned (.bool true) ∧ Below w.heap.size w w' := by
  have nb := Blk.new w 30 #[.int .u64 F, .int .u64 L, .int .u64 R]
  have hal := (Below.refl w.heap.size w).alloc (Nat.le_refl _) (.cells #[.int .u64 F, .int .u64 L, .int .u64 R] 30)
  have H := Lib.hid h1; clear h1
  have NB := Lib.hid nb; clear nb
  go_enter Try.func6, Try.ntmps6
  go_wp2_with (first | (go_at_call 33; refine (awake_any _).mono ?_; rintro e w1 ⟨rfl, hb1⟩; have n1 := NB.out.below hb1 NB.out.lt; have a0 := n1.cell 0; have a1 := n1.cell 1; have a2 := n1.cell 2; simp only [List.getElem?_toArray, List.getElem?_cons_zero, List.getElem?_cons_succ] at a0 a1 a2; have hbw1 := hal.trans (hb1.mono hal.size)) | (go_at_call 34; refine (started_many F L R a len cap _ hF hL hR hlen h40 H.out h2).mono ?_; rintro e w2 ⟨rfl, hb2⟩))
  all_goals
    go_ret
    exact ⟨rfl, hbw1.trans (hb2.mono hbw1.size)⟩

set_option maxRecDepth 100000 in
set_option maxHeartbeats 2000000 in
theorem least_zero (F L R y : Int) (a : Option Addr) (len cap : Nat) (z : List Act4) (w : World) (hF : 0 ≤ F) (hL : 0 ≤ L) (hR : 0 ≤ R) (hz : ActsAt w a len z) (h0 : len = 0) (h1 : mayB F L R = true) (h2 : F ≤ R) :
    Calls Try.prog 6 #[.agg #[.int .u64 F, .int .u64 L, .int .u64 R], .slice a len cap, .int .u64 y] w fun e w' => e = .returned (.bool true) ∧ Below w.heap.size w w' := by
  have nb := Blk.new w 30 #[.int .u64 F, .int .u64 L, .int .u64 R]
  have hal := (Below.refl w.heap.size w).alloc (Nat.le_refl _) (.cells #[.int .u64 F, .int .u64 L, .int .u64 R] 30)
  have hz0 : z = [] := List.length_eq_zero_iff.1 (by rw [hz.1]; exact h0)
  have H := Lib.hid h1; have HZ := Lib.hid hz; have HZ0 := Lib.hid hz0; clear h1 hz hz0
  subst h0
  have h40 : 0 ≤ 40 := by omega
  have NB := Lib.hid nb; clear nb
  go_enter Try.func6, Try.ntmps6
  go_wp2_with (first | (go_at_call 33; refine (awake_any _).mono ?_; rintro e w1 ⟨rfl, hb1⟩; have n1 := NB.out.below hb1 NB.out.lt; have a0 := n1.cell 0; have a1 := n1.cell 1; have a2 := n1.cell 2; simp only [List.getElem?_toArray, List.getElem?_cons_zero, List.getElem?_cons_succ] at a0 a1 a2; have hbw1 := hal.trans (hb1.mono hal.size)) | (go_at_call 34; refine (started_some F L R a _ cap z _ hF hL hR ((HZ.out.below hal).below hb1) h40 H.out h2).mono ?_; rintro e w2 ⟨g, K, rfl, hg, hl, hb2⟩; have hbw2 := hbw1.trans (hb2.mono hbw1.size); rw [show runA z = (0, []) from by rw [HZ0.out]; rfl] at hl; have HL := Lib.hid hl; clear hl hb2) | (go_at_call 18; refine (slast_none _ _ HL.out.none).mono ?_; rintro e w' ⟨rfl, rfl⟩) | (go_at_call 21; refine (sat_none _ _ _ HL.out.none).mono ?_; rintro e w5 ⟨rfl, hb5⟩; have hL5 := HL.out.below hb5; have hb6 := hbw2.trans (hb5.mono hbw2.size); clear HL hbw2 hb5; have HL := Lib.hid hL5; have hbw2 := hb6; clear hL5 hb6) | (go_at_call 22; refine (sline_none _ _ _ HL.out.none).mono ?_; rintro e w5 ⟨rfl, hb5⟩; have hL5 := HL.out.below hb5; have hb6 := hbw2.trans (hb5.mono hbw2.size); clear HL hbw2 hb5; have HL := Lib.hid hL5; have hbw2 := hb6; clear hL5 hb6) | (go_at_call 24; refine (skept_none _ _ HL.out.none).mono ?_; rintro e w' ⟨rfl, rfl⟩))
  all_goals
    go_ret
    exact ⟨rfl, hbw2⟩
set_option maxRecDepth 100000 in
set_option maxHeartbeats 2000000 in
theorem least_lo (F L R y x : Int) (a : Option Addr) (len cap : Nat) (z : List Act4) (w : World) (hF : 0 ≤ F) (hL : 0 ≤ L) (hR : 0 ≤ R) (hy : U y) (hz : ActsAt w a len z) (h40 : len ≤ 40) (hpos : 0 < len) (h1 : mayB F L R = true) (h2 : F ≤ R) (hx : (runA z).1 = x) (hxy : y < x) :
    Calls Try.prog 6 #[.agg #[.int .u64 F, .int .u64 L, .int .u64 R], .slice a len cap, .int .u64 y] w fun e w' => e = .returned (.bool true) ∧ Below w.heap.size w w' := by
  have nb := Blk.new w 30 #[.int .u64 F, .int .u64 L, .int .u64 R]
  have hal := (Below.refl w.heap.size w).alloc (Nat.le_refl _) (.cells #[.int .u64 F, .int .u64 L, .int .u64 R] 30)
  have hA : (runA z).2 ≠ [] := by
    intro h
    have := congrArg List.length h
    rw [runA_len, hz.1] at this
    simp at this; omega
  have HA := Lib.hid hA
  have hM := mayB_spec hF hL hR h1
  have hl1 := hM.l1; have hr1 := hM.r1; have hf1 := hM.f1
  have uL : U L := ⟨hL, by omega⟩
  have uF : U F := ⟨hF, by omega⟩
  have uR : U R := ⟨hR, by omega⟩
  have hy0 := hy.1; have hy1 := hy.2
  have hmono := runA_mono z
  rw [hx] at hmono
  have H := Lib.hid h1; have HZ := Lib.hid hz; have HX := Lib.hid hx; have HMO := Lib.hid hmono; clear h1 hz hA hx hmono
  have NB := Lib.hid nb; clear nb
  go_enter Try.func6, Try.ntmps6
  go_wp2_with (first | (go_at_call 33; refine (awake_any _).mono ?_; rintro e w1 ⟨rfl, hb1⟩; have n1 := NB.out.below hb1 NB.out.lt; have a0 := n1.cell 0; have a1 := n1.cell 1; have a2 := n1.cell 2; simp only [List.getElem?_toArray, List.getElem?_cons_zero, List.getElem?_cons_succ] at a0 a1 a2; have hbw1 := hal.trans (hb1.mono hal.size)) | (go_at_call 34; refine (started_some F L R a _ cap z _ hF hL hR ((HZ.out.below hal).below hb1) h40 H.out h2).mono ?_; rintro e w2 ⟨g, K, rfl, hg, hl, hb2⟩; have n2 := n1.below hb2 n1.lt; have N1 := Lib.hid n2; clear n2; have hbw2 := hbw1.trans (hb2.mono hbw1.size); have HL := Lib.hid hl; have hz2 := ((HZ.out.below hal).below hb1).below hb2; have HZ2 := Lib.hid hz2; clear hz2 hl hb2 hb1 n1 a0 a1 a2 hal NB) | (go_at_call 18; refine (live_last HL.out HA.out).mono ?_; rintro e w' ⟨rfl, rfl⟩; have hx0 := HL.out.x0; have hx1 := HL.out.x1; have hx := HX.out; rw [hx] at hx0 hx1; rw [hx]; clear hx))
  go_loopw [11, 12, 13, 14, 15] (fun xx h l e i W => ∃ k : Nat, k ≤ len ∧ i = .int .i64 k ∧ xx = .int .u64 (runA (z.take k)).1 ∧ h = .int .u64 (minF (atK F L R x) 4611686018427387904 (runA (z.take k)).2) ∧ l = .int .u64 (minF (linK R x) 4611686018427387904 (runA (z.take k)).2) ∧ e = .bool (earlyB L x (runA (z.take k)).2) ∧ Below w2.heap.size w2 W) (fun _ _ _ _ i _ => len - (intOf i).toNat)
  case atStart => exact ⟨0, by omega, rfl, rfl, rfl, rfl, rfl, Below.refl _ _⟩
  case round =>
    obtain ⟨k, hk, rfl, rfl, rfl, rfl, rfl, hbr⟩ := hrel
    have hl3 := HL.out.below hbr
    have hbw3 := hbw2.trans (hbr.mono hbw2.size)
    have n3 := N1.out.below hbr N1.out.lt
    have b0 := n3.cell 0; have b1 := n3.cell 1; have b2 := n3.cell 2
    simp only [List.getElem?_toArray, List.getElem?_cons_zero, List.getElem?_cons_succ] at b0 b1 b2
    have HL3 := Lib.hid hl3; have N3 := Lib.hid n3
    clear hl3 n3
    by_cases hlt : k < len
    · obtain ⟨hzl, hzu, hzc⟩ := HZ2.out.below hbr
      obtain ⟨b, off, rfl, hbl, hcl⟩ := hzc.resolve_left (by omega)
      obtain ⟨⟨X0, Y0, T0, N0⟩, hq⟩ : ∃ q, z[k]? = some q := ⟨_, List.getElem?_eq_getElem (by omega)⟩
      obtain ⟨c0, c1, _, _⟩ := hcl k _ hq
      obtain ⟨⟨hX0, hX1⟩, ⟨hY0, hY1⟩, _⟩ := hzu _ (List.mem_of_getElem? hq)
      have hsn := runA_snoc hq
      have hmo := HMO.out (k + 1)
      rw [hsn] at hmo
      simp only [stp] at hmo hsn hX0 hX1 hY0 hY1
      obtain ⟨xk, hxk⟩ : ∃ v, (runA (z.take k)).1 = v := ⟨_, rfl⟩
      obtain ⟨Ak, hAk⟩ : ∃ v, (runA (z.take k)).2 = v := ⟨_, rfl⟩
      rw [hxk, hAk] at hsn
      rw [hxk] at hmo
      rw [hxk, hAk]
      obtain ⟨M, hM1⟩ : ∃ M, (if (9223372036854775808 : Int) < X0 then 9223372036854775808 else X0) = M := ⟨_, rfl⟩
      obtain ⟨X', hX'⟩ : ∃ X', (if xk < M then M else xk) = X' := ⟨_, rfl⟩
      obtain ⟨Y', hY'⟩ : ∃ Y', (if (4611686018427387904 : Int) < Y0 then 4611686018427387904 else Y0) = Y' := ⟨_, rfl⟩
      have eX : max (min X0 9223372036854775808) xk = X' := by omega
      have eY : min Y0 4611686018427387904 = Y' := by omega
      rw [eX] at hmo
      rw [eX, eY] at hsn
      have hx'0 : 0 ≤ X' := by omega
      have hy'0 : 0 ≤ Y' := by omega
      have hy'1 : Y' ≤ 4611686018427387904 := by omega
      have hatk : atK F L R x (X', Y') = Proofs.Ytmmodhhheojkfaa.cap (Y' + Proofs.Ytmmodhhheojkfaa.cap (W F L R (x - X'))) := rfl
      have hlink : linK R x (X', Y') = Proofs.Ytmmodhhheojkfaa.cap (Y' + Proofs.Ytmmodhhheojkfaa.cap (R * (x - X'))) := rfl
      have cw := cap_nonneg (W_nonneg hF hR hL (show 0 ≤ x - X' by omega)); have cw1 := cap_le (W F L R (x - X'))
      have cr := cap_nonneg (Int.mul_nonneg hR (show 0 ≤ x - X' by omega)); have cr1 := cap_le (R * (x - X'))
      obtain ⟨vw, hvw⟩ : ∃ v, Proofs.Ytmmodhhheojkfaa.cap (W F L R (x - X')) = v := ⟨_, rfl⟩
      obtain ⟨vr, hvr⟩ : ∃ v, Proofs.Ytmmodhhheojkfaa.cap (R * (x - X')) = v := ⟨_, rfl⟩
      rw [hvw] at hatk cw cw1
      rw [hvr] at hlink cr cr1
      obtain ⟨vh, hvh⟩ : ∃ v, minF (atK F L R x) 4611686018427387904 Ak = v := ⟨_, rfl⟩
      obtain ⟨vl, hvl⟩ : ∃ v, minF (linK R x) 4611686018427387904 Ak = v := ⟨_, rfl⟩
      obtain ⟨ve, hve⟩ : ∃ v, earlyB L x Ak = v := ⟨_, rfl⟩
      rw [hvh, hvl, hve]
      have HSN := Lib.hid hsn; have HATK := Lib.hid hatk; have HLINK := Lib.hid hlink; have HVW := Lib.hid hvw; have HVR := Lib.hid hvr; have HVH := Lib.hid hvh; have HVL := Lib.hid hvl; have HVE := Lib.hid hve
      clear hzl hzu hzc hcl hq hsn hxk hAk eX eY hatk hlink hvw hvr hvh hvl hve
      go_wp2_with (first | (go_at_call 36; refine (at_any F L R _ _ uF uL uR ⟨by omega, by omega⟩).mono ?_; rintro e w5 ⟨rfl, hb5⟩; rw [HVW.out]; have n5 := N3.out.below hb5 N3.out.lt; have b0 := n5.cell 0; have b1 := n5.cell 1; have b2 := n5.cell 2; simp only [List.getElem?_toArray, List.getElem?_cons_zero, List.getElem?_cons_succ] at b0 b1 b2; have N5 := Lib.hid n5; clear n5) | (go_at_call 37; refine (times_any _ _ _ uR ⟨by omega, by omega⟩).mono ?_; rintro e w6 ⟨rfl, hb6⟩; rw [HVR.out]; have n6 := N5.out.below hb6 N5.out.lt; have b1 := n6.cell 1; simp only [List.getElem?_toArray, List.getElem?_cons_zero, List.getElem?_cons_succ] at b1; clear n6) | (go_at_call 35; refine (rplus_any _ _ _ ⟨by omega, by omega⟩ ⟨by omega, by omega⟩).mono ?_; rintro e w' ⟨rfl, rfl⟩))
      all_goals
        have hbr6 := (hbr.trans (hb5.mono hbr.size)).trans (hb6.mono (Nat.le_trans hbr.size hb5.size))
        go_roundw
        case rel =>
          refine ⟨k + 1, by omega, by go_num, ?_, ?_, ?_, ?_, hbr6⟩
          · rw [HSN.out]
          · rw [HSN.out]; simp only [minF_snoc, HVH.out, HATK.out]; exact val_int (by omega)
          · rw [HSN.out]; simp only [minF_snoc, HVL.out, HLINK.out]; exact val_int (by omega)
          · rw [HSN.out]; simp only [earlyB_snoc, HVE.out]; simp [*]
        case measure => simp [intOf]; omega
    · obtain rfl : k = len := by omega
      have ht : z.take k = z := List.take_of_length_le (Nat.le_of_eq HZ2.out.1)
      rw [ht, HX.out]
      obtain ⟨vh, hvh⟩ : ∃ v, minF (atK F L R x) 4611686018427387904 (runA z).2 = v := ⟨_, rfl⟩
      obtain ⟨vl, hvl⟩ : ∃ v, minF (linK R x) 4611686018427387904 (runA z).2 = v := ⟨_, rfl⟩
      obtain ⟨ve, hve⟩ : ∃ v, earlyB L x (runA z).2 = v := ⟨_, rfl⟩
      rw [hvh, hvl, hve]
      have hkk := HL3.out.run.some HA.out
      rw [runA_len, HZ2.out.1] at hkk
      have hone : ve = true → K.length = 1 := by
        intro h
        rw [h] at hve
        have h1 := HL3.out.one (fun a ha => by
          rw [HX.out]
          have := List.all_eq_true.1 hve a ha
          simpa using this)
        omega
      have HV1 := Lib.hid hvh; have HV2 := Lib.hid hvl; have HO := Lib.hid hone
      clear ht hvh hvl hve hone
      have hTm : max y (runA z).1 = x := by rw [HX.out]; omega
      have HTM := Lib.hid hTm
      obtain ⟨hk1, hk2⟩ := hkk
      clear hTm
      rcases hcv : ve with _ | _
      all_goals
        have hvx : ve = true → K.length = 1 := HO.out
        rw [hcv] at hvx
        first | (have hK1 : K.length = 1 := hvx rfl; have HK := Lib.hid hK1; clear hK1) | skip
        clear hvx hcv HO
        go_wp2_with (first | (go_at_call 21; refine (live_at' HL3.out HA.out y vh hy (by rw [HTM.out, HV1.out])).mono ?_; rintro e w5 ⟨rfl, hb5⟩; have HL5 := Lib.hid (HL3.out.below hb5)) | (go_at_call 22; refine (live_line' HL5.out HA.out y vl hy (by rw [HTM.out, HV2.out])).mono ?_; rintro e w6 ⟨rfl, hb6⟩; have HL6 := Lib.hid (HL5.out.below hb6)) | (go_at_call 24; refine (live_kept HL6.out HA.out).mono ?_; rintro e w' ⟨rfl, rfl⟩))
        all_goals
          have hbr6 := (hbw3.trans (hb5.mono hbw3.size)).trans (hb6.mono (Nat.le_trans hbw3.size hb5.size))
          go_ret
          first
            | exact ⟨rfl, hbr6⟩
            | (refine ⟨?_, hbr6⟩; have := HK.out; simp; omega)
            | (refine ⟨?_, hbr6⟩; simp; omega)
            | (exfalso; omega)

set_option maxRecDepth 100000 in
set_option maxHeartbeats 2000000 in
theorem least_hi (F L R y x : Int) (a : Option Addr) (len cap : Nat) (z : List Act4) (w : World) (hF : 0 ≤ F) (hL : 0 ≤ L) (hR : 0 ≤ R) (hy : U y) (hz : ActsAt w a len z) (h40 : len ≤ 40) (hpos : 0 < len) (h1 : mayB F L R = true) (h2 : F ≤ R) (hx : (runA z).1 = x) (hxy : x ≤ y) :
    Calls Try.prog 6 #[.agg #[.int .u64 F, .int .u64 L, .int .u64 R], .slice a len cap, .int .u64 y] w fun e w' => e = .returned (.bool true) ∧ Below w.heap.size w w' := by
  have nb := Blk.new w 30 #[.int .u64 F, .int .u64 L, .int .u64 R]
  have hal := (Below.refl w.heap.size w).alloc (Nat.le_refl _) (.cells #[.int .u64 F, .int .u64 L, .int .u64 R] 30)
  have hA : (runA z).2 ≠ [] := by
    intro h
    have := congrArg List.length h
    rw [runA_len, hz.1] at this
    simp at this; omega
  have HA := Lib.hid hA
  have hM := mayB_spec hF hL hR h1
  have hl1 := hM.l1; have hr1 := hM.r1; have hf1 := hM.f1
  have uL : U L := ⟨hL, by omega⟩
  have uF : U F := ⟨hF, by omega⟩
  have uR : U R := ⟨hR, by omega⟩
  have hy0 := hy.1; have hy1 := hy.2
  have hmono := runA_mono z
  rw [hx] at hmono
  have H := Lib.hid h1; have HZ := Lib.hid hz; have HX := Lib.hid hx; have HMO := Lib.hid hmono; clear h1 hz hA hx hmono
  have NB := Lib.hid nb; clear nb
  go_enter Try.func6, Try.ntmps6
  go_wp2_with (first | (go_at_call 33; refine (awake_any _).mono ?_; rintro e w1 ⟨rfl, hb1⟩; have n1 := NB.out.below hb1 NB.out.lt; have a0 := n1.cell 0; have a1 := n1.cell 1; have a2 := n1.cell 2; simp only [List.getElem?_toArray, List.getElem?_cons_zero, List.getElem?_cons_succ] at a0 a1 a2; have hbw1 := hal.trans (hb1.mono hal.size)) | (go_at_call 34; refine (started_some F L R a _ cap z _ hF hL hR ((HZ.out.below hal).below hb1) h40 H.out h2).mono ?_; rintro e w2 ⟨g, K, rfl, hg, hl, hb2⟩; have n2 := n1.below hb2 n1.lt; have N1 := Lib.hid n2; clear n2; have hbw2 := hbw1.trans (hb2.mono hbw1.size); have HL := Lib.hid hl; have hz2 := ((HZ.out.below hal).below hb1).below hb2; have HZ2 := Lib.hid hz2; clear hz2 hl hb2 hb1 n1 a0 a1 a2 hal NB) | (go_at_call 18; refine (live_last HL.out HA.out).mono ?_; rintro e w' ⟨rfl, rfl⟩; have hx0 := HL.out.x0; have hx1 := HL.out.x1; have hx := HX.out; rw [hx] at hx0 hx1; rw [hx]; clear hx))
  go_loopw [11, 12, 13, 14, 15] (fun xx h l e i W => ∃ k : Nat, k ≤ len ∧ i = .int .i64 k ∧ xx = .int .u64 (runA (z.take k)).1 ∧ h = .int .u64 (minF (atK F L R y) 4611686018427387904 (runA (z.take k)).2) ∧ l = .int .u64 (minF (linK R y) 4611686018427387904 (runA (z.take k)).2) ∧ e = .bool (earlyB L x (runA (z.take k)).2) ∧ Below w2.heap.size w2 W) (fun _ _ _ _ i _ => len - (intOf i).toNat)
  case atStart => exact ⟨0, by omega, rfl, rfl, rfl, rfl, rfl, Below.refl _ _⟩
  case round =>
    obtain ⟨k, hk, rfl, rfl, rfl, rfl, rfl, hbr⟩ := hrel
    have hl3 := HL.out.below hbr
    have hbw3 := hbw2.trans (hbr.mono hbw2.size)
    have n3 := N1.out.below hbr N1.out.lt
    have b0 := n3.cell 0; have b1 := n3.cell 1; have b2 := n3.cell 2
    simp only [List.getElem?_toArray, List.getElem?_cons_zero, List.getElem?_cons_succ] at b0 b1 b2
    have HL3 := Lib.hid hl3; have N3 := Lib.hid n3
    clear hl3 n3
    by_cases hlt : k < len
    · obtain ⟨hzl, hzu, hzc⟩ := HZ2.out.below hbr
      obtain ⟨b, off, rfl, hbl, hcl⟩ := hzc.resolve_left (by omega)
      obtain ⟨⟨X0, Y0, T0, N0⟩, hq⟩ : ∃ q, z[k]? = some q := ⟨_, List.getElem?_eq_getElem (by omega)⟩
      obtain ⟨c0, c1, _, _⟩ := hcl k _ hq
      obtain ⟨⟨hX0, hX1⟩, ⟨hY0, hY1⟩, _⟩ := hzu _ (List.mem_of_getElem? hq)
      have hsn := runA_snoc hq
      have hmo := HMO.out (k + 1)
      rw [hsn] at hmo
      simp only [stp] at hmo hsn hX0 hX1 hY0 hY1
      obtain ⟨xk, hxk⟩ : ∃ v, (runA (z.take k)).1 = v := ⟨_, rfl⟩
      obtain ⟨Ak, hAk⟩ : ∃ v, (runA (z.take k)).2 = v := ⟨_, rfl⟩
      rw [hxk, hAk] at hsn
      rw [hxk] at hmo
      rw [hxk, hAk]
      obtain ⟨M, hM1⟩ : ∃ M, (if (9223372036854775808 : Int) < X0 then 9223372036854775808 else X0) = M := ⟨_, rfl⟩
      obtain ⟨X', hX'⟩ : ∃ X', (if xk < M then M else xk) = X' := ⟨_, rfl⟩
      obtain ⟨Y', hY'⟩ : ∃ Y', (if (4611686018427387904 : Int) < Y0 then 4611686018427387904 else Y0) = Y' := ⟨_, rfl⟩
      have eX : max (min X0 9223372036854775808) xk = X' := by omega
      have eY : min Y0 4611686018427387904 = Y' := by omega
      rw [eX] at hmo
      rw [eX, eY] at hsn
      have hx'0 : 0 ≤ X' := by omega
      have hy'0 : 0 ≤ Y' := by omega
      have hy'1 : Y' ≤ 4611686018427387904 := by omega
      have hatk : atK F L R y (X', Y') = Proofs.Ytmmodhhheojkfaa.cap (Y' + Proofs.Ytmmodhhheojkfaa.cap (W F L R (y - X'))) := rfl
      have hlink : linK R y (X', Y') = Proofs.Ytmmodhhheojkfaa.cap (Y' + Proofs.Ytmmodhhheojkfaa.cap (R * (y - X'))) := rfl
      have cw := cap_nonneg (W_nonneg hF hR hL (show 0 ≤ y - X' by omega)); have cw1 := cap_le (W F L R (y - X'))
      have cr := cap_nonneg (Int.mul_nonneg hR (show 0 ≤ y - X' by omega)); have cr1 := cap_le (R * (y - X'))
      obtain ⟨vw, hvw⟩ : ∃ v, Proofs.Ytmmodhhheojkfaa.cap (W F L R (y - X')) = v := ⟨_, rfl⟩
      obtain ⟨vr, hvr⟩ : ∃ v, Proofs.Ytmmodhhheojkfaa.cap (R * (y - X')) = v := ⟨_, rfl⟩
      rw [hvw] at hatk cw cw1
      rw [hvr] at hlink cr cr1
      obtain ⟨vh, hvh⟩ : ∃ v, minF (atK F L R y) 4611686018427387904 Ak = v := ⟨_, rfl⟩
      obtain ⟨vl, hvl⟩ : ∃ v, minF (linK R y) 4611686018427387904 Ak = v := ⟨_, rfl⟩
      obtain ⟨ve, hve⟩ : ∃ v, earlyB L x Ak = v := ⟨_, rfl⟩
      rw [hvh, hvl, hve]
      have HSN := Lib.hid hsn; have HATK := Lib.hid hatk; have HLINK := Lib.hid hlink; have HVW := Lib.hid hvw; have HVR := Lib.hid hvr; have HVH := Lib.hid hvh; have HVL := Lib.hid hvl; have HVE := Lib.hid hve
      clear hzl hzu hzc hcl hq hsn hxk hAk eX eY hatk hlink hvw hvr hvh hvl hve
      go_wp2_with (first | (go_at_call 36; refine (at_any F L R _ _ uF uL uR ⟨by omega, by omega⟩).mono ?_; rintro e w5 ⟨rfl, hb5⟩; rw [HVW.out]; have n5 := N3.out.below hb5 N3.out.lt; have b0 := n5.cell 0; have b1 := n5.cell 1; have b2 := n5.cell 2; simp only [List.getElem?_toArray, List.getElem?_cons_zero, List.getElem?_cons_succ] at b0 b1 b2; have N5 := Lib.hid n5; clear n5) | (go_at_call 37; refine (times_any _ _ _ uR ⟨by omega, by omega⟩).mono ?_; rintro e w6 ⟨rfl, hb6⟩; rw [HVR.out]; have n6 := N5.out.below hb6 N5.out.lt; have b1 := n6.cell 1; simp only [List.getElem?_toArray, List.getElem?_cons_zero, List.getElem?_cons_succ] at b1; clear n6) | (go_at_call 35; refine (rplus_any _ _ _ ⟨by omega, by omega⟩ ⟨by omega, by omega⟩).mono ?_; rintro e w' ⟨rfl, rfl⟩))
      all_goals
        have hbr6 := (hbr.trans (hb5.mono hbr.size)).trans (hb6.mono (Nat.le_trans hbr.size hb5.size))
        go_roundw
        case rel =>
          refine ⟨k + 1, by omega, by go_num, ?_, ?_, ?_, ?_, hbr6⟩
          · rw [HSN.out]
          · rw [HSN.out]; simp only [minF_snoc, HVH.out, HATK.out]; exact val_int (by omega)
          · rw [HSN.out]; simp only [minF_snoc, HVL.out, HLINK.out]; exact val_int (by omega)
          · rw [HSN.out]; simp only [earlyB_snoc, HVE.out]; simp [*]
        case measure => simp [intOf]; omega
    · obtain rfl : k = len := by omega
      have ht : z.take k = z := List.take_of_length_le (Nat.le_of_eq HZ2.out.1)
      rw [ht, HX.out]
      obtain ⟨vh, hvh⟩ : ∃ v, minF (atK F L R y) 4611686018427387904 (runA z).2 = v := ⟨_, rfl⟩
      obtain ⟨vl, hvl⟩ : ∃ v, minF (linK R y) 4611686018427387904 (runA z).2 = v := ⟨_, rfl⟩
      obtain ⟨ve, hve⟩ : ∃ v, earlyB L x (runA z).2 = v := ⟨_, rfl⟩
      rw [hvh, hvl, hve]
      have hkk := HL3.out.run.some HA.out
      rw [runA_len, HZ2.out.1] at hkk
      have hone : ve = true → K.length = 1 := by
        intro h
        rw [h] at hve
        have h1 := HL3.out.one (fun a ha => by
          rw [HX.out]
          have := List.all_eq_true.1 hve a ha
          simpa using this)
        omega
      have HV1 := Lib.hid hvh; have HV2 := Lib.hid hvl; have HO := Lib.hid hone
      clear ht hvh hvl hve hone
      have hTm : max y (runA z).1 = y := by rw [HX.out]; omega
      have HTM := Lib.hid hTm
      obtain ⟨hk1, hk2⟩ := hkk
      clear hTm
      rcases hcv : ve with _ | _
      all_goals
        have hvx : ve = true → K.length = 1 := HO.out
        rw [hcv] at hvx
        first | (have hK1 : K.length = 1 := hvx rfl; have HK := Lib.hid hK1; clear hK1) | skip
        clear hvx hcv HO
        go_wp2_with (first | (go_at_call 21; refine (live_at' HL3.out HA.out y vh hy (by rw [HTM.out, HV1.out])).mono ?_; rintro e w5 ⟨rfl, hb5⟩; have HL5 := Lib.hid (HL3.out.below hb5)) | (go_at_call 22; refine (live_line' HL5.out HA.out y vl hy (by rw [HTM.out, HV2.out])).mono ?_; rintro e w6 ⟨rfl, hb6⟩; have HL6 := Lib.hid (HL5.out.below hb6)) | (go_at_call 24; refine (live_kept HL6.out HA.out).mono ?_; rintro e w' ⟨rfl, rfl⟩))
        all_goals
          have hbr6 := (hbw3.trans (hb5.mono hbw3.size)).trans (hb6.mono (Nat.le_trans hbw3.size hb5.size))
          go_ret
          first
            | exact ⟨rfl, hbr6⟩
            | (refine ⟨?_, hbr6⟩; have := HK.out; simp; omega)
            | (refine ⟨?_, hbr6⟩; simp; omega)
            | (exfalso; omega)

theorem least_walk (F L R y : Int) (a : Option Addr) (len cap : Nat) (zs : List (List Value)) (w : World) (hF : U F) (hL : U L) (hR : U R) (hy : U y) (hz : IsRows [some .u64, some .u64, some .u64, some .u64] w a len cap zs) :
    Calls Try.prog 6 #[.agg #[.int .u64 F, .int .u64 L, .int .u64 R], .slice a len cap, .int .u64 y] w fun e w' => e = .returned (.bool true) ∧ Below w.heap.size w w' := by
  obtain ⟨hlen, z, hz'⟩ := acts_of hz
  by_cases h1 : mayB F L R = true
  · by_cases h2 : F ≤ R
    · by_cases h40 : len ≤ 40
      · by_cases h0 : len = 0
        · exact least_zero F L R y a len cap z w hF.1 hL.1 hR.1 hz' h0 h1 h2
        · by_cases hxy : y < (runA z).1
          · exact least_lo F L R y _ a len cap z w hF.1 hL.1 hR.1 hy hz' h40 (by omega) h1 h2 rfl hxy
          · exact least_hi F L R y _ a len cap z w hF.1 hL.1 hR.1 hy hz' h40 (by omega) h1 h2 rfl (by omega)
      · exact least_many F L R y a len cap w hF.1 hL.1 hR.1 hlen (by omega) h1 h2
    · exact least_nil F L R y a len cap w hL.1 hlen (.inr ⟨h1, by omega⟩)
  · exact least_nil F L R y a len cap w hL.1 hlen (.inl (by simpa using h1))

end Go.Proofs.Ytmmodhhheojkfaa
