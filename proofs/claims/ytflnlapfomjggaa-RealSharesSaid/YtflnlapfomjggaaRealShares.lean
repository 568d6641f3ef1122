/-
  The law RealShares: what is sent by shares changes neither what it got nor its eligible tick; its walk.
-/
import Derived.Test.YtflnlapfomjggaaRealOrder
namespace Go.Proofs.Ytflnlapfomjggaa
set_option linter.unusedVariables false
open Go.RowKit

set_option maxRecDepth 100000 in
set_option maxHeartbeats 4000000 in
theorem shares_long (F L R one two : Int) (a : Option Addr) (len cap : Nat) (w : World) (h : 80 < len) :
    Calls Try.prog 12 #[.agg #[.int .u64 F, .int .u64 L, .int .u64 R], .slice a len cap, .int .u16 one, .int .u16 two] w fun e w' => e = .returned (.bool true) ∧ Below w.heap.size w w' := by
  have nb := Blk.new w 24 #[.int .u64 F, .int .u64 L, .int .u64 R]
  have hal := (Below.refl w.heap.size w).alloc (Nat.le_refl _) (.cells #[.int .u64 F, .int .u64 L, .int .u64 R] 24)
  have NB := Lib.hid nb; clear nb
  go_enter Try.func12, Try.ntmps12
  go_wp2_with (first | (go_at_call 36; refine (real_awake _).mono ?_; rintro e' w1 ⟨rfl, hb1⟩; have n1 := NB.out.below hb1 NB.out.lt; have a0 := n1.cell 0; have a1 := n1.cell 1; have a2 := n1.cell 2; simp only [List.getElem?_toArray, List.getElem?_cons_zero, List.getElem?_cons_succ] at a0 a1 a2) | (go_at_call 37; refine (long18_yes _ _ _ _ (by omega)).mono ?_; rintro e' w' ⟨rfl, rfl⟩))
  all_goals
    go_ret
    exact ⟨rfl, hal.trans (hb1.mono hal.size)⟩

set_option maxRecDepth 100000 in
set_option maxHeartbeats 4000000 in
theorem shares_nomay (F L R one two : Int) (a : Option Addr) (len cap : Nat) (w : World) (hL : U L) (hlen : len ≤ 80) (h : mayB F L R = false) :
    Calls Try.prog 12 #[.agg #[.int .u64 F, .int .u64 L, .int .u64 R], .slice a len cap, .int .u16 one, .int .u16 two] w fun e w' => e = .returned (.bool true) ∧ Below w.heap.size w w' := by
  have nb := Blk.new w 24 #[.int .u64 F, .int .u64 L, .int .u64 R]
  have hal := (Below.refl w.heap.size w).alloc (Nat.le_refl _) (.cells #[.int .u64 F, .int .u64 L, .int .u64 R] 24)
  have NB := Lib.hid nb; clear nb
  have H := Lib.hid h; clear h
  go_enter Try.func12, Try.ntmps12
  go_wp2_with (first | (go_at_call 36; refine (real_awake _).mono ?_; rintro e' w1 ⟨rfl, hb1⟩; have n1 := NB.out.below hb1 NB.out.lt; have a0 := n1.cell 0; have a1 := n1.cell 1; have a2 := n1.cell 2; simp only [List.getElem?_toArray, List.getElem?_cons_zero, List.getElem?_cons_succ] at a0 a1 a2) | (go_at_call 37; refine (long18_no _ _ _ _ (by omega)).mono ?_; rintro e' w' ⟨rfl, rfl⟩) | (go_at_call 30; refine (may_any F L R _ hL.1).mono ?_; rintro e' w2 ⟨rfl, hb2⟩; rw [H.out]; have n2 := n1.below hb2 n1.lt; clear a0 a1 a2; have a0 := n2.cell 0; have a1 := n2.cell 1; have a2 := n2.cell 2; simp only [List.getElem?_toArray, List.getElem?_cons_zero, List.getElem?_cons_succ] at a0 a1 a2))
  all_goals
    go_ret
    exact ⟨rfl, hal.trans ((hb1.trans (hb2.mono hb1.size)).mono hal.size)⟩

set_option maxRecDepth 100000 in
set_option maxHeartbeats 4000000 in
theorem shares_some (F L R one two : Int) (a : Option Addr) (len cap : Nat) (z : List RAct) (w : World) (hF : U F) (hL : U L) (hR : U R) (h1 : mayB F L R = true) (hz : RActsAt w a len z) (hlen : len ≤ 80) (h1u : 0 ≤ one ∧ one ≤ 65535) (h2u : 0 ≤ two ∧ two ≤ 65535) :
    Calls Try.prog 12 #[.agg #[.int .u64 F, .int .u64 L, .int .u64 R], .slice a len cap, .int .u16 one, .int .u16 two] w fun e w' => e = .returned (.bool true) ∧ Below w.heap.size w w' := by
  have nb := Blk.new w 24 #[.int .u64 F, .int .u64 L, .int .u64 R]
  have hal := (Below.refl w.heap.size w).alloc (Nat.le_refl _) (.cells #[.int .u64 F, .int .u64 L, .int .u64 R] 24)
  have NB := Lib.hid nb; clear nb
  have H := Lib.hid h1; have HZ := Lib.hid hz; have hM := mayB_spec hF.1 hL.1 hR.1 h1
  have HM := Lib.hid hM; clear h1 hz hM
  go_enter Try.func12, Try.ntmps12
  go_wp2_with (first | (go_at_call 36; refine (real_awake _).mono ?_; rintro e' w1 ⟨rfl, hb1⟩; have n1 := NB.out.below hb1 NB.out.lt; have a0 := n1.cell 0; have a1 := n1.cell 1; have a2 := n1.cell 2; simp only [List.getElem?_toArray, List.getElem?_cons_zero, List.getElem?_cons_succ] at a0 a1 a2) | (go_at_call 37; refine (long18_no _ _ _ _ (by omega)).mono ?_; rintro e' w' ⟨rfl, rfl⟩) | (go_at_call 30; refine (may_any F L R _ hL.1).mono ?_; rintro e' w2 ⟨rfl, hb2⟩; rw [H.out]; have n2 := n1.below hb2 n1.lt; clear a0 a1 a2; have a0 := n2.cell 0; have a1 := n2.cell 1; have a2 := n2.cell 2; simp only [List.getElem?_toArray, List.getElem?_cons_zero, List.getElem?_cons_succ] at a0 a1 a2) | (go_at_call 38; refine (real_new F L R _ hF.1 hL.1 hR.1 H.out).mono ?_; rintro e' w3 ⟨dd, r, g, rfl, hg, hl, hb3⟩; have HD := Lib.hid hl; have hbc := (hb1.trans (hb2.mono hb1.size)).trans (hb3.mono (hb1.trans (hb2.mono hb1.size)).size); have hgw := Nat.le_trans (hb1.trans (hb2.mono hb1.size)).size hg; clear hl hb3 hb2 hb1 hg n1 n2 a0 a1 a2))
  go_loopw [10, 11] (fun nw i W => ∃ (k : Nat) (now got x el du : Int) (A : List (Int × Int)) (aw : Bool), k ≤ len ∧ i = .int .i64 k ∧ nw = .int .u64 now ∧ DebtAt W dd r g F L R x A got aw el du ∧ (aw = true → A ≠ []) ∧ A.length ≤ k ∧ 0 ≤ now ∧ now ≤ 1099511627776 ∧ 0 ≤ got ∧ got ≤ 4611686018427387904 ∧ Below (w.alloc (.cells #[.int .u64 F, .int .u64 L, .int .u64 R] 24)).heap.size (w.alloc (.cells #[.int .u64 F, .int .u64 L, .int .u64 R] 24)) W) (fun _ i _ => len - (intOf i).toNat)
  case atStart => exact ⟨0, 0, 0, 0, 0, 0, [], false, by omega, rfl, rfl, HD.out, (fun h => by cases h), by simp, by omega, by omega, by omega, by omega, hbc⟩
  case round =>
    obtain ⟨k, now, got, x, el, du, A, aw, hk, rfl, rfl, hd, hA0, hfew, hn0, hn1, hg0, hgk, hbr⟩ := hrel
    have hglt := hd.glt
    have hdlt := hd.1.lt
    have HX := Lib.hid hd; clear hd
    by_cases hlt : k < len
    · obtain ⟨hzl, hzu, hzc⟩ := (HZ.out.below hal).below hbr
      obtain ⟨b, off, rfl, hbl, hcl⟩ := hzc.resolve_left (by omega)
      obtain ⟨⟨kd, rl, af, le, nx⟩, hq0⟩ : ∃ q, z[k]? = some q := ⟨_, List.getElem?_eq_getElem (by omega)⟩
      obtain ⟨c0, c1, c2, c3, c4⟩ := hcl k _ hq0
      obtain ⟨hkd, hrl, haf, hle, hnx⟩ := hzu _ (List.mem_of_getElem? hq0)
      simp only at c0 c1 c2 c3 c4 hkd hrl haf hle hnx
      have haf0 := haf.1; have haf1 := haf.2
      obtain ⟨dt, hdt⟩ : ∃ q, af.tmod 1000 = q := ⟨_, rfl⟩
      have hdt2 : 0 ≤ dt ∧ dt < 1000 := by rw [← hdt, Int.tmod_eq_emod_of_nonneg haf0]; omega
      obtain ⟨nw, hnw⟩ : ∃ q, (if 1099511627776 < now + dt then 1099511627776 else now + dt) = q := ⟨_, rfl⟩
      have hnw2 : 0 ≤ nw ∧ nw ≤ 1099511627776 := by split at hnw <;> omega
      obtain ⟨kk, hkk⟩ : ∃ q, kd.tmod 3 = q := ⟨_, rfl⟩
      obtain ⟨lt, hlt2⟩ : ∃ q, le.tmod 1500 = q := ⟨_, rfl⟩
      obtain ⟨nt, hnt⟩ : ∃ q, nx.tmod 1500 = q := ⟨_, rfl⟩
      obtain ⟨ln, hln⟩ : ∃ q, (if 1 < lt then lt else 1) = q := ⟨_, rfl⟩
      have o1 := fun e => (over_cell (w := wr) (e := e) hbl).trans c1
      have o3 := fun e => (over_cell (w := wr) (e := e) hbl).trans c3
      have o4 := fun e => (over_cell (w := wr) (e := e) hbl).trans c4
      clear hzl hzu hzc hcl hq0
      by_cases h0 : kk = 0
      · rcases aw with _ | _
        · go_wp2_with (go_at_call 40; obtain ⟨nw', hnw'⟩ : ∃ q, q = max (min nw 9223372036854775808) x := ⟨_, rfl⟩; refine (dwake HX.out nw ln nw' ⟨by omega, by omega⟩ hg0 hgk hnw' (by omega)).mono ?_; rintro e' w5 ⟨rfl, el', du', hd5, hdb5, hkp⟩; clear HX; have HX := Lib.hid hd5; have hbw9 := hbr.trans (hkp.low _ hgw); clear hbr; have hbr := hbw9; clear hbw9 hkp; clear hd5 hdb5)
          go_roundw
          case rel => exact ⟨k + 1, nw, got, nw', el', du', _, true, by omega, by go_num, rfl, HX.out, (fun _ => by simp), by (first | omega | (simp; omega)), by omega, by omega, by omega, by omega, hbr⟩
          case measure => simp [intOf]; omega
        · go_wp2_with (go_at_call 40; refine (dwake_on HX.out nw ln).mono ?_; rintro e' w' ⟨rfl, rfl⟩)
          go_roundw
          case rel => exact ⟨k + 1, nw, got, x, el, du, A, true, by omega, by go_num, rfl, HX.out, (fun _ => hA0 (by trivial)), by (first | omega | (simp; omega)), by omega, by omega, by omega, by omega, hbr⟩
          case measure => simp [intOf]; omega
      · go_wp2
        refine wp_region_over_tail 19 (by kernel_rfl) (by kernel_rfl) ?_
        simp only [List.take_succ_cons, List.take_zero, List.drop_succ_cons, List.drop_zero]
        repeat (first | go_big_quiet_skip | (go_big_quiet_want; go_big_quiet_op; go_big_quiet_on))
        refine wpQuiet_nil ?_
        rintro W2 ⟨e2, he2⟩
        have hb22 := over_below wr e2
        rw [← he2] at hb22
        clear he2 o1 o3 o4 c0 c1 c2 c3 c4
        have hx2 := HX.out.below hb22
        have hbw2 := hbr.trans (hb22.mono hbr.size)
        clear HX hbr
        have HX := Lib.hid hx2; have hbr := hbw2
        clear hx2 hbw2
        rcases aw with _ | _
        · go_wp2_with (go_at_call 41; refine (dserve_off HX.out rl ln nt).mono ?_; rintro e' w' ⟨rfl, rfl⟩)
          go_roundw
          case rel => exact ⟨k + 1, nw, got, x, el, du, A, false, by omega, by go_num, rfl, HX.out, hA0, by (first | omega | (simp; omega)), by omega, by omega, by omega, by omega, hbr⟩
          case measure => simp [intOf]; omega
        · have hAA := hA0 rfl
          by_cases hr : rl = 1
          · subst hr
            go_wp2_with (go_at_call 41; refine (dserve_real HX.out hAA hg0 hgk ln nt).mono ?_; rintro e' w5 ⟨rfl, el', du', hd5, hdb5, hkp⟩; have hgq := dueY_bd (n := ln) hg0; clear HX; have HX := Lib.hid hd5; have hbw9 := hbr.trans (hkp.low _ hgw); clear hbr; have hbr := hbw9; clear hbw9 hkp; clear hd5 hdb5)
            go_roundw
            case rel => exact ⟨k + 1, nw, (dueY got ln), x, el', du', A, _, by omega, by go_num, rfl, HX.out, (fun _ => hAA), by (first | omega | (simp; omega)), by omega, by omega, by omega, by omega, hbr⟩
            case measure => simp [intOf]; omega
          · go_wp2_with (go_at_call 41; refine (dserve_share HX.out hAA hg0 hgk rl hr ln nt).mono ?_; rintro e' w5 ⟨rfl, du', hd5, hk5, h50, h51, hkp⟩; clear HX; have HX := Lib.hid hd5; have hbw9 := hbr.trans (hkp.low _ hgw); clear hbr; have hbr := hbw9; clear hbw9 hkp; clear hd5 hk5)
            go_roundw
            case rel => exact ⟨k + 1, nw, got, x, el, du', A, _, by omega, by go_num, rfl, HX.out, (fun _ => hAA), by (first | omega | (simp; omega)), by omega, by omega, by omega, by omega, hbr⟩
            case measure => simp [intOf]; omega
    · obtain rfl : k = len := by omega
      obtain ⟨u1, hu1⟩ : ∃ q, one.tmod 1500 = q := ⟨_, rfl⟩
      obtain ⟨u2, hu2⟩ : ∃ q, two.tmod 1500 = q := ⟨_, rfl⟩
      have hu1b : 0 ≤ u1 ∧ u1 < 1500 := by rw [← hu1, Int.tmod_eq_emod_of_nonneg h1u.1]; omega
      have hu2b : 0 ≤ u2 ∧ u2 < 1500 := by rw [← hu2, Int.tmod_eq_emod_of_nonneg h2u.1]; omega
      obtain ⟨a1, ha1⟩ : ∃ q, 1 + u1 = q := ⟨_, rfl⟩
      obtain ⟨b1, hb1'⟩ : ∃ q, 1 + u2 = q := ⟨_, rfl⟩
      have hna : decide (1 ≤ a1) = true := by simp; omega
      have hnb : decide (1 ≤ b1) = true := by simp; omega
      have hy1 : a1 ≤ b1 → dueY got a1 ≤ dueY got b1 := by intro h; unfold dueY grainsL; omega
      have hy2 : b1 ≤ a1 → dueY got b1 ≤ dueY got a1 := by intro h; unfold dueY grainsL; omega
      have HY1 := Lib.hid hy1; have HY2 := Lib.hid hy2; have HNA := Lib.hid hna; have HNB := Lib.hid hnb
      have HT1 := Lib.hid (show True from trivial); have HT2 := Lib.hid (show True from trivial)
      clear hy1 hy2 hna hnb
      rcases aw with _ | _
      · go_wp2_with (go_at_call 40; obtain ⟨nw', hnw'⟩ : ∃ q, q = max (min now 9223372036854775808) x := ⟨_, rfl⟩; refine (dwake HX.out now a1 nw' ⟨by omega, by omega⟩ hg0 hgk hnw' (by omega)).mono ?_; rintro e' w5 ⟨rfl, el', du', hd5, hdb5, hkp⟩; clear HX; have HX := Lib.hid hd5; have hbw9 := hbr.trans (hkp.low _ hgw); clear hbr; have hbr := hbw9; clear hbw9 hkp; clear hd5 hdb5)
        have hAA : A ++ [(nw', got)] ≠ [] := by simp
        have hnum := HX.out.2.1.num
        go_wp2_with (first | (go_at_call 39; refine (dawake HX.out).mono ?_; rintro e' w' ⟨rfl, rfl⟩) | (go_at_call 41; have htok := HT1.out; refine (dserve_share HX.out hAA hg0 hgk 2 (by decide) 7 a1).mono ?_; rintro e' w6 ⟨rfl, d3, hd5, hk3, h30, h31, hkp⟩; clear HT1 htok; rw [HNA.out] at hd5; have HK3 := Lib.hid hk3; clear HX; have HX := Lib.hid hd5; have hbw9 := hbr.trans (hkp.low _ hgw); clear hbr; have hbr := hbw9; clear hbw9 hkp; clear hd5 hk3) | (go_at_call 41; have htok := HT2.out; refine (dserve_share HX.out hAA hg0 hgk 2 (by decide) a1 a1).mono ?_; rintro e' w7 ⟨rfl, d4, hd5, hk4, h40, h41, hkp⟩; clear HT2 htok; rw [HNA.out] at hd5; obtain rfl : d4 = d3 := hk4.unique HK3.out (vA_max_mono HM.out hnum.1); clear HX; have HX := Lib.hid hd5; have hbw9 := hbr.trans (hkp.low _ hgw); clear hbr; have hbr := hbw9; clear hbw9 hkp; clear hd5 hk4) | (go_at_call 41; refine (dserve_share HX.out hAA hg0 hgk 2 (by decide) a1 b1).mono ?_; rintro e' w8 ⟨rfl, d5, hd5, hk5, h50, h51, hkp⟩; rw [HNB.out] at hd5; have hl1 : a1 ≤ b1 → d4 ≤ d5 := fun h => Back.less_yy hk5 HK3.out (vA_max_mono HM.out hnum.1) (fun _ _ => Int.le_refl _) (HY1.out h); have hl2 : b1 ≤ a1 → d5 ≤ d4 := fun h => Back.less_yy HK3.out hk5 (vA_max_mono HM.out hnum.1) (fun _ _ => Int.le_refl _) (HY2.out h); clear HX; have HX := Lib.hid hd5; have hbw9 := hbr.trans (hkp.low _ hgw); clear hbr; have hbr := hbw9; clear hbw9 hkp; clear hd5 hk5) | (go_at_call 42; refine (dgot HX.out).mono ?_; rintro e' w' ⟨rfl, rfl⟩) | (go_at_call 43; refine (ddue HX.out).mono ?_; rintro e' w' ⟨rfl, rfl⟩) | (go_at_call 44; refine (delig HX.out).mono ?_; rintro e' w' ⟨rfl, rfl⟩))
        all_goals
          go_ret
          first
          | exact ⟨rfl, hal.trans (hbr.mono hal.size)⟩
          | (refine ⟨?_, hal.trans (hbr.mono hal.size)⟩; simp; omega)
          | (exfalso; omega)
      · have hAA := hA0 (by trivial)
        go_wp2_with (go_at_call 40; refine (dwake_on HX.out now a1).mono ?_; rintro e' w' ⟨rfl, rfl⟩)
        have hnum := HX.out.2.1.num
        go_wp2_with (first | (go_at_call 39; refine (dawake HX.out).mono ?_; rintro e' w' ⟨rfl, rfl⟩) | (go_at_call 41; have htok := HT1.out; refine (dserve_share HX.out hAA hg0 hgk 2 (by decide) 7 a1).mono ?_; rintro e' w6 ⟨rfl, d3, hd5, hk3, h30, h31, hkp⟩; clear HT1 htok; rw [HNA.out] at hd5; have HK3 := Lib.hid hk3; clear HX; have HX := Lib.hid hd5; have hbw9 := hbr.trans (hkp.low _ hgw); clear hbr; have hbr := hbw9; clear hbw9 hkp; clear hd5 hk3) | (go_at_call 41; have htok := HT2.out; refine (dserve_share HX.out hAA hg0 hgk 2 (by decide) a1 a1).mono ?_; rintro e' w7 ⟨rfl, d4, hd5, hk4, h40, h41, hkp⟩; clear HT2 htok; rw [HNA.out] at hd5; obtain rfl : d4 = d3 := hk4.unique HK3.out (vA_max_mono HM.out hnum.1); clear HX; have HX := Lib.hid hd5; have hbw9 := hbr.trans (hkp.low _ hgw); clear hbr; have hbr := hbw9; clear hbw9 hkp; clear hd5 hk4) | (go_at_call 41; refine (dserve_share HX.out hAA hg0 hgk 2 (by decide) a1 b1).mono ?_; rintro e' w8 ⟨rfl, d5, hd5, hk5, h50, h51, hkp⟩; rw [HNB.out] at hd5; have hl1 : a1 ≤ b1 → d4 ≤ d5 := fun h => Back.less_yy hk5 HK3.out (vA_max_mono HM.out hnum.1) (fun _ _ => Int.le_refl _) (HY1.out h); have hl2 : b1 ≤ a1 → d5 ≤ d4 := fun h => Back.less_yy HK3.out hk5 (vA_max_mono HM.out hnum.1) (fun _ _ => Int.le_refl _) (HY2.out h); clear HX; have HX := Lib.hid hd5; have hbw9 := hbr.trans (hkp.low _ hgw); clear hbr; have hbr := hbw9; clear hbw9 hkp; clear hd5 hk5) | (go_at_call 42; refine (dgot HX.out).mono ?_; rintro e' w' ⟨rfl, rfl⟩) | (go_at_call 43; refine (ddue HX.out).mono ?_; rintro e' w' ⟨rfl, rfl⟩) | (go_at_call 44; refine (delig HX.out).mono ?_; rintro e' w' ⟨rfl, rfl⟩))
        all_goals
          go_ret
          first
          | exact ⟨rfl, hal.trans (hbr.mono hal.size)⟩
          | (refine ⟨?_, hal.trans (hbr.mono hal.size)⟩; simp; omega)
          | (exfalso; omega)


theorem shares_walk (F L R one two : Int) (a : Option Addr) (len cap : Nat) (zs : List (List Value)) (w : World) (hF : U F) (hL : U L) (hR : U R) (h1u : 0 ≤ one ∧ one ≤ 65535) (h2u : 0 ≤ two ∧ two ≤ 65535) (hz : IsRows [some .u8, some .u8, some .u64, some .i64, some .i64] w a len cap zs) :
    Calls Try.prog 12 #[.agg #[.int .u64 F, .int .u64 L, .int .u64 R], .slice a len cap, .int .u16 one, .int .u16 two] w fun e w' => e = .returned (.bool true) ∧ Below w.heap.size w w' := by
  obtain ⟨hlen, z, hz'⟩ := racts_of hz
  by_cases h : 80 < len
  · exact shares_long F L R one two a len cap w h
  · by_cases h1 : mayB F L R = true
    · exact shares_some F L R one two a len cap z w hF hL hR h1 hz' (by omega) h1u h2u
    · exact shares_nomay F L R one two a len cap w hL (by omega) (by simpa using h1)
theorem u16_wf {n : Int} (h : (Lit.int .u16 n).wf = true) : 0 ≤ n ∧ n ≤ 65535 := by
  simp [Lit.wf, IntKind.min, IntKind.max, IntKind.signed, IntKind.bits] at h
  exact ⟨h.1, by omega⟩

end Go.Proofs.Ytflnlapfomjggaa
