/-
  The law RealOrder: what is awake is never due ahead of being eligible; its walk.
-/
import Derived.Test.YtflnlapfomjggaaRealAwake
import Derived.Test.YtflnlapfomjggaaRealActs
namespace Go.Proofs.Ytflnlapfomjggaa
set_option linter.unusedVariables false
open Go.RowKit

theorem Back.less_yy {v u : Int → Int} {x y y' n m : Int} (h : Back v x y n) (k : Back u x y' m) (hm : ∀ t s, x ≤ t → t ≤ s → u t ≤ u s) (hvw : ∀ t, x ≤ t → v t ≤ u t) (hy : y' ≤ y) : m ≤ n := by
  have hk := k.le_never
  rcases Int.lt_or_le n m with hlt | hle
  · exfalso
    have h1 := h.x_le
    have h2 : n < 9223372036854775808 := by omega
    have h3 := k.gt hm h1 hlt
    have h4 := hvw n h1
    rcases h with ⟨a, _⟩ | ⟨a, _⟩ | ⟨_, _, a⟩ | ⟨_, _, a, _⟩ <;> omega
  · exact hle
theorem debts_order {F L R x got n el du : Int} {A : List (Int × Int)} (h : MayC F L R) (hA : ∀ a ∈ A, a.1 ≤ x ∧ 0 ≤ a.2) (hg : got ≤ 4611686018427387904) (hd : Debts F L R x A got n el du) : el ≤ du ∧ x ≤ el := by
  obtain ⟨h1, h2, h3, h4, h5, h6⟩ := hd
  refine ⟨Back.less_yy h4 h1 (vE_max_mono h hA) (fun t ht => ?_) ?_, h1.x_le⟩
  · have : x ≤ max t x := by omega
    exact vA_vE h hA this
  · have := grainsL_bd n
    unfold dueY; omega
theorem long18_no (a : Option Addr) (len cap : Nat) (w : World) (h : len ≤ 80) :
    Calls Try.prog 37 #[.slice a len cap] w fun e w' => e = .returned (.bool false) ∧ w = w' := by
  go_enter Try.func37, Try.ntmps37
  go_wp2
  go_ret
  have h2 : decide (80 < (len : Int)) = false := by simp; omega
  exact ⟨congrArg (fun q => Ending.returned (.bool q)) h2, rfl⟩
theorem long18_yes (a : Option Addr) (len cap : Nat) (w : World) (h : 80 < len) :
    Calls Try.prog 37 #[.slice a len cap] w fun e w' => e = .returned (.bool true) ∧ w = w' := by
  go_enter Try.func37, Try.ntmps37
  go_wp2
  go_ret
  have h2 : decide (80 < (len : Int)) = true := by simp; omega
  exact ⟨congrArg (fun q => Ending.returned (.bool q)) h2, rfl⟩

set_option maxRecDepth 100000 in
set_option maxHeartbeats 4000000 in
theorem order_long (F L R : Int) (a : Option Addr) (len cap : Nat) (w : World) (h : 80 < len) :
    Calls Try.prog 10 #[.agg #[.int .u64 F, .int .u64 L, .int .u64 R], .slice a len cap] w fun e w' => e = .returned (.bool true) ∧ Below w.heap.size w w' := by
  have nb := Blk.new w 24 #[.int .u64 F, .int .u64 L, .int .u64 R]
  have hal := (Below.refl w.heap.size w).alloc (Nat.le_refl _) (.cells #[.int .u64 F, .int .u64 L, .int .u64 R] 24)
  have NB := Lib.hid nb; clear nb
  go_enter Try.func10, Try.ntmps10
  go_wp2_with (first | (go_at_call 36; refine (real_awake _).mono ?_; rintro e' w1 ⟨rfl, hb1⟩; have n1 := NB.out.below hb1 NB.out.lt; have a0 := n1.cell 0; have a1 := n1.cell 1; have a2 := n1.cell 2; simp only [List.getElem?_toArray, List.getElem?_cons_zero, List.getElem?_cons_succ] at a0 a1 a2) | (go_at_call 37; refine (long18_yes _ _ _ _ (by omega)).mono ?_; rintro e' w' ⟨rfl, rfl⟩))
  all_goals
    go_ret
    exact ⟨rfl, hal.trans (hb1.mono hal.size)⟩

set_option maxRecDepth 100000 in
set_option maxHeartbeats 4000000 in
theorem order_nomay (F L R : Int) (a : Option Addr) (len cap : Nat) (w : World) (hL : U L) (hlen : len ≤ 80) (h : mayB F L R = false) :
    Calls Try.prog 10 #[.agg #[.int .u64 F, .int .u64 L, .int .u64 R], .slice a len cap] w fun e w' => e = .returned (.bool true) ∧ Below w.heap.size w w' := by
  have nb := Blk.new w 24 #[.int .u64 F, .int .u64 L, .int .u64 R]
  have hal := (Below.refl w.heap.size w).alloc (Nat.le_refl _) (.cells #[.int .u64 F, .int .u64 L, .int .u64 R] 24)
  have NB := Lib.hid nb; clear nb
  have H := Lib.hid h; clear h
  go_enter Try.func10, Try.ntmps10
  go_wp2_with (first | (go_at_call 36; refine (real_awake _).mono ?_; rintro e' w1 ⟨rfl, hb1⟩; have n1 := NB.out.below hb1 NB.out.lt; have a0 := n1.cell 0; have a1 := n1.cell 1; have a2 := n1.cell 2; simp only [List.getElem?_toArray, List.getElem?_cons_zero, List.getElem?_cons_succ] at a0 a1 a2) | (go_at_call 37; refine (long18_no _ _ _ _ (by omega)).mono ?_; rintro e' w' ⟨rfl, rfl⟩) | (go_at_call 30; refine (may_any F L R _ hL.1).mono ?_; rintro e' w2 ⟨rfl, hb2⟩; rw [H.out]; have n2 := n1.below hb2 n1.lt; clear a0 a1 a2; have a0 := n2.cell 0; have a1 := n2.cell 1; have a2 := n2.cell 2; simp only [List.getElem?_toArray, List.getElem?_cons_zero, List.getElem?_cons_succ] at a0 a1 a2))
  all_goals
    go_ret
    exact ⟨rfl, hal.trans ((hb1.trans (hb2.mono hb1.size)).mono hal.size)⟩

set_option maxRecDepth 100000 in
set_option maxHeartbeats 4000000 in
theorem order_some (F L R : Int) (a : Option Addr) (len cap : Nat) (z : List RAct) (w : World) (hF : U F) (hL : U L) (hR : U R) (h1 : mayB F L R = true) (hz : RActsAt w a len z) (hlen : len ≤ 80) :
    Calls Try.prog 10 #[.agg #[.int .u64 F, .int .u64 L, .int .u64 R], .slice a len cap] w fun e w' => e = .returned (.bool true) ∧ Below w.heap.size w w' := by
  have nb := Blk.new w 24 #[.int .u64 F, .int .u64 L, .int .u64 R]
  have hal := (Below.refl w.heap.size w).alloc (Nat.le_refl _) (.cells #[.int .u64 F, .int .u64 L, .int .u64 R] 24)
  have NB := Lib.hid nb; clear nb
  have H := Lib.hid h1; have HZ := Lib.hid hz; have hM := mayB_spec hF.1 hL.1 hR.1 h1
  have HM := Lib.hid hM; clear h1 hz hM
  go_enter Try.func10, Try.ntmps10
  go_wp2_with (first | (go_at_call 36; refine (real_awake _).mono ?_; rintro e' w1 ⟨rfl, hb1⟩; have n1 := NB.out.below hb1 NB.out.lt; have a0 := n1.cell 0; have a1 := n1.cell 1; have a2 := n1.cell 2; simp only [List.getElem?_toArray, List.getElem?_cons_zero, List.getElem?_cons_succ] at a0 a1 a2) | (go_at_call 37; refine (long18_no _ _ _ _ (by omega)).mono ?_; rintro e' w' ⟨rfl, rfl⟩) | (go_at_call 30; refine (may_any F L R _ hL.1).mono ?_; rintro e' w2 ⟨rfl, hb2⟩; rw [H.out]; have n2 := n1.below hb2 n1.lt; clear a0 a1 a2; have a0 := n2.cell 0; have a1 := n2.cell 1; have a2 := n2.cell 2; simp only [List.getElem?_toArray, List.getElem?_cons_zero, List.getElem?_cons_succ] at a0 a1 a2) | (go_at_call 38; refine (real_new F L R _ hF.1 hL.1 hR.1 H.out).mono ?_; rintro e' w3 ⟨dd, r, g, rfl, hg, hl, hb3⟩; have HD := Lib.hid hl; have hbc := (hb1.trans (hb2.mono hb1.size)).trans (hb3.mono (hb1.trans (hb2.mono hb1.size)).size); have hgw := Nat.le_trans (hb1.trans (hb2.mono hb1.size)).size hg; clear hl hb3 hb2 hb1 hg n1 n2 a0 a1 a2))
  go_loopw [6, 7, 8, 9] (fun nw wk gt i W => ∃ (k : Nat) (now woke got x el du nn : Int) (A : List (Int × Int)) (aw : Bool), k ≤ len ∧ i = .int .i64 k ∧ nw = .int .u64 now ∧ wk = .int .u64 woke ∧ gt = .int .u64 got ∧ DebtAt W dd r g F L R x A got aw el du ∧ (aw = true → A ≠ [] ∧ Debts F L R x A got nn el du ∧ woke ≤ x) ∧ A.length ≤ k ∧ 0 ≤ now ∧ now ≤ 1099511627776 ∧ x ≤ now ∧ 0 ≤ woke ∧ 0 ≤ got ∧ got ≤ 384000 * k ∧ Below (w.alloc (.cells #[.int .u64 F, .int .u64 L, .int .u64 R] 24)).heap.size (w.alloc (.cells #[.int .u64 F, .int .u64 L, .int .u64 R] 24)) W) (fun _ _ _ i _ => len - (intOf i).toNat)
  case atStart => exact ⟨0, 0, 0, 0, 0, 0, 0, 0, [], false, by omega, rfl, rfl, rfl, rfl, HD.out, (fun h => by cases h), by simp, by omega, by omega, by omega, by omega, by omega, by omega, hbc⟩
  case round =>
    obtain ⟨k, now, woke, got, x, el, du, nn, A, aw, hk, rfl, rfl, rfl, rfl, hd, hdb, hfew, hn0, hn1, hxn, hw0, hg0, hgk, hbr⟩ := hrel
    have hnum := hd.2.1.num
    have HD := Lib.hid hd; have HB := Lib.hid hdb; clear hd hdb
    by_cases hlt : k < len
    · obtain ⟨hzl, hzu, hzc⟩ := (HZ.out.below hal).below hbr
      obtain ⟨b, off, rfl, hbl, hcl⟩ := hzc.resolve_left (by omega)
      obtain ⟨⟨kd, rl, af, le, nx⟩, hq0⟩ : ∃ q, z[k]? = some q := ⟨_, List.getElem?_eq_getElem (by omega)⟩
      obtain ⟨c0, c1, c2, c3, c4⟩ := hcl k _ hq0
      obtain ⟨hkd, hrl, haf, hle, hnx⟩ := hzu _ (List.mem_of_getElem? hq0)
      simp only at c0 c1 c2 c3 c4 hkd hrl haf hle hnx
      have haf0 := haf.1; have haf1 := haf.2
      obtain ⟨dt, hdt⟩ : ∃ q, af.tmod 1073741824 = q := ⟨_, rfl⟩
      have hdt2 : 0 ≤ dt ∧ dt < 1073741824 := by rw [← hdt, Int.tmod_eq_emod_of_nonneg haf0]; omega
      obtain ⟨nw, hnw⟩ : ∃ q, (if 1099511627776 < now + dt then 1099511627776 else now + dt) = q := ⟨_, rfl⟩
      have hnw2 : now ≤ nw ∧ nw ≤ 1099511627776 := by split at hnw <;> omega
      obtain ⟨m1, hm1⟩ : ∃ q, (if 1500 < le then 1500 else le) = q := ⟨_, rfl⟩
      obtain ⟨ln, hln⟩ : ∃ q, (if 1 < m1 then m1 else 1) = q := ⟨_, rfl⟩
      have hln2 : 1 ≤ ln ∧ ln ≤ 1500 := by split at hm1 <;> split at hln <;> omega
      obtain ⟨kk, hkk⟩ : ∃ q, kd.tmod 3 = q := ⟨_, rfl⟩
      have hal2 := (Below.refl wr.heap.size wr).alloc (Nat.le_refl _) (.cells #[.int .u8 kd, .int .u8 rl, .int .u64 af, .int .i64 le, .int .i64 nx] 61)
      have na := Blk.new wr 61 #[.int .u8 kd, .int .u8 rl, .int .u64 af, .int .i64 le, .int .i64 nx]
      have hx2 := HD.out.below hal2
      have hbw := hbr.trans (hal2.mono hbr.size)
      have hglt := HD.out.glt
      have hdlt := HD.out.1.lt
      have NA := Lib.hid na; have HX := Lib.hid hx2
      have y0 := na.cell 0; have y1 := na.cell 1; have y2 := na.cell 2; have y3 := na.cell 3; have y4 := na.cell 4
      simp only [List.getElem?_toArray, List.getElem?_cons_zero, List.getElem?_cons_succ] at y0 y1 y2 y3 y4
      clear hx2 na HD hal2 hzl hzu hzc hcl hq0
      go_upto_region 11 with fail
      generalize wr.alloc (.cells #[.int .u8 kd, .int .u8 rl, .int .u64 af, .int .i64 le, .int .i64 nx] 61) = wa at *
      clear c0 c1 c2 c3 c4
      have hgk4 : got ≤ 30720000 := by omega
      rcases aw with _ | _
      · by_cases h0 : kk = 0
        · go_wp2_with (first | (go_at_call 39; refine (dawake HX.out).mono ?_; rintro e' w' ⟨rfl, rfl⟩) | (go_at_call 40; refine (dwake HX.out nw ln nw ⟨by omega, by omega⟩ hg0 (by omega) (by omega) (by omega)).mono ?_; rintro e' w5 ⟨rfl, el', du', hd5, hdb5, hkp⟩; have hord := debts_order HM.out hd5.2.1.num.1 (by omega) hdb5; clear HX; have HX := Lib.hid hd5; have HDB := Lib.hid hdb5; have nk := hkp.blk _ _ _ NA.out (by omega) (by omega); clear NA y0 y1 y2 y3 y4; have NA := Lib.hid nk; have y0 := nk.cell 0; have y1 := nk.cell 1; have y2 := nk.cell 2; have y3 := nk.cell 3; have y4 := nk.cell 4; simp only [List.getElem?_toArray, List.getElem?_cons_zero, List.getElem?_cons_succ] at y0 y1 y2 y3 y4; have hbw9 := hbw.trans (hkp.low _ hgw); clear hbw; have hbw := hbw9; clear hbw9 nk hkp; clear hd5 hdb5) | (go_at_call 42; refine (dgot HX.out).mono ?_; rintro e' w' ⟨rfl, rfl⟩) | (go_at_call 43; refine (ddue HX.out).mono ?_; rintro e' w' ⟨rfl, rfl⟩) | (go_at_call 44; refine (delig HX.out).mono ?_; rintro e' w' ⟨rfl, rfl⟩))
          all_goals
            first
            | (exfalso; omega)
            | skip
          go_roundw
          case rel => exact ⟨k + 1, nw, nw, got, nw, el', du', ln, (A ++ [(nw, got)]), true, by omega, by go_num, rfl, rfl, rfl, HX.out, (fun _ => ⟨by simp, HDB.out, by omega⟩), by (first | omega | (simp; omega)), by omega, by omega, by omega, by omega, by omega, by omega, hbw⟩
          case measure => simp [intOf]; omega
        · by_cases h1 : kk = 1
          · go_wp2_with (first | (go_at_call 39; refine (dawake HX.out).mono ?_; rintro e' w' ⟨rfl, rfl⟩) | (go_at_call 41; refine (dserve_off HX.out rl ln nx).mono ?_; rintro e' w' ⟨rfl, rfl⟩) | (go_at_call 42; refine (dgot HX.out).mono ?_; rintro e' w' ⟨rfl, rfl⟩))
            all_goals
              first
              | (exfalso; omega)
              | skip
            go_roundw
            case rel => exact ⟨k + 1, nw, woke, got, x, el, du, nn, A, false, by omega, by go_num, rfl, rfl, rfl, HX.out, (fun h => by cases h), by (first | omega | (simp; omega)), by omega, by omega, by omega, by omega, by omega, by omega, hbw⟩
            case measure => simp [intOf]; omega
          · go_wp2_with (first | (go_at_call 39; refine (dawake HX.out).mono ?_; rintro e' w' ⟨rfl, rfl⟩) | (go_at_call 42; refine (dgot HX.out).mono ?_; rintro e' w' ⟨rfl, rfl⟩))
            all_goals
              first
              | (exfalso; omega)
              | skip
            go_roundw
            case rel => exact ⟨k + 1, nw, woke, got, x, el, du, nn, A, false, by omega, by go_num, rfl, rfl, rfl, HX.out, (fun h => by cases h), by (first | omega | (simp; omega)), by omega, by omega, by omega, by omega, by omega, by omega, hbw⟩
            case measure => simp [intOf]; omega
      · obtain ⟨hA0, hdb, hwx⟩ := HB.out rfl
        have hord := debts_order HM.out hnum.1 (by omega) hdb
        have HDB := Lib.hid hdb; clear hdb
        by_cases h0 : kk = 0
        · go_wp2_with (first | (go_at_call 39; refine (dawake HX.out).mono ?_; rintro e' w' ⟨rfl, rfl⟩) | (go_at_call 40; refine (dwake_on HX.out nw ln).mono ?_; rintro e' w' ⟨rfl, rfl⟩) | (go_at_call 42; refine (dgot HX.out).mono ?_; rintro e' w' ⟨rfl, rfl⟩) | (go_at_call 43; refine (ddue HX.out).mono ?_; rintro e' w' ⟨rfl, rfl⟩) | (go_at_call 44; refine (delig HX.out).mono ?_; rintro e' w' ⟨rfl, rfl⟩))
          all_goals
            first
            | (exfalso; omega)
            | skip
          go_roundw
          case rel => exact ⟨k + 1, nw, woke, got, x, el, du, nn, A, true, by omega, by go_num, rfl, rfl, rfl, HX.out, (fun _ => ⟨hA0, HDB.out, hwx⟩), by (first | omega | (simp; omega)), by omega, by omega, by omega, by omega, by omega, by omega, hbw⟩
          case measure => simp [intOf]; omega
        · by_cases h1 : kk = 1
          · by_cases hr : rl = 1
            · subst hr
              have hgq : dueY got ln = got + ln * 256 := by unfold dueY grainsL; omega
              have HGQ := Lib.hid hgq; clear hgq
              by_cases hn : 1 ≤ nx
              · have hnd : decide (1 ≤ nx) = true := by simp; omega
                go_wp2_with (first | (go_at_call 39; refine (dawake HX.out).mono ?_; rintro e' w' ⟨rfl, rfl⟩) | (go_at_call 41; refine (dserve_real HX.out hA0 hg0 (by omega) ln nx).mono ?_; rintro e' w5 ⟨rfl, el', du', hd5, hdb5, hkp⟩; rw [HGQ.out] at hd5 hdb5; rw [hnd] at hd5; have hord := debts_order HM.out hnum.1 (by omega) hdb5; clear HX HDB; have HX := Lib.hid hd5; have HDB := Lib.hid hdb5; have nk := hkp.blk _ _ _ NA.out (by omega) (by omega); clear NA y0 y1 y2 y3 y4; have NA := Lib.hid nk; have y0 := nk.cell 0; have y1 := nk.cell 1; have y2 := nk.cell 2; have y3 := nk.cell 3; have y4 := nk.cell 4; simp only [List.getElem?_toArray, List.getElem?_cons_zero, List.getElem?_cons_succ] at y0 y1 y2 y3 y4; have hbw9 := hbw.trans (hkp.low _ hgw); clear hbw; have hbw := hbw9; clear hbw9 nk hkp; clear hd5 hdb5) | (go_at_call 42; refine (dgot HX.out).mono ?_; rintro e' w' ⟨rfl, rfl⟩) | (go_at_call 43; refine (ddue HX.out).mono ?_; rintro e' w' ⟨rfl, rfl⟩) | (go_at_call 44; refine (delig HX.out).mono ?_; rintro e' w' ⟨rfl, rfl⟩))
                all_goals
                  first
                  | (exfalso; omega)
                  | skip
                go_roundw
                case rel => exact ⟨k + 1, nw, woke, (got + ln * 256), x, el', du', nx, A, true, by omega, by go_num, rfl, rfl, rfl, HX.out, (fun _ => ⟨hA0, HDB.out, hwx⟩), by (first | omega | (simp; omega)), by omega, by omega, by omega, by omega, by omega, by omega, hbw⟩
                case measure => simp [intOf]; omega
              · have hnd : decide (1 ≤ nx) = false := by simp; omega
                go_wp2_with (first | (go_at_call 39; refine (dawake HX.out).mono ?_; rintro e' w' ⟨rfl, rfl⟩) | (go_at_call 41; refine (dserve_real HX.out hA0 hg0 (by omega) ln nx).mono ?_; rintro e' w5 ⟨rfl, el', du', hd5, hdb5, hkp⟩; rw [HGQ.out] at hd5 hdb5; rw [hnd] at hd5; have hord := debts_order HM.out hnum.1 (by omega) hdb5; clear HX HDB; have HX := Lib.hid hd5; have HDB := Lib.hid hdb5; have nk := hkp.blk _ _ _ NA.out (by omega) (by omega); clear NA y0 y1 y2 y3 y4; have NA := Lib.hid nk; have y0 := nk.cell 0; have y1 := nk.cell 1; have y2 := nk.cell 2; have y3 := nk.cell 3; have y4 := nk.cell 4; simp only [List.getElem?_toArray, List.getElem?_cons_zero, List.getElem?_cons_succ] at y0 y1 y2 y3 y4; have hbw9 := hbw.trans (hkp.low _ hgw); clear hbw; have hbw := hbw9; clear hbw9 nk hkp; clear hd5 hdb5) | (go_at_call 42; refine (dgot HX.out).mono ?_; rintro e' w' ⟨rfl, rfl⟩))
                all_goals
                  first
                  | (exfalso; omega)
                  | skip
                go_roundw
                case rel => exact ⟨k + 1, nw, woke, (got + ln * 256), x, el', du', nx, A, false, by omega, by go_num, rfl, rfl, rfl, HX.out, (fun h => by cases h), by (first | omega | (simp; omega)), by omega, by omega, by omega, by omega, by omega, by omega, hbw⟩
                case measure => simp [intOf]; omega
            · by_cases hn : 1 ≤ nx
              · have hnd : decide (1 ≤ nx) = true := by simp; omega
                go_wp2_with (first | (go_at_call 39; refine (dawake HX.out).mono ?_; rintro e' w' ⟨rfl, rfl⟩) | (go_at_call 41; refine (dserve_share HX.out hA0 hg0 (by omega) rl hr ln nx).mono ?_; rintro e' w5 ⟨rfl, du', hd5, hk5, h50, h51, hkp⟩; have hdo := HDB.out; have hdb5 : Debts F L R x A got nx el du' := ⟨hdo.1, hdo.2.1, hdo.2.2.1, hk5, h50, h51⟩; rw [hnd] at hd5; have hord := debts_order HM.out hnum.1 (by omega) hdb5; clear HX HDB; have HX := Lib.hid hd5; have HDB := Lib.hid hdb5; have nk := hkp.blk _ _ _ NA.out (by omega) (by omega); clear NA y0 y1 y2 y3 y4; have NA := Lib.hid nk; have y0 := nk.cell 0; have y1 := nk.cell 1; have y2 := nk.cell 2; have y3 := nk.cell 3; have y4 := nk.cell 4; simp only [List.getElem?_toArray, List.getElem?_cons_zero, List.getElem?_cons_succ] at y0 y1 y2 y3 y4; have hbw9 := hbw.trans (hkp.low _ hgw); clear hbw; have hbw := hbw9; clear hbw9 nk hkp; clear hd5 hdb5 hk5 hdo) | (go_at_call 42; refine (dgot HX.out).mono ?_; rintro e' w' ⟨rfl, rfl⟩) | (go_at_call 43; refine (ddue HX.out).mono ?_; rintro e' w' ⟨rfl, rfl⟩) | (go_at_call 44; refine (delig HX.out).mono ?_; rintro e' w' ⟨rfl, rfl⟩))
                all_goals
                  first
                  | (exfalso; omega)
                  | skip
                go_roundw
                case rel => exact ⟨k + 1, nw, woke, got, x, el, du', nx, A, true, by omega, by go_num, rfl, rfl, rfl, HX.out, (fun _ => ⟨hA0, HDB.out, hwx⟩), by (first | omega | (simp; omega)), by omega, by omega, by omega, by omega, by omega, by omega, hbw⟩
                case measure => simp [intOf]; omega
              · have hnd : decide (1 ≤ nx) = false := by simp; omega
                go_wp2_with (first | (go_at_call 39; refine (dawake HX.out).mono ?_; rintro e' w' ⟨rfl, rfl⟩) | (go_at_call 41; refine (dserve_share HX.out hA0 hg0 (by omega) rl hr ln nx).mono ?_; rintro e' w5 ⟨rfl, du', hd5, hk5, h50, h51, hkp⟩; have hdo := HDB.out; have hdb5 : Debts F L R x A got nx el du' := ⟨hdo.1, hdo.2.1, hdo.2.2.1, hk5, h50, h51⟩; rw [hnd] at hd5; have hord := debts_order HM.out hnum.1 (by omega) hdb5; clear HX HDB; have HX := Lib.hid hd5; have HDB := Lib.hid hdb5; have nk := hkp.blk _ _ _ NA.out (by omega) (by omega); clear NA y0 y1 y2 y3 y4; have NA := Lib.hid nk; have y0 := nk.cell 0; have y1 := nk.cell 1; have y2 := nk.cell 2; have y3 := nk.cell 3; have y4 := nk.cell 4; simp only [List.getElem?_toArray, List.getElem?_cons_zero, List.getElem?_cons_succ] at y0 y1 y2 y3 y4; have hbw9 := hbw.trans (hkp.low _ hgw); clear hbw; have hbw := hbw9; clear hbw9 nk hkp; clear hd5 hdb5 hk5 hdo) | (go_at_call 42; refine (dgot HX.out).mono ?_; rintro e' w' ⟨rfl, rfl⟩))
                all_goals
                  first
                  | (exfalso; omega)
                  | skip
                go_roundw
                case rel => exact ⟨k + 1, nw, woke, got, x, el, du', nx, A, false, by omega, by go_num, rfl, rfl, rfl, HX.out, (fun h => by cases h), by (first | omega | (simp; omega)), by omega, by omega, by omega, by omega, by omega, by omega, hbw⟩
                case measure => simp [intOf]; omega
          · go_wp2_with (first | (go_at_call 39; refine (dawake HX.out).mono ?_; rintro e' w' ⟨rfl, rfl⟩) | (go_at_call 42; refine (dgot HX.out).mono ?_; rintro e' w' ⟨rfl, rfl⟩) | (go_at_call 43; refine (ddue HX.out).mono ?_; rintro e' w' ⟨rfl, rfl⟩) | (go_at_call 44; refine (delig HX.out).mono ?_; rintro e' w' ⟨rfl, rfl⟩))
            all_goals
              first
              | (exfalso; omega)
              | skip
            go_roundw
            case rel => exact ⟨k + 1, nw, woke, got, x, el, du, nn, A, true, by omega, by go_num, rfl, rfl, rfl, HX.out, (fun _ => ⟨hA0, HDB.out, hwx⟩), by (first | omega | (simp; omega)), by omega, by omega, by omega, by omega, by omega, by omega, hbw⟩
            case measure => simp [intOf]; omega
    · obtain rfl : k = len := by omega
      go_wp2
      go_ret
      exact ⟨rfl, hal.trans (hbr.mono hal.size)⟩


theorem order_walk (F L R : Int) (a : Option Addr) (len cap : Nat) (zs : List (List Value)) (w : World) (hF : U F) (hL : U L) (hR : U R) (hz : IsRows [some .u8, some .u8, some .u64, some .i64, some .i64] w a len cap zs) :
    Calls Try.prog 10 #[.agg #[.int .u64 F, .int .u64 L, .int .u64 R], .slice a len cap] w fun e w' => e = .returned (.bool true) ∧ Below w.heap.size w w' := by
  obtain ⟨hlen, z, hz'⟩ := racts_of hz
  by_cases h : 80 < len
  · exact order_long F L R a len cap w h
  · by_cases h1 : mayB F L R = true
    · exact order_some F L R a len cap z w hF hL hR h1 hz' (by omega)
    · exact order_nomay F L R a len cap w hL (by omega) (by simpa using h1)

end Go.Proofs.Ytflnlapfomjggaa
