/-
  distributarylaw18.pieces: the heads that were sent, and what each pair of them has between.
-/
import Derived.Test.YtflnlapfomjggaaNeverPlain
namespace Go.Proofs.Ytflnlapfomjggaa
set_option linter.unusedVariables false
open Go.RowKit

theorem info_piece : (Try.prog.info? 69).map (fun i => (i.zero, i.size, i.bytes)) = some (some (.agg #[.int .u64 0, .int .u64 0, .int .u64 0]), 3, 24) := by kernel_rfl

/-- what pieces tells -/
def Told (w : World) (F L R : Int) (e : Ending) (w' : World) : Prop :=
  ∃ ps v base, e = .returned v ∧ w.heap.size ≤ base ∧ RowP w' base v ps ∧ PP F L R ps ∧ PB ps ∧ ps.length ≤ 80 ∧ Below w.heap.size w w'

set_option maxRecDepth 100000 in
set_option maxHeartbeats 4000000 in
theorem heads_any (F L R : Int) (a : Option Addr) (len cap : Nat) (z : List RAct) (w : World) (hF : U F) (hL : U L) (hR : U R) (h1 : mayB F L R = true) (hz : RActsAt w a len z) (hlen : len ≤ 80) :
    Calls Try.prog 45 #[.agg #[.int .u64 F, .int .u64 L, .int .u64 R], .slice a len cap] w (Told w F L R) := by
  have hal := (Below.refl w.heap.size w).alloc (Nat.le_refl _) (.cells #[.int .u64 F, .int .u64 L, .int .u64 R] 24)
  have hM := mayB_spec hF.1 hL.1 hR.1 h1
  have H := Lib.hid h1; have HZ := Lib.hid hz; have HM := Lib.hid hM; clear h1 hz hM
  obtain ⟨i0, hi0, hz0, hz1, hz2⟩ := info_parts info_piece
  go_enter Try.func45, Try.ntmps45
  go_wp2_with (go_at_call 38; refine (real_new F L R _ hF.1 hL.1 hR.1 H.out).mono ?_; rintro e' w3 ⟨dd, r, g, rfl, hg, hl, hb3⟩; have HD := Lib.hid hl; have hgw := hg; have hbc := hb3; clear hl hb3 hg)
  have hd3 := HD.out.1.lt
  have hg3 := HD.out.glt
  have hsz1 := hal.size
  have hsw3 := Nat.le_trans hal.size hbc.size
  go_loopw [6, 7, 8, 9, 10] (fun nw wk lg ot i W => ∃ (k : Nat) (now woke lng got x el du : Int) (A : List (Int × Int)) (aw : Bool) (ps : List Piece) (v : Value), k ≤ len ∧ i = .int .i64 k ∧ nw = .int .u64 now ∧ wk = .int .u64 woke ∧ lg = .int .i64 lng ∧ ot = v ∧ w3.heap.size ≤ W.heap.size ∧ DebtAt W dd r g F L R x A got aw el du ∧ (aw = true → A ≠ [] ∧ Debts F L R x A got lng el du ∧ woke ≤ x ∧ 1 ≤ lng ∧ lng ≤ 1500 ∧ ∃ f, f ≤ got ∧ (x, f) ∈ A) ∧ A.length ≤ k ∧ 0 ≤ now ∧ now ≤ 1048576 ∧ x ≤ now ∧ 0 ≤ woke ∧ 0 ≤ got ∧ got ≤ 384000 * k ∧ ps.length ≤ k ∧ RowP W w3.heap.size v ps ∧ PP F L R ps ∧ PB ps ∧ GG F L R A got ps ∧ Below (w.alloc (.cells #[.int .u64 F, .int .u64 L, .int .u64 R] 24)).heap.size (w.alloc (.cells #[.int .u64 F, .int .u64 L, .int .u64 R] 24)) W) (fun _ _ _ _ i _ => len - (intOf i).toNat)
  case atStart => exact ⟨0, 0, 0, 1, 0, 0, 0, 0, [], false, [], _, by omega, rfl, rfl, rfl, rfl, rfl, Nat.le_refl _, HD.out, (fun h => by cases h), by simp, by omega, by omega, by omega, by omega, by omega, by omega, by simp, World.ownsRow_nil _ _ _ _, PP.nil F L R, PB.nil, GG.nil F L R _ _, hbc⟩
  case round =>
    obtain ⟨k, now, woke, lng, got, x, el, du, A, aw, ps, v, hk, rfl, rfl, rfl, rfl, rfl, hws0, hd, hdb, hfew, hn0, hn1, hxn, hw0, hg0, hgk, hpk, hrow, hpp, hpb, hgg, hbr⟩ := hrel
    have hnum := hd.2.1.num
    have HD := Lib.hid hd; have HB := Lib.hid hdb; have HR := Lib.hid hrow; have HPP := Lib.hid hpp; have HPB := Lib.hid hpb; have HGG := Lib.hid hgg; clear hd hdb hrow hpp hpb hgg
    by_cases hlt : k < len
    · obtain ⟨hzl, hzu, hzc⟩ := (HZ.out.below hal).below hbr
      obtain ⟨b, off, rfl, hbl, hcl⟩ := hzc.resolve_left (by omega)
      obtain ⟨⟨kd, rl, af, le, nx⟩, hq0⟩ : ∃ q, z[k]? = some q := ⟨_, List.getElem?_eq_getElem (by omega)⟩
      obtain ⟨c0, c1, c2, c3, c4⟩ := hcl k _ hq0
      obtain ⟨hkd, hrl, haf, hle, hnx⟩ := hzu _ (List.mem_of_getElem? hq0)
      simp only at c0 c1 c2 c3 c4 hkd hrl haf hle hnx
      have haf0 := haf.1; have haf1 := haf.2
      obtain ⟨dt, hdt⟩ : ∃ q, af.tmod 64 = q := ⟨_, rfl⟩
      have hdt2 : 0 ≤ dt ∧ dt < 64 := by rw [← hdt, Int.tmod_eq_emod_of_nonneg haf0]; omega
      obtain ⟨nw, hnw⟩ : ∃ q, (if 1048576 < now + dt then 1048576 else now + dt) = q := ⟨_, rfl⟩
      have hnw2 : now ≤ nw ∧ nw ≤ 1048576 := by split at hnw <;> omega
      obtain ⟨m1, hm1⟩ : ∃ q, (if 1500 < le then 1500 else le) = q := ⟨_, rfl⟩
      obtain ⟨ln, hln⟩ : ∃ q, (if 1 < m1 then m1 else 1) = q := ⟨_, rfl⟩
      have hln2 : 1 ≤ ln ∧ ln ≤ 1500 := by split at hm1 <;> split at hln <;> omega
      obtain ⟨nx1, hnx1⟩ : ∃ q, (if 1500 < nx then 1500 else nx) = q := ⟨_, rfl⟩
      have hnx2 : nx1 ≤ 1500 := by split at hnx1 <;> omega
      have hal2 := (Below.refl wr.heap.size wr).alloc (Nat.le_refl _) (.cells #[.int .u8 kd, .int .u8 rl, .int .u64 af, .int .i64 le, .int .i64 nx] 61)
      have na := Blk.new wr 61 #[.int .u8 kd, .int .u8 rl, .int .u64 af, .int .i64 le, .int .i64 nx]
      have hx2 := HD.out.below hal2
      have hr2 := HR.out.below hal2
      have hbw := hbr.trans (hal2.mono hbr.size)
      have hws := Nat.le_trans hws0 hal2.size
      have HX := Lib.hid hx2; have HO := Lib.hid hr2
      have y0 := na.cell 0; have y1 := na.cell 1; have y2 := na.cell 2; have y3 := na.cell 3; have y4 := na.cell 4
      simp only [List.getElem?_toArray, List.getElem?_cons_zero, List.getElem?_cons_succ] at y0 y1 y2 y3 y4
      clear hx2 hr2 na HD HR hal2 hzl hzu hzc hcl hq0
      go_upto_region 9 with fail
      generalize wr.alloc (.cells #[.int .u8 kd, .int .u8 rl, .int .u64 af, .int .i64 le, .int .i64 nx] 61) = wa at *
      clear c0 c1 c2 c3 c4
      rcases aw with _ | _
      · go_wp2_with (first | (go_at_call 39; refine (dawake HX.out).mono ?_; rintro e' w' ⟨rfl, rfl⟩) | (go_at_call 40; refine (dwake HX.out nw ln nw ⟨by omega, by omega⟩ hg0 (by omega) (by omega) (by omega)).mono ?_; rintro e' w5 ⟨rfl, el', du', hd5, hdb5, hkp⟩; clear HX; have HX := Lib.hid hd5; have HDB := Lib.hid hdb5; have hws8 := Nat.le_trans hws hkp.size; clear hws; have hws := hws8; clear hws8; have hro := HO.out.keeps hkp (by omega) (by omega); clear HO; have HO := Lib.hid hro; clear hro; have hbw9 := hbw.trans (hkp.low _ hgw); clear hbw; have hbw := hbw9; clear hbw9 hkp; clear hd5 hdb5))
        go_roundw
        case rel => exact ⟨k + 1, nw, nw, ln, got, nw, el', du', (A ++ [(nw, got)]), true, ps, _, by omega, by go_num, rfl, rfl, rfl, rfl, hws, HX.out, (fun _ => ⟨by simp, HDB.out, by omega, by omega, by omega, got, by omega, by simp⟩), by (first | omega | (simp; omega)), by omega, by omega, by omega, by omega, by omega, by omega, by (first | omega | (simp; omega)), HO.out, HPP.out, HPB.out, (HGG.out.more _), hbw⟩
        case measure => simp [intOf]; omega
      · obtain ⟨hA0, hdb, hwx, hl1, hl2, f, hf, hfm⟩ := HB.out (by trivial)
        have hord := debts_order HM.out hnum.1 (by omega) hdb
        have hdu0 := hdb.2.2.2.2.1; have hdu1 := hdb.2.2.2.2.2; have hel0 := hdb.2.1; have hel1 := hdb.2.2.1
        have HDB := Lib.hid hdb; have HFM := Lib.hid hfm; clear hdb hfm
        by_cases hr : rl = 2
        · subst hr
          go_wp2_with (first | (go_at_call 39; refine (dawake HX.out).mono ?_; rintro e' w' ⟨rfl, rfl⟩) | (go_at_call 41; refine (dserve_share HX.out hA0 hg0 (by omega) 2 (by decide) lng nx1).mono ?_; rintro e' w5 ⟨rfl, du', hd5, hk5, h50, h51, hkp⟩; have hdo := HDB.out; have hdb5 : Debts F L R x A got nx1 el du' := ⟨hdo.1, hdo.2.1, hdo.2.2.1, hk5, h50, h51⟩; clear HX HDB; have HX := Lib.hid hd5; have HDB := Lib.hid hdb5; have hws8 := Nat.le_trans hws hkp.size; clear hws; have hws := hws8; clear hws8; have hro := HO.out.keeps hkp (by omega) (by omega); clear HO; have HO := Lib.hid hro; clear hro; have hbw9 := hbw.trans (hkp.low _ hgw); clear hbw; have hbw := hbw9; clear hbw9 hkp; clear hd5 hdb5 hk5 hdo))
          go_roundw
          case rel => exact ⟨k + 1, nw, woke, nx1, got, x, el, du', A, (decide (1 ≤ nx1)), ps, _, by omega, by go_num, rfl, rfl, rfl, rfl, hws, HX.out, (fun h => ⟨hA0, HDB.out, hwx, by simpa using h, hnx2, f, hf, HFM.out⟩), by (first | omega | (simp; omega)), by omega, by omega, by omega, by omega, by omega, by omega, by (first | omega | (simp; omega)), HO.out, HPP.out, HPB.out, HGG.out, hbw⟩
          case measure => simp [intOf]; omega
        · by_cases hel : el = 9223372036854775808 ∨ 1048576 < el
          · go_wp2_with (first | (go_at_call 39; refine (dawake HX.out).mono ?_; rintro e' w' ⟨rfl, rfl⟩) | (go_at_call 44; refine (delig HX.out).mono ?_; rintro e' w' ⟨rfl, rfl⟩))
            all_goals
              go_ret
              exact ⟨ps, _, w3.heap.size, rfl, hsw3, HO.out, HPP.out, HPB.out, by omega, hal.trans (hbw.mono hal.size)⟩
          · have hel3 : (el == 9223372036854775808) = false := by simp; omega
            have hel2 : el ≤ 1048576 := by omega
            have hfr : (if woke < el then el else woke) = el := by split <;> omega
            obtain ⟨n2, hn2⟩ : ∃ q, (if nw < el then el else nw) = q := ⟨_, rfl⟩
            have hn2b : nw ≤ n2 ∧ n2 ≤ 1048576 := by split at hn2 <;> omega
            have hgq : dueY got lng = got + lng * 256 := by unfold dueY grainsL; omega
            have HGQ := Lib.hid hgq; clear hgq
            obtain ⟨q0, hq0⟩ : ∃ q0, lng * 256 = q0 := ⟨_, rfl⟩
            have hq0b : 256 ≤ q0 ∧ q0 ≤ 384000 := by omega
            rw [hq0] at HGQ
            have hsn := PP.snoc (q := q0) HM.out HPP.out HGG.out hnum.1 HDB.out.1 (by rw [← HGQ.out]; exact HDB.out.2.2.2.1) f hf HFM.out hg0 hnum.2.1 (by omega)
            have hpb2 : PB (ps ++ [(el, du, q0)]) := by
              intro p hp
              rcases List.mem_append.1 hp with hp | hp
              · exact HPB.out p hp
              · obtain rfl : p = (el, du, q0) := by simpa using hp
                exact ⟨⟨by simp only; omega, by simp only; omega⟩, ⟨by simp only; omega, by simp only; omega⟩, by simp only; omega, by simp only; omega⟩
            have HSN := Lib.hid hsn; have HPB2 := Lib.hid hpb2
            clear hsn hpb2
            go_wp2_with (first
              | (go_at_call 39; refine (dawake HX.out).mono ?_; rintro e' w' ⟨rfl, rfl⟩)
              | (go_at_call 44; refine (delig HX.out).mono ?_; rintro e' w' ⟨rfl, rfl⟩)
              | (go_at_call 43; refine (ddue HX.out).mono ?_; rintro e' w' ⟨rfl, rfl⟩)
              | (go_at_call 41; refine (dserve_real HX.out hA0 hg0 (by omega) lng nx1).mono ?_; rintro e' w5 ⟨rfl, el', du', hd5, hdb5, hkp⟩; rw [HGQ.out] at hd5 hdb5; clear HX HDB; have HX := Lib.hid hd5; have HDB := Lib.hid hdb5; have hws8 := Nat.le_trans hws hkp.size; clear hws; have hws := hws8; clear hws8; have hro := HO.out.keeps hkp (by omega) (by omega); clear HO; have HO := Lib.hid hro; clear hro; have hbw9 := hbw.trans (hkp.low _ hgw); clear hbw; have hbw := hbw9; clear hbw9 hkp; clear hd5 hdb5)
              | (at_builtin
                 have hal5 := (Below.refl wa.heap.size wa).alloc (Nat.le_refl _) (.cells #[.int .u64 el, .int .u64 du, .int .u64 q0] 69)
                 have hx5 := HX.out.below hal5
                 have ho5 := HO.out.below hal5
                 have hb5 := hbw.trans (hal5.mono hbw.size)
                 have hs5 := Nat.le_trans hws hal5.size
                 refine wpList_append_own _ rfl (.tmp 66) (.tmp 77) 66 rfl w3.heap.size 69 i0 (.agg #[.int .u64 0, .int .u64 0, .int .u64 0]) 3 24 Try.underlying66 hi0 hz0 hz1 hz2 rfl (by decide) u9 ps.length (cellsP ps) rfl ho5 ⟨wa.heap.size, 0, none⟩ 1 1 [.int .u64 el, .int .u64 du, .int .u64 q0] rfl rfl (World.news_of_block (Blk.new wa 69 #[.int .u64 el, .int .u64 du, .int .u64 q0])) (by simp [Value.oneCell']) (by unfold maxLen; omega) (by omega) hs5 ?_
                 intro v' w6 hown hgrow _
                 have hx6 := hx5.row ho5 hd3 hgrow
                 have ho6 : RowP w6 w3.heap.size v' (ps ++ [(el, du, q0)]) := by
                   unfold RowP
                   rw [List.length_append, cellsP_append]
                   exact hown
                 have hb6 := hb5.grown hgrow hb5.size (fun k hk => Nat.le_trans hbc.size (ho5.lt k hk).1)
                 have hs6 := Nat.le_trans hs5 hgrow.size
                 clear HX HO hbw hws hx5 ho5 hb5 hs5 hal5 hown hgrow
                 have HX := Lib.hid hx6
                 have HO := Lib.hid ho6
                 have hbw := hb6
                 have hws := hs6
                 clear hx6 ho6 hb6 hs6))
            go_roundw
            case rel => exact ⟨k + 1, n2, woke, nx1, (got + q0), x, el', du', A, (decide (1 ≤ nx1)), (ps ++ [(el, du, q0)]), _, by omega, by go_num, rfl, rfl, rfl, rfl, hws, HX.out, (fun h => ⟨hA0, HDB.out, hwx, by simpa using h, hnx2, f, by omega, HFM.out⟩), by (first | omega | (simp; omega)), by omega, by omega, by omega, by omega, by omega, by omega, by (first | omega | (simp; omega)), HO.out, HSN.out.1, HPB2.out, HSN.out.2, hbw⟩
            case measure => simp [intOf]; omega
    · obtain rfl : k = len := by omega
      go_wp2
      go_ret
      exact ⟨ps, _, w3.heap.size, rfl, hsw3, HR.out, HPP.out, HPB.out, by omega, hal.trans (hbr.mono hal.size)⟩

end Go.Proofs.Ytflnlapfomjggaa
