/-
  A tree of classes: Add. (Printed by wip/mkhadd.py.)
-/
import Derived.Test.YtclhhegfffccgaaHTurn
import Derived.BigQuiet
import Derived.Deep.MidRow
namespace Go.Proofs.Ytclhhegfffccgaa
set_option linter.unusedVariables false
open Go.RowKit Go.Maps
attribute [local go_sem ↓] Go.wp_at_zero Go.wp_at_succ
attribute [local go_sem] quietR quietAtR quietUponR midAt midUpon
attribute [local irreducible] TStep HStep

theorem plain_store {P : Program} {o : Oper} {a : Act} {W : World} {K : Act → World → Prop} (ty : TypeId) (x y : Operand) (b : Nat) (cs : List Value) (t : TypeId) (cur : Array Value) (hB : Blk W b t cur) (hsz : cs.length ≤ cur.size) (ho : o.op = .store ty x y) (hx : a.eval x = .pointer (some ⟨b, 0, none⟩)) (hy : a.eval y = .agg cs.toArray)
    (hi : (P.info? ty).map (·.size) = some cs.length) (h1 : cs.toArray.all (·.oneCell') = true) (h : K (a.put o.dst undef) (W.setCells b 0 cs)) : plain P o a W K := by
  have hr := run_storeVar_mid (P := P) W b 0 ty cs.toArray (fun j hj => by
    have hj : j < cs.length := by simpa using hj
    rw [Nat.zero_add]
    exact ⟨by rw [hB.cell, Array.getElem?_eq_getElem (by omega)]; rfl, hB.frozen j⟩) (by simpa using hi) h1
  unfold plain execOp
  simp only [ho, hx, hy, Instr.storeAt, Instr.sureAddr, Sem.run_bind, Sem.run_pure, Result.andThen_ok, hr, plainUpon]
  simpa using h

set_option maxRecDepth 100000 in
set_option maxHeartbeats 8000000 in
theorem tadd_any (s : Sp) (base g ma mu : Nat) (U : List (Int × Value)) (M : Mp) (w : World) (hw : WfSp s) (h : TreeX w base g ma mu U M) :
    Calls Try.prog 27 #[.pointer (some ⟨g, 0, none⟩), spV s] w (ActW w base g ma mu U (addM M s)) := by
  have hid : (Lit.int .i64 s.id).wf = true := hw.1.1
  have hpa : (Lit.int .i64 s.pa).wf = true := hw.1.2.1
  have hmay := fun W => spmay_any s W hw
  have hb0 := (Below.refl w.heap.size w).alloc (Nat.le_refl _) (.cells (spC s) 46)
  have h0 : ActY (own ma mu U) w (w.alloc (.cells (spC s) 46)) base g ma mu U M (rowV U) (kids M) 46 (spC s) := ⟨(h.later hb0).y, Blk.new w _ _, Fr.of_below hb0⟩
  have hn := htnone_no g ma _ _ (h.later hb0).blk
  unfold MayW spV spC at hmay
  unfold spV
  unfold spC at *
  have H0 := Lib.hid h0; have HX := Lib.hid h; have HB0 := Lib.hid hb0; have HW := Lib.hid hw
  clear h h0 hb0 hw
  have k0 := H0.out.box.cell 0; have k1 := H0.out.box.cell 1; have k2 := H0.out.box.cell 2; have k3 := H0.out.box.cell 3; have k4 := H0.out.box.cell 4; have k5 := H0.out.box.cell 5; have k6 := H0.out.box.cell 6; have k7 := H0.out.box.cell 7; have k8 := H0.out.box.cell 8; have k9 := H0.out.box.cell 9; have k10 := H0.out.box.cell 10; have k11 := H0.out.box.cell 11; have k12 := H0.out.box.cell 12; have k13 := H0.out.box.cell 13
  simp only [List.getElem?_toArray, List.getElem?_cons_zero, List.getElem?_cons_succ] at k0 k1 k2 k3 k4 k5 k6 k7 k8 k9 k10 k11 k12 k13
  go_enter Try.func27, Try.ntmps27
  go_wp2_with (go_at_call 53; refine hn.mono ?_; rintro e w1 ⟨rfl, rfl⟩)
  refine (hmay _).mono ?_
  clear hmay hn k0 k1 k2 k3 k4 k5 k6 k7 k8 k9 k10 k11 k12 k13
  rintro e w1 ⟨er, rfl, her, hb1⟩
  have H1 := Lib.hid (H0.out.later hb1)
  have HB1 := Lib.hid (HB0.out.trans (hb1.mono HB0.out.size))
  clear hb1 H0 HB0
  cases hms : mayS s with
  | false =>
    have hE := Lib.hid hms
    have hne : (er != 0) = true := by rw [hms] at her; simpa using her
    clear hms her
    go_wp2_with fail
    go_ret
    exact ActW.same HX.out HB1.out rfl (by unfold addM; rw [if_pos hE.out])
  | true =>
    obtain rfl : er = 0 := by rw [hms] at her; simpa using her
    have HMS := Lib.hid hms
    clear hms her
    go_upto_region 6 with fail
    have l1 := H1.out.tree.blk.lt; have l2 := H1.out.box.lt
    have o0 := fun e => (over_cell (w := w1) (e := e) (o := 0) l1).trans (H1.out.tree.blk.cell 0)
    have b0 := fun e => (over_cell (w := w1) (e := e) (o := 0) l2).trans (H1.out.box.cell 0)
    simp only [List.getElem?_toArray, List.getElem?_cons_zero, List.getElem?_cons_succ] at o0 b0
    have lk := fun e => ((HX.out.later HB1.out).later (over_below w1 e)).look hid
    obtain ⟨there, hth⟩ : ∃ b, (lookM M s.id).isSome = b := ⟨_, rfl⟩
    rw [hth] at lk
    generalize (lookM M s.id).getD cl0 = c at lk
    unfold clV clC at lk
    have HTH := Lib.hid hth
    clear hth
    refine wp_region_alloc (w := w1) 10 _ _ 6 (.cells #[.int .i64 0, .int .i64 0, .bool false, .int .u64 0, .int .u64 0, .int .u64 0, .int .u64 0, .int .u64 0, .int .u64 0, .int .u64 0, .int .u64 0, .int .u64 0, .int .i64 0, .int .i64 0, .int .i64 0] 84) (by kernel_rfl) rfl rfl rfl (fun _ _ => by kernel_rfl) (by kernel_rfl) ?_
    simp only [List.take_succ_cons, List.take_zero, List.drop_succ_cons, List.drop_zero]
    repeat (refine wpQuietR_step (fun K hK => ?_); go_simp; (refine hK _ ?_; clear hK K))
    refine wpQuietR_nil ?_
    intro B W2 hB hb2 hO
    have bN : Blk W2 B 84 #[.int .i64 0, .int .i64 0, .bool false, .int .u64 0, .int .u64 0, .int .u64 0, .int .u64 0, .int .u64 0, .int .u64 0, .int .u64 0, .int .u64 0, .int .u64 0, .int .i64 0, .int .i64 0, .int .i64 0] := hO
    have hb3 : Below w1.heap.size w1 (W2.setCells B 0 [.int .i64 c.1.id, .int .i64 c.1.pa, .bool c.1.lf, .int .u64 c.1.r.1, .int .u64 c.1.r.2.1, .int .u64 c.1.r.2.2, .int .u64 c.1.s.1, .int .u64 c.1.s.2.1, .int .u64 c.1.s.2.2, .int .u64 c.1.u.1, .int .u64 c.1.u.2.1, .int .u64 c.1.u.2.2, .int .i64 c.1.pk, .int .i64 c.1.by_, .int .i64 c.2]) := hb2.grown (grown_setCells B _ _ W2) hb2.size (fun q e => by cases e; exact hB)
    refine plain_store 84 _ _ B [.int .i64 c.1.id, .int .i64 c.1.pa, .bool c.1.lf, .int .u64 c.1.r.1, .int .u64 c.1.r.2.1, .int .u64 c.1.r.2.2, .int .u64 c.1.s.1, .int .u64 c.1.s.2.1, .int .u64 c.1.s.2.2, .int .u64 c.1.u.1, .int .u64 c.1.u.2.1, .int .u64 c.1.u.2.2, .int .i64 c.1.pk, .int .i64 c.1.by_, .int .i64 c.2] 84 #[.int .i64 0, .int .i64 0, .bool false, .int .u64 0, .int .u64 0, .int .u64 0, .int .u64 0, .int .u64 0, .int .u64 0, .int .u64 0, .int .u64 0, .int .u64 0, .int .i64 0, .int .i64 0, .int .i64 0] bN (by simp) rfl (by kernel_rfl) (by kernel_rfl) (by kernel_rfl) (by kernel_rfl) ⟨hb3, ?_⟩
    generalize W2.setCells B 0 [.int .i64 c.1.id, .int .i64 c.1.pa, .bool c.1.lf, .int .u64 c.1.r.1, .int .u64 c.1.r.2.1, .int .u64 c.1.r.2.2, .int .u64 c.1.s.1, .int .u64 c.1.s.2.1, .int .u64 c.1.s.2.2, .int .u64 c.1.u.1, .int .u64 c.1.u.2.1, .int .u64 c.1.u.2.2, .int .i64 c.1.pk, .int .i64 c.1.by_, .int .i64 c.2] = W3 at hb3 ⊢
    clear o0 b0 lk bN hO hb2 l1 l2
    have H3 := Lib.hid (H1.out.later hb3)
    have HB3 := Lib.hid (HB1.out.trans (hb3.mono HB1.out.size))
    clear hb3 H1 HB1
    have k1 := H3.out.box.cell 1
    simp only [List.getElem?_toArray, List.getElem?_cons_zero, List.getElem?_cons_succ] at k1
    have hdp := tdepth_any s.pa base g ma mu U M W3 hpa (HX.out.later HB3.out)
    go_wp2_with fail
    refine hdp.mono ?_
    clear hdp k1
    rintro e w4 ⟨rfl, hb4⟩
    have H4 := Lib.hid (H3.out.later hb4)
    have HB4 := Lib.hid (HB3.out.trans (hb4.mono HB3.out.size))
    clear hb4 H3 HB3
    obtain ⟨d, hd⟩ : ∃ d, depthM M s.pa = d := ⟨_, rfl⟩
    rw [hd]
    have HD := Lib.hid hd
    clear hd
    have y0 := H4.out.tree.blk.cell 0
    simp only [List.getElem?_toArray, List.getElem?_cons_zero, List.getElem?_cons_succ] at y0
    have hln := fun ty => H4.out.tree.all.len (T := 75) Try.underlying75 ty
    rw [mapV_length] at hln
    obtain ⟨nm, hnm⟩ : ∃ n, M.length = n := ⟨_, rfl⟩
    rw [hnm] at hln
    have HNM := Lib.hid hnm
    have hnm64 : nm ≤ 64 := by rw [← hnm]; exact HX.out.inv.few
    clear hnm
    by_cases hfull : 64 ≤ nm
    · go_wp2_with fail
      go_ret
      exact ActW.same HX.out HB4.out rfl (by unfold addM; rw [if_neg (by rw [HMS.out]; simp), if_pos (by rw [HNM.out]; exact hfull)])
    · cases there with
      | true =>
        go_wp2_with fail
        go_ret
        exact ActW.same HX.out HB4.out rfl (by unfold addM; rw [if_neg (by rw [HMS.out]; simp), if_neg (by rw [HNM.out]; exact hfull), if_pos HTH.out])
      | false =>
        by_cases hd0 : d = 0
        · have hd0b : (d == 0) = true := by simpa using hd0
          have HR := Lib.hid (show addM M s = (160, M) by unfold addM; rw [if_neg (by rw [HMS.out]; simp), if_neg (by rw [HNM.out]; exact hfull), if_neg (by rw [HTH.out]; simp), if_pos (by rw [HD.out]; exact hd0)])
          go_wp2_with fail
          go_ret
          exact ActW.same HX.out HB4.out rfl HR.out
        · have hd0b : (d == 0) = false := by simpa using hd0
          have hres : addM M s = (0, putM M s.id (s, d)) := by unfold addM; rw [if_neg (by rw [HMS.out]; simp), if_neg (by rw [HNM.out]; exact hfull), if_neg (by rw [HTH.out]; simp), if_neg (by rw [HD.out]; exact hd0), HD.out]
          have hnone : lookM M s.id = none := by have := HTH.out; simpa using this
          have HR := Lib.hid (And.intro hres hnone)
          clear hres hnone
          go_upto_region 14 with fail
          clear y0 hln
          have l1 := H4.out.tree.blk.lt; have l2 := H4.out.box.lt
          have o0 := fun e => (over_cell (w := w4) (e := e) (o := 0) l1).trans (H4.out.tree.blk.cell 0)
          have b0 := fun e => (over_cell (w := w4) (e := e) (o := 0) l2).trans (H4.out.box.cell 0); have b1 := fun e => (over_cell (w := w4) (e := e) (o := 1) l2).trans (H4.out.box.cell 1); have b2 := fun e => (over_cell (w := w4) (e := e) (o := 2) l2).trans (H4.out.box.cell 2); have b3 := fun e => (over_cell (w := w4) (e := e) (o := 3) l2).trans (H4.out.box.cell 3); have b4 := fun e => (over_cell (w := w4) (e := e) (o := 4) l2).trans (H4.out.box.cell 4); have b5 := fun e => (over_cell (w := w4) (e := e) (o := 5) l2).trans (H4.out.box.cell 5); have b6 := fun e => (over_cell (w := w4) (e := e) (o := 6) l2).trans (H4.out.box.cell 6); have b7 := fun e => (over_cell (w := w4) (e := e) (o := 7) l2).trans (H4.out.box.cell 7); have b8 := fun e => (over_cell (w := w4) (e := e) (o := 8) l2).trans (H4.out.box.cell 8); have b9 := fun e => (over_cell (w := w4) (e := e) (o := 9) l2).trans (H4.out.box.cell 9); have b10 := fun e => (over_cell (w := w4) (e := e) (o := 10) l2).trans (H4.out.box.cell 10); have b11 := fun e => (over_cell (w := w4) (e := e) (o := 11) l2).trans (H4.out.box.cell 11); have b12 := fun e => (over_cell (w := w4) (e := e) (o := 12) l2).trans (H4.out.box.cell 12); have b13 := fun e => (over_cell (w := w4) (e := e) (o := 13) l2).trans (H4.out.box.cell 13)
          simp only [List.getElem?_toArray, List.getElem?_cons_zero, List.getElem?_cons_succ] at b0 b1 b2 b3 b4 b5 b6 b7 b8 b9 b10 b11 b12 b13
          simp only [List.getElem?_toArray, List.getElem?_cons_zero, List.getElem?_cons_succ] at o0
          refine wp_region_over_tail 9 (by kernel_rfl) (by kernel_rfl) ?_
          simp only [List.take_succ_cons, List.take_zero, List.drop_succ_cons, List.drop_zero]
          repeat (first | go_big_quiet_skip | (go_big_quiet_want; go_big_quiet_op; go_big_quiet_on))
          refine wpQuiet_nil ?_
          rintro W5 ⟨e5, he5⟩
          have hb5 := over_below w4 e5
          rw [← he5] at hb5
          clear he5 o0 b0 b1 b2 b3 b4 b5 b6 b7 b8 b9 b10 b11 b12 b13 l1 l2
          have h5 := H4.out.later hb5
          obtain ⟨W6, hr6, hm6, ht6⟩ := h5.tree.all.store (T := 75) (E := 84) (k := s.id) Try.underlying3 Try.underlying75 hid (by rw [mapV_length, HNM.out]; unfold maxLen; omega) (clV (s, d))
          rw [put_map] at hm6
          have H6 := Lib.hid (h5.all_turn (.inl rfl) hm6 ht6.grown)
          unfold clV clC at hr6
          clear h5 hb5 hm6 ht6 H4 HB4
          go_upto_region 15 with fail
          clear hr6
          have l1 := H6.out.tree.blk.lt; have l2 := H6.out.box.lt
          have o1 := fun e => (over_cell (w := W6) (e := e) (o := 1) l1).trans (H6.out.tree.blk.cell 1)
          have b1 := fun e => (over_cell (w := W6) (e := e) (o := 1) l2).trans (H6.out.box.cell 1)
          simp only [List.getElem?_toArray, List.getElem?_cons_zero, List.getElem?_cons_succ] at o1 b1
          have lk := fun e => (H6.out.tree.later (over_below W6 e)).und.look (k := s.pa) (E := 40) (T := 76) (z := .slice none 0 0) Try.underlying3 Try.underlying76 (by exact Try.zeroValue40 _) hpa
          change ∀ e, (Instr.lookup _ _ _ _).run _ _ = .ok (rowV U s.pa) _ at lk
          refine wp_region_over (by kernel_rfl) (by kernel_rfl) ?_
          repeat (first | go_big_quiet_skip | (go_big_quiet_want; go_big_quiet_op; go_big_quiet_on))
          refine wpQuiet_nil ?_
          rintro W7 ⟨e7, he7⟩
          have hb7 := over_below W6 e7
          rw [← he7] at hb7
          clear he7 o1 b1 l1 l2 lk
          have H7 := Lib.hid (H6.out.later hb7)
          clear hb7 H6
          have hrise := HX.out.inv.rise
          have hkl := kids_len M s.pa
          have hbs := bs_any base (rowV U s.pa) (kids M s.pa) s.id W7 (H7.out.tree.rows s.pa) (by have := HNM.out; omega) (kids_rising hrise s.pa)
          have k0 := H7.out.box.cell 0
          simp only [List.getElem?_toArray, List.getElem?_cons_zero, List.getElem?_cons_succ] at k0
          go_wp2_with fail
          refine hbs.mono ?_
          clear hbs k0
          rintro e W8 ⟨bb, rfl, hb8⟩
          have H8 := Lib.hid (H7.out.later hb8)
          clear hb8 H7
          have hjn : (kids M s.pa).countP (· < s.id) ≤ (kids M s.pa).length := List.countP_le_length
          have HU := Lib.hid (kids_upd hrise (c := (s, d)) HR.out.2)
          obtain ⟨jn, hjj⟩ : ∃ j, (kids M s.pa).countP (· < s.id) = j := ⟨_, rfl⟩
          rw [hjj] at hjn ⊢
          have HJ := Lib.hid (And.intro hjn hjj)
          obtain ⟨nl, hnl⟩ : ∃ l, (kids M s.pa).take jn ++ [s.id] ++ (kids M s.pa).drop jn = l := ⟨_, rfl⟩
          have HNL := Lib.hid hnl
          clear hnl
          obtain ⟨v0, hv0⟩ : ∃ v, rowV U s.pa = v := ⟨_, rfl⟩
          rw [hv0]
          have HV := Lib.hid hv0
          clear hjj hjn hv0 hrise
          go_upto_region 17 with fail
          have hbl : base ≤ W8.heap.size := Nat.le_trans HX.out.gb (Nat.le_of_lt (Nat.lt_of_lt_of_le HX.out.blk.lt H8.out.fr.size))
          have hcs := cutW_size hbl
          refine wp_region_keep (w := cutW W8 base) (ws := W8) 12 1 [3, 5, 9, 10, 11] [] [(3, fun u W' => u = .map (some mu)), (5, fun u W' => u = .int .i64 s.pa), (9, fun u W' => u = .int .i64 s.id), (10, fun u W' => ∃ B, u = .slice (some ⟨B, 0, none⟩) 1 1 ∧ Blk W' B 3 #[.int .i64 s.id] ∧ w.heap.size ≤ B), (11, fun u W' => (ActY (own ma mu U) w W' base g ma mu U (putM M s.id (s, d)) (upd (rowV U) s.pa u) (upd (kids M) s.pa nl) 46 #[.int .i64 s.id, .int .i64 s.pa, .bool s.lf, .int .u64 s.r.1, .int .u64 s.r.2.1, .int .u64 s.r.2.2, .int .u64 s.s.1, .int .u64 s.s.2.1, .int .u64 s.s.2.2, .int .u64 s.u.1, .int .u64 s.u.2.1, .int .u64 s.u.2.2, .int .i64 s.pk, .int .i64 s.by_]) ∧ (u.ownBlock = v0.ownBlock ∨ ∃ b, u.ownBlock = some b ∧ w.heap.size ≤ b))] [(10, 11)] [11] [3, 5, 9] rfl (by decide) (by decide) (below_cut hbl (Below.refl _ _)) (J := fun W => ActY (own ma mu U) w W base g ma mu U (putM M s.id (s, d)) (rowV U) (kids M) 46 #[.int .i64 s.id, .int .i64 s.pa, .bool s.lf, .int .u64 s.r.1, .int .u64 s.r.2.1, .int .u64 s.r.2.2, .int .u64 s.s.1, .int .u64 s.s.2.1, .int .u64 s.s.2.2, .int .u64 s.u.1, .int .u64 s.u.2.1, .int .u64 s.u.2.2, .int .i64 s.pk, .int .i64 s.by_]) (jend := 11) H8.out (fun W W' h hb => h.later hb) (.inr (by kernel_rfl)) (JK := fun W => Blk W g 78 #[.map (some ma), .map (some mu)] ∧ Blk W w.heap.size 46 #[.int .i64 s.id, .int .i64 s.pa, .bool s.lf, .int .u64 s.r.1, .int .u64 s.r.2.1, .int .u64 s.r.2.2, .int .u64 s.s.1, .int .u64 s.s.2.1, .int .u64 s.s.2.2, .int .u64 s.u.1, .int .u64 s.u.2.1, .int .u64 s.u.2.2, .int .i64 s.pk, .int .i64 s.by_] ∧ w.heap.size ≤ W.heap.size) ⟨H8.out.tree.blk, H8.out.box, H8.out.fr.size⟩ (fun W W' h hb => ⟨h.1.below hb h.1.lt, h.2.1.below hb h.2.1.lt, Nat.le_trans h.2.2 hb.size⟩) (fun p hp hh v W hT => by simp only [List.mem_cons, List.not_mem_nil, or_false] at hp; rcases hp with rfl | rfl | rfl | rfl | rfl <;> first | exact ⟨hT.1.tree.blk, hT.1.box, hT.1.fr.size⟩ | simp at hh) (by kernel_rfl) (by kernel_rfl) (by kernel_rfl) (by kernel_rfl) (by kernel_rfl) (fun _ _ _ _ _ h => h) ⟨fun v W1 W2 h hb => h, fun v W1 W2 h hb => h, fun v W1 W2 h hb => h, fun v W1 W2 ⟨b, h1, h2, h3⟩ hb => ⟨b, h1, h2.below hb h2.lt, h3⟩, fun v W1 W2 h hb => ⟨h.1.later hb, h.2⟩, trivial⟩ ⟨fun _ v W1 W2 h => h, fun _ v W1 W2 h => h, fun _ v W1 W2 h => h, fun h => by simp at h, fun h => by simp at h, trivial⟩ ?_
          intro LL hL
          have HL := Lib.hid hL
          clear hL
          simp only [List.take_succ_cons, List.take_zero, putL]
          iterate 12 (first | refine wpHead_skip (by decide) ?_ | (refine wpHead_step (by decide) (fun K hK => ?_); go_simp; refine hK _ ?_; clear hK K))
          refine wpHead_nil (HL.out _ ⟨?_, ?_, ?_, ?_, ?_, trivial⟩ ?_)
          · intro vs W9 hb9 hf hj hk
            clear HL hj hf
            have x0 := hk.1.cell 1
            simp only [List.getElem?_toArray, List.getElem?_cons_zero, List.getElem?_cons_succ] at x0
            change TStep _ _ _ (Act.put (Act.put (Act.put (Act.put (Act.put _ (some 70) (vs 3)) (some 72) (vs 5)) (some 76) (vs 9)) (some 77) (vs 10)) (some 78) (vs 11)) _ _
            refine tstep_yes (by kernel_rfl) ?_
            go_simp
            exact Below.refl _ _
          · intro vs W9 hb9 hf hj hk
            clear HL hj hf
            have x0 := hk.2.1.cell 1
            simp only [List.getElem?_toArray, List.getElem?_cons_zero, List.getElem?_cons_succ] at x0
            change TStep _ _ _ (Act.put (Act.put (Act.put (Act.put (Act.put _ (some 70) (vs 3)) (some 72) (vs 5)) (some 76) (vs 9)) (some 77) (vs 10)) (some 78) (vs 11)) _ _
            refine tstep_yes (by kernel_rfl) ?_
            go_simp
            exact Below.refl _ _
          · intro vs W9 hb9 hf hj hk
            clear HL hj hf
            have x0 := hk.2.1.cell 0
            simp only [List.getElem?_toArray, List.getElem?_cons_zero, List.getElem?_cons_succ] at x0
            change TStep _ _ _ (Act.put (Act.put (Act.put (Act.put (Act.put _ (some 70) (vs 3)) (some 72) (vs 5)) (some 76) (vs 9)) (some 77) (vs 10)) (some 78) (vs 11)) _ _
            refine tstep_yes (by kernel_rfl) ?_
            go_simp
            exact Below.refl _ _
          · intro vs W9 hb9 hf hj hk
            have hf := fits_cast (q := (vs 9 = .int .i64 s.id) ∧ True) hf (by kernel_rfl)
            clear HL hj
            change TStep _ _ _ (Act.put (Act.put (Act.put (Act.put (Act.put _ (some 70) (vs 3)) (some 72) (vs 5)) (some 76) (vs 9)) (some 77) (vs 10)) (some 78) (vs 11)) _ _
            rw [hf.1]
            refine tstep_yes (by kernel_rfl) ?_
            clear hf
            go_simp
            first | exact ⟨(Below.refl _ _).alloc (Nat.le_refl _) _, Blk.new _ _ _, hk.2.2⟩ | exact ⟨(Below.refl _ _).alloc (Nat.le_refl _) _, Blk.new _ _ _⟩
          · intro vs W9 hb9 hf hj hk
            have hf := fits_cast (q := (∃ B, (vs 10) = .slice (some ⟨B, 0, none⟩) 1 1 ∧ Blk W9 B 3 #[.int .i64 s.id] ∧ w.heap.size ≤ B) ∧ True) hf (by kernel_rfl)
            clear HL
            have hjj := hj (.inl rfl)
            refine Exists.elim hf.1 fun B10 hB10 => ?_
            change HStep _ _ _ _ (Act.put (Act.put (Act.put (Act.put (Act.put _ (some 70) (vs 3)) (some 72) (vs 5)) (some 76) (vs 9)) (some 77) (vs 10)) (some 78) (vs 11)) _ _
            rw [hB10.1]
            have hrow := hjj.tree.rows s.pa
            have hlt : ∀ b, v0.ownBlock = some b → b < w.heap.size := fun b hb => ((HX.out.rows s.pa).lt b (by rw [HV.out]; exact hb)).2
            rw [HV.out] at hrow
            have hins0 := ins_any base v0 (kids M s.pa) s.id B10 jn W9 HJ.out.1 hrow (by have := HNM.out; omega) hB10.2.1 (fun e => by have := hlt _ e; omega) (Nat.le_trans (by rw [hcs] at hb9; exact Nat.le_refl _) (by have := hb9.size; rw [hcs] at this; exact this))
            rw [HNL.out] at hins0
            have hins := hins0.mono (R' := fun e w' => ∃ v', e = .returned v' ∧ Below (cutW W8 base).heap.size (cutW W8 base) w' ∧ (ActY (own ma mu U) w w' base g ma mu U (putM M s.id (s, d)) (upd (rowV U) s.pa v') (upd (kids M) s.pa nl) 46 #[.int .i64 s.id, .int .i64 s.pa, .bool s.lf, .int .u64 s.r.1, .int .u64 s.r.2.1, .int .u64 s.r.2.2, .int .u64 s.s.1, .int .u64 s.s.2.1, .int .u64 s.s.2.2, .int .u64 s.u.1, .int .u64 s.u.2.1, .int .u64 s.u.2.2, .int .i64 s.pk, .int .i64 s.by_]) ∧ (v'.ownBlock = v0.ownBlock ∨ ∃ b, v'.ownBlock = some b ∧ w.heap.size ≤ b)) (fun e w' ⟨v', he, ho, hg, hat⟩ => ⟨v', he, hb9.grown hg hb9.size (fun q e => by rw [hcs]; exact (hrow.lt q e).1), hjj.row_new (by decide) (fun b hb => .inr (.inr ⟨s.pa, hb⟩)) ho (by rw [HV.out]; exact hg) (by rw [HV.out]; exact hat.imp id .inl), hat.imp id fun h => ⟨_, h, hk.2.2⟩⟩)
            refine hstep_yes (by kernel_rfl) ?_
            clear hins0
            go_simp
            exact ⟨rfl, hins⟩
          · intro vs W9 hb9 hk hf
            have hf := fits_cast (q := (vs 3 = .map (some mu)) ∧ (vs 5 = .int .i64 s.pa) ∧ (vs 9 = .int .i64 s.id) ∧ ((ActY (own ma mu U) w W9 base g ma mu U (putM M s.id (s, d)) (upd (rowV U) s.pa (vs 11)) (upd (kids M) s.pa nl) 46 #[.int .i64 s.id, .int .i64 s.pa, .bool s.lf, .int .u64 s.r.1, .int .u64 s.r.2.1, .int .u64 s.r.2.2, .int .u64 s.s.1, .int .u64 s.s.2.1, .int .u64 s.s.2.2, .int .u64 s.u.1, .int .u64 s.u.2.1, .int .u64 s.u.2.2, .int .i64 s.pk, .int .i64 s.by_]) ∧ ((vs 11).ownBlock = v0.ownBlock ∨ ∃ b, (vs 11).ownBlock = some b ∧ w.heap.size ≤ b)) ∧ True) hf (by kernel_rfl)
            clear HL
            change wpList _ _ _ _ (Act.put (Act.put (Act.put (Act.put (Act.put _ (some 70) (vs 3)) (some 72) (vs 5)) (some 76) (vs 9)) (some 77) (vs 10)) (some 78) (vs 11)) _
            rw [hf.1, hf.2.1]
            have h9 := hf.2.2.2.1
            generalize vs 11 = u at h9 ⊢
            obtain ⟨W10, hr, hm, ht⟩ := h9.1.tree.und.store (T := 76) (E := 40) (k := s.pa) Try.underlying3 Try.underlying76 hpa (by have := HX.out.few; unfold maxLen; omega) u
            have h10 := h9.1.und_turn (.inr (.inl rfl)) hm ht.grown
            have HF := Lib.hid (And.intro h10 h9.2)
            clear hf h9 hm ht h10 hb9 hk
            simp only [List.drop_succ_cons, List.drop_zero, List.take_succ_cons, List.take_zero]
            go_wp2_with fail
            go_ret
            have hnamed := may_named HMS.out
            have hinv := HX.out.inv.add HW.out
            refine ⟨putM U s.pa u, by rw [HR.out.1]; rfl, ?_, HF.out.1.fr, ?_⟩
            · rw [HR.out.1] at hinv ⊢
              have htree := HF.out.1.tree
              have e1 := HU.out
              rw [HJ.out.2, HNL.out] at e1
              rw [← e1, ← rowV_put] at htree
              dsimp only
              refine htree.x HX.out.gb HX.out.ab HX.out.ub (fun q hq => ?_) hinv
              rcases putM_mem hq with rfl | hq
              · exact ⟨hnamed.2.2.1, hnamed.2.2.2.1⟩
              · exact HX.out.keys q hq
            · intro b hb
              rcases hb with rfl | rfl | ⟨k, hk⟩
              · exact .inl (.inl rfl)
              · exact .inl (.inr (.inl rfl))
              · rw [rowV_put] at hk
                unfold upd at hk
                by_cases e : k = s.pa
                · rw [if_pos e] at hk
                  rcases HF.out.2 with h | ⟨b', h, hb'⟩
                  · exact .inl (.inr (.inr ⟨s.pa, by rw [HV.out, ← h]; exact hk⟩))
                  · rw [h] at hk; cases hk; exact .inr hb'
                · rw [if_neg e] at hk
                  exact .inl (.inr (.inr ⟨k, hk⟩))
end Go.Proofs.Ytclhhegfffccgaa
