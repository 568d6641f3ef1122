/- Lemmas of the claim. No conditions beyond those that each states. -/
import Derived.Test.YtmmeopjemkjllaaGreatPT35
import Derived.Deep.MidRow
import Derived.BigRegion
import Derived.Test.YtmmeopjemkjllaaGreatPT16
set_option linter.unusedVariables false
set_option linter.unusedSimpArgs false
set_option maxRecDepth 100000
set_option maxHeartbeats 8000000
namespace Go.Proofs.YtmmeopjemkjllaaGreat
section
open Go.RowKit Go.Maps
attribute [local go_sem ↓] Go.wp_at_zero Go.wp_at_succ
attribute [local go_sem] quietR quietAtR quietUponR midAt midUpon
attribute [local irreducible] TStep HStep
theorem plain_store {P:Program} {o:Oper} {a:Act} {W:World} {K:Act→World→Prop} (ty:TypeId)(x y:Operand)(b:Nat)(cs:List Value)(t:TypeId)(cur:Array Value)(hB:Blk W b t cur)(hsz:cs.length≤cur.size)(ho:o.op=.store ty x y)(hx:a.eval x=.pointer (some ⟨b,0,none⟩))(hy:a.eval y=.agg cs.toArray)
  (hi:(P.info? ty).map (·.size)=some cs.length) (h1:cs.toArray.all (·.oneCell')=true) (h:K (a.put o.dst undef) (W.setCells b 0 cs)):plain P o a W K:=by
 have hr:=run_storeVar_mid (P:=P) W b 0 ty cs.toArray (fun j hj=>by
  have hj:j < cs.length:=by simpa using hj
  rw [Nat.zero_add]
  exact⟨by rw [hB.cell,Array.getElem?_eq_getElem (by omega)];rfl,hB.frozen j⟩) (by simpa using hi) h1
 unfold plain execOp
 simp only [ho,hx,hy,Instr.storeAt,Instr.sureAddr,Sem.run_bind,Sem.run_pure,Result.andThen_ok,hr,plainUpon]
 simpa using h
set_option maxRecDepth 100000 in
set_option maxHeartbeats 8000000 in
theorem tadd_any (s : Sp) (base g ma mu : Nat) (U : List (Int × Value)) (M : Mp) (w : World) (hw : WfSp s) (h : TreeX w base g ma mu U M) :
    Calls Tryz.prog 107 #[.pointer (some ⟨g, 0, none⟩), spV s] w (ActW w base g ma mu U (addM M s)) := by
  have hid : (Lit.int .i64 s.id).wf = true := hw.1.1
  have hpa : (Lit.int .i64 s.pa).wf = true := hw.1.2.1
  have hmay := fun W => spmay_any s W hw
  have hb0 := (Below.refl w.heap.size w).alloc (Nat.le_refl _) (.cells (spC s) 32)
  have h0 : ActY (own ma mu U) w (w.alloc (.cells (spC s) 32)) base g ma mu U M (rowV U) (kids M) 32 (spC s) := ⟨(h.later hb0).y, Blk.new w _ _, Fr.of_below hb0⟩
  have hn := htnone_no g ma _ _ (h.later hb0).blk
  unfold MayW spV spC at hmay
  unfold spV
  unfold spC at *
  have H0 := Lib.hid h0; have HX := Lib.hid h; have HB0 := Lib.hid hb0; have HW := Lib.hid hw
  clear h h0 hb0 hw
  have k0 := H0.out.box.cell 0; have k1 := H0.out.box.cell 1; have k2 := H0.out.box.cell 2; have k3 := H0.out.box.cell 3; have k4 := H0.out.box.cell 4; have k5 := H0.out.box.cell 5; have k6 := H0.out.box.cell 6; have k7 := H0.out.box.cell 7; have k8 := H0.out.box.cell 8; have k9 := H0.out.box.cell 9; have k10 := H0.out.box.cell 10; have k11 := H0.out.box.cell 11; have k12 := H0.out.box.cell 12; have k13 := H0.out.box.cell 13
  simp only [List.getElem?_toArray, List.getElem?_cons_zero, List.getElem?_cons_succ] at k0 k1 k2 k3 k4 k5 k6 k7 k8 k9 k10 k11 k12 k13
  go_enter Tryz.func107, Tryz.ntmps107
  go_wp2_with (go_at_call 69; refine hn.mono ?_; rintro e w1 ⟨rfl, rfl⟩)
  refine (hmay _).mono ?_
  clear hmay hn k0 k1 k2 k3 k4 k5 k6 k7 k8 k9 k10 k11 k12 k13
  rintro e w1 ⟨er, rfl, her, hb1⟩
  have H1 := Lib.hid (H0.out.later hb1)
  have HB1 := Lib.hid (HB0.out.trans (hb1.mono HB0.out.size))
  clear hb1 H0 HB0
  cases hms : mayS s with
  | false =>
    have hE := Lib.hid hms
    have hne : (er != 0) = true := by rw [hms] at her; simpa using her
    clear hms her
    go_wp2_with fail
    go_ret
    exact ActW.same HX.out HB1.out rfl (by unfold addM; rw [if_pos hE.out])
  | true =>
    obtain rfl : er = 0 := by rw [hms] at her; simpa using her
    have HMS := Lib.hid hms
    clear hms her
    go_upto_region 6 with fail
    have l1 := H1.out.tree.blk.lt; have l2 := H1.out.box.lt
    have o0 := fun e => (over_cell (w := w1) (e := e) (o := 0) l1).trans (H1.out.tree.blk.cell 0)
    have b0 := fun e => (over_cell (w := w1) (e := e) (o := 0) l2).trans (H1.out.box.cell 0)
    simp only [List.getElem?_toArray, List.getElem?_cons_zero, List.getElem?_cons_succ] at o0 b0
    have lk := fun e => ((HX.out.later HB1.out).later (over_below w1 e)).look hid
    obtain ⟨there, hth⟩ : ∃ b, (lookM M s.id).isSome = b := ⟨_, rfl⟩
    rw [hth] at lk
    generalize (lookM M s.id).getD cl0 = c at lk
    unfold clV clC at lk
    have HTH := Lib.hid hth
    clear hth
    refine wp_region_alloc (w := w1) 10 _ _ 6 (.cells #[.int .i64 0, .int .i64 0, .bool false, .int .u64 0, .int .u64 0, .int .u64 0, .int .u64 0, .int .u64 0, .int .u64 0, .int .u64 0, .int .u64 0, .int .u64 0, .int .i64 0, .int .i64 0, .int .i64 0] 107) (by kernel_rfl) rfl rfl rfl (fun _ _ => by kernel_rfl) (by kernel_rfl) ?_
    simp only [List.take_succ_cons, List.take_zero, List.drop_succ_cons, List.drop_zero]
    repeat (refine wpQuietR_step (fun K hK => ?_); go_simp; (refine hK _ ?_; clear hK K))
    refine wpQuietR_nil ?_
    intro B W2 hB hb2 hO
    have bN : Blk W2 B 107 #[.int .i64 0, .int .i64 0, .bool false, .int .u64 0, .int .u64 0, .int .u64 0, .int .u64 0, .int .u64 0, .int .u64 0, .int .u64 0, .int .u64 0, .int .u64 0, .int .i64 0, .int .i64 0, .int .i64 0] := hO
    have hb3 : Below w1.heap.size w1 (W2.setCells B 0 [.int .i64 c.1.id, .int .i64 c.1.pa, .bool c.1.lf, .int .u64 c.1.r.1, .int .u64 c.1.r.2.1, .int .u64 c.1.r.2.2, .int .u64 c.1.s.1, .int .u64 c.1.s.2.1, .int .u64 c.1.s.2.2, .int .u64 c.1.u.1, .int .u64 c.1.u.2.1, .int .u64 c.1.u.2.2, .int .i64 c.1.pk, .int .i64 c.1.by_, .int .i64 c.2]) := hb2.grown (grown_setCells B _ _ W2) hb2.size (fun q e => by cases e; exact hB)
    refine plain_store 107 _ _ B [.int .i64 c.1.id, .int .i64 c.1.pa, .bool c.1.lf, .int .u64 c.1.r.1, .int .u64 c.1.r.2.1, .int .u64 c.1.r.2.2, .int .u64 c.1.s.1, .int .u64 c.1.s.2.1, .int .u64 c.1.s.2.2, .int .u64 c.1.u.1, .int .u64 c.1.u.2.1, .int .u64 c.1.u.2.2, .int .i64 c.1.pk, .int .i64 c.1.by_, .int .i64 c.2] 107 #[.int .i64 0, .int .i64 0, .bool false, .int .u64 0, .int .u64 0, .int .u64 0, .int .u64 0, .int .u64 0, .int .u64 0, .int .u64 0, .int .u64 0, .int .u64 0, .int .i64 0, .int .i64 0, .int .i64 0] bN (by simp) rfl (by kernel_rfl) (by kernel_rfl) (by kernel_rfl) (by kernel_rfl) ⟨hb3, ?_⟩
    generalize W2.setCells B 0 [.int .i64 c.1.id, .int .i64 c.1.pa, .bool c.1.lf, .int .u64 c.1.r.1, .int .u64 c.1.r.2.1, .int .u64 c.1.r.2.2, .int .u64 c.1.s.1, .int .u64 c.1.s.2.1, .int .u64 c.1.s.2.2, .int .u64 c.1.u.1, .int .u64 c.1.u.2.1, .int .u64 c.1.u.2.2, .int .i64 c.1.pk, .int .i64 c.1.by_, .int .i64 c.2] = W3 at hb3 ⊢
    clear o0 b0 lk bN hO hb2 l1 l2
    have H3 := Lib.hid (H1.out.later hb3)
    have HB3 := Lib.hid (HB1.out.trans (hb3.mono HB1.out.size))
    clear hb3 H1 HB1
    have k1 := H3.out.box.cell 1
    simp only [List.getElem?_toArray, List.getElem?_cons_zero, List.getElem?_cons_succ] at k1
    have hdp := tdepth_any s.pa base g ma mu U M W3 hpa (HX.out.later HB3.out)
    go_wp2_with fail
    refine hdp.mono ?_
    clear hdp k1
    rintro e w4 ⟨rfl, hb4⟩
    have H4 := Lib.hid (H3.out.later hb4)
    have HB4 := Lib.hid (HB3.out.trans (hb4.mono HB3.out.size))
    clear hb4 H3 HB3
    obtain ⟨d, hd⟩ : ∃ d, depthM M s.pa = d := ⟨_, rfl⟩
    rw [hd]
    have HD := Lib.hid hd
    clear hd
    have y0 := H4.out.tree.blk.cell 0
    simp only [List.getElem?_toArray, List.getElem?_cons_zero, List.getElem?_cons_succ] at y0
    have hln := fun ty => H4.out.tree.all.len (T := 98) Tryz.underlying98 ty
    rw [mapV_length] at hln
    obtain ⟨nm, hnm⟩ : ∃ n, M.length = n := ⟨_, rfl⟩
    rw [hnm] at hln
    have HNM := Lib.hid hnm
    have hnm64 : nm ≤ 64 := by rw [← hnm]; exact HX.out.inv.few
    clear hnm
    by_cases hfull : 64 ≤ nm
    · go_wp2_with fail
      go_ret
      exact ActW.same HX.out HB4.out rfl (by unfold addM; rw [if_neg (by rw [HMS.out]; simp), if_pos (by rw [HNM.out]; exact hfull)])
    · cases there with
      | true =>
        go_wp2_with fail
        go_ret
        exact ActW.same HX.out HB4.out rfl (by unfold addM; rw [if_neg (by rw [HMS.out]; simp), if_neg (by rw [HNM.out]; exact hfull), if_pos HTH.out])
      | false =>
        by_cases hd0 : d = 0
        · have hd0b : (d == 0) = true := by simpa using hd0
          have HR := Lib.hid (show addM M s = (160, M) by unfold addM; rw [if_neg (by rw [HMS.out]; simp), if_neg (by rw [HNM.out]; exact hfull), if_neg (by rw [HTH.out]; simp), if_pos (by rw [HD.out]; exact hd0)])
          go_wp2_with fail
          go_ret
          exact ActW.same HX.out HB4.out rfl HR.out
        · have hd0b : (d == 0) = false := by simpa using hd0
          have hres : addM M s = (0, putM M s.id (s, d)) := by unfold addM; rw [if_neg (by rw [HMS.out]; simp), if_neg (by rw [HNM.out]; exact hfull), if_neg (by rw [HTH.out]; simp), if_neg (by rw [HD.out]; exact hd0), HD.out]
          have hnone : lookM M s.id = none := by have := HTH.out; simpa using this
          have HR := Lib.hid (And.intro hres hnone)
          clear hres hnone
          go_upto_region 14 with fail
          clear y0 hln
          have l1 := H4.out.tree.blk.lt; have l2 := H4.out.box.lt
          have o0 := fun e => (over_cell (w := w4) (e := e) (o := 0) l1).trans (H4.out.tree.blk.cell 0)
          have b0 := fun e => (over_cell (w := w4) (e := e) (o := 0) l2).trans (H4.out.box.cell 0); have b1 := fun e => (over_cell (w := w4) (e := e) (o := 1) l2).trans (H4.out.box.cell 1); have b2 := fun e => (over_cell (w := w4) (e := e) (o := 2) l2).trans (H4.out.box.cell 2); have b3 := fun e => (over_cell (w := w4) (e := e) (o := 3) l2).trans (H4.out.box.cell 3); have b4 := fun e => (over_cell (w := w4) (e := e) (o := 4) l2).trans (H4.out.box.cell 4); have b5 := fun e => (over_cell (w := w4) (e := e) (o := 5) l2).trans (H4.out.box.cell 5); have b6 := fun e => (over_cell (w := w4) (e := e) (o := 6) l2).trans (H4.out.box.cell 6); have b7 := fun e => (over_cell (w := w4) (e := e) (o := 7) l2).trans (H4.out.box.cell 7); have b8 := fun e => (over_cell (w := w4) (e := e) (o := 8) l2).trans (H4.out.box.cell 8); have b9 := fun e => (over_cell (w := w4) (e := e) (o := 9) l2).trans (H4.out.box.cell 9); have b10 := fun e => (over_cell (w := w4) (e := e) (o := 10) l2).trans (H4.out.box.cell 10); have b11 := fun e => (over_cell (w := w4) (e := e) (o := 11) l2).trans (H4.out.box.cell 11); have b12 := fun e => (over_cell (w := w4) (e := e) (o := 12) l2).trans (H4.out.box.cell 12); have b13 := fun e => (over_cell (w := w4) (e := e) (o := 13) l2).trans (H4.out.box.cell 13)
          simp only [List.getElem?_toArray, List.getElem?_cons_zero, List.getElem?_cons_succ] at b0 b1 b2 b3 b4 b5 b6 b7 b8 b9 b10 b11 b12 b13
          simp only [List.getElem?_toArray, List.getElem?_cons_zero, List.getElem?_cons_succ] at o0
          refine wp_region_over_tail 9 (by kernel_rfl) (by kernel_rfl) ?_
          simp only [List.take_succ_cons, List.take_zero, List.drop_succ_cons, List.drop_zero]
          repeat (first | go_big_quiet_skip | (go_big_quiet_want; go_big_quiet_op; go_big_quiet_on))
          refine wpQuiet_nil ?_
          rintro W5 ⟨e5, he5⟩
          have hb5 := over_below w4 e5
          rw [← he5] at hb5
          clear he5 o0 b0 b1 b2 b3 b4 b5 b6 b7 b8 b9 b10 b11 b12 b13 l1 l2
          have h5 := H4.out.later hb5
          obtain ⟨W6, hr6, hm6, ht6⟩ := h5.tree.all.store (T := 98) (E := 107) (k := s.id) Tryz.underlying3 Tryz.underlying98 hid (by rw [mapV_length, HNM.out]; unfold maxLen; omega) (clV (s, d))
          rw [put_map] at hm6
          have H6 := Lib.hid (h5.all_turn (.inl rfl) hm6 ht6.grown)
          unfold clV clC at hr6
          clear h5 hb5 hm6 ht6 H4 HB4
          go_upto_region 15 with fail
          clear hr6
          have l1 := H6.out.tree.blk.lt; have l2 := H6.out.box.lt
          have o1 := fun e => (over_cell (w := W6) (e := e) (o := 1) l1).trans (H6.out.tree.blk.cell 1)
          have b1 := fun e => (over_cell (w := W6) (e := e) (o := 1) l2).trans (H6.out.box.cell 1)
          simp only [List.getElem?_toArray, List.getElem?_cons_zero, List.getElem?_cons_succ] at o1 b1
          have lk := fun e => (H6.out.tree.later (over_below W6 e)).und.look (k := s.pa) (E := 51) (T := 99) (z := .slice none 0 0) Tryz.underlying3 Tryz.underlying99 (by exact Tryz.zeroValue51 _) hpa
          change ∀ e, (Instr.lookup _ _ _ _).run _ _ = .ok (rowV U s.pa) _ at lk
          refine wp_region_over (by kernel_rfl) (by kernel_rfl) ?_
          repeat (first | go_big_quiet_skip | (go_big_quiet_want; go_big_quiet_op; go_big_quiet_on))
          refine wpQuiet_nil ?_
          rintro W7 ⟨e7, he7⟩
          have hb7 := over_below W6 e7
          rw [← he7] at hb7
          clear he7 o1 b1 l1 l2 lk
          have H7 := Lib.hid (H6.out.later hb7)
          clear hb7 H6
          have hrise := HX.out.inv.rise
          have hkl := kids_len M s.pa
          have hbs := bs_any base (rowV U s.pa) (kids M s.pa) s.id W7 (H7.out.tree.rows s.pa) (by have := HNM.out; omega) (kids_rising hrise s.pa)
          have k0 := H7.out.box.cell 0
          simp only [List.getElem?_toArray, List.getElem?_cons_zero, List.getElem?_cons_succ] at k0
          go_wp2_with fail
          refine hbs.mono ?_
          clear hbs k0
          rintro e W8 ⟨bb, rfl, hb8⟩
          have H8 := Lib.hid (H7.out.later hb8)
          clear hb8 H7
          have hjn : (kids M s.pa).countP (· < s.id) ≤ (kids M s.pa).length := List.countP_le_length
          have HU := Lib.hid (kids_upd hrise (c := (s, d)) HR.out.2)
          obtain ⟨jn, hjj⟩ : ∃ j, (kids M s.pa).countP (· < s.id) = j := ⟨_, rfl⟩
          rw [hjj] at hjn ⊢
          have HJ := Lib.hid (And.intro hjn hjj)
          obtain ⟨nl, hnl⟩ : ∃ l, (kids M s.pa).take jn ++ [s.id] ++ (kids M s.pa).drop jn = l := ⟨_, rfl⟩
          have HNL := Lib.hid hnl
          clear hnl
          obtain ⟨v0, hv0⟩ : ∃ v, rowV U s.pa = v := ⟨_, rfl⟩
          rw [hv0]
          have HV := Lib.hid hv0
          clear hjj hjn hv0 hrise
          go_upto_region 17 with fail
          have hbl : base ≤ W8.heap.size := Nat.le_trans HX.out.gb (Nat.le_of_lt (Nat.lt_of_lt_of_le HX.out.blk.lt H8.out.fr.size))
          have hcs := cutW_size hbl
          refine wp_region_keep (w := cutW W8 base) (ws := W8) 12 1 [3, 5, 9, 10, 11] [] [(3, fun u W' => u = .map (some mu)), (5, fun u W' => u = .int .i64 s.pa), (9, fun u W' => u = .int .i64 s.id), (10, fun u W' => ∃ B, u = .slice (some ⟨B, 0, none⟩) 1 1 ∧ Blk W' B 3 #[.int .i64 s.id] ∧ w.heap.size ≤ B), (11, fun u W' => (ActY (own ma mu U) w W' base g ma mu U (putM M s.id (s, d)) (upd (rowV U) s.pa u) (upd (kids M) s.pa nl) 32 #[.int .i64 s.id, .int .i64 s.pa, .bool s.lf, .int .u64 s.r.1, .int .u64 s.r.2.1, .int .u64 s.r.2.2, .int .u64 s.s.1, .int .u64 s.s.2.1, .int .u64 s.s.2.2, .int .u64 s.u.1, .int .u64 s.u.2.1, .int .u64 s.u.2.2, .int .i64 s.pk, .int .i64 s.by_]) ∧ (u.ownBlock = v0.ownBlock ∨ ∃ b, u.ownBlock = some b ∧ w.heap.size ≤ b))] [(10, 11)] [11] [3, 5, 9] rfl (by decide) (by decide) (below_cut hbl (Below.refl _ _)) (J := fun W => ActY (own ma mu U) w W base g ma mu U (putM M s.id (s, d)) (rowV U) (kids M) 32 #[.int .i64 s.id, .int .i64 s.pa, .bool s.lf, .int .u64 s.r.1, .int .u64 s.r.2.1, .int .u64 s.r.2.2, .int .u64 s.s.1, .int .u64 s.s.2.1, .int .u64 s.s.2.2, .int .u64 s.u.1, .int .u64 s.u.2.1, .int .u64 s.u.2.2, .int .i64 s.pk, .int .i64 s.by_]) (jend := 11) H8.out (fun W W' h hb => h.later hb) (.inr (by kernel_rfl)) (JK := fun W => Blk W g 101 #[.map (some ma), .map (some mu)] ∧ Blk W w.heap.size 32 #[.int .i64 s.id, .int .i64 s.pa, .bool s.lf, .int .u64 s.r.1, .int .u64 s.r.2.1, .int .u64 s.r.2.2, .int .u64 s.s.1, .int .u64 s.s.2.1, .int .u64 s.s.2.2, .int .u64 s.u.1, .int .u64 s.u.2.1, .int .u64 s.u.2.2, .int .i64 s.pk, .int .i64 s.by_] ∧ w.heap.size ≤ W.heap.size) ⟨H8.out.tree.blk, H8.out.box, H8.out.fr.size⟩ (fun W W' h hb => ⟨h.1.below hb h.1.lt, h.2.1.below hb h.2.1.lt, Nat.le_trans h.2.2 hb.size⟩) (fun p hp hh v W hT => by simp only [List.mem_cons, List.not_mem_nil, or_false] at hp; rcases hp with rfl | rfl | rfl | rfl | rfl <;> first | exact ⟨hT.1.tree.blk, hT.1.box, hT.1.fr.size⟩ | simp at hh) (by kernel_rfl) (by kernel_rfl) (by kernel_rfl) (by kernel_rfl) (by kernel_rfl) (fun _ _ _ _ _ h => h) ⟨fun v W1 W2 h hb => h, fun v W1 W2 h hb => h, fun v W1 W2 h hb => h, fun v W1 W2 ⟨b, h1, h2, h3⟩ hb => ⟨b, h1, h2.below hb h2.lt, h3⟩, fun v W1 W2 h hb => ⟨h.1.later hb, h.2⟩, trivial⟩ ⟨fun _ v W1 W2 h => h, fun _ v W1 W2 h => h, fun _ v W1 W2 h => h, fun h => by simp at h, fun h => by simp at h, trivial⟩ ?_
          intro LL hL
          have HL := Lib.hid hL
          clear hL
          simp only [List.take_succ_cons, List.take_zero, putL]
          iterate 12 (first | refine wpHead_skip (by decide) ?_ | (refine wpHead_step (by decide) (fun K hK => ?_); go_simp; refine hK _ ?_; clear hK K))
          refine wpHead_nil (HL.out _ ⟨?_, ?_, ?_, ?_, ?_, trivial⟩ ?_)
          · intro vs W9 hb9 hf hj hk
            clear HL hj hf
            have x0 := hk.1.cell 1
            simp only [List.getElem?_toArray, List.getElem?_cons_zero, List.getElem?_cons_succ] at x0
            change TStep _ _ _ (Act.put (Act.put (Act.put (Act.put (Act.put _ (some 70) (vs 3)) (some 72) (vs 5)) (some 76) (vs 9)) (some 77) (vs 10)) (some 78) (vs 11)) _ _
            refine tstep_yes (by kernel_rfl) ?_
            go_simp
            exact Below.refl _ _
          · intro vs W9 hb9 hf hj hk
            clear HL hj hf
            have x0 := hk.2.1.cell 1
            simp only [List.getElem?_toArray, List.getElem?_cons_zero, List.getElem?_cons_succ] at x0
            change TStep _ _ _ (Act.put (Act.put (Act.put (Act.put (Act.put _ (some 70) (vs 3)) (some 72) (vs 5)) (some 76) (vs 9)) (some 77) (vs 10)) (some 78) (vs 11)) _ _
            refine tstep_yes (by kernel_rfl) ?_
            go_simp
            exact Below.refl _ _
          · intro vs W9 hb9 hf hj hk
            clear HL hj hf
            have x0 := hk.2.1.cell 0
            simp only [List.getElem?_toArray, List.getElem?_cons_zero, List.getElem?_cons_succ] at x0
            change TStep _ _ _ (Act.put (Act.put (Act.put (Act.put (Act.put _ (some 70) (vs 3)) (some 72) (vs 5)) (some 76) (vs 9)) (some 77) (vs 10)) (some 78) (vs 11)) _ _
            refine tstep_yes (by kernel_rfl) ?_
            go_simp
            exact Below.refl _ _
          · intro vs W9 hb9 hf hj hk
            have hf := fits_cast (q := (vs 9 = .int .i64 s.id) ∧ True) hf (by kernel_rfl)
            clear HL hj
            change TStep _ _ _ (Act.put (Act.put (Act.put (Act.put (Act.put _ (some 70) (vs 3)) (some 72) (vs 5)) (some 76) (vs 9)) (some 77) (vs 10)) (some 78) (vs 11)) _ _
            rw [hf.1]
            refine tstep_yes (by kernel_rfl) ?_
            clear hf
            go_simp
            first | exact ⟨(Below.refl _ _).alloc (Nat.le_refl _) _, Blk.new _ _ _, hk.2.2⟩ | exact ⟨(Below.refl _ _).alloc (Nat.le_refl _) _, Blk.new _ _ _⟩
          · intro vs W9 hb9 hf hj hk
            have hf := fits_cast (q := (∃ B, (vs 10) = .slice (some ⟨B, 0, none⟩) 1 1 ∧ Blk W9 B 3 #[.int .i64 s.id] ∧ w.heap.size ≤ B) ∧ True) hf (by kernel_rfl)
            clear HL
            have hjj := hj (.inl rfl)
            refine Exists.elim hf.1 fun B10 hB10 => ?_
            change HStep _ _ _ _ (Act.put (Act.put (Act.put (Act.put (Act.put _ (some 70) (vs 3)) (some 72) (vs 5)) (some 76) (vs 9)) (some 77) (vs 10)) (some 78) (vs 11)) _ _
            rw [hB10.1]
            have hrow := hjj.tree.rows s.pa
            have hlt : ∀ b, v0.ownBlock = some b → b < w.heap.size := fun b hb => ((HX.out.rows s.pa).lt b (by rw [HV.out]; exact hb)).2
            rw [HV.out] at hrow
            have hins0 := ins_any base v0 (kids M s.pa) s.id B10 jn W9 HJ.out.1 hrow (by have := HNM.out; omega) hB10.2.1 (fun e => by have := hlt _ e; omega) (Nat.le_trans (by rw [hcs] at hb9; exact Nat.le_refl _) (by have := hb9.size; rw [hcs] at this; exact this))
            rw [HNL.out] at hins0
            have hins := hins0.mono (R' := fun e w' => ∃ v', e = .returned v' ∧ Below (cutW W8 base).heap.size (cutW W8 base) w' ∧ (ActY (own ma mu U) w w' base g ma mu U (putM M s.id (s, d)) (upd (rowV U) s.pa v') (upd (kids M) s.pa nl) 32 #[.int .i64 s.id, .int .i64 s.pa, .bool s.lf, .int .u64 s.r.1, .int .u64 s.r.2.1, .int .u64 s.r.2.2, .int .u64 s.s.1, .int .u64 s.s.2.1, .int .u64 s.s.2.2, .int .u64 s.u.1, .int .u64 s.u.2.1, .int .u64 s.u.2.2, .int .i64 s.pk, .int .i64 s.by_]) ∧ (v'.ownBlock = v0.ownBlock ∨ ∃ b, v'.ownBlock = some b ∧ w.heap.size ≤ b)) (fun e w' ⟨v', he, ho, hg, hat⟩ => ⟨v', he, hb9.grown hg hb9.size (fun q e => by rw [hcs]; exact (hrow.lt q e).1), hjj.row_new (by decide) (fun b hb => .inr (.inr ⟨s.pa, hb⟩)) ho (by rw [HV.out]; exact hg) (by rw [HV.out]; exact hat.imp id .inl), hat.imp id fun h => ⟨_, h, hk.2.2⟩⟩)
            refine hstep_yes (by kernel_rfl) ?_
            clear hins0
            go_simp
            exact ⟨rfl, hins⟩
          · intro vs W9 hb9 hk hf
            have hf := fits_cast (q := (vs 3 = .map (some mu)) ∧ (vs 5 = .int .i64 s.pa) ∧ (vs 9 = .int .i64 s.id) ∧ ((ActY (own ma mu U) w W9 base g ma mu U (putM M s.id (s, d)) (upd (rowV U) s.pa (vs 11)) (upd (kids M) s.pa nl) 32 #[.int .i64 s.id, .int .i64 s.pa, .bool s.lf, .int .u64 s.r.1, .int .u64 s.r.2.1, .int .u64 s.r.2.2, .int .u64 s.s.1, .int .u64 s.s.2.1, .int .u64 s.s.2.2, .int .u64 s.u.1, .int .u64 s.u.2.1, .int .u64 s.u.2.2, .int .i64 s.pk, .int .i64 s.by_]) ∧ ((vs 11).ownBlock = v0.ownBlock ∨ ∃ b, (vs 11).ownBlock = some b ∧ w.heap.size ≤ b)) ∧ True) hf (by kernel_rfl)
            clear HL
            change wpList _ _ _ _ (Act.put (Act.put (Act.put (Act.put (Act.put _ (some 70) (vs 3)) (some 72) (vs 5)) (some 76) (vs 9)) (some 77) (vs 10)) (some 78) (vs 11)) _
            rw [hf.1, hf.2.1]
            have h9 := hf.2.2.2.1
            generalize vs 11 = u at h9 ⊢
            obtain ⟨W10, hr, hm, ht⟩ := h9.1.tree.und.store (T := 99) (E := 51) (k := s.pa) Tryz.underlying3 Tryz.underlying99 hpa (by have := HX.out.few; unfold maxLen; omega) u
            have h10 := h9.1.und_turn (.inr (.inl rfl)) hm ht.grown
            have HF := Lib.hid (And.intro h10 h9.2)
            clear hf h9 hm ht h10 hb9 hk
            simp only [List.drop_succ_cons, List.drop_zero, List.take_succ_cons, List.take_zero]
            go_wp2_with fail
            go_ret
            have hnamed := may_named HMS.out
            have hinv := HX.out.inv.add HW.out
            refine ⟨putM U s.pa u, by rw [HR.out.1]; rfl, ?_, HF.out.1.fr, ?_⟩
            · rw [HR.out.1] at hinv ⊢
              have htree := HF.out.1.tree
              have e1 := HU.out
              rw [HJ.out.2, HNL.out] at e1
              rw [← e1, ← rowV_put] at htree
              dsimp only
              refine htree.x HX.out.gb HX.out.ab HX.out.ub (fun q hq => ?_) hinv
              rcases putM_mem hq with rfl | hq
              · exact ⟨hnamed.2.2.1, hnamed.2.2.2.1⟩
              · exact HX.out.keys q hq
            · intro b hb
              rcases hb with rfl | rfl | ⟨k, hk⟩
              · exact .inl (.inl rfl)
              · exact .inl (.inr (.inl rfl))
              · rw [rowV_put] at hk
                unfold upd at hk
                by_cases e : k = s.pa
                · rw [if_pos e] at hk
                  rcases HF.out.2 with h | ⟨b', h, hb'⟩
                  · exact .inl (.inr (.inr ⟨s.pa, by rw [HV.out, ← h]; exact hk⟩))
                  · rw [h] at hk; cases hk; exact .inr hb'
                · rw [if_neg e] at hk
                  exact .inl (.inr (.inr ⟨k, hk⟩))
end
section
open Go.RowKit Go.Maps
attribute [local go_sem ↓] Go.wp_at_zero Go.wp_at_succ
attribute [local go_sem] quietR quietAtR quietUponR midAt midUpon
attribute [local irreducible] TStep HStep
theorem TreeY.row_nil {W:World} {base g ma mu:Nat} {U:List (Int × Value)} {M:Mp} {rv:Int→Value} {kd:Int→List Int} (h:TreeY W base g ma mu U M rv kd) {k0:Int} (hk:kd k0=[]):TreeY W base g ma mu U M (upd rv k0 (.slice none 0 0)) kd:=by
 refine⟨h.blk,h.all,h.und,fun k=>?_,fun k k' b hne h1 h2=>?_,h.ne⟩
 ·unfold upd
  by_cases e:k=k0
  ·rw [if_pos e,e,hk];exact World.ownsRow_nil _ _ _ _
  ·rw [if_neg e];exact h.rows k
 ·unfold upd at h1 h2
  by_cases e:k=k0
  ·rw [if_pos e] at h1;cases h1
  ·rw [if_neg e] at h1
   by_cases e2:k'=k0
   ·rw [if_pos e2] at h2;cases h2
   ·rw [if_neg e2] at h2;exact h.apart k k' b hne h1 h2
theorem ActY.row_new2 {S:Nat→Prop} {w W W':World} {base g ma mu:Nat} {U:List (Int × Value)} {M:Mp} {rv:Int→Value} {kd:Int→List Int} {t:TypeId} {cs:Array Value} (h:ActY S w W base g ma mu U M rv kd t cs) {pa:Int} {v':Value} {l':List Int} (ht:(rv pa).ownBlock≠some w.heap.size)(hS:∀ b,(rv pa).ownBlock=some b→S b)(ho:W'.ownsRow base 3 1 v' l'.length (l'.map (Value.int .i64)))(hg:W.grownBy W' (rv pa).ownBlock)(hat:v'.ownBlock=(rv pa).ownBlock∨v'.ownBlock=some W.heap.size∨v'.ownBlock=none) :
  ActY S w W' base g ma mu U M (upd rv pa v') (upd kd pa l') t cs :=
 ⟨h.tree.row_new ho hg hat,h.box.grown hg (fun e=>ht e.symm),h.fr.trans (Fr.of_grown hg hS)⟩
theorem kids_del_upd {M:Mp} (hr:Rising M) {id:Int} {c:Cl} (hl:lookM M id=some c):kids (delM M id)=upd (kids M) c.1.pa ((kids M c.1.pa).filter fun x=>!decide (x=id)):=by
 funext j
 unfold upd
 rw [kids_del]
 by_cases e:j=c.1.pa
 ·rw [if_pos e,e]
 ·rw [if_neg e]
  refine List.filter_eq_self.2 fun x hx=>?_
  obtain⟨c',h1,h2⟩:=(mem_kids hr).1 hx
  have hne:x≠id:=by
   rintro rfl
   rw [hl] at h1
   cases h1
   exact e h2.symm
  simpa using hne
theorem setL_all (vs:List Value)(cur:Array Value)(h:vs.length=cur.size):setLH cur 0 vs=vs.toArray:=by
 apply Array.ext_getElem?
 intro k
 by_cases hk:k < cur.size
 ·rw [setL_at vs 0 cur k hk,if_pos (by omega),List.getElem?_toArray];rfl
 ·rw [Array.getElem?_eq_none (by rw [setL_size];omega),Array.getElem?_eq_none (by simp;omega)]
theorem owns_sliceH {w:World} {base sz n:Nat} {e:TypeId} {v:Value} {xs:List Value} (h:w.ownsRow base e sz v n xs):∃ a cap,v=.slice a n cap:=by
 rcases h.2 with ⟨rfl,rfl⟩ | ⟨g,c,cur,rfl,_⟩
 ·exact⟨none,0,rfl⟩
 ·exact⟨_,_,rfl⟩
theorem tdrop_any (id:Int)(base g ma mu:Nat)(U:List (Int × Value))(M:Mp)(w:World)(hid:(Lit.int .i64 id).wf=true)(h:TreeX w base g ma mu U M) :
  Calls Tryz.prog 109 #[.pointer (some ⟨g,0,none⟩),.int .i64 id] w (ActW w base g ma mu U (dropM M id)):=by
 have hb0:=(Below.refl w.heap.size w).alloc (Nat.le_refl _) (.cells #[.int .i64 id] 3)
 have h0:ActY (own ma mu U) w (w.alloc (.cells #[.int .i64 id] 3)) base g ma mu U M (rowV U) (kids M) 3 #[.int .i64 id]:=⟨(h.later hb0).y,Blk.new w _ _,Fr.of_below hb0⟩
 have hn:=htnone_no g ma _ _ (h.later hb0).blk
 have H0:=Lib.hid h0;have HX:=Lib.hid h;have HB0:=Lib.hid hb0
 clear h h0 hb0
 go_enter Tryz.func109,Tryz.ntmps109
 go_wp2_with fail
 refine hn.mono ?_
 clear hn
 rintro e w1 ⟨rfl,rfl⟩
 go_upto_region 3 with fail
 generalize w.alloc (.cells #[.int .i64 id] 3)=w1 at H0 HB0 ⊢
 have H1:=H0;have HB1:=HB0
 clear H0 HB0
 have l1:=H1.out.tree.blk.lt;have l2:=H1.out.box.lt
 have o0:=fun e=>(over_cell (w:=w1) (e:=e) (o:=0) l1).trans (H1.out.tree.blk.cell 0)
 have b0:=fun e=>(over_cell (w:=w1) (e:=e) (o:=0) l2).trans (H1.out.box.cell 0)
 simp only [lTA,lCZ,lCS] at o0 b0
 have lk:=fun e=>((HX.out.later HB1.out).later (over_below w1 e)).look hid
 cases hlk:lookM M id with
 | none =>
  rw [hlk] at lk
  unfold clV clC cl0 sp0 at lk
  dsimp only [Option.getD,Option.isSome] at lk
  have HC:=Lib.hid hlk
  clear hlk
  refine wp_region_alloc (w:=w1) 9 _ _ 5 (.cells #[.int .i64 0,.int .i64 0,.bool false,.int .u64 0,.int .u64 0,.int .u64 0,.int .u64 0,.int .u64 0,.int .u64 0,.int .u64 0,.int .u64 0,.int .u64 0,.int .i64 0,.int .i64 0,.int .i64 0] 107) (by kernel_rfl) rfl rfl rfl (fun _ _=>by kernel_rfl) (by kernel_rfl) ?_
  simp only [List.take_succ_cons,List.take_zero,List.drop_succ_cons,List.drop_zero]
  repeat (refine wpQuietR_step (fun K hK=>?_);go_simp;(refine hK _ ?_;clear hK K))
  refine wpQuietR_nil ?_
  intro B W2 hB hb2 hO
  have bN:Blk W2 B 107 #[.int .i64 0,.int .i64 0,.bool false,.int .u64 0,.int .u64 0,.int .u64 0,.int .u64 0,.int .u64 0,.int .u64 0,.int .u64 0,.int .u64 0,.int .u64 0,.int .i64 0,.int .i64 0,.int .i64 0]:=hO
  have hb3:Below w1.heap.size w1 (W2.setCells B 0 [.int .i64 0,.int .i64 0,.bool false,.int .u64 0,.int .u64 0,.int .u64 0,.int .u64 0,.int .u64 0,.int .u64 0,.int .u64 0,.int .u64 0,.int .u64 0,.int .i64 0,.int .i64 0,.int .i64 0]):=hb2.grown (grown_setCells B _ _ W2) hb2.size (fun q e=>by cases e;exact hB)
  refine plain_store 107 _ _ B [.int .i64 0,.int .i64 0,.bool false,.int .u64 0,.int .u64 0,.int .u64 0,.int .u64 0,.int .u64 0,.int .u64 0,.int .u64 0,.int .u64 0,.int .u64 0,.int .i64 0,.int .i64 0,.int .i64 0] 107 #[.int .i64 0,.int .i64 0,.bool false,.int .u64 0,.int .u64 0,.int .u64 0,.int .u64 0,.int .u64 0,.int .u64 0,.int .u64 0,.int .u64 0,.int .u64 0,.int .i64 0,.int .i64 0,.int .i64 0] bN (by simp) rfl (by kernel_rfl) (by kernel_rfl) (by kernel_rfl) (by kernel_rfl) ⟨hb3,?_⟩
  generalize W2.setCells B 0 [.int .i64 0,.int .i64 0,.bool false,.int .u64 0,.int .u64 0,.int .u64 0,.int .u64 0,.int .u64 0,.int .u64 0,.int .u64 0,.int .u64 0,.int .u64 0,.int .i64 0,.int .i64 0,.int .i64 0]=W3 at hb3 ⊢
  clear o0 b0 lk bN hO hb2 l1 l2
  have HB3:=Lib.hid (HB1.out.trans (hb3.mono HB1.out.size))
  clear hb3 H1 HB1
  go_wp2_with fail
  go_ret
  exact ActW.same HX.out HB3.out rfl (by unfold dropM;rw [HC.out])
 | some c =>
  rw [hlk] at lk
  unfold clV clC at lk
  dsimp only [Option.getD,Option.isSome] at lk
  have HC:=Lib.hid hlk
  clear hlk
  refine wp_region_alloc (w:=w1) 9 _ _ 5 (.cells #[.int .i64 0,.int .i64 0,.bool false,.int .u64 0,.int .u64 0,.int .u64 0,.int .u64 0,.int .u64 0,.int .u64 0,.int .u64 0,.int .u64 0,.int .u64 0,.int .i64 0,.int .i64 0,.int .i64 0] 107) (by kernel_rfl) rfl rfl rfl (fun _ _=>by kernel_rfl) (by kernel_rfl) ?_
  simp only [List.take_succ_cons,List.take_zero,List.drop_succ_cons,List.drop_zero]
  repeat (refine wpQuietR_step (fun K hK=>?_);go_simp;(refine hK _ ?_;clear hK K))
  refine wpQuietR_nil ?_
  intro B W2 hB hb2 hO
  have bN:Blk W2 B 107 #[.int .i64 0,.int .i64 0,.bool false,.int .u64 0,.int .u64 0,.int .u64 0,.int .u64 0,.int .u64 0,.int .u64 0,.int .u64 0,.int .u64 0,.int .u64 0,.int .i64 0,.int .i64 0,.int .i64 0]:=hO
  have hb3:Below w1.heap.size w1 (W2.setCells B 0 [.int .i64 c.1.id,.int .i64 c.1.pa,.bool c.1.lf,.int .u64 c.1.r.1,.int .u64 c.1.r.2.1,.int .u64 c.1.r.2.2,.int .u64 c.1.s.1,.int .u64 c.1.s.2.1,.int .u64 c.1.s.2.2,.int .u64 c.1.u.1,.int .u64 c.1.u.2.1,.int .u64 c.1.u.2.2,.int .i64 c.1.pk,.int .i64 c.1.by_,.int .i64 c.2]):=hb2.grown (grown_setCells B _ _ W2) hb2.size (fun q e=>by cases e;exact hB)
  have bC:=bN.setCells [.int .i64 c.1.id,.int .i64 c.1.pa,.bool c.1.lf,.int .u64 c.1.r.1,.int .u64 c.1.r.2.1,.int .u64 c.1.r.2.2,.int .u64 c.1.s.1,.int .u64 c.1.s.2.1,.int .u64 c.1.s.2.2,.int .u64 c.1.u.1,.int .u64 c.1.u.2.1,.int .u64 c.1.u.2.2,.int .i64 c.1.pk,.int .i64 c.1.by_,.int .i64 c.2] 0
  rw [setL_all _ _ (by simp)] at bC
  refine plain_store 107 _ _ B [.int .i64 c.1.id,.int .i64 c.1.pa,.bool c.1.lf,.int .u64 c.1.r.1,.int .u64 c.1.r.2.1,.int .u64 c.1.r.2.2,.int .u64 c.1.s.1,.int .u64 c.1.s.2.1,.int .u64 c.1.s.2.2,.int .u64 c.1.u.1,.int .u64 c.1.u.2.1,.int .u64 c.1.u.2.2,.int .i64 c.1.pk,.int .i64 c.1.by_,.int .i64 c.2] 107 #[.int .i64 0,.int .i64 0,.bool false,.int .u64 0,.int .u64 0,.int .u64 0,.int .u64 0,.int .u64 0,.int .u64 0,.int .u64 0,.int .u64 0,.int .u64 0,.int .i64 0,.int .i64 0,.int .i64 0] bN (by simp) rfl (by kernel_rfl) (by kernel_rfl) (by kernel_rfl) (by kernel_rfl) ⟨hb3,?_⟩
  generalize W2.setCells B 0 [.int .i64 c.1.id,.int .i64 c.1.pa,.bool c.1.lf,.int .u64 c.1.r.1,.int .u64 c.1.r.2.1,.int .u64 c.1.r.2.2,.int .u64 c.1.s.1,.int .u64 c.1.s.2.1,.int .u64 c.1.s.2.2,.int .u64 c.1.u.1,.int .u64 c.1.u.2.1,.int .u64 c.1.u.2.2,.int .i64 c.1.pk,.int .i64 c.1.by_,.int .i64 c.2]=W3 at hb3 bC ⊢
  clear o0 b0 lk bN hO hb2 l1 l2
  have H3:=Lib.hid (And.intro (H1.out.later hb3) bC)
  have HB3:=Lib.hid (HB1.out.trans (hb3.mono HB1.out.size))
  clear hb3 H1 HB1 bC
  have oc:=HX.out.inv.ok id c HC.out
  have hpa:(Lit.int .i64 c.1.pa).wf=true:=oc.wf.1.2.1
  have hnamed:=may_named oc.may
  have hpne:c.1.pa≠id:=by rw [oc.id] at hnamed;exact fun e=>hnamed.2.2.2.2 e.symm
  have HN:=Lib.hid hnamed
  clear oc hnamed
  go_upto_region 6 with fail
  have l1:=H3.out.1.tree.blk.lt;have l2:=H3.out.1.box.lt
  have o1:=fun e=>(over_cell (w:=W3) (e:=e) (o:=1) l1).trans (H3.out.1.tree.blk.cell 1)
  have b0:=fun e=>(over_cell (w:=W3) (e:=e) (o:=0) l2).trans (H3.out.1.box.cell 0)
  simp only [lTA,lCZ,lCS] at o1 b0
  have lk:=fun e=>((HX.out.later HB3.out).later (over_below W3 e)).lookU hid
  obtain⟨av,cv,hv⟩:=owns_sliceH (HX.out.rows id)
  rw [hv] at lk
  obtain⟨nk,hnk⟩:∃ n,(kids M id).length=n:=⟨_,rfl⟩
  rw [hnk] at lk
  have hkl:=kids_len M id
  have hfew:=HX.out.inv.few
  have hnk64:nk≤64:=by omega
  have HNK:=Lib.hid hnk
  clear hv hnk hkl hfew
  refine wp_region_over (by kernel_rfl) (by kernel_rfl) ?_
  repeat (first | go_big_quiet_skip | (go_big_quiet_want;go_big_quiet_op;go_big_quiet_on))
  refine wpQuiet_nil ?_
  rintro W4 ⟨e4,he4⟩
  have hb4:=over_below W3 e4
  rw [← he4] at hb4
  clear he4 o1 b0 l1 l2 lk
  have H4:=Lib.hid (And.intro (H3.out.1.later hb4) (H3.out.2.below hb4 H3.out.2.lt))
  have HB4:=Lib.hid (HB3.out.trans (hb4.mono HB3.out.size))
  clear hb4 H3 HB3
  by_cases hk0:0 < nk
  ·have HR:=Lib.hid (show dropM M id=(161,M) by unfold dropM;rw [HC.out];dsimp only;rw [if_neg (by intro e;have:=HNK.out;rw [e] at this;simp at this;omega)])
   go_wp2_with fail
   go_ret
   exact ActW.same HX.out HB4.out rfl HR.out
  ·have hkn:kids M id=[]:=List.eq_nil_of_length_eq_zero (by rw [HNK.out];omega)
   have HR:=Lib.hid (And.intro (show dropM M id=(0,delM M id) by unfold dropM;rw [HC.out];dsimp only;rw [if_pos hkn]) hkn)
   clear hkn
   go_upto_region 8 with fail
   have l1:=H4.out.1.tree.blk.lt;have l2:=H4.out.1.box.lt
   have o0:=fun e=>(over_cell (w:=W4) (e:=e) (o:=0) l1).trans (H4.out.1.tree.blk.cell 0)
   have b0:=fun e=>(over_cell (w:=W4) (e:=e) (o:=0) l2).trans (H4.out.1.box.cell 0)
   simp only [lTA,lCZ,lCS] at o0 b0
   refine wp_region_over_tail 5 (by kernel_rfl) (by kernel_rfl) ?_
   simp only [List.take_succ_cons,List.take_zero,List.drop_succ_cons,List.drop_zero]
   repeat (first | go_big_quiet_skip | (go_big_quiet_want;go_big_quiet_op;go_big_quiet_on))
   refine wpQuiet_nil ?_
   rintro W5 ⟨e5,he5⟩
   have hb5:=over_below W4 e5
   rw [← he5] at hb5
   clear he5 o0 b0 l1 l2
   have h5:=H4.out.1.later hb5
   have hC5:=H4.out.2.below hb5 H4.out.2.lt
   obtain⟨W6,hr6,hm6,ht6⟩:=h5.tree.all.drop (T:=98) (E:=107) (k:=id) Tryz.underlying3 Tryz.underlying98 hid 0
   rw [del_map] at hm6
   have H6:=Lib.hid (And.intro (h5.all_turn (.inl rfl) hm6 ht6.grown) (hC5.grown ht6.grown (by simpa using blk_map hC5 h5.tree.all)))
   clear h5 hC5 hb5 hm6 ht6 H4 HB4
   go_upto_region 9 with fail
   clear hr6
   have l1:=H6.out.1.tree.blk.lt;have l2:=H6.out.1.box.lt
   have o1:=fun e=>(over_cell (w:=W6) (e:=e) (o:=1) l1).trans (H6.out.1.tree.blk.cell 1)
   have b0:=fun e=>(over_cell (w:=W6) (e:=e) (o:=0) l2).trans (H6.out.1.box.cell 0)
   simp only [lTA,lCZ,lCS] at o1 b0
   refine wp_region_over_tail 5 (by kernel_rfl) (by kernel_rfl) ?_
   simp only [List.take_succ_cons,List.take_zero,List.drop_succ_cons,List.drop_zero]
   repeat (first | go_big_quiet_skip | (go_big_quiet_want;go_big_quiet_op;go_big_quiet_on))
   refine wpQuiet_nil ?_
   rintro W7 ⟨e7,he7⟩
   have hb7:=over_below W6 e7
   rw [← he7] at hb7
   clear he7 o1 b0 l1 l2
   have h7:=H6.out.1.later hb7
   have hC7:=H6.out.2.below hb7 H6.out.2.lt
   obtain⟨W8,hr8,hm8,ht8⟩:=h7.tree.und.drop (T:=99) (E:=51) (k:=id) Tryz.underlying3 Tryz.underlying99 hid 0
   have h8:=h7.und_turn (.inr (.inl rfl)) hm8 ht8.grown
   have h8':ActY (own ma mu U) w W8 base g ma mu (delM U id) (delM M id) (upd (rowV U) id (.slice none 0 0)) (kids M) 3 #[.int .i64 id]:=⟨h8.tree.row_nil HR.out.2,h8.box,h8.fr⟩
   have H8:=Lib.hid (And.intro h8' (hC7.grown ht8.grown (by simpa using blk_map hC7 h7.tree.und)))
   clear h7 hC7 hb7 hm8 ht8 h8 h8' H6
   go_upto_region 10 with fail
   clear hr8
   obtain⟨nl,hnl⟩:∃ l,((kids M c.1.pa).filter fun x=>!decide (x=id))=l:=⟨_,rfl⟩
   have HNL:=Lib.hid hnl
   clear hnl
   obtain⟨v0,hv0⟩:∃ v,rowV U c.1.pa=v:=⟨_,rfl⟩
   have hv0':(upd (rowV U) id (.slice none 0 0)) c.1.pa=v0:=by unfold upd;rw [if_neg hpne];exact hv0
   have hv0'':rowV (delM U id) c.1.pa=v0:=by rw [rowV_del];exact hv0'
   have HV:=Lib.hid (And.intro hv0 (And.intro hv0' hv0''))
   clear hv0 hv0' hv0''
   have hbl:base≤W8.heap.size:=Nat.le_trans HX.out.gb (Nat.le_of_lt (Nat.lt_of_lt_of_le HX.out.blk.lt H8.out.1.fr.size))
   have hcs:=cutW_size hbl
   refine wp_region_keep (w:=cutW W8 base) (ws:=W8) 17 1 [3,6,10,13,14,16] [] [(3,fun u W'=>u=.map (some mu)),(6,fun u W'=>u=.int .i64 c.1.pa),(10,fun u W'=>u=.map (some mu)),(13,fun u W'=>u=.int .i64 c.1.pa),(14,fun u W'=>u=v0),(16,fun u W'=>(ActY (own ma mu U) w W' base g ma mu (delM U id) (delM M id) (upd (upd (rowV U) id (.slice none 0 0)) c.1.pa u) (upd (kids M) c.1.pa nl) 3 #[.int .i64 id]∧Blk W' B 107 #[.int .i64 c.1.id,.int .i64 c.1.pa,.bool c.1.lf,.int .u64 c.1.r.1,.int .u64 c.1.r.2.1,.int .u64 c.1.r.2.2,.int .u64 c.1.s.1,.int .u64 c.1.s.2.1,.int .u64 c.1.s.2.2,.int .u64 c.1.u.1,.int .u64 c.1.u.2.1,.int .u64 c.1.u.2.2,.int .i64 c.1.pk,.int .i64 c.1.by_,.int .i64 c.2])∧u.ownBlock=v0.ownBlock)] [] [16] [3,6,10,13,14] rfl (by decide) (by decide) (below_cut hbl (Below.refl _ _)) (J:=fun W=>ActY (own ma mu U) w W base g ma mu (delM U id) (delM M id) (upd (rowV U) id (.slice none 0 0)) (kids M) 3 #[.int .i64 id]∧Blk W B 107 #[.int .i64 c.1.id,.int .i64 c.1.pa,.bool c.1.lf,.int .u64 c.1.r.1,.int .u64 c.1.r.2.1,.int .u64 c.1.r.2.2,.int .u64 c.1.s.1,.int .u64 c.1.s.2.1,.int .u64 c.1.s.2.2,.int .u64 c.1.u.1,.int .u64 c.1.u.2.1,.int .u64 c.1.u.2.2,.int .i64 c.1.pk,.int .i64 c.1.by_,.int .i64 c.2]) (jend:=16) H8.out (fun W W' h hb=>⟨h.1.later hb,h.2.below hb h.2.lt⟩) (.inr (by kernel_rfl)) (JK:=fun W=>Blk W g 101 #[.map (some ma),.map (some mu)]∧Blk W w.heap.size 3 #[.int .i64 id]∧Blk W B 107 #[.int .i64 c.1.id,.int .i64 c.1.pa,.bool c.1.lf,.int .u64 c.1.r.1,.int .u64 c.1.r.2.1,.int .u64 c.1.r.2.2,.int .u64 c.1.s.1,.int .u64 c.1.s.2.1,.int .u64 c.1.s.2.2,.int .u64 c.1.u.1,.int .u64 c.1.u.2.1,.int .u64 c.1.u.2.2,.int .i64 c.1.pk,.int .i64 c.1.by_,.int .i64 c.2]∧w.heap.size≤W.heap.size) ⟨H8.out.1.tree.blk,H8.out.1.box,H8.out.2,H8.out.1.fr.size⟩ (fun W W' h hb=>⟨h.1.below hb h.1.lt,h.2.1.below hb h.2.1.lt,h.2.2.1.below hb h.2.2.1.lt,Nat.le_trans h.2.2.2 hb.size⟩) (fun p hp hh v W hT=>by simp only [List.mem_cons,List.not_mem_nil,or_false] at hp;rcases hp with rfl | rfl | rfl | rfl | rfl | rfl <;> first | exact⟨hT.1.1.tree.blk,hT.1.1.box,hT.1.2,hT.1.1.fr.size⟩ | simp at hh) (by kernel_rfl) (by kernel_rfl) (by kernel_rfl) (by kernel_rfl) (by kernel_rfl) (fun _ _ _ _ _ h=>h) ⟨fun v W1 W2 h hb=>h,fun v W1 W2 h hb=>h,fun v W1 W2 h hb=>h,fun v W1 W2 h hb=>h,fun v W1 W2 h hb=>h,fun v W1 W2 h hb=>⟨⟨h.1.1.later hb,h.1.2.below hb h.1.2.lt⟩,h.2⟩,trivial⟩ ⟨fun _ v W1 W2 h=>h,fun _ v W1 W2 h=>h,fun _ v W1 W2 h=>h,fun _ v W1 W2 h=>h,fun _ v W1 W2 h=>h,fun h=>by simp at h,trivial⟩ ?_
   intro LL hL
   have HL:=Lib.hid hL
   clear hL
   simp only [List.take_succ_cons,List.take_zero,putL]
   iterate 17 (first | refine wpHead_skip (by decide) ?_ | (refine wpHead_step (by decide) (fun K hK=>?_);go_simp;refine hK _ ?_;clear hK K))
   refine wpHead_nil (HL.out _ ⟨?_,?_,?_,?_,?_,?_,trivial⟩ ?_)
   ·intro vs W9 hb9 hf hj hk
    clear HL hj hf
    have x0:=hk.1.cell 1
    simp only [lTA,lCZ,lCS] at x0
    change TStep _ _ _ (Act.put (Act.put (Act.put (Act.put (Act.put (Act.put _ (some 43) (vs 3)) (some 46) (vs 6)) (some 50) (vs 10)) (some 53) (vs 13)) (some 54) (vs 14)) (some 56) (vs 16)) _ _
    refine tstep_yes (by kernel_rfl) ?_
    go_simp
    exact Below.refl _ _
   ·intro vs W9 hb9 hf hj hk
    clear HL hj hf
    have x0:=hk.2.2.1.cell 1
    simp only [lTA,lCZ,lCS] at x0
    change TStep _ _ _ (Act.put (Act.put (Act.put (Act.put (Act.put (Act.put _ (some 43) (vs 3)) (some 46) (vs 6)) (some 50) (vs 10)) (some 53) (vs 13)) (some 54) (vs 14)) (some 56) (vs 16)) _ _
    refine tstep_yes (by kernel_rfl) ?_
    go_simp
    exact Below.refl _ _
   ·intro vs W9 hb9 hf hj hk
    clear HL hj hf
    have x0:=hk.1.cell 1
    simp only [lTA,lCZ,lCS] at x0
    change TStep _ _ _ (Act.put (Act.put (Act.put (Act.put (Act.put (Act.put _ (some 43) (vs 3)) (some 46) (vs 6)) (some 50) (vs 10)) (some 53) (vs 13)) (some 54) (vs 14)) (some 56) (vs 16)) _ _
    refine tstep_yes (by kernel_rfl) ?_
    go_simp
    exact Below.refl _ _
   ·intro vs W9 hb9 hf hj hk
    clear HL hj hf
    have x0:=hk.2.2.1.cell 1
    simp only [lTA,lCZ,lCS] at x0
    change TStep _ _ _ (Act.put (Act.put (Act.put (Act.put (Act.put (Act.put _ (some 43) (vs 3)) (some 46) (vs 6)) (some 50) (vs 10)) (some 53) (vs 13)) (some 54) (vs 14)) (some 56) (vs 16)) _ _
    refine tstep_yes (by kernel_rfl) ?_
    go_simp
    exact Below.refl _ _
   ·intro vs W9 hb9 hf hj hk
    have hf:=fits_cast (q:=(vs 10=.map (some mu))∧(vs 13=.int .i64 c.1.pa)∧True) hf (by kernel_rfl)
    clear HL
    have hjj:=hj (.inr ⟨by decide,by kernel_rfl⟩)
    have lk:=hjj.1.tree.und.look (k:=c.1.pa) (E:=51) (T:=99) (z:=.slice none 0 0) Tryz.underlying3 Tryz.underlying99 (by exact Tryz.zeroValue51 _) hpa
    change (Instr.lookup _ _ _ _).run _ _=.ok (rowV (delM U id) c.1.pa) _ at lk
    rw [HV.out.2.2] at lk
    change TStep _ _ _ (Act.put (Act.put (Act.put (Act.put (Act.put (Act.put _ (some 43) (vs 3)) (some 46) (vs 6)) (some 50) (vs 10)) (some 53) (vs 13)) (some 54) (vs 14)) (some 56) (vs 16)) _ _
    rw [hf.1,hf.2.1]
    refine tstep_yes (by kernel_rfl) ?_
    clear hf hj hjj
    go_simp
    exact Below.refl _ _
   ·intro vs W9 hb9 hf hj hk
    have hf:=fits_cast (q:=(vs 14=v0)∧True) hf (by kernel_rfl)
    clear HL
    have hjj:=hj (.inl rfl)
    change HStep _ _ _ _ (Act.put (Act.put (Act.put (Act.put (Act.put (Act.put _ (some 43) (vs 3)) (some 46) (vs 6)) (some 50) (vs 10)) (some 53) (vs 13)) (some 54) (vs 14)) (some 56) (vs 16)) _ _
    rw [hf.1]
    have hrow:=hjj.1.tree.rows c.1.pa
    have hlt:∀ b,v0.ownBlock=some b→b < w.heap.size:=fun b hb=>((HX.out.rows c.1.pa).lt b (by rw [HV.out.1];exact hb)).2
    rw [HV.out.2.1] at hrow
    have hkl:=kids_len M c.1.pa
    have hfew:=HX.out.inv.few
    have hmem:id∈kids M c.1.pa:=(mem_kids HX.out.inv.rise).2 ⟨c,HC.out,rfl⟩
    have hne2:v0.ownBlock≠some w.heap.size:=fun e=>by have:=hlt _ e;omega
    have hdel0:=delf_any base v0 (kids M c.1.pa) id w.heap.size W9 hrow (by omega) (by intro e;rw [e] at hmem;simp at hmem) hk.2.1 hne2
    rw [HNL.out] at hdel0
    have hdel:=hdel0.mono (R':=fun e w'=>∃ v',e=.returned v'∧Below (cutW W8 base).heap.size (cutW W8 base) w'∧(ActY (own ma mu U) w w' base g ma mu (delM U id) (delM M id) (upd (upd (rowV U) id (.slice none 0 0)) c.1.pa v') (upd (kids M) c.1.pa nl) 3 #[.int .i64 id]∧Blk w' B 107 #[.int .i64 c.1.id,.int .i64 c.1.pa,.bool c.1.lf,.int .u64 c.1.r.1,.int .u64 c.1.r.2.1,.int .u64 c.1.r.2.2,.int .u64 c.1.s.1,.int .u64 c.1.s.2.1,.int .u64 c.1.s.2.2,.int .u64 c.1.u.1,.int .u64 c.1.u.2.1,.int .u64 c.1.u.2.2,.int .i64 c.1.pk,.int .i64 c.1.by_,.int .i64 c.2])∧v'.ownBlock=v0.ownBlock) (fun e w' ⟨v',he,ho,hg,hat0⟩=>⟨v',he,hb9.grown hg hb9.size (fun q e=>by rw [hcs];exact (hrow.lt q e).1),⟨hjj.1.row_new2 (by rw [HV.out.2.1];exact hne2) (fun b hb=>.inr (.inr ⟨c.1.pa,by rw [HV.out.1,← HV.out.2.1];exact hb⟩)) ho (by rw [HV.out.2.1];exact hg) (by rw [HV.out.2.1];exact (.inl hat0)),hjj.2.grown hg (fun e=>row_blkH hrow hjj.2 (by decide) e.symm)⟩,hat0⟩)
    refine hstep_yes (by kernel_rfl) ?_
    clear hdel0
    go_simp
    exact⟨rfl,hdel⟩
   ·intro vs W9 hb9 hk hf
    have hf:=fits_cast (q:=(vs 3=.map (some mu))∧(vs 6=.int .i64 c.1.pa)∧(vs 10=.map (some mu))∧(vs 13=.int .i64 c.1.pa)∧(vs 14=v0)∧((ActY (own ma mu U) w W9 base g ma mu (delM U id) (delM M id) (upd (upd (rowV U) id (.slice none 0 0)) c.1.pa (vs 16)) (upd (kids M) c.1.pa nl) 3 #[.int .i64 id]∧Blk W9 B 107 #[.int .i64 c.1.id,.int .i64 c.1.pa,.bool c.1.lf,.int .u64 c.1.r.1,.int .u64 c.1.r.2.1,.int .u64 c.1.r.2.2,.int .u64 c.1.s.1,.int .u64 c.1.s.2.1,.int .u64 c.1.s.2.2,.int .u64 c.1.u.1,.int .u64 c.1.u.2.1,.int .u64 c.1.u.2.2,.int .i64 c.1.pk,.int .i64 c.1.by_,.int .i64 c.2])∧(vs 16).ownBlock=v0.ownBlock)∧True) hf (by kernel_rfl)
    clear HL
    change wpList _ _ _ _ (Act.put (Act.put (Act.put (Act.put (Act.put (Act.put _ (some 43) (vs 3)) (some 46) (vs 6)) (some 50) (vs 10)) (some 53) (vs 13)) (some 54) (vs 14)) (some 56) (vs 16)) _
    rw [hf.1,hf.2.1]
    have h9:=hf.2.2.2.2.2.1
    generalize vs 16=u at h9 ⊢
    obtain⟨W10,hr,hm,ht⟩:=h9.1.1.tree.und.store (T:=99) (E:=51) (k:=c.1.pa) Tryz.underlying3 Tryz.underlying99 hpa (by have:=HX.out.few;have:=del_length id U;unfold maxLen;omega) u
    have h10:=h9.1.1.und_turn (.inr (.inl rfl)) hm ht.grown
    have HF:=Lib.hid (And.intro h10 h9.2)
    clear hf h9 hm ht h10 hb9 hk
    simp only [List.drop_succ_cons,List.drop_zero,List.take_succ_cons,List.take_zero]
    go_wp2_with fail
    go_ret
    have hinv:=HX.out.inv.drop id
    have hnamed:=HN.out
    refine⟨putM (delM U id) c.1.pa u,by rw [HR.out.1];rfl,?_,HF.out.1.fr,?_⟩
    ·rw [HR.out.1] at hinv ⊢
     have htree:=HF.out.1.tree
     have e1:=kids_del_upd HX.out.inv.rise HC.out
     rw [HNL.out] at e1
     rw [← e1,← rowV_del,← rowV_put] at htree
     dsimp only
     refine htree.x HX.out.gb HX.out.ab HX.out.ub (fun q hq=>?_) hinv
     rcases putM_mem hq with rfl | hq
     ·exact⟨hnamed.2.2.1,hnamed.2.2.2.1⟩
     ·exact HX.out.keys q (List.mem_filter.1 hq).1
    ·intro b hb
     rcases hb with rfl | rfl | ⟨k,hk⟩
     ·exact .inl (.inl rfl)
     ·exact .inl (.inr (.inl rfl))
     ·rw [rowV_put,rowV_del] at hk
      unfold upd at hk
      by_cases e:k=c.1.pa
      ·rw [if_pos e] at hk
       exact .inl (.inr (.inr ⟨c.1.pa,by rw [HV.out.1,← HF.out.2];exact hk⟩))
      ·rw [if_neg e] at hk
       by_cases e2:k=id
       ·rw [if_pos e2] at hk;cases hk
       ·rw [if_neg e2] at hk
        exact .inl (.inr (.inr ⟨k,hk⟩))
end
section
open Go.RowKit Go.Maps
attribute [local go_sem ↓] Go.wp_at_zero Go.wp_at_succ
attribute [local go_sem] quietR quietAtR quietUponR midAt midUpon
attribute [local irreducible] TStep HStep
theorem put_look {α:Type} {id:Int} {c:α}:∀ {M:List (Int × α)},Rising M→lookM M id=some c→putM M id c=M
 | [],_,h=>by cases h
 | p :: r,hr,hl=>by
  have h1:=(List.pairwise_cons.1 hr).1
  unfold lookM at hl
  unfold putM
  by_cases hp:p.1=id
  ·rw [if_pos hp] at hl
   cases hl
   subst hp
   rw [if_neg (by omega),if_pos rfl]
  ·rw [if_neg hp] at hl
   have:=h1 _ (mem_of_look hl)
   dsimp only at this
   rw [if_neg (by omega),if_neg hp,put_look (List.pairwise_cons.1 hr).2 hl]
theorem ActY.other {S:Nat→Prop} {w W W':World} {base g ma mu:Nat} {U:List (Int × Value)} {M:Mp} {rv:Int→Value} {kd:Int→List Int} {t t':TypeId} {cs cs':Array Value} {B:Nat} (h:ActY S w W base g ma mu U M rv kd t cs)(hC:Blk W B t' cs')(h1:t'≠t)(h2:t'≠101)(h3:3≠t')(hg:W.grownBy W' (some B))(hB:w.heap.size≤B):ActY S w W' base g ma mu U M rv kd t cs:=by
 have hne:∀ {b:Nat} {t2:TypeId} {c2:Array Value},Blk W b t2 c2→t'≠t2→some b≠some B:=fun hb ht e=>by
  cases e
  have:=hC.symm.trans hb
  simp only [Option.some.injEq,Obj.cells.injEq] at this
  exact ht this.2.1
 refine⟨⟨h.tree.blk.grown hg (hne h.tree.blk h2),h.tree.all.kept hg ?_,h.tree.und.kept hg ?_,fun k=>(h.tree.rows k).kept hg ?_,h.tree.apart,h.tree.ne⟩,h.box.grown hg (hne h.box h1),?_⟩
 ·intro e;cases e;exact blk_map hC h.tree.all rfl
 ·intro e;cases e;exact blk_map hC h.tree.und rfl
 ·exact .inr (row_blkH (h.tree.rows k) hC h3)
 ·exact⟨hg.os.trans h.fr.os,hg.tape.trans h.fr.tape,hg.output.trans h.fr.output,Nat.le_trans h.fr.size hg.size,fun b hb hn=>(hg.block b (Nat.lt_of_lt_of_le hb h.fr.size) (by intro e;cases e;omega)).trans (h.fr.block b hb hn)⟩
theorem run_neC (i p:Int)(l:Bool)(k b d:Int)(x y:Cv × Cv × Cv):∃ r,(∀ W,(binOp .neq 107 (.agg #[.int .i64 i,.int .i64 p,.bool l,.int .u64 x.1.1,.int .u64 x.1.2.1,.int .u64 x.1.2.2,.int .u64 x.2.1.1,.int .u64 x.2.1.2.1,.int .u64 x.2.1.2.2,.int .u64 x.2.2.1,.int .u64 x.2.2.2.1,.int .u64 x.2.2.2.2,.int .i64 k,.int .i64 b,.int .i64 d]) (.agg #[.int .i64 i,.int .i64 p,.bool l,.int .u64 y.1.1,.int .u64 y.1.2.1,.int .u64 y.1.2.2,.int .u64 y.2.1.1,.int .u64 y.2.1.2.1,.int .u64 y.2.1.2.2,.int .u64 y.2.2.1,.int .u64 y.2.2.2.1,.int .u64 y.2.2.2.2,.int .i64 k,.int .i64 b,.int .i64 d])).run Tryz.prog W=.ok (.bool r) W)∧(r=false→x=y):=by
 obtain⟨⟨a1,a2,a3⟩,⟨a4,a5,a6⟩,a7,a8,a9⟩:=x
 obtain⟨⟨b1,b2,b3⟩,⟨b4,b5,b6⟩,b7,b8,b9⟩:=y
 dsimp only
 by_cases e1:a1=b1
 rotate_left
 ·exact⟨true,fun W=>by go_simp <;> simp [e1],fun h=>by cases h⟩
 subst e1
 by_cases e2:a2=b2
 rotate_left
 ·exact⟨true,fun W=>by go_simp <;> simp [e2],fun h=>by cases h⟩
 subst e2
 by_cases e3:a3=b3
 rotate_left
 ·exact⟨true,fun W=>by go_simp <;> simp [e3],fun h=>by cases h⟩
 subst e3
 by_cases e4:a4=b4
 rotate_left
 ·exact⟨true,fun W=>by go_simp <;> simp [e4],fun h=>by cases h⟩
 subst e4
 by_cases e5:a5=b5
 rotate_left
 ·exact⟨true,fun W=>by go_simp <;> simp [e5],fun h=>by cases h⟩
 subst e5
 by_cases e6:a6=b6
 rotate_left
 ·exact⟨true,fun W=>by go_simp <;> simp [e6],fun h=>by cases h⟩
 subst e6
 by_cases e7:a7=b7
 rotate_left
 ·exact⟨true,fun W=>by go_simp <;> simp [e7],fun h=>by cases h⟩
 subst e7
 by_cases e8:a8=b8
 rotate_left
 ·exact⟨true,fun W=>by go_simp <;> simp [e8],fun h=>by cases h⟩
 subst e8
 by_cases e9:a9=b9
 rotate_left
 ·exact⟨true,fun W=>by go_simp <;> simp [e9],fun h=>by cases h⟩
 subst e9
 exact⟨false,fun W=>by go_simp,fun _=>rfl⟩
theorem tchange_any (s:Sp)(base g ma mu:Nat)(U:List (Int × Value))(M:Mp)(w:World)(hw:WfSp s)(h:TreeX w base g ma mu U M) :
  Calls Tryz.prog 105 #[.pointer (some ⟨g,0,none⟩),spV s] w (ActW w base g ma mu U (changeM M s)):=by
 have hid:(Lit.int .i64 s.id).wf=true:=hw.1.1
 have hb0:=(Below.refl w.heap.size w).alloc (Nat.le_refl _) (.cells (spC s) 32)
 have h0:ActY (own ma mu U) w (w.alloc (.cells (spC s) 32)) base g ma mu U M (rowV U) (kids M) 32 (spC s):=⟨(h.later hb0).y,Blk.new w _ _,Fr.of_below hb0⟩
 have hn:=htnone_no g ma _ _ (h.later hb0).blk
 unfold spV
 unfold spC at *
 have H0:=Lib.hid h0;have HX:=Lib.hid h;have HB0:=Lib.hid hb0;have HW:=Lib.hid hw
 clear h h0 hb0 hw
 go_enter Tryz.func105,Tryz.ntmps105
 go_wp2_with fail
 refine hn.mono ?_
 clear hn
 rintro e w1 ⟨rfl,rfl⟩
 go_upto_region 3 with fail
 generalize w.alloc (.cells #[.int .i64 s.id,.int .i64 s.pa,.bool s.lf,.int .u64 s.r.1,.int .u64 s.r.2.1,.int .u64 s.r.2.2,.int .u64 s.s.1,.int .u64 s.s.2.1,.int .u64 s.s.2.2,.int .u64 s.u.1,.int .u64 s.u.2.1,.int .u64 s.u.2.2,.int .i64 s.pk,.int .i64 s.by_] 32)=w1 at H0 HB0 ⊢
 have H1:=H0;have HB1:=HB0
 clear H0 HB0
 have l1:=H1.out.tree.blk.lt;have l2:=H1.out.box.lt
 have o0:=fun e=>(over_cell (w:=w1) (e:=e) (o:=0) l1).trans (H1.out.tree.blk.cell 0)
 have b0:=fun e=>(over_cell (w:=w1) (e:=e) (o:=0) l2).trans (H1.out.box.cell 0)
 simp only [lTA,lCZ,lCS] at o0 b0
 have lk:=fun e=>((HX.out.later HB1.out).later (over_below w1 e)).look hid
 cases hlk:lookM M s.id with
 | none =>
  rw [hlk] at lk
  unfold clV clC cl0 sp0 at lk
  dsimp only [Option.getD,Option.isSome] at lk
  have HC:=Lib.hid hlk
  clear hlk
  refine wp_region_alloc (w:=w1) 10 _ _ 5 (.cells #[.int .i64 0,.int .i64 0,.bool false,.int .u64 0,.int .u64 0,.int .u64 0,.int .u64 0,.int .u64 0,.int .u64 0,.int .u64 0,.int .u64 0,.int .u64 0,.int .i64 0,.int .i64 0,.int .i64 0] 107) (by kernel_rfl) rfl rfl rfl (fun _ _=>by kernel_rfl) (by kernel_rfl) ?_
  simp only [List.take_succ_cons,List.take_zero,List.drop_succ_cons,List.drop_zero]
  repeat (refine wpQuietR_step (fun K hK=>?_);go_simp;(refine hK _ ?_;clear hK K))
  refine wpQuietR_nil ?_
  intro B W2 hB hb2 hO
  have bN:Blk W2 B 107 #[.int .i64 0,.int .i64 0,.bool false,.int .u64 0,.int .u64 0,.int .u64 0,.int .u64 0,.int .u64 0,.int .u64 0,.int .u64 0,.int .u64 0,.int .u64 0,.int .i64 0,.int .i64 0,.int .i64 0]:=hO
  have hb3:Below w1.heap.size w1 (W2.setCells B 0 [.int .i64 0,.int .i64 0,.bool false,.int .u64 0,.int .u64 0,.int .u64 0,.int .u64 0,.int .u64 0,.int .u64 0,.int .u64 0,.int .u64 0,.int .u64 0,.int .i64 0,.int .i64 0,.int .i64 0]):=hb2.grown (grown_setCells B _ _ W2) hb2.size (fun q e=>by cases e;exact hB)
  refine plain_store 107 _ _ B [.int .i64 0,.int .i64 0,.bool false,.int .u64 0,.int .u64 0,.int .u64 0,.int .u64 0,.int .u64 0,.int .u64 0,.int .u64 0,.int .u64 0,.int .u64 0,.int .i64 0,.int .i64 0,.int .i64 0] 107 #[.int .i64 0,.int .i64 0,.bool false,.int .u64 0,.int .u64 0,.int .u64 0,.int .u64 0,.int .u64 0,.int .u64 0,.int .u64 0,.int .u64 0,.int .u64 0,.int .i64 0,.int .i64 0,.int .i64 0] bN (by simp) rfl (by kernel_rfl) (by kernel_rfl) (by kernel_rfl) (by kernel_rfl) ⟨hb3,?_⟩
  generalize W2.setCells B 0 [.int .i64 0,.int .i64 0,.bool false,.int .u64 0,.int .u64 0,.int .u64 0,.int .u64 0,.int .u64 0,.int .u64 0,.int .u64 0,.int .u64 0,.int .u64 0,.int .i64 0,.int .i64 0,.int .i64 0]=W3 at hb3 ⊢
  clear o0 b0 lk bN hO hb2 l1 l2
  have HB3:=Lib.hid (HB1.out.trans (hb3.mono HB1.out.size))
  clear hb3 H1 HB1
  go_wp2_with fail
  go_ret
  exact ActW.same HX.out HB3.out rfl (by unfold changeM;rw [HC.out])
 | some c =>
  rw [hlk] at lk
  unfold clV clC at lk
  dsimp only [Option.getD,Option.isSome] at lk
  have HC:=Lib.hid hlk
  clear hlk
  refine wp_region_alloc (w:=w1) 10 _ _ 5 (.cells #[.int .i64 0,.int .i64 0,.bool false,.int .u64 0,.int .u64 0,.int .u64 0,.int .u64 0,.int .u64 0,.int .u64 0,.int .u64 0,.int .u64 0,.int .u64 0,.int .i64 0,.int .i64 0,.int .i64 0] 107) (by kernel_rfl) rfl rfl rfl (fun _ _=>by kernel_rfl) (by kernel_rfl) ?_
  simp only [List.take_succ_cons,List.take_zero,List.drop_succ_cons,List.drop_zero]
  repeat (refine wpQuietR_step (fun K hK=>?_);go_simp;(refine hK _ ?_;clear hK K))
  refine wpQuietR_nil ?_
  intro B W2 hB hb2 hO
  have bN:Blk W2 B 107 #[.int .i64 0,.int .i64 0,.bool false,.int .u64 0,.int .u64 0,.int .u64 0,.int .u64 0,.int .u64 0,.int .u64 0,.int .u64 0,.int .u64 0,.int .u64 0,.int .i64 0,.int .i64 0,.int .i64 0]:=hO
  have hb3:Below w1.heap.size w1 (W2.setCells B 0 [.int .i64 c.1.id,.int .i64 c.1.pa,.bool c.1.lf,.int .u64 c.1.r.1,.int .u64 c.1.r.2.1,.int .u64 c.1.r.2.2,.int .u64 c.1.s.1,.int .u64 c.1.s.2.1,.int .u64 c.1.s.2.2,.int .u64 c.1.u.1,.int .u64 c.1.u.2.1,.int .u64 c.1.u.2.2,.int .i64 c.1.pk,.int .i64 c.1.by_,.int .i64 c.2]):=hb2.grown (grown_setCells B _ _ W2) hb2.size (fun q e=>by cases e;exact hB)
  have bC:=bN.setCells [.int .i64 c.1.id,.int .i64 c.1.pa,.bool c.1.lf,.int .u64 c.1.r.1,.int .u64 c.1.r.2.1,.int .u64 c.1.r.2.2,.int .u64 c.1.s.1,.int .u64 c.1.s.2.1,.int .u64 c.1.s.2.2,.int .u64 c.1.u.1,.int .u64 c.1.u.2.1,.int .u64 c.1.u.2.2,.int .i64 c.1.pk,.int .i64 c.1.by_,.int .i64 c.2] 0
  rw [setL_all _ _ (by simp)] at bC
  refine plain_store 107 _ _ B [.int .i64 c.1.id,.int .i64 c.1.pa,.bool c.1.lf,.int .u64 c.1.r.1,.int .u64 c.1.r.2.1,.int .u64 c.1.r.2.2,.int .u64 c.1.s.1,.int .u64 c.1.s.2.1,.int .u64 c.1.s.2.2,.int .u64 c.1.u.1,.int .u64 c.1.u.2.1,.int .u64 c.1.u.2.2,.int .i64 c.1.pk,.int .i64 c.1.by_,.int .i64 c.2] 107 #[.int .i64 0,.int .i64 0,.bool false,.int .u64 0,.int .u64 0,.int .u64 0,.int .u64 0,.int .u64 0,.int .u64 0,.int .u64 0,.int .u64 0,.int .u64 0,.int .i64 0,.int .i64 0,.int .i64 0] bN (by simp) rfl (by kernel_rfl) (by kernel_rfl) (by kernel_rfl) (by kernel_rfl) ⟨hb3,?_⟩
  generalize W2.setCells B 0 [.int .i64 c.1.id,.int .i64 c.1.pa,.bool c.1.lf,.int .u64 c.1.r.1,.int .u64 c.1.r.2.1,.int .u64 c.1.r.2.2,.int .u64 c.1.s.1,.int .u64 c.1.s.2.1,.int .u64 c.1.s.2.2,.int .u64 c.1.u.1,.int .u64 c.1.u.2.1,.int .u64 c.1.u.2.2,.int .i64 c.1.pk,.int .i64 c.1.by_,.int .i64 c.2]=W3 at hb3 bC ⊢
  clear o0 b0 lk bN hO hb2 l1 l2
  have hBw:w1.heap.size≤B:=hB
  have H3:=Lib.hid (And.intro (H1.out.later hb3) bC)
  have HB3:=Lib.hid (HB1.out.trans (hb3.mono HB1.out.size))
  have hBw2:w.heap.size < B:=Nat.lt_of_lt_of_le H1.out.box.lt hB
  clear hb3 H1 HB1 bC hB hBw
  go_upto_region 6 with fail
  have b0:=H3.out.1.box.cell 0;have b1:=H3.out.1.box.cell 1;have b2:=H3.out.1.box.cell 2;have b3:=H3.out.1.box.cell 3;have b4:=H3.out.1.box.cell 4;have b5:=H3.out.1.box.cell 5;have b6:=H3.out.1.box.cell 6;have b7:=H3.out.1.box.cell 7;have b8:=H3.out.1.box.cell 8;have b9:=H3.out.1.box.cell 9;have b10:=H3.out.1.box.cell 10;have b11:=H3.out.1.box.cell 11;have b12:=H3.out.1.box.cell 12;have b13:=H3.out.1.box.cell 13
  simp only [lTA,lCZ,lCS] at b0 b1 b2 b3 b4 b5 b6 b7 b8 b9 b10 b11 b12 b13
  have c0:=H3.out.2.cell 0;have c1:=H3.out.2.cell 1;have c2:=H3.out.2.cell 2;have c3:=H3.out.2.cell 3;have c4:=H3.out.2.cell 4;have c5:=H3.out.2.cell 5;have c6:=H3.out.2.cell 6;have c7:=H3.out.2.cell 7;have c8:=H3.out.2.cell 8;have c9:=H3.out.2.cell 9;have c10:=H3.out.2.cell 10;have c11:=H3.out.2.cell 11;have c12:=H3.out.2.cell 12;have c13:=H3.out.2.cell 13;have c14:=H3.out.2.cell 14
  simp only [lTA,lCZ,lCS] at c0 c1 c2 c3 c4 c5 c6 c7 c8 c9 c10 c11 c12 c13 c14
  have f0:=H3.out.2.frozen 0;have f1:=H3.out.2.frozen 1;have f2:=H3.out.2.frozen 2;have f3:=H3.out.2.frozen 3;have f4:=H3.out.2.frozen 4;have f5:=H3.out.2.frozen 5;have f6:=H3.out.2.frozen 6;have f7:=H3.out.2.frozen 7;have f8:=H3.out.2.frozen 8;have f9:=H3.out.2.frozen 9;have f10:=H3.out.2.frozen 10;have f11:=H3.out.2.frozen 11;have f12:=H3.out.2.frozen 12;have f13:=H3.out.2.frozen 13;have f14:=H3.out.2.frozen 14
  go_region
  have hgr:W3.grownBy (W3.setCells B 3 [.int .u64 s.r.1,.int .u64 s.r.2.1,.int .u64 s.r.2.2,.int .u64 s.s.1,.int .u64 s.s.2.1,.int .u64 s.s.2.2,.int .u64 s.u.1,.int .u64 s.u.2.1,.int .u64 s.u.2.2]).drew (some B):=grown_transH (grown_setCells B _ _ W3) (grown_drewH _)
  have hC4:=(H3.out.2.setCells [.int .u64 s.r.1,.int .u64 s.r.2.1,.int .u64 s.r.2.2,.int .u64 s.s.1,.int .u64 s.s.2.1,.int .u64 s.s.2.2,.int .u64 s.u.1,.int .u64 s.u.2.1,.int .u64 s.u.2.2] 3).drew
  rw [show setLH #[.int .i64 c.1.id,.int .i64 c.1.pa,.bool c.1.lf,.int .u64 c.1.r.1,.int .u64 c.1.r.2.1,.int .u64 c.1.r.2.2,.int .u64 c.1.s.1,.int .u64 c.1.s.2.1,.int .u64 c.1.s.2.2,.int .u64 c.1.u.1,.int .u64 c.1.u.2.1,.int .u64 c.1.u.2.2,.int .i64 c.1.pk,.int .i64 c.1.by_,.int .i64 c.2] 3 [.int .u64 s.r.1,.int .u64 s.r.2.1,.int .u64 s.r.2.2,.int .u64 s.s.1,.int .u64 s.s.2.1,.int .u64 s.s.2.2,.int .u64 s.u.1,.int .u64 s.u.2.1,.int .u64 s.u.2.2]=#[.int .i64 c.1.id,.int .i64 c.1.pa,.bool c.1.lf,.int .u64 s.r.1,.int .u64 s.r.2.1,.int .u64 s.r.2.2,.int .u64 s.s.1,.int .u64 s.s.2.1,.int .u64 s.s.2.2,.int .u64 s.u.1,.int .u64 s.u.2.1,.int .u64 s.u.2.2,.int .i64 c.1.pk,.int .i64 c.1.by_,.int .i64 c.2] by kernel_rfl] at hC4
  have h4:=H3.out.1.other H3.out.2 (by decide) (by decide) (by decide) hgr (Nat.le_of_lt hBw2)
  have H4:=Lib.hid (And.intro h4 hC4)
  have hw4:w.heap.size≤(W3.setCells B 3 [.int .u64 s.r.1,.int .u64 s.r.2.1,.int .u64 s.r.2.2,.int .u64 s.s.1,.int .u64 s.s.2.1,.int .u64 s.s.2.2,.int .u64 s.u.1,.int .u64 s.u.2.1,.int .u64 s.u.2.2]).drew.heap.size:=Nat.le_trans H3.out.1.fr.size hgr.size
  have HB4:=Lib.hid (show Below w.heap.size w (W3.setCells B 3 [.int .u64 s.r.1,.int .u64 s.r.2.1,.int .u64 s.r.2.2,.int .u64 s.s.1,.int .u64 s.s.2.1,.int .u64 s.s.2.2,.int .u64 s.u.1,.int .u64 s.u.2.1,.int .u64 s.u.2.2]).drew from HB3.out.grown hgr HB3.out.size fun q e=>by cases e;exact Nat.le_of_lt hBw2)
  clear hgr hC4 h4 hw4 H3 HB3 b0 b1 b2 b3 b4 b5 b6 b7 b8 b9 b10 b11 b12 b13 c0 c1 c2 c3 c4 c5 c6 c7 c8 c9 c10 c11 c12 c13 c14 f0 f1 f2 f3 f4 f5 f6 f7 f8 f9 f10 f11 f12 f13 f14
  change Exit.then _ _ Exit.normal _ (W3.setCells B 3 [.int .u64 s.r.1,.int .u64 s.r.2.1,.int .u64 s.r.2.2,.int .u64 s.s.1,.int .u64 s.s.2.1,.int .u64 s.s.2.2,.int .u64 s.u.1,.int .u64 s.u.2.1,.int .u64 s.u.2.2]).drew
  generalize (W3.setCells B 3 [.int .u64 s.r.1,.int .u64 s.r.2.1,.int .u64 s.r.2.2,.int .u64 s.s.1,.int .u64 s.s.2.1,.int .u64 s.s.2.2,.int .u64 s.u.1,.int .u64 s.u.2.1,.int .u64 s.u.2.2]).drew=W4 at H4 HB4 ⊢
  have oc:=HX.out.inv.ok s.id c HC.out
  have hwf:WfSp (withC c.1 s):=⟨oc.wf.1,HW.out.2⟩
  have hmay:=fun W=>spmay_any (withC c.1 s) W hwf
  unfold MayW spV spC at hmay
  have hmsd:∀ x:Sp,x=withC c.1 s→mayS x=mayS (withC c.1 s):=fun x h=>by rw [h]
  obtain⟨ms,hms⟩:∃ b,mayS (withC c.1 s)=b:=⟨_,rfl⟩
  rw [hms] at hmay
  have HMS:=Lib.hid hms
  clear oc hwf hmsd hms
  unfold withC at hmay
  dsimp only at hmay
  have c0:=H4.out.2.cell 0;have c1:=H4.out.2.cell 1;have c2:=H4.out.2.cell 2;have c3:=H4.out.2.cell 3;have c4:=H4.out.2.cell 4;have c5:=H4.out.2.cell 5;have c6:=H4.out.2.cell 6;have c7:=H4.out.2.cell 7;have c8:=H4.out.2.cell 8;have c9:=H4.out.2.cell 9;have c10:=H4.out.2.cell 10;have c11:=H4.out.2.cell 11;have c12:=H4.out.2.cell 12;have c13:=H4.out.2.cell 13;have c14:=H4.out.2.cell 14
  simp only [lTA,lCZ,lCS] at c0 c1 c2 c3 c4 c5 c6 c7 c8 c9 c10 c11 c12 c13 c14
  go_wp2_with fail
  refine (hmay _).mono ?_
  clear hmay c0 c1 c2 c3 c4 c5 c6 c7 c8 c9 c10 c11 c12 c13 c14
  rintro e W5 ⟨er,rfl,her,hb5⟩
  have H5:=Lib.hid (And.intro (H4.out.1.later hb5) (H4.out.2.below hb5 H4.out.2.lt))
  have HB5:=Lib.hid (HB4.out.trans (hb5.mono HB4.out.size))
  clear hb5 H4 HB4
  cases ms with
  | false =>
   have hne:(er != 0)=true:=by simpa using her
   have HR:=Lib.hid (show changeM M s=(130,M) by unfold changeM;rw [HC.out];dsimp only;rw [if_pos HMS.out])
   clear her
   go_wp2_with fail
   go_ret
   exact ActW.same HX.out HB5.out rfl HR.out
  | true =>
   obtain rfl:er=0:=by simpa using her
   have HR:=Lib.hid (show changeM M s=(0,putM M s.id (withC c.1 s,c.2)) by unfold changeM;rw [HC.out];dsimp only;rw [if_neg (by rw [HMS.out];simp)])
   clear her
   go_upto_region 9 with fail
   have l1:=H5.out.1.tree.blk.lt;have l2:=H5.out.1.box.lt;have l3:=H5.out.2.lt
   have o0:=fun e=>(over_cell (w:=W5) (e:=e) (o:=0) l1).trans (H5.out.1.tree.blk.cell 0)
   have b0:=fun e=>(over_cell (w:=W5) (e:=e) (o:=0) l2).trans (H5.out.1.box.cell 0)
   have q0:=fun e=>(over_cell (w:=W5) (e:=e) (o:=0) l3).trans (H5.out.2.cell 0);have q1:=fun e=>(over_cell (w:=W5) (e:=e) (o:=1) l3).trans (H5.out.2.cell 1);have q2:=fun e=>(over_cell (w:=W5) (e:=e) (o:=2) l3).trans (H5.out.2.cell 2);have q3:=fun e=>(over_cell (w:=W5) (e:=e) (o:=3) l3).trans (H5.out.2.cell 3);have q4:=fun e=>(over_cell (w:=W5) (e:=e) (o:=4) l3).trans (H5.out.2.cell 4);have q5:=fun e=>(over_cell (w:=W5) (e:=e) (o:=5) l3).trans (H5.out.2.cell 5);have q6:=fun e=>(over_cell (w:=W5) (e:=e) (o:=6) l3).trans (H5.out.2.cell 6);have q7:=fun e=>(over_cell (w:=W5) (e:=e) (o:=7) l3).trans (H5.out.2.cell 7);have q8:=fun e=>(over_cell (w:=W5) (e:=e) (o:=8) l3).trans (H5.out.2.cell 8);have q9:=fun e=>(over_cell (w:=W5) (e:=e) (o:=9) l3).trans (H5.out.2.cell 9);have q10:=fun e=>(over_cell (w:=W5) (e:=e) (o:=10) l3).trans (H5.out.2.cell 10);have q11:=fun e=>(over_cell (w:=W5) (e:=e) (o:=11) l3).trans (H5.out.2.cell 11);have q12:=fun e=>(over_cell (w:=W5) (e:=e) (o:=12) l3).trans (H5.out.2.cell 12);have q13:=fun e=>(over_cell (w:=W5) (e:=e) (o:=13) l3).trans (H5.out.2.cell 13);have q14:=fun e=>(over_cell (w:=W5) (e:=e) (o:=14) l3).trans (H5.out.2.cell 14)
   simp only [lTA,lCZ,lCS] at q0 q1 q2 q3 q4 q5 q6 q7 q8 q9 q10 q11 q12 q13 q14
   simp only [lTA,lCZ,lCS] at o0 b0
   have lk:=fun e=>((HX.out.later HB5.out).later (over_below W5 e)).look1 hid
   rw [HC.out] at lk
   unfold clV clC at lk
   dsimp only [Option.getD] at lk
   obtain⟨bn,hbn,hbf⟩:=run_neC c.1.id c.1.pa c.1.lf c.1.pk c.1.by_ c.2 (s.r,s.s,s.u) (c.1.r,c.1.s,c.1.u)
   dsimp only at hbn
   have HBF:=Lib.hid hbf
   clear hbf
   refine wp_region_over (by kernel_rfl) (by kernel_rfl) ?_
   repeat (first | go_big_quiet_skip | (go_big_quiet_want;go_big_quiet_op;go_big_quiet_on))
   refine wpQuiet_nil ?_
   rintro W6 ⟨e6,he6⟩
   have hb6:=over_below W5 e6
   rw [← he6] at hb6
   clear he6 o0 b0 q0 q1 q2 q3 q4 q5 q6 q7 q8 q9 q10 q11 q12 q13 q14 l1 l2 l3 lk hbn
   have H6:=Lib.hid (And.intro (H5.out.1.later hb6) (H5.out.2.below hb6 H5.out.2.lt))
   have HB6:=Lib.hid (HB5.out.trans (hb6.mono HB5.out.size))
   clear hb6 H5 HB5
   cases bn with
   | false =>
    have he:=HBF.out rfl
    simp only [Prod.mk.injEq] at he
    have hcc:withC c.1 s=c.1:=by
     obtain⟨⟨x1,x2,x3,x4,x5,x6,x7,x8⟩,x9⟩:=c
     unfold withC
     dsimp only at he ⊢
     rw [he.1,he.2.1,he.2.2]
    have HR2:=Lib.hid (show changeM M s=(0,M) by rw [HR.out,hcc,put_look HX.out.inv.rise HC.out])
    clear he hcc
    go_wp2_with fail
    go_ret
    exact ActW.same HX.out HB6.out rfl HR2.out
   | true =>
    go_upto_region 10 with fail
    have l1:=H6.out.1.tree.blk.lt;have l2:=H6.out.1.box.lt;have l3:=H6.out.2.lt
    have o0:=fun e=>(over_cell (w:=W6) (e:=e) (o:=0) l1).trans (H6.out.1.tree.blk.cell 0)
    have b0:=fun e=>(over_cell (w:=W6) (e:=e) (o:=0) l2).trans (H6.out.1.box.cell 0)
    have q0:=fun e=>(over_cell (w:=W6) (e:=e) (o:=0) l3).trans (H6.out.2.cell 0);have q1:=fun e=>(over_cell (w:=W6) (e:=e) (o:=1) l3).trans (H6.out.2.cell 1);have q2:=fun e=>(over_cell (w:=W6) (e:=e) (o:=2) l3).trans (H6.out.2.cell 2);have q3:=fun e=>(over_cell (w:=W6) (e:=e) (o:=3) l3).trans (H6.out.2.cell 3);have q4:=fun e=>(over_cell (w:=W6) (e:=e) (o:=4) l3).trans (H6.out.2.cell 4);have q5:=fun e=>(over_cell (w:=W6) (e:=e) (o:=5) l3).trans (H6.out.2.cell 5);have q6:=fun e=>(over_cell (w:=W6) (e:=e) (o:=6) l3).trans (H6.out.2.cell 6);have q7:=fun e=>(over_cell (w:=W6) (e:=e) (o:=7) l3).trans (H6.out.2.cell 7);have q8:=fun e=>(over_cell (w:=W6) (e:=e) (o:=8) l3).trans (H6.out.2.cell 8);have q9:=fun e=>(over_cell (w:=W6) (e:=e) (o:=9) l3).trans (H6.out.2.cell 9);have q10:=fun e=>(over_cell (w:=W6) (e:=e) (o:=10) l3).trans (H6.out.2.cell 10);have q11:=fun e=>(over_cell (w:=W6) (e:=e) (o:=11) l3).trans (H6.out.2.cell 11);have q12:=fun e=>(over_cell (w:=W6) (e:=e) (o:=12) l3).trans (H6.out.2.cell 12);have q13:=fun e=>(over_cell (w:=W6) (e:=e) (o:=13) l3).trans (H6.out.2.cell 13);have q14:=fun e=>(over_cell (w:=W6) (e:=e) (o:=14) l3).trans (H6.out.2.cell 14)
    simp only [lTA,lCZ,lCS] at q0 q1 q2 q3 q4 q5 q6 q7 q8 q9 q10 q11 q12 q13 q14
    simp only [lTA,lCZ,lCS] at o0 b0
    refine wp_region_over_tail 7 (by kernel_rfl) (by kernel_rfl) ?_
    simp only [List.take_succ_cons,List.take_zero,List.drop_succ_cons,List.drop_zero]
    repeat (first | go_big_quiet_skip | (go_big_quiet_want;go_big_quiet_op;go_big_quiet_on))
    refine wpQuiet_nil ?_
    rintro W7 ⟨e7,he7⟩
    have hb7:=over_below W6 e7
    rw [← he7] at hb7
    clear he7 o0 b0 q0 q1 q2 q3 q4 q5 q6 q7 q8 q9 q10 q11 q12 q13 q14 l1 l2 l3
    have h7:=H6.out.1.later hb7
    obtain⟨W8,hr8,hm8,ht8⟩:=h7.tree.all.store (T:=98) (E:=107) (k:=s.id) Tryz.underlying3 Tryz.underlying98 hid (by rw [mapV_length];have:=HX.out.inv.few;unfold maxLen;omega) (clV (withC c.1 s,c.2))
    rw [put_map] at hm8
    have H8:=Lib.hid (h7.all_turn (.inl rfl) hm8 ht8.grown)
    unfold clV clC withC at hr8
    dsimp only at hr8
    clear h7 hb7 hm8 ht8 H6 HB6
    go_wp2_with fail
    go_ret
    have hinv:=HX.out.inv.change HW.out
    have hk:kids (putM M s.id (withC c.1 s,c.2))=kids M:=by
     funext k
     exact kids_put_same (c:=(withC c.1 s,c.2)) (c0:=c) rfl HX.out.inv.rise HC.out
    refine⟨U,by rw [HR.out];rfl,?_,H8.out.fr,fun b hb=>.inl hb⟩
    rw [HR.out] at hinv ⊢
    have htree:=H8.out.tree
    rw [← hk] at htree
    exact htree.x HX.out.gb HX.out.ab HX.out.ub HX.out.keys hinv
end
section
open Go.RowKit Go.Maps
attribute [local go_sem ↓] Go.wp_at_zero Go.wp_at_succ
attribute [local go_sem] quietR quietAtR quietUponR midAt midUpon
def IntAt (w:World)(v:Value)(ks:List Int):Prop :=
 ks.length≤1000000∧∃ a cap,v=.slice a ks.length cap∧(ks=[]∨∃ b off,a=some ⟨b,off,none⟩∧b < w.heap.size∧ks.length≤cap∧∀ i k,ks[i]?=some k→w.cell? ⟨b,off+i,none⟩=some (.int .i64 k))
theorem IntAt.later {w w':World} {v:Value} {ks:List Int} (h:IntAt w v ks)(hb:Below w.heap.size w w'):IntAt w' v ks:=by
 obtain⟨hl,a,cap,e,h3⟩:=h
 refine⟨hl,a,cap,e,?_⟩
 rcases h3 with h3 | ⟨b,off,e2,hbl,hcap,hc⟩
 ·exact .inl h3
 ·exact .inr ⟨b,off,e2,Nat.lt_of_lt_of_le hbl hb.size,hcap,fun i k hi=>(hb.cell (p:=⟨b,off+i,none⟩) hbl).trans (hc i k hi)⟩
theorem IntAt.of_owns {w:World} {base:Nat} {v:Value} {ks:List Int} (h:w.ownsRow base 3 1 v ks.length (ks.map (Value.int .i64)))(hl:ks.length≤1000000):IntAt w v ks:=by
 rcases h.2 with ⟨rfl,h0⟩ | ⟨g,cap,cur,rfl,h1,h2,h3,h4⟩
 ·obtain rfl:ks=[]:=List.eq_nil_of_length_eq_zero h0
  exact⟨hl,none,0,rfl,.inl rfl⟩
 ·refine⟨hl,_,_,rfl,.inr ⟨g,0,rfl,(Array.getElem?_eq_some_iff.1 h2).1,h3,fun i k hi=>?_⟩⟩
  rw [Nat.zero_add,h.cellAt i (by have:=(List.getElem?_eq_some_iff.1 hi).1;omega),List.getElem?_map,hi];rfl
theorem owns_slice {w:World} {base sz n:Nat} {e:TypeId} {v:Value} {xs:List Value} (h:w.ownsRow base e sz v n xs):∃ a cap,v=.slice a n cap:=by
 rcases h.2 with ⟨rfl,rfl⟩ | ⟨g,c,cur,rfl,_⟩
 ·exact⟨none,0,rfl⟩
 ·exact⟨_,_,rfl⟩
open Go.RowKit Go.Maps
section
variable {w W W' : World} {base g ma mu : Nat} {M : Mp}
end
end
section
open Go.RowKit Go.Maps
attribute [local go_sem ↓] Go.wp_at_zero Go.wp_at_succ
attribute [local go_sem] quietR quietAtR quietUponR midAt midUpon
def innS (id pa:Int):Sp:=⟨id,pa,false,(0,0,0),(0,0,100),(0,0,0),0,0⟩
def leafS (id pa:Int):Sp:=⟨id,pa,true,(0,0,0),(0,0,100),(0,0,0),4,4000⟩
def aM1:Mp:=[(1,(innS 1 0,1))]
def aM2:Mp:=[(1,(innS 1 0,1)),(2,(leafS 2 1,2))]
def aM3:Mp:=[(1,(innS 1 0,1)),(2,(leafS 2 1,2)),(3,(leafS 3 1,2))]
theorem a1:addM [] (innS 1 0)=(0,aM1):=by kernel_rfl
theorem a2:addM aM1 (leafS 2 1)=(0,aM2):=by kernel_rfl
theorem a3:addM aM2 (leafS 3 1)=(0,aM3):=by kernel_rfl
theorem a4:addM aM3 (leafS 2 0)=(80,aM3):=by kernel_rfl
theorem a5:addM aM3 (leafS 4 2)=(160,aM3):=by kernel_rfl
theorem a6:dropM aM3 1=(161,aM3):=by kernel_rfl
theorem a7:pathM aM3 3=[3,1]:=by kernel_rfl
theorem a8:kids aM3 1=[2,3]:=by kernel_rfl
theorem a9:dropM aM3 3=(0,aM2):=by kernel_rfl
open Go.RowKit Go.Maps
attribute [local go_sem ↓] Go.wp_at_zero Go.wp_at_succ
attribute [local go_sem] quietR quietAtR quietUponR midAt midUpon
structure HAct where
 k:Int
 s:Sp
instance:Inhabited Sp:=⟨sp0⟩
instance:Inhabited HAct:=⟨⟨0,sp0⟩⟩
end
section
open Go.RowKit Go.Maps
theorem ext_rise : ∀ {a b : List Int}, a.Pairwise (· < ·) → b.Pairwise (· < ·) → (∀ x, x ∈ a ↔ x ∈ b) → a = b
  | [], [], _, _, _ => rfl
  | [], y :: b, _, _, h => by have := (h y).2 (.head _); cases this
  | x :: a, [], _, _, h => by have := (h x).1 (.head _); cases this
  | x :: a, y :: b, ha, hb, h => by
    have ha1 := (List.pairwise_cons.1 ha).1
    have hb1 := (List.pairwise_cons.1 hb).1
    have hxy : x = y := by
      rcases List.mem_cons.1 ((h x).1 (.head _)) with e | e
      · exact e
      · rcases List.mem_cons.1 ((h y).2 (.head _)) with e2 | e2
        · exact e2.symm
        · have := hb1 x e; have := ha1 y e2; omega
    subst hxy
    rw [ext_rise (List.pairwise_cons.1 ha).2 (List.pairwise_cons.1 hb).2 fun z => ?_]
    constructor
    · intro hz
      rcases List.mem_cons.1 ((h z).1 (.tail _ hz)) with e | e
      · have := ha1 z hz; omega
      · exact e
    · intro hz
      rcases List.mem_cons.1 ((h z).2 (.tail _ hz)) with e | e
      · have := hb1 z hz; omega
      · exact e
theorem nodup_leH {l m:List Int}:l.Nodup→(∀ x∈l,x∈m)→l.length≤m.length:=by
 induction l generalizing m with
 | nil=>intro _ _;simp
 | cons a l ih =>
  intro hn hs
  have ha:=hs a (by simp)
  have hn2:=List.nodup_cons.1 hn
  have h1:=ih (m:=m.erase a) hn2.2 (fun x hx=>(List.mem_erase_of_ne (by rintro rfl;exact hn2.1 hx)).2 (hs x (by simp [hx])))
  rw [List.length_erase_of_mem ha] at h1
  have:0 < m.length:=List.length_pos_of_mem ha
  simp;omega
def leavesM (M:Mp)(id:Int):List Int:=(M.filter fun q=>q.2.1.lf && (decide (id=0) || decide (id∈pathM M q.1))).map (·.1)
theorem leaves_rising {M : Mp} (hr : Rising M) (id : Int) : (leavesM M id).Pairwise (· < ·) := by
  unfold leavesM
  exact List.pairwise_map.2 (List.Pairwise.filter _ hr)
theorem leaves_len (M:Mp)(id:Int):(leavesM M id).length≤M.length:=by unfold leavesM;rw [List.length_map];exact List.length_filter_le _ _
theorem mem_leaves {M:Mp} (hr:Rising M) {id x:Int}:x∈leavesM M id↔∃ c,lookM M x=some c∧c.1.lf=true∧(id=0∨id∈pathM M x):=by
 unfold leavesM
 rw [List.mem_map]
 constructor
 ·rintro ⟨⟨y,c⟩,hm,rfl⟩
  rw [List.mem_filter] at hm
  have h2:=hm.2
  simp only [Bool.and_eq_true,Bool.or_eq_true,decide_eq_true_eq] at h2
  exact⟨c,look_of_mem hr hm.1,h2.1,h2.2⟩
 ·rintro ⟨c,hl,h1,h2⟩
  exact⟨(x,c),List.mem_filter.2 ⟨mem_of_look hl,by simp only [Bool.and_eq_true,Bool.or_eq_true,decide_eq_true_eq];exact⟨h1,h2⟩⟩,rfl⟩
theorem InvT.path_no {M:Mp} (h:InvT M) {id:Int} (e:lookM M id=none):pathM M id=[]:=pathF_none e 8
theorem InvT.kid_dep {M:Mp} (h:InvT M) {k x:Int} {c:Cl} (e:lookM M x=some c)(hk:c.1.pa=k):dep M x=dep M k+1:=by
 have o:=h.ok _ _ e
 unfold dep
 rw [e]
 rcases o.up with ⟨h0,h1⟩ | ⟨p,hp,_,hd⟩
 ·rw [← hk,h0,h.zero];simp;omega
 ·rw [← hk,hp];have:=(h.ok _ _ hp).d1;simp;omega
theorem InvT.path_self {M:Mp} (h:InvT M) {x:Int} {c:Cl} (e:lookM M x=some c):x∈pathM M x:=by rw [h.path_step e];exact .head _
theorem InvT.path_mem {M:Mp} (h:InvT M):∀ (n:Nat) {x:Int},dep M x≤n→∀ y∈pathM M x,(∃ c,lookM M y=some c)∧dep M y≤dep M x∧(dep M y=dep M x→y=x)
 | n,x,hn,y,hy=>by
  cases e:lookM M x with
  | none=>rw [h.path_no e] at hy;cases hy
  | some c =>
   rw [h.path_step e] at hy
   rcases List.mem_cons.1 hy with rfl | hy
   ·exact⟨⟨c,e⟩,Nat.le_refl _,fun _=>rfl⟩
   ·have hd:=h.kid_dep e rfl
    obtain⟨n',rfl⟩:∃ n',n=n'+1:=⟨n - 1,by omega⟩
    have:=h.path_mem n' (x:=c.1.pa) (by omega) y hy
    exact⟨this.1,by omega,by omega⟩
theorem InvT.path_apart {M:Mp} (h:InvT M):∀ (n:Nat) {x:Int},dep M x≤n→∀ y∈pathM M x,∀ z∈pathM M x,dep M y=dep M z→y=z
 | n,x,hn,y,hy,z,hz,hyz=>by
  cases e:lookM M x with
  | none=>rw [h.path_no e] at hy;cases hy
  | some c =>
   have hd:=h.kid_dep e rfl
   obtain⟨n',rfl⟩:∃ n',n=n'+1:=⟨n - 1,by omega⟩
   rw [h.path_step e] at hy hz
   rcases List.mem_cons.1 hy with e1 | hy <;> rcases List.mem_cons.1 hz with e2 | hz
   ·rw [e1,e2]
   ·have:=(h.path_mem n' (x:=c.1.pa) (by omega) z hz).2.1;rw [e1] at hyz;omega
   ·have:=(h.path_mem n' (x:=c.1.pa) (by omega) y hy).2.1;rw [e2] at hyz;omega
   ·exact h.path_apart n' (x:=c.1.pa) (by omega) y hy z hz hyz
theorem InvT.path_up {M:Mp} (h:InvT M):∀ (n:Nat) {x:Int},dep M x≤n→∀ y∈pathM M x,∀ c,lookM M y=some c→∀ p,lookM M c.1.pa=some p→c.1.pa∈pathM M x
 | n,x,hn,y,hy,c,hc,p,hp=>by
  cases e:lookM M x with
  | none=>rw [h.path_no e] at hy;cases hy
  | some cx =>
   have hd:=h.kid_dep e rfl
   obtain⟨n',rfl⟩:∃ n',n=n'+1:=⟨n - 1,by omega⟩
   rw [h.path_step e] at hy ⊢
   rcases List.mem_cons.1 hy with rfl | hy
   ·rw [e] at hc;cases hc
    exact .tail _ (h.path_self hp)
   ·exact .tail _ (h.path_up n' (x:=cx.1.pa) (by omega) y hy c hc p hp)
theorem InvT.path_kid {M:Mp} (h:InvT M):∀ (n:Nat) {x:Int} {cx:Cl},dep M x≤n→lookM M x=some cx→∀ id,id≠x→(id=0∨id∈pathM M x)→∃ k∈kids M id,k∈pathM M x
 | n,x,cx,hn,e,id,hne,hid=>by
  have hd:=h.kid_dep e rfl
  obtain⟨n',rfl⟩:∃ n',n=n'+1:=⟨n - 1,by omega⟩
  by_cases hpa:cx.1.pa=id
  ·exact⟨x,(mem_kids h.rise).2 ⟨cx,e,hpa⟩,h.path_self e⟩
  ·rw [h.path_step e] at hid ⊢
   have hin:id=0∨id∈pathM M cx.1.pa:=by
    rcases hid with h0 | h1
    ·exact .inl h0
    ·rcases List.mem_cons.1 h1 with h1 | h1
     ·exact absurd h1 hne
     ·exact .inr h1
   cases ep:lookM M cx.1.pa with
   | none =>
    rcases (h.ok _ _ e).up with ⟨h0,_⟩ | ⟨p,hp,_⟩
    ·rcases hin with h1 | h1
     ·exact absurd (h0.trans h1.symm) hpa
     ·rw [h.path_no ep] at h1;cases h1
    ·rw [hp] at ep;cases ep
   | some p =>
    obtain⟨k,hk,hm⟩:=h.path_kid n' (x:=cx.1.pa) (by omega) ep id (fun e2=>hpa e2.symm) hin
    exact⟨k,hk,.tail _ hm⟩
theorem InvT.path_leaf {M:Mp} (h:InvT M) {x id:Int} {cx c:Cl} (e:lookM M x=some cx)(hm:id∈pathM M x)(hid:lookM M id=some c)(hl:c.1.lf=true):id=x:=by
 apply Classical.byContradiction
 intro hne
 obtain⟨k,hk,_⟩:=h.path_kid _ (Nat.le_refl _) e id hne (.inr hm)
 rw [h.leaf hid hl] at hk
 cases hk
theorem InvT.leaves_leaf {M:Mp} (h:InvT M) {id:Int} {c:Cl} (e:lookM M id=some c)(hl:c.1.lf=true):leavesM M id=[id]:=by
 refine ext_rise (leaves_rising h.rise id) (by simp) fun x=>?_
 rw [mem_leaves h.rise,List.mem_singleton]
 constructor
 ·rintro ⟨cx,hx,_,h0 | hm⟩
  ·have:=(h.pos e).1;omega
  ·exact (h.path_leaf hx hm e hl).symm
 ·rintro rfl
  exact⟨c,e,hl,.inr (h.path_self e)⟩
theorem InvT.leaves_mem {M:Mp} (h:InvT M) {id:Int} (hn:∀ c,lookM M id=some c→c.1.lf=false)(x:Int):x∈leavesM M id↔∃ k∈kids M id,x∈leavesM M k:=by
 rw [mem_leaves h.rise]
 constructor
 ·rintro ⟨c,hx,hl,hid⟩
  have hne:id≠x:=by
   rintro rfl
   rw [hn c hx] at hl;cases hl
  obtain⟨k,hk,hm⟩:=h.path_kid _ (Nat.le_refl _) hx id hne hid
  exact⟨k,hk,(mem_leaves h.rise).2 ⟨c,hx,hl,.inr hm⟩⟩
 ·rintro ⟨k,hk,hm⟩
  obtain⟨ck,hck,hpa⟩:=(mem_kids h.rise).1 hk
  obtain⟨c,hx,hl,hkx⟩:=(mem_leaves h.rise).1 hm
  refine⟨c,hx,hl,?_⟩
  have hk0:=(h.pos hck).1
  rcases hkx with h0 | hkx
  ·omega
  ·rcases (h.ok _ _ hck).up with ⟨h0,_⟩ | ⟨p,hp,_⟩
   ·exact .inl (hpa.symm.trans h0)
   ·right
    rw [← hpa]
    exact h.path_up _ (Nat.le_refl _) k hkx ck hck p hp
def leavesL (M:Mp)(l:List Int):List Int:=l.flatMap (leavesM M)
theorem leavesL_snoc {M:Mp} (l:List Int)(x:Int):leavesL M (l ++ [x])=leavesL M l ++ leavesM M x:=by simp [leavesL]
theorem InvT.leavesL_nodup {M:Mp} (h:InvT M)(id:Int):∀ l:List Int,(∀ k∈l,k∈kids M id)→l.Nodup→(leavesL M l).Nodup
 | [],_,_=>by simp [leavesL]
 | k :: l,hl,hn=>by
  show (leavesM M k ++ leavesL M l).Nodup
  refine List.nodup_append.2 ⟨(leaves_rising h.rise k).imp (fun h=>by omega),h.leavesL_nodup id l (fun x hx=>hl x (.tail _ hx)) (List.nodup_cons.1 hn).2,fun x hx y hy=>?_⟩
  rintro rfl
  obtain⟨k2,hk2,hx2⟩:=List.mem_flatMap.1 hy
  obtain⟨c1,e1,p1⟩:=(mem_kids h.rise).1 (hl k (.head _))
  obtain⟨c2,e2,p2⟩:=(mem_kids h.rise).1 (hl k2 (.tail _ hk2))
  obtain⟨cx,hcx,_,h1⟩:=(mem_leaves h.rise).1 hx
  obtain⟨_,_,_,h2⟩:=(mem_leaves h.rise).1 hx2
  have d1:=h.kid_dep e1 p1
  have d2:=h.kid_dep e2 p2
  have q1:=(h.pos e1).1
  have q2:=(h.pos e2).1
  have:=h.path_apart _ (Nat.le_refl _) k (by rcases h1 with h1 | h1 <;> first | omega | exact h1) k2 (by rcases h2 with h2 | h2 <;> first | omega | exact h2) (d1.trans d2.symm)
  exact (List.nodup_cons.1 hn).1 (this ▸ hk2)
theorem InvT.leavesL_len {M:Mp} (h:InvT M)(id:Int)(l:List Int)(hl:∀ k∈l,k∈kids M id)(hn:l.Nodup):(leavesL M l).length≤64:=by
 have h1:=h.leavesL_nodup id l hl hn
 have h2:∀ x∈leavesL M l,x∈M.map (·.1):=fun x hx=>by
  obtain⟨k,_,hk⟩:=List.mem_flatMap.1 hx
  obtain⟨c,hc,_⟩:=(mem_leaves h.rise).1 hk
  exact List.mem_map.2 ⟨(x,c),mem_of_look hc,rfl⟩
 have h3:=nodup_leH h1 h2
 have:=h.few
 rw [List.length_map] at h3
 omega
theorem InvT.leaves_sorted {M : Mp} (h : InvT M) {id : Int} (hn : ∀ c, lookM M id = some c → c.1.lf = false) {ss : List Int} (hp : ss.Perm (leavesL M (kids M id))) (hs : ss.Pairwise (· ≤ ·)) : ss = leavesM M id := by
  have hnd : ss.Nodup := hp.nodup_iff.2 (h.leavesL_nodup id _ (fun _ hk => hk) ((kids_rising h.rise id).imp fun h => by omega))
  refine ext_rise ?_ (leaves_rising h.rise id) fun x => ?_
  · exact (List.pairwise_and_iff.2 ⟨hs, hnd⟩).imp fun hh => by have := hh.1; have := hh.2; omega
  · rw [hp.mem_iff, h.leaves_mem hn]
    exact List.mem_flatMap
section
variable {A M : Mp}
end
end
end Go.Proofs.YtmmeopjemkjllaaGreat
