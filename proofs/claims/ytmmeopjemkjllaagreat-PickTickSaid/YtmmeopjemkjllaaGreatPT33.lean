/- Lemmas of the claim. No conditions beyond those that each states. -/
import Derived.Test.YtmmeopjemkjllaaGreatPT32
import Derived.Deep.MidRow
set_option linter.unusedVariables false
set_option linter.unusedSimpArgs false
set_option maxRecDepth 100000
set_option maxHeartbeats 8000000
namespace Go.Proofs.YtmmeopjemkjllaaGreat
section
open Go.RowKit Go.Maps
attribute [local go_sem ↓] Go.wp_at_zero Go.wp_at_succ
attribute [local go_sem] quietR quietAtR quietUponR midAt midUpon
attribute [local irreducible] TStep HStep
theorem plain_store {P:Program} {o:Oper} {a:Act} {W:World} {K:Act→World→Prop} (ty:TypeId)(x y:Operand)(b:Nat)(cs:List Value)(t:TypeId)(cur:Array Value)(hB:Blk W b t cur)(hsz:cs.length≤cur.size)(ho:o.op=.store ty x y)(hx:a.eval x=.pointer (some ⟨b,0,none⟩))(hy:a.eval y=.agg cs.toArray)
  (hi:(P.info? ty).map (·.size)=some cs.length)(h1:cs.toArray.all (·.oneCell')=true)(h:K (a.put o.dst undef) (W.setCells b 0 cs)):plain P o a W K:=by
 have hr:=run_storeVar_mid (P:=P) W b 0 ty cs.toArray (fun j hj=>by
  have hj:j < cs.length:=by simpa using hj
  rw [Nat.zero_add]
  exact⟨by rw [hB.cell,Array.getElem?_eq_getElem (by omega)];rfl,hB.frozen j⟩) (by simpa using hi) h1
 unfold plain execOp
 simp only [ho,hx,hy,Instr.storeAt,Instr.sureAddr,Sem.run_bind,Sem.run_pure,Result.andThen_ok,hr,plainUpon]
 simpa using h
set_option maxRecDepth 100000 in
set_option maxHeartbeats 8000000 in
theorem tadd_any (s : Sp) (base g ma mu : Nat) (U : List (Int × Value)) (M : Mp) (w : World) (hw : WfSp s) (h : TreeX w base g ma mu U M) :
    Calls Tryz.prog 107 #[.pointer (some ⟨g, 0, none⟩), spV s] w (ActW w base g ma mu U (addM M s)) := by
  have hid : (Lit.int .i64 s.id).wf = true := hw.1.1
  have hpa : (Lit.int .i64 s.pa).wf = true := hw.1.2.1
  have hmay := fun W => spmay_any s W hw
  have hb0 := (Below.refl w.heap.size w).alloc (Nat.le_refl _) (.cells (spC s) 32)
  have h0 : ActY (own ma mu U) w (w.alloc (.cells (spC s) 32)) base g ma mu U M (rowV U) (kids M) 32 (spC s) := ⟨(h.later hb0).y, Blk.new w _ _, Fr.of_below hb0⟩
  have hn := htnone_no g ma _ _ (h.later hb0).blk
  unfold MayW spV spC at hmay
  unfold spV
  unfold spC at *
  have H0 := Lib.hid h0; have HX := Lib.hid h; have HB0 := Lib.hid hb0; have HW := Lib.hid hw
  clear h h0 hb0 hw
  have k0 := H0.out.box.cell 0; have k1 := H0.out.box.cell 1; have k2 := H0.out.box.cell 2; have k3 := H0.out.box.cell 3; have k4 := H0.out.box.cell 4; have k5 := H0.out.box.cell 5; have k6 := H0.out.box.cell 6; have k7 := H0.out.box.cell 7; have k8 := H0.out.box.cell 8; have k9 := H0.out.box.cell 9; have k10 := H0.out.box.cell 10; have k11 := H0.out.box.cell 11; have k12 := H0.out.box.cell 12; have k13 := H0.out.box.cell 13
  simp only [List.getElem?_toArray, List.getElem?_cons_zero, List.getElem?_cons_succ] at k0 k1 k2 k3 k4 k5 k6 k7 k8 k9 k10 k11 k12 k13
  go_enter Tryz.func107, Tryz.ntmps107
  go_wp2_with (go_at_call 69; refine hn.mono ?_; rintro e w1 ⟨rfl, rfl⟩)
  refine (hmay _).mono ?_
  clear hmay hn k0 k1 k2 k3 k4 k5 k6 k7 k8 k9 k10 k11 k12 k13
  rintro e w1 ⟨er, rfl, her, hb1⟩
  have H1 := Lib.hid (H0.out.later hb1)
  have HB1 := Lib.hid (HB0.out.trans (hb1.mono HB0.out.size))
  clear hb1 H0 HB0
  cases hms : mayS s with
  | false =>
    have hE := Lib.hid hms
    have hne : (er != 0) = true := by rw [hms] at her; simpa using her
    clear hms her
    go_wp2_with fail
    go_ret
    exact ActW.same HX.out HB1.out rfl (by unfold addM; rw [if_pos hE.out])
  | true =>
    obtain rfl : er = 0 := by rw [hms] at her; simpa using her
    have HMS := Lib.hid hms
    clear hms her
    go_upto_region 6 with fail
    have l1 := H1.out.tree.blk.lt; have l2 := H1.out.box.lt
    have o0 := fun e => (over_cell (w := w1) (e := e) (o := 0) l1).trans (H1.out.tree.blk.cell 0)
    have b0 := fun e => (over_cell (w := w1) (e := e) (o := 0) l2).trans (H1.out.box.cell 0)
    simp only [List.getElem?_toArray, List.getElem?_cons_zero, List.getElem?_cons_succ] at o0 b0
    have lk := fun e => ((HX.out.later HB1.out).later (over_below w1 e)).look hid
    obtain ⟨there, hth⟩ : ∃ b, (lookM M s.id).isSome = b := ⟨_, rfl⟩
    rw [hth] at lk
    generalize (lookM M s.id).getD cl0 = c at lk
    unfold clV clC at lk
    have HTH := Lib.hid hth
    clear hth
    refine wp_region_alloc (w := w1) 10 _ _ 6 (.cells #[.int .i64 0, .int .i64 0, .bool false, .int .u64 0, .int .u64 0, .int .u64 0, .int .u64 0, .int .u64 0, .int .u64 0, .int .u64 0, .int .u64 0, .int .u64 0, .int .i64 0, .int .i64 0, .int .i64 0] 107) (by kernel_rfl) rfl rfl rfl (fun _ _ => by kernel_rfl) (by kernel_rfl) ?_
    simp only [List.take_succ_cons, List.take_zero, List.drop_succ_cons, List.drop_zero]
    repeat (refine wpQuietR_step (fun K hK => ?_); go_simp; (refine hK _ ?_; clear hK K))
    refine wpQuietR_nil ?_
    intro B W2 hB hb2 hO
    have bN : Blk W2 B 107 #[.int .i64 0, .int .i64 0, .bool false, .int .u64 0, .int .u64 0, .int .u64 0, .int .u64 0, .int .u64 0, .int .u64 0, .int .u64 0, .int .u64 0, .int .u64 0, .int .i64 0, .int .i64 0, .int .i64 0] := hO
    have hb3 : Below w1.heap.size w1 (W2.setCells B 0 [.int .i64 c.1.id, .int .i64 c.1.pa, .bool c.1.lf, .int .u64 c.1.r.1, .int .u64 c.1.r.2.1, .int .u64 c.1.r.2.2, .int .u64 c.1.s.1, .int .u64 c.1.s.2.1, .int .u64 c.1.s.2.2, .int .u64 c.1.u.1, .int .u64 c.1.u.2.1, .int .u64 c.1.u.2.2, .int .i64 c.1.pk, .int .i64 c.1.by_, .int .i64 c.2]) := hb2.grown (grown_setCells B _ _ W2) hb2.size (fun q e => by cases e; exact hB)
    refine plain_store 107 _ _ B [.int .i64 c.1.id, .int .i64 c.1.pa, .bool c.1.lf, .int .u64 c.1.r.1, .int .u64 c.1.r.2.1, .int .u64 c.1.r.2.2, .int .u64 c.1.s.1, .int .u64 c.1.s.2.1, .int .u64 c.1.s.2.2, .int .u64 c.1.u.1, .int .u64 c.1.u.2.1, .int .u64 c.1.u.2.2, .int .i64 c.1.pk, .int .i64 c.1.by_, .int .i64 c.2] 107 #[.int .i64 0, .int .i64 0, .bool false, .int .u64 0, .int .u64 0, .int .u64 0, .int .u64 0, .int .u64 0, .int .u64 0, .int .u64 0, .int .u64 0, .int .u64 0, .int .i64 0, .int .i64 0, .int .i64 0] bN (by simp) rfl (by kernel_rfl) (by kernel_rfl) (by kernel_rfl) (by kernel_rfl) ⟨hb3, ?_⟩
    generalize W2.setCells B 0 [.int .i64 c.1.id, .int .i64 c.1.pa, .bool c.1.lf, .int .u64 c.1.r.1, .int .u64 c.1.r.2.1, .int .u64 c.1.r.2.2, .int .u64 c.1.s.1, .int .u64 c.1.s.2.1, .int .u64 c.1.s.2.2, .int .u64 c.1.u.1, .int .u64 c.1.u.2.1, .int .u64 c.1.u.2.2, .int .i64 c.1.pk, .int .i64 c.1.by_, .int .i64 c.2] = W3 at hb3 ⊢
    clear o0 b0 lk bN hO hb2 l1 l2
    have H3 := Lib.hid (H1.out.later hb3)
    have HB3 := Lib.hid (HB1.out.trans (hb3.mono HB1.out.size))
    clear hb3 H1 HB1
    have k1 := H3.out.box.cell 1
    simp only [List.getElem?_toArray, List.getElem?_cons_zero, List.getElem?_cons_succ] at k1
    have hdp := tdepth_any s.pa base g ma mu U M W3 hpa (HX.out.later HB3.out)
    go_wp2_with fail
    refine hdp.mono ?_
    clear hdp k1
    rintro e w4 ⟨rfl, hb4⟩
    have H4 := Lib.hid (H3.out.later hb4)
    have HB4 := Lib.hid (HB3.out.trans (hb4.mono HB3.out.size))
    clear hb4 H3 HB3
    obtain ⟨d, hd⟩ : ∃ d, depthM M s.pa = d := ⟨_, rfl⟩
    rw [hd]
    have HD := Lib.hid hd
    clear hd
    have y0 := H4.out.tree.blk.cell 0
    simp only [List.getElem?_toArray, List.getElem?_cons_zero, List.getElem?_cons_succ] at y0
    have hln := fun ty => H4.out.tree.all.len (T := 98) Tryz.underlying98 ty
    rw [mapV_length] at hln
    obtain ⟨nm, hnm⟩ : ∃ n, M.length = n := ⟨_, rfl⟩
    rw [hnm] at hln
    have HNM := Lib.hid hnm
    have hnm64 : nm ≤ 64 := by rw [← hnm]; exact HX.out.inv.few
    clear hnm
    by_cases hfull : 64 ≤ nm
    · go_wp2_with fail
      go_ret
      exact ActW.same HX.out HB4.out rfl (by unfold addM; rw [if_neg (by rw [HMS.out]; simp), if_pos (by rw [HNM.out]; exact hfull)])
    · cases there with
      | true =>
        go_wp2_with fail
        go_ret
        exact ActW.same HX.out HB4.out rfl (by unfold addM; rw [if_neg (by rw [HMS.out]; simp), if_neg (by rw [HNM.out]; exact hfull), if_pos HTH.out])
      | false =>
        by_cases hd0 : d = 0
        · have hd0b : (d == 0) = true := by simpa using hd0
          have HR := Lib.hid (show addM M s = (160, M) by unfold addM; rw [if_neg (by rw [HMS.out]; simp), if_neg (by rw [HNM.out]; exact hfull), if_neg (by rw [HTH.out]; simp), if_pos (by rw [HD.out]; exact hd0)])
          go_wp2_with fail
          go_ret
          exact ActW.same HX.out HB4.out rfl HR.out
        · have hd0b : (d == 0) = false := by simpa using hd0
          have hres : addM M s = (0, putM M s.id (s, d)) := by unfold addM; rw [if_neg (by rw [HMS.out]; simp), if_neg (by rw [HNM.out]; exact hfull), if_neg (by rw [HTH.out]; simp), if_neg (by rw [HD.out]; exact hd0), HD.out]
          have hnone : lookM M s.id = none := by have := HTH.out; simpa using this
          have HR := Lib.hid (And.intro hres hnone)
          clear hres hnone
          go_upto_region 14 with fail
          clear y0 hln
          have l1 := H4.out.tree.blk.lt; have l2 := H4.out.box.lt
          have o0 := fun e => (over_cell (w := w4) (e := e) (o := 0) l1).trans (H4.out.tree.blk.cell 0)
          have b0 := fun e => (over_cell (w := w4) (e := e) (o := 0) l2).trans (H4.out.box.cell 0); have b1 := fun e => (over_cell (w := w4) (e := e) (o := 1) l2).trans (H4.out.box.cell 1); have b2 := fun e => (over_cell (w := w4) (e := e) (o := 2) l2).trans (H4.out.box.cell 2); have b3 := fun e => (over_cell (w := w4) (e := e) (o := 3) l2).trans (H4.out.box.cell 3); have b4 := fun e => (over_cell (w := w4) (e := e) (o := 4) l2).trans (H4.out.box.cell 4); have b5 := fun e => (over_cell (w := w4) (e := e) (o := 5) l2).trans (H4.out.box.cell 5); have b6 := fun e => (over_cell (w := w4) (e := e) (o := 6) l2).trans (H4.out.box.cell 6); have b7 := fun e => (over_cell (w := w4) (e := e) (o := 7) l2).trans (H4.out.box.cell 7); have b8 := fun e => (over_cell (w := w4) (e := e) (o := 8) l2).trans (H4.out.box.cell 8); have b9 := fun e => (over_cell (w := w4) (e := e) (o := 9) l2).trans (H4.out.box.cell 9); have b10 := fun e => (over_cell (w := w4) (e := e) (o := 10) l2).trans (H4.out.box.cell 10); have b11 := fun e => (over_cell (w := w4) (e := e) (o := 11) l2).trans (H4.out.box.cell 11); have b12 := fun e => (over_cell (w := w4) (e := e) (o := 12) l2).trans (H4.out.box.cell 12); have b13 := fun e => (over_cell (w := w4) (e := e) (o := 13) l2).trans (H4.out.box.cell 13)
          simp only [List.getElem?_toArray, List.getElem?_cons_zero, List.getElem?_cons_succ] at b0 b1 b2 b3 b4 b5 b6 b7 b8 b9 b10 b11 b12 b13
          simp only [List.getElem?_toArray, List.getElem?_cons_zero, List.getElem?_cons_succ] at o0
          refine wp_region_over_tail 9 (by kernel_rfl) (by kernel_rfl) ?_
          simp only [List.take_succ_cons, List.take_zero, List.drop_succ_cons, List.drop_zero]
          repeat (first | go_big_quiet_skip | (go_big_quiet_want; go_big_quiet_op; go_big_quiet_on))
          refine wpQuiet_nil ?_
          rintro W5 ⟨e5, he5⟩
          have hb5 := over_below w4 e5
          rw [← he5] at hb5
          clear he5 o0 b0 b1 b2 b3 b4 b5 b6 b7 b8 b9 b10 b11 b12 b13 l1 l2
          have h5 := H4.out.later hb5
          obtain ⟨W6, hr6, hm6, ht6⟩ := h5.tree.all.store (T := 98) (E := 107) (k := s.id) Tryz.underlying3 Tryz.underlying98 hid (by rw [mapV_length, HNM.out]; unfold maxLen; omega) (clV (s, d))
          rw [put_map] at hm6
          have H6 := Lib.hid (h5.all_turn (.inl rfl) hm6 ht6.grown)
          unfold clV clC at hr6
          clear h5 hb5 hm6 ht6 H4 HB4
          go_upto_region 15 with fail
          clear hr6
          have l1 := H6.out.tree.blk.lt; have l2 := H6.out.box.lt
          have o1 := fun e => (over_cell (w := W6) (e := e) (o := 1) l1).trans (H6.out.tree.blk.cell 1)
          have b1 := fun e => (over_cell (w := W6) (e := e) (o := 1) l2).trans (H6.out.box.cell 1)
          simp only [List.getElem?_toArray, List.getElem?_cons_zero, List.getElem?_cons_succ] at o1 b1
          have lk := fun e => (H6.out.tree.later (over_below W6 e)).und.look (k := s.pa) (E := 51) (T := 99) (z := .slice none 0 0) Tryz.underlying3 Tryz.underlying99 (by exact Tryz.zeroValue51 _) hpa
          change ∀ e, (Instr.lookup _ _ _ _).run _ _ = .ok (rowV U s.pa) _ at lk
          refine wp_region_over (by kernel_rfl) (by kernel_rfl) ?_
          repeat (first | go_big_quiet_skip | (go_big_quiet_want; go_big_quiet_op; go_big_quiet_on))
          refine wpQuiet_nil ?_
          rintro W7 ⟨e7, he7⟩
          have hb7 := over_below W6 e7
          rw [← he7] at hb7
          clear he7 o1 b1 l1 l2 lk
          have H7 := Lib.hid (H6.out.later hb7)
          clear hb7 H6
          have hrise := HX.out.inv.rise
          have hkl := kids_len M s.pa
          have hbs := bs_any base (rowV U s.pa) (kids M s.pa) s.id W7 (H7.out.tree.rows s.pa) (by have := HNM.out; omega) (kids_rising hrise s.pa)
          have k0 := H7.out.box.cell 0
          simp only [List.getElem?_toArray, List.getElem?_cons_zero, List.getElem?_cons_succ] at k0
          go_wp2_with fail
          refine hbs.mono ?_
          clear hbs k0
          rintro e W8 ⟨bb, rfl, hb8⟩
          have H8 := Lib.hid (H7.out.later hb8)
          clear hb8 H7
          have hjn : (kids M s.pa).countP (· < s.id) ≤ (kids M s.pa).length := List.countP_le_length
          have HU := Lib.hid (kids_upd hrise (c := (s, d)) HR.out.2)
          obtain ⟨jn, hjj⟩ : ∃ j, (kids M s.pa).countP (· < s.id) = j := ⟨_, rfl⟩
          rw [hjj] at hjn ⊢
          have HJ := Lib.hid (And.intro hjn hjj)
          obtain ⟨nl, hnl⟩ : ∃ l, (kids M s.pa).take jn ++ [s.id] ++ (kids M s.pa).drop jn = l := ⟨_, rfl⟩
          have HNL := Lib.hid hnl
          clear hnl
          obtain ⟨v0, hv0⟩ : ∃ v, rowV U s.pa = v := ⟨_, rfl⟩
          rw [hv0]
          have HV := Lib.hid hv0
          clear hjj hjn hv0 hrise
          go_upto_region 17 with fail
          have hbl : base ≤ W8.heap.size := Nat.le_trans HX.out.gb (Nat.le_of_lt (Nat.lt_of_lt_of_le HX.out.blk.lt H8.out.fr.size))
          have hcs := cutW_size hbl
          refine wp_region_keep (w := cutW W8 base) (ws := W8) 12 1 [3, 5, 9, 10, 11] [] [(3, fun u W' => u = .map (some mu)), (5, fun u W' => u = .int .i64 s.pa), (9, fun u W' => u = .int .i64 s.id), (10, fun u W' => ∃ B, u = .slice (some ⟨B, 0, none⟩) 1 1 ∧ Blk W' B 3 #[.int .i64 s.id] ∧ w.heap.size ≤ B), (11, fun u W' => (ActY (own ma mu U) w W' base g ma mu U (putM M s.id (s, d)) (upd (rowV U) s.pa u) (upd (kids M) s.pa nl) 32 #[.int .i64 s.id, .int .i64 s.pa, .bool s.lf, .int .u64 s.r.1, .int .u64 s.r.2.1, .int .u64 s.r.2.2, .int .u64 s.s.1, .int .u64 s.s.2.1, .int .u64 s.s.2.2, .int .u64 s.u.1, .int .u64 s.u.2.1, .int .u64 s.u.2.2, .int .i64 s.pk, .int .i64 s.by_]) ∧ (u.ownBlock = v0.ownBlock ∨ ∃ b, u.ownBlock = some b ∧ w.heap.size ≤ b))] [(10, 11)] [11] [3, 5, 9] rfl (by decide) (by decide) (below_cut hbl (Below.refl _ _)) (J := fun W => ActY (own ma mu U) w W base g ma mu U (putM M s.id (s, d)) (rowV U) (kids M) 32 #[.int .i64 s.id, .int .i64 s.pa, .bool s.lf, .int .u64 s.r.1, .int .u64 s.r.2.1, .int .u64 s.r.2.2, .int .u64 s.s.1, .int .u64 s.s.2.1, .int .u64 s.s.2.2, .int .u64 s.u.1, .int .u64 s.u.2.1, .int .u64 s.u.2.2, .int .i64 s.pk, .int .i64 s.by_]) (jend := 11) H8.out (fun W W' h hb => h.later hb) (.inr (by kernel_rfl)) (JK := fun W => Blk W g 101 #[.map (some ma), .map (some mu)] ∧ Blk W w.heap.size 32 #[.int .i64 s.id, .int .i64 s.pa, .bool s.lf, .int .u64 s.r.1, .int .u64 s.r.2.1, .int .u64 s.r.2.2, .int .u64 s.s.1, .int .u64 s.s.2.1, .int .u64 s.s.2.2, .int .u64 s.u.1, .int .u64 s.u.2.1, .int .u64 s.u.2.2, .int .i64 s.pk, .int .i64 s.by_] ∧ w.heap.size ≤ W.heap.size) ⟨H8.out.tree.blk, H8.out.box, H8.out.fr.size⟩ (fun W W' h hb => ⟨h.1.below hb h.1.lt, h.2.1.below hb h.2.1.lt, Nat.le_trans h.2.2 hb.size⟩) (fun p hp hh v W hT => by simp only [List.mem_cons, List.not_mem_nil, or_false] at hp; rcases hp with rfl | rfl | rfl | rfl | rfl <;> first | exact ⟨hT.1.tree.blk, hT.1.box, hT.1.fr.size⟩ | simp at hh) (by kernel_rfl) (by kernel_rfl) (by kernel_rfl) (by kernel_rfl) (by kernel_rfl) (fun _ _ _ _ _ h => h) ⟨fun v W1 W2 h hb => h, fun v W1 W2 h hb => h, fun v W1 W2 h hb => h, fun v W1 W2 ⟨b, h1, h2, h3⟩ hb => ⟨b, h1, h2.below hb h2.lt, h3⟩, fun v W1 W2 h hb => ⟨h.1.later hb, h.2⟩, trivial⟩ ⟨fun _ v W1 W2 h => h, fun _ v W1 W2 h => h, fun _ v W1 W2 h => h, fun h => by simp at h, fun h => by simp at h, trivial⟩ ?_
          intro LL hL
          have HL := Lib.hid hL
          clear hL
          simp only [List.take_succ_cons, List.take_zero, putL]
          iterate 12 (first | refine wpHead_skip (by decide) ?_ | (refine wpHead_step (by decide) (fun K hK => ?_); go_simp; refine hK _ ?_; clear hK K))
          refine wpHead_nil (HL.out _ ⟨?_, ?_, ?_, ?_, ?_, trivial⟩ ?_)
          · intro vs W9 hb9 hf hj hk
            clear HL hj hf
            have x0 := hk.1.cell 1
            simp only [List.getElem?_toArray, List.getElem?_cons_zero, List.getElem?_cons_succ] at x0
            change TStep _ _ _ (Act.put (Act.put (Act.put (Act.put (Act.put _ (some 70) (vs 3)) (some 72) (vs 5)) (some 76) (vs 9)) (some 77) (vs 10)) (some 78) (vs 11)) _ _
            refine tstep_yes (by kernel_rfl) ?_
            go_simp
            exact Below.refl _ _
          · intro vs W9 hb9 hf hj hk
            clear HL hj hf
            have x0 := hk.2.1.cell 1
            simp only [List.getElem?_toArray, List.getElem?_cons_zero, List.getElem?_cons_succ] at x0
            change TStep _ _ _ (Act.put (Act.put (Act.put (Act.put (Act.put _ (some 70) (vs 3)) (some 72) (vs 5)) (some 76) (vs 9)) (some 77) (vs 10)) (some 78) (vs 11)) _ _
            refine tstep_yes (by kernel_rfl) ?_
            go_simp
            exact Below.refl _ _
          · intro vs W9 hb9 hf hj hk
            clear HL hj hf
            have x0 := hk.2.1.cell 0
            simp only [List.getElem?_toArray, List.getElem?_cons_zero, List.getElem?_cons_succ] at x0
            change TStep _ _ _ (Act.put (Act.put (Act.put (Act.put (Act.put _ (some 70) (vs 3)) (some 72) (vs 5)) (some 76) (vs 9)) (some 77) (vs 10)) (some 78) (vs 11)) _ _
            refine tstep_yes (by kernel_rfl) ?_
            go_simp
            exact Below.refl _ _
          · intro vs W9 hb9 hf hj hk
            have hf := fits_cast (q := (vs 9 = .int .i64 s.id) ∧ True) hf (by kernel_rfl)
            clear HL hj
            change TStep _ _ _ (Act.put (Act.put (Act.put (Act.put (Act.put _ (some 70) (vs 3)) (some 72) (vs 5)) (some 76) (vs 9)) (some 77) (vs 10)) (some 78) (vs 11)) _ _
            rw [hf.1]
            refine tstep_yes (by kernel_rfl) ?_
            clear hf
            go_simp
            first | exact ⟨(Below.refl _ _).alloc (Nat.le_refl _) _, Blk.new _ _ _, hk.2.2⟩ | exact ⟨(Below.refl _ _).alloc (Nat.le_refl _) _, Blk.new _ _ _⟩
          · intro vs W9 hb9 hf hj hk
            have hf := fits_cast (q := (∃ B, (vs 10) = .slice (some ⟨B, 0, none⟩) 1 1 ∧ Blk W9 B 3 #[.int .i64 s.id] ∧ w.heap.size ≤ B) ∧ True) hf (by kernel_rfl)
            clear HL
            have hjj := hj (.inl rfl)
            refine Exists.elim hf.1 fun B10 hB10 => ?_
            change HStep _ _ _ _ (Act.put (Act.put (Act.put (Act.put (Act.put _ (some 70) (vs 3)) (some 72) (vs 5)) (some 76) (vs 9)) (some 77) (vs 10)) (some 78) (vs 11)) _ _
            rw [hB10.1]
            have hrow := hjj.tree.rows s.pa
            have hlt : ∀ b, v0.ownBlock = some b → b < w.heap.size := fun b hb => ((HX.out.rows s.pa).lt b (by rw [HV.out]; exact hb)).2
            rw [HV.out] at hrow
            have hins0 := ins_any base v0 (kids M s.pa) s.id B10 jn W9 HJ.out.1 hrow (by have := HNM.out; omega) hB10.2.1 (fun e => by have := hlt _ e; omega) (Nat.le_trans (by rw [hcs] at hb9; exact Nat.le_refl _) (by have := hb9.size; rw [hcs] at this; exact this))
            rw [HNL.out] at hins0
            have hins := hins0.mono (R' := fun e w' => ∃ v', e = .returned v' ∧ Below (cutW W8 base).heap.size (cutW W8 base) w' ∧ (ActY (own ma mu U) w w' base g ma mu U (putM M s.id (s, d)) (upd (rowV U) s.pa v') (upd (kids M) s.pa nl) 32 #[.int .i64 s.id, .int .i64 s.pa, .bool s.lf, .int .u64 s.r.1, .int .u64 s.r.2.1, .int .u64 s.r.2.2, .int .u64 s.s.1, .int .u64 s.s.2.1, .int .u64 s.s.2.2, .int .u64 s.u.1, .int .u64 s.u.2.1, .int .u64 s.u.2.2, .int .i64 s.pk, .int .i64 s.by_]) ∧ (v'.ownBlock = v0.ownBlock ∨ ∃ b, v'.ownBlock = some b ∧ w.heap.size ≤ b)) (fun e w' ⟨v', he, ho, hg, hat⟩ => ⟨v', he, hb9.grown hg hb9.size (fun q e => by rw [hcs]; exact (hrow.lt q e).1), hjj.row_new (by decide) (fun b hb => .inr (.inr ⟨s.pa, hb⟩)) ho (by rw [HV.out]; exact hg) (by rw [HV.out]; exact hat.imp id .inl), hat.imp id fun h => ⟨_, h, hk.2.2⟩⟩)
            refine hstep_yes (by kernel_rfl) ?_
            clear hins0
            go_simp
            exact ⟨rfl, hins⟩
          · intro vs W9 hb9 hk hf
            have hf := fits_cast (q := (vs 3 = .map (some mu)) ∧ (vs 5 = .int .i64 s.pa) ∧ (vs 9 = .int .i64 s.id) ∧ ((ActY (own ma mu U) w W9 base g ma mu U (putM M s.id (s, d)) (upd (rowV U) s.pa (vs 11)) (upd (kids M) s.pa nl) 32 #[.int .i64 s.id, .int .i64 s.pa, .bool s.lf, .int .u64 s.r.1, .int .u64 s.r.2.1, .int .u64 s.r.2.2, .int .u64 s.s.1, .int .u64 s.s.2.1, .int .u64 s.s.2.2, .int .u64 s.u.1, .int .u64 s.u.2.1, .int .u64 s.u.2.2, .int .i64 s.pk, .int .i64 s.by_]) ∧ ((vs 11).ownBlock = v0.ownBlock ∨ ∃ b, (vs 11).ownBlock = some b ∧ w.heap.size ≤ b)) ∧ True) hf (by kernel_rfl)
            clear HL
            change wpList _ _ _ _ (Act.put (Act.put (Act.put (Act.put (Act.put _ (some 70) (vs 3)) (some 72) (vs 5)) (some 76) (vs 9)) (some 77) (vs 10)) (some 78) (vs 11)) _
            rw [hf.1, hf.2.1]
            have h9 := hf.2.2.2.1
            generalize vs 11 = u at h9 ⊢
            obtain ⟨W10, hr, hm, ht⟩ := h9.1.tree.und.store (T := 99) (E := 51) (k := s.pa) Tryz.underlying3 Tryz.underlying99 hpa (by have := HX.out.few; unfold maxLen; omega) u
            have h10 := h9.1.und_turn (.inr (.inl rfl)) hm ht.grown
            have HF := Lib.hid (And.intro h10 h9.2)
            clear hf h9 hm ht h10 hb9 hk
            simp only [List.drop_succ_cons, List.drop_zero, List.take_succ_cons, List.take_zero]
            go_wp2_with fail
            go_ret
            have hnamed := may_named HMS.out
            have hinv := HX.out.inv.add HW.out
            refine ⟨putM U s.pa u, by rw [HR.out.1]; rfl, ?_, HF.out.1.fr, ?_⟩
            · rw [HR.out.1] at hinv ⊢
              have htree := HF.out.1.tree
              have e1 := HU.out
              rw [HJ.out.2, HNL.out] at e1
              rw [← e1, ← rowV_put] at htree
              dsimp only
              refine htree.x HX.out.gb HX.out.ab HX.out.ub (fun q hq => ?_) hinv
              rcases putM_mem hq with rfl | hq
              · exact ⟨hnamed.2.2.1, hnamed.2.2.2.1⟩
              · exact HX.out.keys q hq
            · intro b hb
              rcases hb with rfl | rfl | ⟨k, hk⟩
              · exact .inl (.inl rfl)
              · exact .inl (.inr (.inl rfl))
              · rw [rowV_put] at hk
                unfold upd at hk
                by_cases e : k = s.pa
                · rw [if_pos e] at hk
                  rcases HF.out.2 with h | ⟨b', h, hb'⟩
                  · exact .inl (.inr (.inr ⟨s.pa, by rw [HV.out, ← h]; exact hk⟩))
                  · rw [h] at hk; cases hk; exact .inr hb'
                · rw [if_neg e] at hk
                  exact .inl (.inr (.inr ⟨k, hk⟩))
end
section
open Go.RowKit Go.Maps
attribute [local go_sem ↓] Go.wp_at_zero Go.wp_at_succ
attribute [local go_sem] quietR quietAtR quietUponR midAt midUpon
attribute [local irreducible] TStep HStep
theorem TreeY.row_nil {W:World} {base g ma mu:Nat} {U:List (Int × Value)} {M:Mp} {rv:Int→Value} {kd:Int→List Int} (h:TreeY W base g ma mu U M rv kd) {k0:Int} (hk:kd k0=[]):TreeY W base g ma mu U M (upd rv k0 (.slice none 0 0)) kd:=by
 refine⟨h.blk,h.all,h.und,fun k=>?_,fun k k' b hne h1 h2=>?_,h.ne⟩
 ·unfold upd
  by_cases e:k=k0
  ·rw [if_pos e,e,hk];exact World.ownsRow_nil _ _ _ _
  ·rw [if_neg e];exact h.rows k
 ·unfold upd at h1 h2
  by_cases e:k=k0
  ·rw [if_pos e] at h1;cases h1
  ·rw [if_neg e] at h1
   by_cases e2:k'=k0
   ·rw [if_pos e2] at h2;cases h2
   ·rw [if_neg e2] at h2;exact h.apart k k' b hne h1 h2
theorem ActY.row_new2 {S:Nat→Prop} {w W W':World} {base g ma mu:Nat} {U:List (Int × Value)} {M:Mp} {rv:Int→Value} {kd:Int→List Int} {t:TypeId} {cs:Array Value} (h:ActY S w W base g ma mu U M rv kd t cs) {pa:Int} {v':Value} {l':List Int} (ht:(rv pa).ownBlock≠some w.heap.size)(hS:∀ b,(rv pa).ownBlock=some b→S b)(ho:W'.ownsRow base 3 1 v' l'.length (l'.map (Value.int .i64)))(hg:W.grownBy W' (rv pa).ownBlock)(hat:v'.ownBlock=(rv pa).ownBlock∨v'.ownBlock=some W.heap.size∨v'.ownBlock=none) :
  ActY S w W' base g ma mu U M (upd rv pa v') (upd kd pa l') t cs :=
 ⟨h.tree.row_new ho hg hat,h.box.grown hg (fun e=>ht e.symm),h.fr.trans (Fr.of_grown hg hS)⟩
theorem kids_del_upd {M:Mp} (hr:Rising M) {id:Int} {c:Cl} (hl:lookM M id=some c):kids (delM M id)=upd (kids M) c.1.pa ((kids M c.1.pa).filter fun x=>!decide (x=id)):=by
 funext j
 unfold upd
 rw [kids_del]
 by_cases e:j=c.1.pa
 ·rw [if_pos e,e]
 ·rw [if_neg e]
  refine List.filter_eq_self.2 fun x hx=>?_
  obtain⟨c',h1,h2⟩:=(mem_kids hr).1 hx
  have hne:x≠id:=by
   rintro rfl
   rw [hl] at h1
   cases h1
   exact e h2.symm
  simpa using hne
theorem setL_all (vs:List Value)(cur:Array Value)(h:vs.length=cur.size):setLH cur 0 vs=vs.toArray:=by
 apply Array.ext_getElem?
 intro k
 by_cases hk:k < cur.size
 ·rw [setL_at vs 0 cur k hk,if_pos (by omega),List.getElem?_toArray];rfl
 ·rw [Array.getElem?_eq_none (by rw [setL_size];omega),Array.getElem?_eq_none (by simp;omega)]
theorem owns_sliceH {w:World} {base sz n:Nat} {e:TypeId} {v:Value} {xs:List Value} (h:w.ownsRow base e sz v n xs):∃ a cap,v=.slice a n cap:=by
 rcases h.2 with ⟨rfl,rfl⟩ | ⟨g,c,cur,rfl,_⟩
 ·exact⟨none,0,rfl⟩
 ·exact⟨_,_,rfl⟩
theorem tdrop_any (id:Int)(base g ma mu:Nat)(U:List (Int × Value))(M:Mp)(w:World)(hid:(Lit.int .i64 id).wf=true)(h:TreeX w base g ma mu U M) :
  Calls Tryz.prog 109 #[.pointer (some ⟨g,0,none⟩),.int .i64 id] w (ActW w base g ma mu U (dropM M id)):=by
 have hb0:=(Below.refl w.heap.size w).alloc (Nat.le_refl _) (.cells #[.int .i64 id] 3)
 have h0:ActY (own ma mu U) w (w.alloc (.cells #[.int .i64 id] 3)) base g ma mu U M (rowV U) (kids M) 3 #[.int .i64 id]:=⟨(h.later hb0).y,Blk.new w _ _,Fr.of_below hb0⟩
 have hn:=htnone_no g ma _ _ (h.later hb0).blk
 have H0:=Lib.hid h0;have HX:=Lib.hid h;have HB0:=Lib.hid hb0
 clear h h0 hb0
 go_enter Tryz.func109,Tryz.ntmps109
 go_wp2_with fail
 refine hn.mono ?_
 clear hn
 rintro e w1 ⟨rfl,rfl⟩
 go_upto_region 3 with fail
 generalize w.alloc (.cells #[.int .i64 id] 3)=w1 at H0 HB0 ⊢
 have H1:=H0;have HB1:=HB0
 clear H0 HB0
 have l1:=H1.out.tree.blk.lt;have l2:=H1.out.box.lt
 have o0:=fun e=>(over_cell (w:=w1) (e:=e) (o:=0) l1).trans (H1.out.tree.blk.cell 0)
 have b0:=fun e=>(over_cell (w:=w1) (e:=e) (o:=0) l2).trans (H1.out.box.cell 0)
 simp only [lTA,lCZ,lCS] at o0 b0
 have lk:=fun e=>((HX.out.later HB1.out).later (over_below w1 e)).look hid
 cases hlk:lookM M id with
 | none =>
  rw [hlk] at lk
  unfold clV clC cl0 sp0 at lk
  dsimp only [Option.getD,Option.isSome] at lk
  have HC:=Lib.hid hlk
  clear hlk
  refine wp_region_alloc (w:=w1) 9 _ _ 5 (.cells #[.int .i64 0,.int .i64 0,.bool false,.int .u64 0,.int .u64 0,.int .u64 0,.int .u64 0,.int .u64 0,.int .u64 0,.int .u64 0,.int .u64 0,.int .u64 0,.int .i64 0,.int .i64 0,.int .i64 0] 107) (by kernel_rfl) rfl rfl rfl (fun _ _=>by kernel_rfl) (by kernel_rfl) ?_
  simp only [List.take_succ_cons,List.take_zero,List.drop_succ_cons,List.drop_zero]
  repeat (refine wpQuietR_step (fun K hK=>?_);go_simp;(refine hK _ ?_;clear hK K))
  refine wpQuietR_nil ?_
  intro B W2 hB hb2 hO
  have bN:Blk W2 B 107 #[.int .i64 0,.int .i64 0,.bool false,.int .u64 0,.int .u64 0,.int .u64 0,.int .u64 0,.int .u64 0,.int .u64 0,.int .u64 0,.int .u64 0,.int .u64 0,.int .i64 0,.int .i64 0,.int .i64 0]:=hO
  have hb3:Below w1.heap.size w1 (W2.setCells B 0 [.int .i64 0,.int .i64 0,.bool false,.int .u64 0,.int .u64 0,.int .u64 0,.int .u64 0,.int .u64 0,.int .u64 0,.int .u64 0,.int .u64 0,.int .u64 0,.int .i64 0,.int .i64 0,.int .i64 0]):=hb2.grown (grown_setCells B _ _ W2) hb2.size (fun q e=>by cases e;exact hB)
  refine plain_store 107 _ _ B [.int .i64 0,.int .i64 0,.bool false,.int .u64 0,.int .u64 0,.int .u64 0,.int .u64 0,.int .u64 0,.int .u64 0,.int .u64 0,.int .u64 0,.int .u64 0,.int .i64 0,.int .i64 0,.int .i64 0] 107 #[.int .i64 0,.int .i64 0,.bool false,.int .u64 0,.int .u64 0,.int .u64 0,.int .u64 0,.int .u64 0,.int .u64 0,.int .u64 0,.int .u64 0,.int .u64 0,.int .i64 0,.int .i64 0,.int .i64 0] bN (by simp) rfl (by kernel_rfl) (by kernel_rfl) (by kernel_rfl) (by kernel_rfl) ⟨hb3,?_⟩
  generalize W2.setCells B 0 [.int .i64 0,.int .i64 0,.bool false,.int .u64 0,.int .u64 0,.int .u64 0,.int .u64 0,.int .u64 0,.int .u64 0,.int .u64 0,.int .u64 0,.int .u64 0,.int .i64 0,.int .i64 0,.int .i64 0]=W3 at hb3 ⊢
  clear o0 b0 lk bN hO hb2 l1 l2
  have HB3:=Lib.hid (HB1.out.trans (hb3.mono HB1.out.size))
  clear hb3 H1 HB1
  go_wp2_with fail
  go_ret
  exact ActW.same HX.out HB3.out rfl (by unfold dropM;rw [HC.out])
 | some c =>
  rw [hlk] at lk
  unfold clV clC at lk
  dsimp only [Option.getD,Option.isSome] at lk
  have HC:=Lib.hid hlk
  clear hlk
  refine wp_region_alloc (w:=w1) 9 _ _ 5 (.cells #[.int .i64 0,.int .i64 0,.bool false,.int .u64 0,.int .u64 0,.int .u64 0,.int .u64 0,.int .u64 0,.int .u64 0,.int .u64 0,.int .u64 0,.int .u64 0,.int .i64 0,.int .i64 0,.int .i64 0] 107) (by kernel_rfl) rfl rfl rfl (fun _ _=>by kernel_rfl) (by kernel_rfl) ?_
  simp only [List.take_succ_cons,List.take_zero,List.drop_succ_cons,List.drop_zero]
  repeat (refine wpQuietR_step (fun K hK=>?_);go_simp;(refine hK _ ?_;clear hK K))
  refine wpQuietR_nil ?_
  intro B W2 hB hb2 hO
  have bN:Blk W2 B 107 #[.int .i64 0,.int .i64 0,.bool false,.int .u64 0,.int .u64 0,.int .u64 0,.int .u64 0,.int .u64 0,.int .u64 0,.int .u64 0,.int .u64 0,.int .u64 0,.int .i64 0,.int .i64 0,.int .i64 0]:=hO
  have hb3:Below w1.heap.size w1 (W2.setCells B 0 [.int .i64 c.1.id,.int .i64 c.1.pa,.bool c.1.lf,.int .u64 c.1.r.1,.int .u64 c.1.r.2.1,.int .u64 c.1.r.2.2,.int .u64 c.1.s.1,.int .u64 c.1.s.2.1,.int .u64 c.1.s.2.2,.int .u64 c.1.u.1,.int .u64 c.1.u.2.1,.int .u64 c.1.u.2.2,.int .i64 c.1.pk,.int .i64 c.1.by_,.int .i64 c.2]):=hb2.grown (grown_setCells B _ _ W2) hb2.size (fun q e=>by cases e;exact hB)
  have bC:=bN.setCells [.int .i64 c.1.id,.int .i64 c.1.pa,.bool c.1.lf,.int .u64 c.1.r.1,.int .u64 c.1.r.2.1,.int .u64 c.1.r.2.2,.int .u64 c.1.s.1,.int .u64 c.1.s.2.1,.int .u64 c.1.s.2.2,.int .u64 c.1.u.1,.int .u64 c.1.u.2.1,.int .u64 c.1.u.2.2,.int .i64 c.1.pk,.int .i64 c.1.by_,.int .i64 c.2] 0
  rw [setL_all _ _ (by simp)] at bC
  refine plain_store 107 _ _ B [.int .i64 c.1.id,.int .i64 c.1.pa,.bool c.1.lf,.int .u64 c.1.r.1,.int .u64 c.1.r.2.1,.int .u64 c.1.r.2.2,.int .u64 c.1.s.1,.int .u64 c.1.s.2.1,.int .u64 c.1.s.2.2,.int .u64 c.1.u.1,.int .u64 c.1.u.2.1,.int .u64 c.1.u.2.2,.int .i64 c.1.pk,.int .i64 c.1.by_,.int .i64 c.2] 107 #[.int .i64 0,.int .i64 0,.bool false,.int .u64 0,.int .u64 0,.int .u64 0,.int .u64 0,.int .u64 0,.int .u64 0,.int .u64 0,.int .u64 0,.int .u64 0,.int .i64 0,.int .i64 0,.int .i64 0] bN (by simp) rfl (by kernel_rfl) (by kernel_rfl) (by kernel_rfl) (by kernel_rfl) ⟨hb3,?_⟩
  generalize W2.setCells B 0 [.int .i64 c.1.id,.int .i64 c.1.pa,.bool c.1.lf,.int .u64 c.1.r.1,.int .u64 c.1.r.2.1,.int .u64 c.1.r.2.2,.int .u64 c.1.s.1,.int .u64 c.1.s.2.1,.int .u64 c.1.s.2.2,.int .u64 c.1.u.1,.int .u64 c.1.u.2.1,.int .u64 c.1.u.2.2,.int .i64 c.1.pk,.int .i64 c.1.by_,.int .i64 c.2]=W3 at hb3 bC ⊢
  clear o0 b0 lk bN hO hb2 l1 l2
  have H3:=Lib.hid (And.intro (H1.out.later hb3) bC)
  have HB3:=Lib.hid (HB1.out.trans (hb3.mono HB1.out.size))
  clear hb3 H1 HB1 bC
  have oc:=HX.out.inv.ok id c HC.out
  have hpa:(Lit.int .i64 c.1.pa).wf=true:=oc.wf.1.2.1
  have hnamed:=may_named oc.may
  have hpne:c.1.pa≠id:=by rw [oc.id] at hnamed;exact fun e=>hnamed.2.2.2.2 e.symm
  have HN:=Lib.hid hnamed
  clear oc hnamed
  go_upto_region 6 with fail
  have l1:=H3.out.1.tree.blk.lt;have l2:=H3.out.1.box.lt
  have o1:=fun e=>(over_cell (w:=W3) (e:=e) (o:=1) l1).trans (H3.out.1.tree.blk.cell 1)
  have b0:=fun e=>(over_cell (w:=W3) (e:=e) (o:=0) l2).trans (H3.out.1.box.cell 0)
  simp only [lTA,lCZ,lCS] at o1 b0
  have lk:=fun e=>((HX.out.later HB3.out).later (over_below W3 e)).lookU hid
  obtain⟨av,cv,hv⟩:=owns_sliceH (HX.out.rows id)
  rw [hv] at lk
  obtain⟨nk,hnk⟩:∃ n,(kids M id).length=n:=⟨_,rfl⟩
  rw [hnk] at lk
  have hkl:=kids_len M id
  have hfew:=HX.out.inv.few
  have hnk64:nk≤64:=by omega
  have HNK:=Lib.hid hnk
  clear hv hnk hkl hfew
  refine wp_region_over (by kernel_rfl) (by kernel_rfl) ?_
  repeat (first | go_big_quiet_skip | (go_big_quiet_want;go_big_quiet_op;go_big_quiet_on))
  refine wpQuiet_nil ?_
  rintro W4 ⟨e4,he4⟩
  have hb4:=over_below W3 e4
  rw [← he4] at hb4
  clear he4 o1 b0 l1 l2 lk
  have H4:=Lib.hid (And.intro (H3.out.1.later hb4) (H3.out.2.below hb4 H3.out.2.lt))
  have HB4:=Lib.hid (HB3.out.trans (hb4.mono HB3.out.size))
  clear hb4 H3 HB3
  by_cases hk0:0 < nk
  ·have HR:=Lib.hid (show dropM M id=(161,M) by unfold dropM;rw [HC.out];dsimp only;rw [if_neg (by intro e;have:=HNK.out;rw [e] at this;simp at this;omega)])
   go_wp2_with fail
   go_ret
   exact ActW.same HX.out HB4.out rfl HR.out
  ·have hkn:kids M id=[]:=List.eq_nil_of_length_eq_zero (by rw [HNK.out];omega)
   have HR:=Lib.hid (And.intro (show dropM M id=(0,delM M id) by unfold dropM;rw [HC.out];dsimp only;rw [if_pos hkn]) hkn)
   clear hkn
   go_upto_region 8 with fail
   have l1:=H4.out.1.tree.blk.lt;have l2:=H4.out.1.box.lt
   have o0:=fun e=>(over_cell (w:=W4) (e:=e) (o:=0) l1).trans (H4.out.1.tree.blk.cell 0)
   have b0:=fun e=>(over_cell (w:=W4) (e:=e) (o:=0) l2).trans (H4.out.1.box.cell 0)
   simp only [lTA,lCZ,lCS] at o0 b0
   refine wp_region_over_tail 5 (by kernel_rfl) (by kernel_rfl) ?_
   simp only [List.take_succ_cons,List.take_zero,List.drop_succ_cons,List.drop_zero]
   repeat (first | go_big_quiet_skip | (go_big_quiet_want;go_big_quiet_op;go_big_quiet_on))
   refine wpQuiet_nil ?_
   rintro W5 ⟨e5,he5⟩
   have hb5:=over_below W4 e5
   rw [← he5] at hb5
   clear he5 o0 b0 l1 l2
   have h5:=H4.out.1.later hb5
   have hC5:=H4.out.2.below hb5 H4.out.2.lt
   obtain⟨W6,hr6,hm6,ht6⟩:=h5.tree.all.drop (T:=98) (E:=107) (k:=id) Tryz.underlying3 Tryz.underlying98 hid 0
   rw [del_map] at hm6
   have H6:=Lib.hid (And.intro (h5.all_turn (.inl rfl) hm6 ht6.grown) (hC5.grown ht6.grown (by simpa using blk_map hC5 h5.tree.all)))
   clear h5 hC5 hb5 hm6 ht6 H4 HB4
   go_upto_region 9 with fail
   clear hr6
   have l1:=H6.out.1.tree.blk.lt;have l2:=H6.out.1.box.lt
   have o1:=fun e=>(over_cell (w:=W6) (e:=e) (o:=1) l1).trans (H6.out.1.tree.blk.cell 1)
   have b0:=fun e=>(over_cell (w:=W6) (e:=e) (o:=0) l2).trans (H6.out.1.box.cell 0)
   simp only [lTA,lCZ,lCS] at o1 b0
   refine wp_region_over_tail 5 (by kernel_rfl) (by kernel_rfl) ?_
   simp only [List.take_succ_cons,List.take_zero,List.drop_succ_cons,List.drop_zero]
   repeat (first | go_big_quiet_skip | (go_big_quiet_want;go_big_quiet_op;go_big_quiet_on))
   refine wpQuiet_nil ?_
   rintro W7 ⟨e7,he7⟩
   have hb7:=over_below W6 e7
   rw [← he7] at hb7
   clear he7 o1 b0 l1 l2
   have h7:=H6.out.1.later hb7
   have hC7:=H6.out.2.below hb7 H6.out.2.lt
   obtain⟨W8,hr8,hm8,ht8⟩:=h7.tree.und.drop (T:=99) (E:=51) (k:=id) Tryz.underlying3 Tryz.underlying99 hid 0
   have h8:=h7.und_turn (.inr (.inl rfl)) hm8 ht8.grown
   have h8':ActY (own ma mu U) w W8 base g ma mu (delM U id) (delM M id) (upd (rowV U) id (.slice none 0 0)) (kids M) 3 #[.int .i64 id]:=⟨h8.tree.row_nil HR.out.2,h8.box,h8.fr⟩
   have H8:=Lib.hid (And.intro h8' (hC7.grown ht8.grown (by simpa using blk_map hC7 h7.tree.und)))
   clear h7 hC7 hb7 hm8 ht8 h8 h8' H6
   go_upto_region 10 with fail
   clear hr8
   obtain⟨nl,hnl⟩:∃ l,((kids M c.1.pa).filter fun x=>!decide (x=id))=l:=⟨_,rfl⟩
   have HNL:=Lib.hid hnl
   clear hnl
   obtain⟨v0,hv0⟩:∃ v,rowV U c.1.pa=v:=⟨_,rfl⟩
   have hv0':(upd (rowV U) id (.slice none 0 0)) c.1.pa=v0:=by unfold upd;rw [if_neg hpne];exact hv0
   have hv0'':rowV (delM U id) c.1.pa=v0:=by rw [rowV_del];exact hv0'
   have HV:=Lib.hid (And.intro hv0 (And.intro hv0' hv0''))
   clear hv0 hv0' hv0''
   have hbl:base≤W8.heap.size:=Nat.le_trans HX.out.gb (Nat.le_of_lt (Nat.lt_of_lt_of_le HX.out.blk.lt H8.out.1.fr.size))
   have hcs:=cutW_size hbl
   refine wp_region_keep (w:=cutW W8 base) (ws:=W8) 17 1 [3,6,10,13,14,16] [] [(3,fun u W'=>u=.map (some mu)),(6,fun u W'=>u=.int .i64 c.1.pa),(10,fun u W'=>u=.map (some mu)),(13,fun u W'=>u=.int .i64 c.1.pa),(14,fun u W'=>u=v0),(16,fun u W'=>(ActY (own ma mu U) w W' base g ma mu (delM U id) (delM M id) (upd (upd (rowV U) id (.slice none 0 0)) c.1.pa u) (upd (kids M) c.1.pa nl) 3 #[.int .i64 id]∧Blk W' B 107 #[.int .i64 c.1.id,.int .i64 c.1.pa,.bool c.1.lf,.int .u64 c.1.r.1,.int .u64 c.1.r.2.1,.int .u64 c.1.r.2.2,.int .u64 c.1.s.1,.int .u64 c.1.s.2.1,.int .u64 c.1.s.2.2,.int .u64 c.1.u.1,.int .u64 c.1.u.2.1,.int .u64 c.1.u.2.2,.int .i64 c.1.pk,.int .i64 c.1.by_,.int .i64 c.2])∧u.ownBlock=v0.ownBlock)] [] [16] [3,6,10,13,14] rfl (by decide) (by decide) (below_cut hbl (Below.refl _ _)) (J:=fun W=>ActY (own ma mu U) w W base g ma mu (delM U id) (delM M id) (upd (rowV U) id (.slice none 0 0)) (kids M) 3 #[.int .i64 id]∧Blk W B 107 #[.int .i64 c.1.id,.int .i64 c.1.pa,.bool c.1.lf,.int .u64 c.1.r.1,.int .u64 c.1.r.2.1,.int .u64 c.1.r.2.2,.int .u64 c.1.s.1,.int .u64 c.1.s.2.1,.int .u64 c.1.s.2.2,.int .u64 c.1.u.1,.int .u64 c.1.u.2.1,.int .u64 c.1.u.2.2,.int .i64 c.1.pk,.int .i64 c.1.by_,.int .i64 c.2]) (jend:=16) H8.out (fun W W' h hb=>⟨h.1.later hb,h.2.below hb h.2.lt⟩) (.inr (by kernel_rfl)) (JK:=fun W=>Blk W g 101 #[.map (some ma),.map (some mu)]∧Blk W w.heap.size 3 #[.int .i64 id]∧Blk W B 107 #[.int .i64 c.1.id,.int .i64 c.1.pa,.bool c.1.lf,.int .u64 c.1.r.1,.int .u64 c.1.r.2.1,.int .u64 c.1.r.2.2,.int .u64 c.1.s.1,.int .u64 c.1.s.2.1,.int .u64 c.1.s.2.2,.int .u64 c.1.u.1,.int .u64 c.1.u.2.1,.int .u64 c.1.u.2.2,.int .i64 c.1.pk,.int .i64 c.1.by_,.int .i64 c.2]∧w.heap.size≤W.heap.size) ⟨H8.out.1.tree.blk,H8.out.1.box,H8.out.2,H8.out.1.fr.size⟩ (fun W W' h hb=>⟨h.1.below hb h.1.lt,h.2.1.below hb h.2.1.lt,h.2.2.1.below hb h.2.2.1.lt,Nat.le_trans h.2.2.2 hb.size⟩) (fun p hp hh v W hT=>by simp only [List.mem_cons,List.not_mem_nil,or_false] at hp;rcases hp with rfl | rfl | rfl | rfl | rfl | rfl <;> first | exact⟨hT.1.1.tree.blk,hT.1.1.box,hT.1.2,hT.1.1.fr.size⟩ | simp at hh) (by kernel_rfl) (by kernel_rfl) (by kernel_rfl) (by kernel_rfl) (by kernel_rfl) (fun _ _ _ _ _ h=>h) ⟨fun v W1 W2 h hb=>h,fun v W1 W2 h hb=>h,fun v W1 W2 h hb=>h,fun v W1 W2 h hb=>h,fun v W1 W2 h hb=>h,fun v W1 W2 h hb=>⟨⟨h.1.1.later hb,h.1.2.below hb h.1.2.lt⟩,h.2⟩,trivial⟩ ⟨fun _ v W1 W2 h=>h,fun _ v W1 W2 h=>h,fun _ v W1 W2 h=>h,fun _ v W1 W2 h=>h,fun _ v W1 W2 h=>h,fun h=>by simp at h,trivial⟩ ?_
   intro LL hL
   have HL:=Lib.hid hL
   clear hL
   simp only [List.take_succ_cons,List.take_zero,putL]
   iterate 17 (first | refine wpHead_skip (by decide) ?_ | (refine wpHead_step (by decide) (fun K hK=>?_);go_simp;refine hK _ ?_;clear hK K))
   refine wpHead_nil (HL.out _ ⟨?_,?_,?_,?_,?_,?_,trivial⟩ ?_)
   ·intro vs W9 hb9 hf hj hk
    clear HL hj hf
    have x0:=hk.1.cell 1
    simp only [lTA,lCZ,lCS] at x0
    change TStep _ _ _ (Act.put (Act.put (Act.put (Act.put (Act.put (Act.put _ (some 43) (vs 3)) (some 46) (vs 6)) (some 50) (vs 10)) (some 53) (vs 13)) (some 54) (vs 14)) (some 56) (vs 16)) _ _
    refine tstep_yes (by kernel_rfl) ?_
    go_simp
    exact Below.refl _ _
   ·intro vs W9 hb9 hf hj hk
    clear HL hj hf
    have x0:=hk.2.2.1.cell 1
    simp only [lTA,lCZ,lCS] at x0
    change TStep _ _ _ (Act.put (Act.put (Act.put (Act.put (Act.put (Act.put _ (some 43) (vs 3)) (some 46) (vs 6)) (some 50) (vs 10)) (some 53) (vs 13)) (some 54) (vs 14)) (some 56) (vs 16)) _ _
    refine tstep_yes (by kernel_rfl) ?_
    go_simp
    exact Below.refl _ _
   ·intro vs W9 hb9 hf hj hk
    clear HL hj hf
    have x0:=hk.1.cell 1
    simp only [lTA,lCZ,lCS] at x0
    change TStep _ _ _ (Act.put (Act.put (Act.put (Act.put (Act.put (Act.put _ (some 43) (vs 3)) (some 46) (vs 6)) (some 50) (vs 10)) (some 53) (vs 13)) (some 54) (vs 14)) (some 56) (vs 16)) _ _
    refine tstep_yes (by kernel_rfl) ?_
    go_simp
    exact Below.refl _ _
   ·intro vs W9 hb9 hf hj hk
    clear HL hj hf
    have x0:=hk.2.2.1.cell 1
    simp only [lTA,lCZ,lCS] at x0
    change TStep _ _ _ (Act.put (Act.put (Act.put (Act.put (Act.put (Act.put _ (some 43) (vs 3)) (some 46) (vs 6)) (some 50) (vs 10)) (some 53) (vs 13)) (some 54) (vs 14)) (some 56) (vs 16)) _ _
    refine tstep_yes (by kernel_rfl) ?_
    go_simp
    exact Below.refl _ _
   ·intro vs W9 hb9 hf hj hk
    have hf:=fits_cast (q:=(vs 10=.map (some mu))∧(vs 13=.int .i64 c.1.pa)∧True) hf (by kernel_rfl)
    clear HL
    have hjj:=hj (.inr ⟨by decide,by kernel_rfl⟩)
    have lk:=hjj.1.tree.und.look (k:=c.1.pa) (E:=51) (T:=99) (z:=.slice none 0 0) Tryz.underlying3 Tryz.underlying99 (by exact Tryz.zeroValue51 _) hpa
    change (Instr.lookup _ _ _ _).run _ _=.ok (rowV (delM U id) c.1.pa) _ at lk
    rw [HV.out.2.2] at lk
    change TStep _ _ _ (Act.put (Act.put (Act.put (Act.put (Act.put (Act.put _ (some 43) (vs 3)) (some 46) (vs 6)) (some 50) (vs 10)) (some 53) (vs 13)) (some 54) (vs 14)) (some 56) (vs 16)) _ _
    rw [hf.1,hf.2.1]
    refine tstep_yes (by kernel_rfl) ?_
    clear hf hj hjj
    go_simp
    exact Below.refl _ _
   ·intro vs W9 hb9 hf hj hk
    have hf:=fits_cast (q:=(vs 14=v0)∧True) hf (by kernel_rfl)
    clear HL
    have hjj:=hj (.inl rfl)
    change HStep _ _ _ _ (Act.put (Act.put (Act.put (Act.put (Act.put (Act.put _ (some 43) (vs 3)) (some 46) (vs 6)) (some 50) (vs 10)) (some 53) (vs 13)) (some 54) (vs 14)) (some 56) (vs 16)) _ _
    rw [hf.1]
    have hrow:=hjj.1.tree.rows c.1.pa
    have hlt:∀ b,v0.ownBlock=some b→b < w.heap.size:=fun b hb=>((HX.out.rows c.1.pa).lt b (by rw [HV.out.1];exact hb)).2
    rw [HV.out.2.1] at hrow
    have hkl:=kids_len M c.1.pa
    have hfew:=HX.out.inv.few
    have hmem:id∈kids M c.1.pa:=(mem_kids HX.out.inv.rise).2 ⟨c,HC.out,rfl⟩
    have hne2:v0.ownBlock≠some w.heap.size:=fun e=>by have:=hlt _ e;omega
    have hdel0:=delf_any base v0 (kids M c.1.pa) id w.heap.size W9 hrow (by omega) (by intro e;rw [e] at hmem;simp at hmem) hk.2.1 hne2
    rw [HNL.out] at hdel0
    have hdel:=hdel0.mono (R':=fun e w'=>∃ v',e=.returned v'∧Below (cutW W8 base).heap.size (cutW W8 base) w'∧(ActY (own ma mu U) w w' base g ma mu (delM U id) (delM M id) (upd (upd (rowV U) id (.slice none 0 0)) c.1.pa v') (upd (kids M) c.1.pa nl) 3 #[.int .i64 id]∧Blk w' B 107 #[.int .i64 c.1.id,.int .i64 c.1.pa,.bool c.1.lf,.int .u64 c.1.r.1,.int .u64 c.1.r.2.1,.int .u64 c.1.r.2.2,.int .u64 c.1.s.1,.int .u64 c.1.s.2.1,.int .u64 c.1.s.2.2,.int .u64 c.1.u.1,.int .u64 c.1.u.2.1,.int .u64 c.1.u.2.2,.int .i64 c.1.pk,.int .i64 c.1.by_,.int .i64 c.2])∧v'.ownBlock=v0.ownBlock) (fun e w' ⟨v',he,ho,hg,hat0⟩=>⟨v',he,hb9.grown hg hb9.size (fun q e=>by rw [hcs];exact (hrow.lt q e).1),⟨hjj.1.row_new2 (by rw [HV.out.2.1];exact hne2) (fun b hb=>.inr (.inr ⟨c.1.pa,by rw [HV.out.1,← HV.out.2.1];exact hb⟩)) ho (by rw [HV.out.2.1];exact hg) (by rw [HV.out.2.1];exact (.inl hat0)),hjj.2.grown hg (fun e=>row_blkH hrow hjj.2 (by decide) e.symm)⟩,hat0⟩)
    refine hstep_yes (by kernel_rfl) ?_
    clear hdel0
    go_simp
    exact⟨rfl,hdel⟩
   ·intro vs W9 hb9 hk hf
    have hf:=fits_cast (q:=(vs 3=.map (some mu))∧(vs 6=.int .i64 c.1.pa)∧(vs 10=.map (some mu))∧(vs 13=.int .i64 c.1.pa)∧(vs 14=v0)∧((ActY (own ma mu U) w W9 base g ma mu (delM U id) (delM M id) (upd (upd (rowV U) id (.slice none 0 0)) c.1.pa (vs 16)) (upd (kids M) c.1.pa nl) 3 #[.int .i64 id]∧Blk W9 B 107 #[.int .i64 c.1.id,.int .i64 c.1.pa,.bool c.1.lf,.int .u64 c.1.r.1,.int .u64 c.1.r.2.1,.int .u64 c.1.r.2.2,.int .u64 c.1.s.1,.int .u64 c.1.s.2.1,.int .u64 c.1.s.2.2,.int .u64 c.1.u.1,.int .u64 c.1.u.2.1,.int .u64 c.1.u.2.2,.int .i64 c.1.pk,.int .i64 c.1.by_,.int .i64 c.2])∧(vs 16).ownBlock=v0.ownBlock)∧True) hf (by kernel_rfl)
    clear HL
    change wpList _ _ _ _ (Act.put (Act.put (Act.put (Act.put (Act.put (Act.put _ (some 43) (vs 3)) (some 46) (vs 6)) (some 50) (vs 10)) (some 53) (vs 13)) (some 54) (vs 14)) (some 56) (vs 16)) _
    rw [hf.1,hf.2.1]
    have h9:=hf.2.2.2.2.2.1
    generalize vs 16=u at h9 ⊢
    obtain⟨W10,hr,hm,ht⟩:=h9.1.1.tree.und.store (T:=99) (E:=51) (k:=c.1.pa) Tryz.underlying3 Tryz.underlying99 hpa (by have:=HX.out.few;have:=del_length id U;unfold maxLen;omega) u
    have h10:=h9.1.1.und_turn (.inr (.inl rfl)) hm ht.grown
    have HF:=Lib.hid (And.intro h10 h9.2)
    clear hf h9 hm ht h10 hb9 hk
    simp only [List.drop_succ_cons,List.drop_zero,List.take_succ_cons,List.take_zero]
    go_wp2_with fail
    go_ret
    have hinv:=HX.out.inv.drop id
    have hnamed:=HN.out
    refine⟨putM (delM U id) c.1.pa u,by rw [HR.out.1];rfl,?_,HF.out.1.fr,?_⟩
    ·rw [HR.out.1] at hinv ⊢
     have htree:=HF.out.1.tree
     have e1:=kids_del_upd HX.out.inv.rise HC.out
     rw [HNL.out] at e1
     rw [← e1,← rowV_del,← rowV_put] at htree
     dsimp only
     refine htree.x HX.out.gb HX.out.ab HX.out.ub (fun q hq=>?_) hinv
     rcases putM_mem hq with rfl | hq
     ·exact⟨hnamed.2.2.1,hnamed.2.2.2.1⟩
     ·exact HX.out.keys q (List.mem_filter.1 hq).1
    ·intro b hb
     rcases hb with rfl | rfl | ⟨k,hk⟩
     ·exact .inl (.inl rfl)
     ·exact .inl (.inr (.inl rfl))
     ·rw [rowV_put,rowV_del] at hk
      unfold upd at hk
      by_cases e:k=c.1.pa
      ·rw [if_pos e] at hk
       exact .inl (.inr (.inr ⟨c.1.pa,by rw [HV.out.1,← HF.out.2];exact hk⟩))
      ·rw [if_neg e] at hk
       by_cases e2:k=id
       ·rw [if_pos e2] at hk;cases hk
       ·rw [if_neg e2] at hk
        exact .inl (.inr (.inr ⟨k,hk⟩))
end
end Go.Proofs.YtmmeopjemkjllaaGreat
