/-
  A tree of classes: Drop. (Printed by wip/mkhdrop.py.)
-/
import Derived.Test.YtclhhegfffccgaaHDel
import Derived.Test.YtclhhegfffccgaaHAdd
namespace Go.Proofs.Ytclhhegfffccgaa
set_option linter.unusedVariables false
open Go.RowKit Go.Maps
attribute [local go_sem ↓] Go.wp_at_zero Go.wp_at_succ
attribute [local go_sem] quietR quietAtR quietUponR midAt midUpon
attribute [local irreducible] TStep HStep

theorem TreeY.row_nil {W : World} {base g ma mu : Nat} {U : List (Int × Value)} {M : Mp} {rv : Int → Value} {kd : Int → List Int} (h : TreeY W base g ma mu U M rv kd) {k0 : Int} (hk : kd k0 = []) : TreeY W base g ma mu U M (upd rv k0 (.slice none 0 0)) kd := by
  refine ⟨h.blk, h.all, h.und, fun k => ?_, fun k k' b hne h1 h2 => ?_, h.ne⟩
  · unfold upd
    by_cases e : k = k0
    · rw [if_pos e, e, hk]; exact World.ownsRow_nil _ _ _ _
    · rw [if_neg e]; exact h.rows k
  · unfold upd at h1 h2
    by_cases e : k = k0
    · rw [if_pos e] at h1; cases h1
    · rw [if_neg e] at h1
      by_cases e2 : k' = k0
      · rw [if_pos e2] at h2; cases h2
      · rw [if_neg e2] at h2; exact h.apart k k' b hne h1 h2
theorem ActY.row_new2 {S : Nat → Prop} {w W W' : World} {base g ma mu : Nat} {U : List (Int × Value)} {M : Mp} {rv : Int → Value} {kd : Int → List Int} {t : TypeId} {cs : Array Value} (h : ActY S w W base g ma mu U M rv kd t cs) {pa : Int} {v' : Value} {l' : List Int} (ht : (rv pa).ownBlock ≠ some w.heap.size) (hS : ∀ b, (rv pa).ownBlock = some b → S b) (ho : W'.ownsRow base 3 1 v' l'.length (l'.map (Value.int .i64))) (hg : W.grownBy W' (rv pa).ownBlock) (hat : v'.ownBlock = (rv pa).ownBlock ∨ v'.ownBlock = some W.heap.size ∨ v'.ownBlock = none) :
    ActY S w W' base g ma mu U M (upd rv pa v') (upd kd pa l') t cs :=
  ⟨h.tree.row_new ho hg hat, h.box.grown hg (fun e => ht e.symm), h.fr.trans (Fr.of_grown hg hS)⟩
theorem kids_del_upd {M : Mp} (hr : Rising M) {id : Int} {c : Cl} (hl : lookM M id = some c) : kids (delM M id) = upd (kids M) c.1.pa ((kids M c.1.pa).filter fun x => !decide (x = id)) := by
  funext j
  unfold upd
  rw [kids_del]
  by_cases e : j = c.1.pa
  · rw [if_pos e, e]
  · rw [if_neg e]
    refine List.filter_eq_self.2 fun x hx => ?_
    obtain ⟨c', h1, h2⟩ := (mem_kids hr).1 hx
    have hne : x ≠ id := by
      rintro rfl
      rw [hl] at h1
      cases h1
      exact e h2.symm
    simpa using hne
theorem setL_all (vs : List Value) (cur : Array Value) (h : vs.length = cur.size) : setL cur 0 vs = vs.toArray := by
  apply Array.ext_getElem?
  intro k
  by_cases hk : k < cur.size
  · rw [setL_at vs 0 cur k hk, if_pos (by omega), List.getElem?_toArray]; rfl
  · rw [Array.getElem?_eq_none (by rw [setL_size]; omega), Array.getElem?_eq_none (by simp; omega)]
theorem owns_sliceH {w : World} {base sz n : Nat} {e : TypeId} {v : Value} {xs : List Value} (h : w.ownsRow base e sz v n xs) : ∃ a cap, v = .slice a n cap := by
  rcases h.2 with ⟨rfl, rfl⟩ | ⟨g, c, cur, rfl, _⟩
  · exact ⟨none, 0, rfl⟩
  · exact ⟨_, _, rfl⟩

set_option maxRecDepth 100000 in
set_option maxHeartbeats 8000000 in
theorem tdrop_any (id : Int) (base g ma mu : Nat) (U : List (Int × Value)) (M : Mp) (w : World) (hid : (Lit.int .i64 id).wf = true) (h : TreeX w base g ma mu U M) :
    Calls Try.prog 28 #[.pointer (some ⟨g, 0, none⟩), .int .i64 id] w (ActW w base g ma mu U (dropM M id)) := by
  have hb0 := (Below.refl w.heap.size w).alloc (Nat.le_refl _) (.cells #[.int .i64 id] 3)
  have h0 : ActY (own ma mu U) w (w.alloc (.cells #[.int .i64 id] 3)) base g ma mu U M (rowV U) (kids M) 3 #[.int .i64 id] := ⟨(h.later hb0).y, Blk.new w _ _, Fr.of_below hb0⟩
  have hn := htnone_no g ma _ _ (h.later hb0).blk
  have H0 := Lib.hid h0; have HX := Lib.hid h; have HB0 := Lib.hid hb0
  clear h h0 hb0
  go_enter Try.func28, Try.ntmps28
  go_wp2_with fail
  refine hn.mono ?_
  clear hn
  rintro e w1 ⟨rfl, rfl⟩
  go_upto_region 3 with fail
  generalize w.alloc (.cells #[.int .i64 id] 3) = w1 at H0 HB0 ⊢
  have H1 := H0; have HB1 := HB0
  clear H0 HB0
  have l1 := H1.out.tree.blk.lt; have l2 := H1.out.box.lt
  have o0 := fun e => (over_cell (w := w1) (e := e) (o := 0) l1).trans (H1.out.tree.blk.cell 0)
  have b0 := fun e => (over_cell (w := w1) (e := e) (o := 0) l2).trans (H1.out.box.cell 0)
  simp only [List.getElem?_toArray, List.getElem?_cons_zero, List.getElem?_cons_succ] at o0 b0
  have lk := fun e => ((HX.out.later HB1.out).later (over_below w1 e)).look hid
  cases hlk : lookM M id with
  | none =>
    rw [hlk] at lk
    unfold clV clC cl0 sp0 at lk
    dsimp only [Option.getD, Option.isSome] at lk
    have HC := Lib.hid hlk
    clear hlk
    refine wp_region_alloc (w := w1) 9 _ _ 5 (.cells #[.int .i64 0, .int .i64 0, .bool false, .int .u64 0, .int .u64 0, .int .u64 0, .int .u64 0, .int .u64 0, .int .u64 0, .int .u64 0, .int .u64 0, .int .u64 0, .int .i64 0, .int .i64 0, .int .i64 0] 84) (by kernel_rfl) rfl rfl rfl (fun _ _ => by kernel_rfl) (by kernel_rfl) ?_
    simp only [List.take_succ_cons, List.take_zero, List.drop_succ_cons, List.drop_zero]
    repeat (refine wpQuietR_step (fun K hK => ?_); go_simp; (refine hK _ ?_; clear hK K))
    refine wpQuietR_nil ?_
    intro B W2 hB hb2 hO
    have bN : Blk W2 B 84 #[.int .i64 0, .int .i64 0, .bool false, .int .u64 0, .int .u64 0, .int .u64 0, .int .u64 0, .int .u64 0, .int .u64 0, .int .u64 0, .int .u64 0, .int .u64 0, .int .i64 0, .int .i64 0, .int .i64 0] := hO
    have hb3 : Below w1.heap.size w1 (W2.setCells B 0 [.int .i64 0, .int .i64 0, .bool false, .int .u64 0, .int .u64 0, .int .u64 0, .int .u64 0, .int .u64 0, .int .u64 0, .int .u64 0, .int .u64 0, .int .u64 0, .int .i64 0, .int .i64 0, .int .i64 0]) := hb2.grown (grown_setCells B _ _ W2) hb2.size (fun q e => by cases e; exact hB)
    refine plain_store 84 _ _ B [.int .i64 0, .int .i64 0, .bool false, .int .u64 0, .int .u64 0, .int .u64 0, .int .u64 0, .int .u64 0, .int .u64 0, .int .u64 0, .int .u64 0, .int .u64 0, .int .i64 0, .int .i64 0, .int .i64 0] 84 #[.int .i64 0, .int .i64 0, .bool false, .int .u64 0, .int .u64 0, .int .u64 0, .int .u64 0, .int .u64 0, .int .u64 0, .int .u64 0, .int .u64 0, .int .u64 0, .int .i64 0, .int .i64 0, .int .i64 0] bN (by simp) rfl (by kernel_rfl) (by kernel_rfl) (by kernel_rfl) (by kernel_rfl) ⟨hb3, ?_⟩
    generalize W2.setCells B 0 [.int .i64 0, .int .i64 0, .bool false, .int .u64 0, .int .u64 0, .int .u64 0, .int .u64 0, .int .u64 0, .int .u64 0, .int .u64 0, .int .u64 0, .int .u64 0, .int .i64 0, .int .i64 0, .int .i64 0] = W3 at hb3 ⊢
    clear o0 b0 lk bN hO hb2 l1 l2
    have HB3 := Lib.hid (HB1.out.trans (hb3.mono HB1.out.size))
    clear hb3 H1 HB1
    go_wp2_with fail
    go_ret
    exact ActW.same HX.out HB3.out rfl (by unfold dropM; rw [HC.out])
  | some c =>
    rw [hlk] at lk
    unfold clV clC at lk
    dsimp only [Option.getD, Option.isSome] at lk
    have HC := Lib.hid hlk
    clear hlk
    refine wp_region_alloc (w := w1) 9 _ _ 5 (.cells #[.int .i64 0, .int .i64 0, .bool false, .int .u64 0, .int .u64 0, .int .u64 0, .int .u64 0, .int .u64 0, .int .u64 0, .int .u64 0, .int .u64 0, .int .u64 0, .int .i64 0, .int .i64 0, .int .i64 0] 84) (by kernel_rfl) rfl rfl rfl (fun _ _ => by kernel_rfl) (by kernel_rfl) ?_
    simp only [List.take_succ_cons, List.take_zero, List.drop_succ_cons, List.drop_zero]
    repeat (refine wpQuietR_step (fun K hK => ?_); go_simp; (refine hK _ ?_; clear hK K))
    refine wpQuietR_nil ?_
    intro B W2 hB hb2 hO
    have bN : Blk W2 B 84 #[.int .i64 0, .int .i64 0, .bool false, .int .u64 0, .int .u64 0, .int .u64 0, .int .u64 0, .int .u64 0, .int .u64 0, .int .u64 0, .int .u64 0, .int .u64 0, .int .i64 0, .int .i64 0, .int .i64 0] := hO
    have hb3 : Below w1.heap.size w1 (W2.setCells B 0 [.int .i64 c.1.id, .int .i64 c.1.pa, .bool c.1.lf, .int .u64 c.1.r.1, .int .u64 c.1.r.2.1, .int .u64 c.1.r.2.2, .int .u64 c.1.s.1, .int .u64 c.1.s.2.1, .int .u64 c.1.s.2.2, .int .u64 c.1.u.1, .int .u64 c.1.u.2.1, .int .u64 c.1.u.2.2, .int .i64 c.1.pk, .int .i64 c.1.by_, .int .i64 c.2]) := hb2.grown (grown_setCells B _ _ W2) hb2.size (fun q e => by cases e; exact hB)
    have bC := bN.setCells [.int .i64 c.1.id, .int .i64 c.1.pa, .bool c.1.lf, .int .u64 c.1.r.1, .int .u64 c.1.r.2.1, .int .u64 c.1.r.2.2, .int .u64 c.1.s.1, .int .u64 c.1.s.2.1, .int .u64 c.1.s.2.2, .int .u64 c.1.u.1, .int .u64 c.1.u.2.1, .int .u64 c.1.u.2.2, .int .i64 c.1.pk, .int .i64 c.1.by_, .int .i64 c.2] 0
    rw [setL_all _ _ (by simp)] at bC
    refine plain_store 84 _ _ B [.int .i64 c.1.id, .int .i64 c.1.pa, .bool c.1.lf, .int .u64 c.1.r.1, .int .u64 c.1.r.2.1, .int .u64 c.1.r.2.2, .int .u64 c.1.s.1, .int .u64 c.1.s.2.1, .int .u64 c.1.s.2.2, .int .u64 c.1.u.1, .int .u64 c.1.u.2.1, .int .u64 c.1.u.2.2, .int .i64 c.1.pk, .int .i64 c.1.by_, .int .i64 c.2] 84 #[.int .i64 0, .int .i64 0, .bool false, .int .u64 0, .int .u64 0, .int .u64 0, .int .u64 0, .int .u64 0, .int .u64 0, .int .u64 0, .int .u64 0, .int .u64 0, .int .i64 0, .int .i64 0, .int .i64 0] bN (by simp) rfl (by kernel_rfl) (by kernel_rfl) (by kernel_rfl) (by kernel_rfl) ⟨hb3, ?_⟩
    generalize W2.setCells B 0 [.int .i64 c.1.id, .int .i64 c.1.pa, .bool c.1.lf, .int .u64 c.1.r.1, .int .u64 c.1.r.2.1, .int .u64 c.1.r.2.2, .int .u64 c.1.s.1, .int .u64 c.1.s.2.1, .int .u64 c.1.s.2.2, .int .u64 c.1.u.1, .int .u64 c.1.u.2.1, .int .u64 c.1.u.2.2, .int .i64 c.1.pk, .int .i64 c.1.by_, .int .i64 c.2] = W3 at hb3 bC ⊢
    clear o0 b0 lk bN hO hb2 l1 l2
    have H3 := Lib.hid (And.intro (H1.out.later hb3) bC)
    have HB3 := Lib.hid (HB1.out.trans (hb3.mono HB1.out.size))
    clear hb3 H1 HB1 bC
    have oc := HX.out.inv.ok id c HC.out
    have hpa : (Lit.int .i64 c.1.pa).wf = true := oc.wf.1.2.1
    have hnamed := may_named oc.may
    have hpne : c.1.pa ≠ id := by rw [oc.id] at hnamed; exact fun e => hnamed.2.2.2.2 e.symm
    have HN := Lib.hid hnamed
    clear oc hnamed
    go_upto_region 6 with fail
    have l1 := H3.out.1.tree.blk.lt; have l2 := H3.out.1.box.lt
    have o1 := fun e => (over_cell (w := W3) (e := e) (o := 1) l1).trans (H3.out.1.tree.blk.cell 1)
    have b0 := fun e => (over_cell (w := W3) (e := e) (o := 0) l2).trans (H3.out.1.box.cell 0)
    simp only [List.getElem?_toArray, List.getElem?_cons_zero, List.getElem?_cons_succ] at o1 b0
    have lk := fun e => ((HX.out.later HB3.out).later (over_below W3 e)).lookU hid
    obtain ⟨av, cv, hv⟩ := owns_sliceH (HX.out.rows id)
    rw [hv] at lk
    obtain ⟨nk, hnk⟩ : ∃ n, (kids M id).length = n := ⟨_, rfl⟩
    rw [hnk] at lk
    have hkl := kids_len M id
    have hfew := HX.out.inv.few
    have hnk64 : nk ≤ 64 := by omega
    have HNK := Lib.hid hnk
    clear hv hnk hkl hfew
    refine wp_region_over (by kernel_rfl) (by kernel_rfl) ?_
    repeat (first | go_big_quiet_skip | (go_big_quiet_want; go_big_quiet_op; go_big_quiet_on))
    refine wpQuiet_nil ?_
    rintro W4 ⟨e4, he4⟩
    have hb4 := over_below W3 e4
    rw [← he4] at hb4
    clear he4 o1 b0 l1 l2 lk
    have H4 := Lib.hid (And.intro (H3.out.1.later hb4) (H3.out.2.below hb4 H3.out.2.lt))
    have HB4 := Lib.hid (HB3.out.trans (hb4.mono HB3.out.size))
    clear hb4 H3 HB3
    by_cases hk0 : 0 < nk
    · have HR := Lib.hid (show dropM M id = (161, M) by unfold dropM; rw [HC.out]; dsimp only; rw [if_neg (by intro e; have := HNK.out; rw [e] at this; simp at this; omega)])
      go_wp2_with fail
      go_ret
      exact ActW.same HX.out HB4.out rfl HR.out
    · have hkn : kids M id = [] := List.eq_nil_of_length_eq_zero (by rw [HNK.out]; omega)
      have HR := Lib.hid (And.intro (show dropM M id = (0, delM M id) by unfold dropM; rw [HC.out]; dsimp only; rw [if_pos hkn]) hkn)
      clear hkn
      go_upto_region 8 with fail
      have l1 := H4.out.1.tree.blk.lt; have l2 := H4.out.1.box.lt
      have o0 := fun e => (over_cell (w := W4) (e := e) (o := 0) l1).trans (H4.out.1.tree.blk.cell 0)
      have b0 := fun e => (over_cell (w := W4) (e := e) (o := 0) l2).trans (H4.out.1.box.cell 0)
      simp only [List.getElem?_toArray, List.getElem?_cons_zero, List.getElem?_cons_succ] at o0 b0
      refine wp_region_over_tail 5 (by kernel_rfl) (by kernel_rfl) ?_
      simp only [List.take_succ_cons, List.take_zero, List.drop_succ_cons, List.drop_zero]
      repeat (first | go_big_quiet_skip | (go_big_quiet_want; go_big_quiet_op; go_big_quiet_on))
      refine wpQuiet_nil ?_
      rintro W5 ⟨e5, he5⟩
      have hb5 := over_below W4 e5
      rw [← he5] at hb5
      clear he5 o0 b0 l1 l2
      have h5 := H4.out.1.later hb5
      have hC5 := H4.out.2.below hb5 H4.out.2.lt
      obtain ⟨W6, hr6, hm6, ht6⟩ := h5.tree.all.drop (T := 75) (E := 84) (k := id) Try.underlying3 Try.underlying75 hid 0
      rw [del_map] at hm6
      have H6 := Lib.hid (And.intro (h5.all_turn (.inl rfl) hm6 ht6.grown) (hC5.grown ht6.grown (by simpa using blk_map hC5 h5.tree.all)))
      clear h5 hC5 hb5 hm6 ht6 H4 HB4
      go_upto_region 9 with fail
      clear hr6
      have l1 := H6.out.1.tree.blk.lt; have l2 := H6.out.1.box.lt
      have o1 := fun e => (over_cell (w := W6) (e := e) (o := 1) l1).trans (H6.out.1.tree.blk.cell 1)
      have b0 := fun e => (over_cell (w := W6) (e := e) (o := 0) l2).trans (H6.out.1.box.cell 0)
      simp only [List.getElem?_toArray, List.getElem?_cons_zero, List.getElem?_cons_succ] at o1 b0
      refine wp_region_over_tail 5 (by kernel_rfl) (by kernel_rfl) ?_
      simp only [List.take_succ_cons, List.take_zero, List.drop_succ_cons, List.drop_zero]
      repeat (first | go_big_quiet_skip | (go_big_quiet_want; go_big_quiet_op; go_big_quiet_on))
      refine wpQuiet_nil ?_
      rintro W7 ⟨e7, he7⟩
      have hb7 := over_below W6 e7
      rw [← he7] at hb7
      clear he7 o1 b0 l1 l2
      have h7 := H6.out.1.later hb7
      have hC7 := H6.out.2.below hb7 H6.out.2.lt
      obtain ⟨W8, hr8, hm8, ht8⟩ := h7.tree.und.drop (T := 76) (E := 40) (k := id) Try.underlying3 Try.underlying76 hid 0
      have h8 := h7.und_turn (.inr (.inl rfl)) hm8 ht8.grown
      have h8' : ActY (own ma mu U) w W8 base g ma mu (delM U id) (delM M id) (upd (rowV U) id (.slice none 0 0)) (kids M) 3 #[.int .i64 id] := ⟨h8.tree.row_nil HR.out.2, h8.box, h8.fr⟩
      have H8 := Lib.hid (And.intro h8' (hC7.grown ht8.grown (by simpa using blk_map hC7 h7.tree.und)))
      clear h7 hC7 hb7 hm8 ht8 h8 h8' H6
      go_upto_region 10 with fail
      clear hr8
      obtain ⟨nl, hnl⟩ : ∃ l, ((kids M c.1.pa).filter fun x => !decide (x = id)) = l := ⟨_, rfl⟩
      have HNL := Lib.hid hnl
      clear hnl
      obtain ⟨v0, hv0⟩ : ∃ v, rowV U c.1.pa = v := ⟨_, rfl⟩
      have hv0' : (upd (rowV U) id (.slice none 0 0)) c.1.pa = v0 := by unfold upd; rw [if_neg hpne]; exact hv0
      have hv0'' : rowV (delM U id) c.1.pa = v0 := by rw [rowV_del]; exact hv0'
      have HV := Lib.hid (And.intro hv0 (And.intro hv0' hv0''))
      clear hv0 hv0' hv0''
      have hbl : base ≤ W8.heap.size := Nat.le_trans HX.out.gb (Nat.le_of_lt (Nat.lt_of_lt_of_le HX.out.blk.lt H8.out.1.fr.size))
      have hcs := cutW_size hbl
      refine wp_region_keep (w := cutW W8 base) (ws := W8) 17 1 [3, 6, 10, 13, 14, 16] [] [(3, fun u W' => u = .map (some mu)), (6, fun u W' => u = .int .i64 c.1.pa), (10, fun u W' => u = .map (some mu)), (13, fun u W' => u = .int .i64 c.1.pa), (14, fun u W' => u = v0), (16, fun u W' => (ActY (own ma mu U) w W' base g ma mu (delM U id) (delM M id) (upd (upd (rowV U) id (.slice none 0 0)) c.1.pa u) (upd (kids M) c.1.pa nl) 3 #[.int .i64 id] ∧ Blk W' B 84 #[.int .i64 c.1.id, .int .i64 c.1.pa, .bool c.1.lf, .int .u64 c.1.r.1, .int .u64 c.1.r.2.1, .int .u64 c.1.r.2.2, .int .u64 c.1.s.1, .int .u64 c.1.s.2.1, .int .u64 c.1.s.2.2, .int .u64 c.1.u.1, .int .u64 c.1.u.2.1, .int .u64 c.1.u.2.2, .int .i64 c.1.pk, .int .i64 c.1.by_, .int .i64 c.2]) ∧ u.ownBlock = v0.ownBlock)] [] [16] [3, 6, 10, 13, 14] rfl (by decide) (by decide) (below_cut hbl (Below.refl _ _)) (J := fun W => ActY (own ma mu U) w W base g ma mu (delM U id) (delM M id) (upd (rowV U) id (.slice none 0 0)) (kids M) 3 #[.int .i64 id] ∧ Blk W B 84 #[.int .i64 c.1.id, .int .i64 c.1.pa, .bool c.1.lf, .int .u64 c.1.r.1, .int .u64 c.1.r.2.1, .int .u64 c.1.r.2.2, .int .u64 c.1.s.1, .int .u64 c.1.s.2.1, .int .u64 c.1.s.2.2, .int .u64 c.1.u.1, .int .u64 c.1.u.2.1, .int .u64 c.1.u.2.2, .int .i64 c.1.pk, .int .i64 c.1.by_, .int .i64 c.2]) (jend := 16) H8.out (fun W W' h hb => ⟨h.1.later hb, h.2.below hb h.2.lt⟩) (.inr (by kernel_rfl)) (JK := fun W => Blk W g 78 #[.map (some ma), .map (some mu)] ∧ Blk W w.heap.size 3 #[.int .i64 id] ∧ Blk W B 84 #[.int .i64 c.1.id, .int .i64 c.1.pa, .bool c.1.lf, .int .u64 c.1.r.1, .int .u64 c.1.r.2.1, .int .u64 c.1.r.2.2, .int .u64 c.1.s.1, .int .u64 c.1.s.2.1, .int .u64 c.1.s.2.2, .int .u64 c.1.u.1, .int .u64 c.1.u.2.1, .int .u64 c.1.u.2.2, .int .i64 c.1.pk, .int .i64 c.1.by_, .int .i64 c.2] ∧ w.heap.size ≤ W.heap.size) ⟨H8.out.1.tree.blk, H8.out.1.box, H8.out.2, H8.out.1.fr.size⟩ (fun W W' h hb => ⟨h.1.below hb h.1.lt, h.2.1.below hb h.2.1.lt, h.2.2.1.below hb h.2.2.1.lt, Nat.le_trans h.2.2.2 hb.size⟩) (fun p hp hh v W hT => by simp only [List.mem_cons, List.not_mem_nil, or_false] at hp; rcases hp with rfl | rfl | rfl | rfl | rfl | rfl <;> first | exact ⟨hT.1.1.tree.blk, hT.1.1.box, hT.1.2, hT.1.1.fr.size⟩ | simp at hh) (by kernel_rfl) (by kernel_rfl) (by kernel_rfl) (by kernel_rfl) (by kernel_rfl) (fun _ _ _ _ _ h => h) ⟨fun v W1 W2 h hb => h, fun v W1 W2 h hb => h, fun v W1 W2 h hb => h, fun v W1 W2 h hb => h, fun v W1 W2 h hb => h, fun v W1 W2 h hb => ⟨⟨h.1.1.later hb, h.1.2.below hb h.1.2.lt⟩, h.2⟩, trivial⟩ ⟨fun _ v W1 W2 h => h, fun _ v W1 W2 h => h, fun _ v W1 W2 h => h, fun _ v W1 W2 h => h, fun _ v W1 W2 h => h, fun h => by simp at h, trivial⟩ ?_
      intro LL hL
      have HL := Lib.hid hL
      clear hL
      simp only [List.take_succ_cons, List.take_zero, putL]
      iterate 17 (first | refine wpHead_skip (by decide) ?_ | (refine wpHead_step (by decide) (fun K hK => ?_); go_simp; refine hK _ ?_; clear hK K))
      refine wpHead_nil (HL.out _ ⟨?_, ?_, ?_, ?_, ?_, ?_, trivial⟩ ?_)
      · intro vs W9 hb9 hf hj hk
        clear HL hj hf
        have x0 := hk.1.cell 1
        simp only [List.getElem?_toArray, List.getElem?_cons_zero, List.getElem?_cons_succ] at x0
        change TStep _ _ _ (Act.put (Act.put (Act.put (Act.put (Act.put (Act.put _ (some 43) (vs 3)) (some 46) (vs 6)) (some 50) (vs 10)) (some 53) (vs 13)) (some 54) (vs 14)) (some 56) (vs 16)) _ _
        refine tstep_yes (by kernel_rfl) ?_
        go_simp
        exact Below.refl _ _
      · intro vs W9 hb9 hf hj hk
        clear HL hj hf
        have x0 := hk.2.2.1.cell 1
        simp only [List.getElem?_toArray, List.getElem?_cons_zero, List.getElem?_cons_succ] at x0
        change TStep _ _ _ (Act.put (Act.put (Act.put (Act.put (Act.put (Act.put _ (some 43) (vs 3)) (some 46) (vs 6)) (some 50) (vs 10)) (some 53) (vs 13)) (some 54) (vs 14)) (some 56) (vs 16)) _ _
        refine tstep_yes (by kernel_rfl) ?_
        go_simp
        exact Below.refl _ _
      · intro vs W9 hb9 hf hj hk
        clear HL hj hf
        have x0 := hk.1.cell 1
        simp only [List.getElem?_toArray, List.getElem?_cons_zero, List.getElem?_cons_succ] at x0
        change TStep _ _ _ (Act.put (Act.put (Act.put (Act.put (Act.put (Act.put _ (some 43) (vs 3)) (some 46) (vs 6)) (some 50) (vs 10)) (some 53) (vs 13)) (some 54) (vs 14)) (some 56) (vs 16)) _ _
        refine tstep_yes (by kernel_rfl) ?_
        go_simp
        exact Below.refl _ _
      · intro vs W9 hb9 hf hj hk
        clear HL hj hf
        have x0 := hk.2.2.1.cell 1
        simp only [List.getElem?_toArray, List.getElem?_cons_zero, List.getElem?_cons_succ] at x0
        change TStep _ _ _ (Act.put (Act.put (Act.put (Act.put (Act.put (Act.put _ (some 43) (vs 3)) (some 46) (vs 6)) (some 50) (vs 10)) (some 53) (vs 13)) (some 54) (vs 14)) (some 56) (vs 16)) _ _
        refine tstep_yes (by kernel_rfl) ?_
        go_simp
        exact Below.refl _ _
      · intro vs W9 hb9 hf hj hk
        have hf := fits_cast (q := (vs 10 = .map (some mu)) ∧ (vs 13 = .int .i64 c.1.pa) ∧ True) hf (by kernel_rfl)
        clear HL
        have hjj := hj (.inr ⟨by decide, by kernel_rfl⟩)
        have lk := hjj.1.tree.und.look (k := c.1.pa) (E := 40) (T := 76) (z := .slice none 0 0) Try.underlying3 Try.underlying76 (by exact Try.zeroValue40 _) hpa
        change (Instr.lookup _ _ _ _).run _ _ = .ok (rowV (delM U id) c.1.pa) _ at lk
        rw [HV.out.2.2] at lk
        change TStep _ _ _ (Act.put (Act.put (Act.put (Act.put (Act.put (Act.put _ (some 43) (vs 3)) (some 46) (vs 6)) (some 50) (vs 10)) (some 53) (vs 13)) (some 54) (vs 14)) (some 56) (vs 16)) _ _
        rw [hf.1, hf.2.1]
        refine tstep_yes (by kernel_rfl) ?_
        clear hf hj hjj
        go_simp
        exact Below.refl _ _
      · intro vs W9 hb9 hf hj hk
        have hf := fits_cast (q := (vs 14 = v0) ∧ True) hf (by kernel_rfl)
        clear HL
        have hjj := hj (.inl rfl)
        change HStep _ _ _ _ (Act.put (Act.put (Act.put (Act.put (Act.put (Act.put _ (some 43) (vs 3)) (some 46) (vs 6)) (some 50) (vs 10)) (some 53) (vs 13)) (some 54) (vs 14)) (some 56) (vs 16)) _ _
        rw [hf.1]
        have hrow := hjj.1.tree.rows c.1.pa
        have hlt : ∀ b, v0.ownBlock = some b → b < w.heap.size := fun b hb => ((HX.out.rows c.1.pa).lt b (by rw [HV.out.1]; exact hb)).2
        rw [HV.out.2.1] at hrow
        have hkl := kids_len M c.1.pa
        have hfew := HX.out.inv.few
        have hmem : id ∈ kids M c.1.pa := (mem_kids HX.out.inv.rise).2 ⟨c, HC.out, rfl⟩
        have hne2 : v0.ownBlock ≠ some w.heap.size := fun e => by have := hlt _ e; omega
        have hdel0 := delf_any base v0 (kids M c.1.pa) id w.heap.size W9 hrow (by omega) (by intro e; rw [e] at hmem; simp at hmem) hk.2.1 hne2
        rw [HNL.out] at hdel0
        have hdel := hdel0.mono (R' := fun e w' => ∃ v', e = .returned v' ∧ Below (cutW W8 base).heap.size (cutW W8 base) w' ∧ (ActY (own ma mu U) w w' base g ma mu (delM U id) (delM M id) (upd (upd (rowV U) id (.slice none 0 0)) c.1.pa v') (upd (kids M) c.1.pa nl) 3 #[.int .i64 id] ∧ Blk w' B 84 #[.int .i64 c.1.id, .int .i64 c.1.pa, .bool c.1.lf, .int .u64 c.1.r.1, .int .u64 c.1.r.2.1, .int .u64 c.1.r.2.2, .int .u64 c.1.s.1, .int .u64 c.1.s.2.1, .int .u64 c.1.s.2.2, .int .u64 c.1.u.1, .int .u64 c.1.u.2.1, .int .u64 c.1.u.2.2, .int .i64 c.1.pk, .int .i64 c.1.by_, .int .i64 c.2]) ∧ v'.ownBlock = v0.ownBlock) (fun e w' ⟨v', he, ho, hg, hat0⟩ => ⟨v', he, hb9.grown hg hb9.size (fun q e => by rw [hcs]; exact (hrow.lt q e).1), ⟨hjj.1.row_new2 (by rw [HV.out.2.1]; exact hne2) (fun b hb => .inr (.inr ⟨c.1.pa, by rw [HV.out.1, ← HV.out.2.1]; exact hb⟩)) ho (by rw [HV.out.2.1]; exact hg) (by rw [HV.out.2.1]; exact (.inl hat0)), hjj.2.grown hg (fun e => row_blk hrow hjj.2 (by decide) e.symm)⟩, hat0⟩)
        refine hstep_yes (by kernel_rfl) ?_
        clear hdel0
        go_simp
        exact ⟨rfl, hdel⟩
      · intro vs W9 hb9 hk hf
        have hf := fits_cast (q := (vs 3 = .map (some mu)) ∧ (vs 6 = .int .i64 c.1.pa) ∧ (vs 10 = .map (some mu)) ∧ (vs 13 = .int .i64 c.1.pa) ∧ (vs 14 = v0) ∧ ((ActY (own ma mu U) w W9 base g ma mu (delM U id) (delM M id) (upd (upd (rowV U) id (.slice none 0 0)) c.1.pa (vs 16)) (upd (kids M) c.1.pa nl) 3 #[.int .i64 id] ∧ Blk W9 B 84 #[.int .i64 c.1.id, .int .i64 c.1.pa, .bool c.1.lf, .int .u64 c.1.r.1, .int .u64 c.1.r.2.1, .int .u64 c.1.r.2.2, .int .u64 c.1.s.1, .int .u64 c.1.s.2.1, .int .u64 c.1.s.2.2, .int .u64 c.1.u.1, .int .u64 c.1.u.2.1, .int .u64 c.1.u.2.2, .int .i64 c.1.pk, .int .i64 c.1.by_, .int .i64 c.2]) ∧ (vs 16).ownBlock = v0.ownBlock) ∧ True) hf (by kernel_rfl)
        clear HL
        change wpList _ _ _ _ (Act.put (Act.put (Act.put (Act.put (Act.put (Act.put _ (some 43) (vs 3)) (some 46) (vs 6)) (some 50) (vs 10)) (some 53) (vs 13)) (some 54) (vs 14)) (some 56) (vs 16)) _
        rw [hf.1, hf.2.1]
        have h9 := hf.2.2.2.2.2.1
        generalize vs 16 = u at h9 ⊢
        obtain ⟨W10, hr, hm, ht⟩ := h9.1.1.tree.und.store (T := 76) (E := 40) (k := c.1.pa) Try.underlying3 Try.underlying76 hpa (by have := HX.out.few; have := del_length id U; unfold maxLen; omega) u
        have h10 := h9.1.1.und_turn (.inr (.inl rfl)) hm ht.grown
        have HF := Lib.hid (And.intro h10 h9.2)
        clear hf h9 hm ht h10 hb9 hk
        simp only [List.drop_succ_cons, List.drop_zero, List.take_succ_cons, List.take_zero]
        go_wp2_with fail
        go_ret
        have hinv := HX.out.inv.drop id
        have hnamed := HN.out
        refine ⟨putM (delM U id) c.1.pa u, by rw [HR.out.1]; rfl, ?_, HF.out.1.fr, ?_⟩
        · rw [HR.out.1] at hinv ⊢
          have htree := HF.out.1.tree
          have e1 := kids_del_upd HX.out.inv.rise HC.out
          rw [HNL.out] at e1
          rw [← e1, ← rowV_del, ← rowV_put] at htree
          dsimp only
          refine htree.x HX.out.gb HX.out.ab HX.out.ub (fun q hq => ?_) hinv
          rcases putM_mem hq with rfl | hq
          · exact ⟨hnamed.2.2.1, hnamed.2.2.2.1⟩
          · exact HX.out.keys q (List.mem_filter.1 hq).1
        · intro b hb
          rcases hb with rfl | rfl | ⟨k, hk⟩
          · exact .inl (.inl rfl)
          · exact .inl (.inr (.inl rfl))
          · rw [rowV_put, rowV_del] at hk
            unfold upd at hk
            by_cases e : k = c.1.pa
            · rw [if_pos e] at hk
              exact .inl (.inr (.inr ⟨c.1.pa, by rw [HV.out.1, ← HF.out.2]; exact hk⟩))
            · rw [if_neg e] at hk
              by_cases e2 : k = id
              · rw [if_pos e2] at hk; cases hk
              · rw [if_neg e2] at hk
                exact .inl (.inr (.inr ⟨k, hk⟩))
end Go.Proofs.Ytclhhegfffccgaa
