/-
  A tree of classes: Change. (Printed by wip/mkhchange.py.)
-/
import Derived.Test.YtclhhegfffccgaaHDrop
import Derived.BigRegion
namespace Go.Proofs.Ytclhhegfffccgaa
set_option linter.unusedVariables false
open Go.RowKit Go.Maps
attribute [local go_sem ↓] Go.wp_at_zero Go.wp_at_succ
attribute [local go_sem] quietR quietAtR quietUponR midAt midUpon
attribute [local irreducible] TStep HStep

theorem put_look {α : Type} {id : Int} {c : α} : ∀ {M : List (Int × α)}, Rising M → lookM M id = some c → putM M id c = M
  | [], _, h => by cases h
  | p :: r, hr, hl => by
    have h1 := (List.pairwise_cons.1 hr).1
    unfold lookM at hl
    unfold putM
    by_cases hp : p.1 = id
    · rw [if_pos hp] at hl
      cases hl
      subst hp
      rw [if_neg (by omega), if_pos rfl]
    · rw [if_neg hp] at hl
      have := h1 _ (mem_of_look hl)
      dsimp only at this
      rw [if_neg (by omega), if_neg hp, put_look (List.pairwise_cons.1 hr).2 hl]
theorem ActY.other {S : Nat → Prop} {w W W' : World} {base g ma mu : Nat} {U : List (Int × Value)} {M : Mp} {rv : Int → Value} {kd : Int → List Int} {t t' : TypeId} {cs cs' : Array Value} {B : Nat} (h : ActY S w W base g ma mu U M rv kd t cs) (hC : Blk W B t' cs') (h1 : t' ≠ t) (h2 : t' ≠ 78) (h3 : 3 ≠ t') (hg : W.grownBy W' (some B)) (hB : w.heap.size ≤ B) : ActY S w W' base g ma mu U M rv kd t cs := by
  have hne : ∀ {b : Nat} {t2 : TypeId} {c2 : Array Value}, Blk W b t2 c2 → t' ≠ t2 → some b ≠ some B := fun hb ht e => by
    cases e
    have := hC.symm.trans hb
    simp only [Option.some.injEq, Obj.cells.injEq] at this
    exact ht this.2.1
  refine ⟨⟨h.tree.blk.grown hg (hne h.tree.blk h2), h.tree.all.kept hg ?_, h.tree.und.kept hg ?_, fun k => (h.tree.rows k).kept hg ?_, h.tree.apart, h.tree.ne⟩, h.box.grown hg (hne h.box h1), ?_⟩
  · intro e; cases e; exact blk_map hC h.tree.all rfl
  · intro e; cases e; exact blk_map hC h.tree.und rfl
  · exact .inr (row_blk (h.tree.rows k) hC h3)
  · exact ⟨hg.os.trans h.fr.os, hg.tape.trans h.fr.tape, hg.output.trans h.fr.output, Nat.le_trans h.fr.size hg.size, fun b hb hn => (hg.block b (Nat.lt_of_lt_of_le hb h.fr.size) (by intro e; cases e; omega)).trans (h.fr.block b hb hn)⟩
theorem run_neC (i p : Int) (l : Bool) (k b d : Int) (x y : Cv × Cv × Cv) : ∃ r, (∀ W, (binOp .neq 84 (.agg #[.int .i64 i, .int .i64 p, .bool l, .int .u64 x.1.1, .int .u64 x.1.2.1, .int .u64 x.1.2.2, .int .u64 x.2.1.1, .int .u64 x.2.1.2.1, .int .u64 x.2.1.2.2, .int .u64 x.2.2.1, .int .u64 x.2.2.2.1, .int .u64 x.2.2.2.2, .int .i64 k, .int .i64 b, .int .i64 d]) (.agg #[.int .i64 i, .int .i64 p, .bool l, .int .u64 y.1.1, .int .u64 y.1.2.1, .int .u64 y.1.2.2, .int .u64 y.2.1.1, .int .u64 y.2.1.2.1, .int .u64 y.2.1.2.2, .int .u64 y.2.2.1, .int .u64 y.2.2.2.1, .int .u64 y.2.2.2.2, .int .i64 k, .int .i64 b, .int .i64 d])).run Try.prog W = .ok (.bool r) W) ∧ (r = false → x = y) := by
  obtain ⟨⟨a1, a2, a3⟩, ⟨a4, a5, a6⟩, a7, a8, a9⟩ := x
  obtain ⟨⟨b1, b2, b3⟩, ⟨b4, b5, b6⟩, b7, b8, b9⟩ := y
  dsimp only
  by_cases e1 : a1 = b1
  rotate_left
  · exact ⟨true, fun W => by go_simp <;> simp [e1], fun h => by cases h⟩
  subst e1
  by_cases e2 : a2 = b2
  rotate_left
  · exact ⟨true, fun W => by go_simp <;> simp [e2], fun h => by cases h⟩
  subst e2
  by_cases e3 : a3 = b3
  rotate_left
  · exact ⟨true, fun W => by go_simp <;> simp [e3], fun h => by cases h⟩
  subst e3
  by_cases e4 : a4 = b4
  rotate_left
  · exact ⟨true, fun W => by go_simp <;> simp [e4], fun h => by cases h⟩
  subst e4
  by_cases e5 : a5 = b5
  rotate_left
  · exact ⟨true, fun W => by go_simp <;> simp [e5], fun h => by cases h⟩
  subst e5
  by_cases e6 : a6 = b6
  rotate_left
  · exact ⟨true, fun W => by go_simp <;> simp [e6], fun h => by cases h⟩
  subst e6
  by_cases e7 : a7 = b7
  rotate_left
  · exact ⟨true, fun W => by go_simp <;> simp [e7], fun h => by cases h⟩
  subst e7
  by_cases e8 : a8 = b8
  rotate_left
  · exact ⟨true, fun W => by go_simp <;> simp [e8], fun h => by cases h⟩
  subst e8
  by_cases e9 : a9 = b9
  rotate_left
  · exact ⟨true, fun W => by go_simp <;> simp [e9], fun h => by cases h⟩
  subst e9
  exact ⟨false, fun W => by go_simp, fun _ => rfl⟩

set_option maxRecDepth 100000 in
set_option maxHeartbeats 8000000 in
theorem tchange_any (s : Sp) (base g ma mu : Nat) (U : List (Int × Value)) (M : Mp) (w : World) (hw : WfSp s) (h : TreeX w base g ma mu U M) :
    Calls Try.prog 29 #[.pointer (some ⟨g, 0, none⟩), spV s] w (ActW w base g ma mu U (changeM M s)) := by
  have hid : (Lit.int .i64 s.id).wf = true := hw.1.1
  have hb0 := (Below.refl w.heap.size w).alloc (Nat.le_refl _) (.cells (spC s) 46)
  have h0 : ActY (own ma mu U) w (w.alloc (.cells (spC s) 46)) base g ma mu U M (rowV U) (kids M) 46 (spC s) := ⟨(h.later hb0).y, Blk.new w _ _, Fr.of_below hb0⟩
  have hn := htnone_no g ma _ _ (h.later hb0).blk
  unfold spV
  unfold spC at *
  have H0 := Lib.hid h0; have HX := Lib.hid h; have HB0 := Lib.hid hb0; have HW := Lib.hid hw
  clear h h0 hb0 hw
  go_enter Try.func29, Try.ntmps29
  go_wp2_with fail
  refine hn.mono ?_
  clear hn
  rintro e w1 ⟨rfl, rfl⟩
  go_upto_region 3 with fail
  generalize w.alloc (.cells #[.int .i64 s.id, .int .i64 s.pa, .bool s.lf, .int .u64 s.r.1, .int .u64 s.r.2.1, .int .u64 s.r.2.2, .int .u64 s.s.1, .int .u64 s.s.2.1, .int .u64 s.s.2.2, .int .u64 s.u.1, .int .u64 s.u.2.1, .int .u64 s.u.2.2, .int .i64 s.pk, .int .i64 s.by_] 46) = w1 at H0 HB0 ⊢
  have H1 := H0; have HB1 := HB0
  clear H0 HB0
  have l1 := H1.out.tree.blk.lt; have l2 := H1.out.box.lt
  have o0 := fun e => (over_cell (w := w1) (e := e) (o := 0) l1).trans (H1.out.tree.blk.cell 0)
  have b0 := fun e => (over_cell (w := w1) (e := e) (o := 0) l2).trans (H1.out.box.cell 0)
  simp only [List.getElem?_toArray, List.getElem?_cons_zero, List.getElem?_cons_succ] at o0 b0
  have lk := fun e => ((HX.out.later HB1.out).later (over_below w1 e)).look hid
  cases hlk : lookM M s.id with
  | none =>
    rw [hlk] at lk
    unfold clV clC cl0 sp0 at lk
    dsimp only [Option.getD, Option.isSome] at lk
    have HC := Lib.hid hlk
    clear hlk
    refine wp_region_alloc (w := w1) 10 _ _ 5 (.cells #[.int .i64 0, .int .i64 0, .bool false, .int .u64 0, .int .u64 0, .int .u64 0, .int .u64 0, .int .u64 0, .int .u64 0, .int .u64 0, .int .u64 0, .int .u64 0, .int .i64 0, .int .i64 0, .int .i64 0] 84) (by kernel_rfl) rfl rfl rfl (fun _ _ => by kernel_rfl) (by kernel_rfl) ?_
    simp only [List.take_succ_cons, List.take_zero, List.drop_succ_cons, List.drop_zero]
    repeat (refine wpQuietR_step (fun K hK => ?_); go_simp; (refine hK _ ?_; clear hK K))
    refine wpQuietR_nil ?_
    intro B W2 hB hb2 hO
    have bN : Blk W2 B 84 #[.int .i64 0, .int .i64 0, .bool false, .int .u64 0, .int .u64 0, .int .u64 0, .int .u64 0, .int .u64 0, .int .u64 0, .int .u64 0, .int .u64 0, .int .u64 0, .int .i64 0, .int .i64 0, .int .i64 0] := hO
    have hb3 : Below w1.heap.size w1 (W2.setCells B 0 [.int .i64 0, .int .i64 0, .bool false, .int .u64 0, .int .u64 0, .int .u64 0, .int .u64 0, .int .u64 0, .int .u64 0, .int .u64 0, .int .u64 0, .int .u64 0, .int .i64 0, .int .i64 0, .int .i64 0]) := hb2.grown (grown_setCells B _ _ W2) hb2.size (fun q e => by cases e; exact hB)
    refine plain_store 84 _ _ B [.int .i64 0, .int .i64 0, .bool false, .int .u64 0, .int .u64 0, .int .u64 0, .int .u64 0, .int .u64 0, .int .u64 0, .int .u64 0, .int .u64 0, .int .u64 0, .int .i64 0, .int .i64 0, .int .i64 0] 84 #[.int .i64 0, .int .i64 0, .bool false, .int .u64 0, .int .u64 0, .int .u64 0, .int .u64 0, .int .u64 0, .int .u64 0, .int .u64 0, .int .u64 0, .int .u64 0, .int .i64 0, .int .i64 0, .int .i64 0] bN (by simp) rfl (by kernel_rfl) (by kernel_rfl) (by kernel_rfl) (by kernel_rfl) ⟨hb3, ?_⟩
    generalize W2.setCells B 0 [.int .i64 0, .int .i64 0, .bool false, .int .u64 0, .int .u64 0, .int .u64 0, .int .u64 0, .int .u64 0, .int .u64 0, .int .u64 0, .int .u64 0, .int .u64 0, .int .i64 0, .int .i64 0, .int .i64 0] = W3 at hb3 ⊢
    clear o0 b0 lk bN hO hb2 l1 l2
    have HB3 := Lib.hid (HB1.out.trans (hb3.mono HB1.out.size))
    clear hb3 H1 HB1
    go_wp2_with fail
    go_ret
    exact ActW.same HX.out HB3.out rfl (by unfold changeM; rw [HC.out])
  | some c =>
    rw [hlk] at lk
    unfold clV clC at lk
    dsimp only [Option.getD, Option.isSome] at lk
    have HC := Lib.hid hlk
    clear hlk
    refine wp_region_alloc (w := w1) 10 _ _ 5 (.cells #[.int .i64 0, .int .i64 0, .bool false, .int .u64 0, .int .u64 0, .int .u64 0, .int .u64 0, .int .u64 0, .int .u64 0, .int .u64 0, .int .u64 0, .int .u64 0, .int .i64 0, .int .i64 0, .int .i64 0] 84) (by kernel_rfl) rfl rfl rfl (fun _ _ => by kernel_rfl) (by kernel_rfl) ?_
    simp only [List.take_succ_cons, List.take_zero, List.drop_succ_cons, List.drop_zero]
    repeat (refine wpQuietR_step (fun K hK => ?_); go_simp; (refine hK _ ?_; clear hK K))
    refine wpQuietR_nil ?_
    intro B W2 hB hb2 hO
    have bN : Blk W2 B 84 #[.int .i64 0, .int .i64 0, .bool false, .int .u64 0, .int .u64 0, .int .u64 0, .int .u64 0, .int .u64 0, .int .u64 0, .int .u64 0, .int .u64 0, .int .u64 0, .int .i64 0, .int .i64 0, .int .i64 0] := hO
    have hb3 : Below w1.heap.size w1 (W2.setCells B 0 [.int .i64 c.1.id, .int .i64 c.1.pa, .bool c.1.lf, .int .u64 c.1.r.1, .int .u64 c.1.r.2.1, .int .u64 c.1.r.2.2, .int .u64 c.1.s.1, .int .u64 c.1.s.2.1, .int .u64 c.1.s.2.2, .int .u64 c.1.u.1, .int .u64 c.1.u.2.1, .int .u64 c.1.u.2.2, .int .i64 c.1.pk, .int .i64 c.1.by_, .int .i64 c.2]) := hb2.grown (grown_setCells B _ _ W2) hb2.size (fun q e => by cases e; exact hB)
    have bC := bN.setCells [.int .i64 c.1.id, .int .i64 c.1.pa, .bool c.1.lf, .int .u64 c.1.r.1, .int .u64 c.1.r.2.1, .int .u64 c.1.r.2.2, .int .u64 c.1.s.1, .int .u64 c.1.s.2.1, .int .u64 c.1.s.2.2, .int .u64 c.1.u.1, .int .u64 c.1.u.2.1, .int .u64 c.1.u.2.2, .int .i64 c.1.pk, .int .i64 c.1.by_, .int .i64 c.2] 0
    rw [setL_all _ _ (by simp)] at bC
    refine plain_store 84 _ _ B [.int .i64 c.1.id, .int .i64 c.1.pa, .bool c.1.lf, .int .u64 c.1.r.1, .int .u64 c.1.r.2.1, .int .u64 c.1.r.2.2, .int .u64 c.1.s.1, .int .u64 c.1.s.2.1, .int .u64 c.1.s.2.2, .int .u64 c.1.u.1, .int .u64 c.1.u.2.1, .int .u64 c.1.u.2.2, .int .i64 c.1.pk, .int .i64 c.1.by_, .int .i64 c.2] 84 #[.int .i64 0, .int .i64 0, .bool false, .int .u64 0, .int .u64 0, .int .u64 0, .int .u64 0, .int .u64 0, .int .u64 0, .int .u64 0, .int .u64 0, .int .u64 0, .int .i64 0, .int .i64 0, .int .i64 0] bN (by simp) rfl (by kernel_rfl) (by kernel_rfl) (by kernel_rfl) (by kernel_rfl) ⟨hb3, ?_⟩
    generalize W2.setCells B 0 [.int .i64 c.1.id, .int .i64 c.1.pa, .bool c.1.lf, .int .u64 c.1.r.1, .int .u64 c.1.r.2.1, .int .u64 c.1.r.2.2, .int .u64 c.1.s.1, .int .u64 c.1.s.2.1, .int .u64 c.1.s.2.2, .int .u64 c.1.u.1, .int .u64 c.1.u.2.1, .int .u64 c.1.u.2.2, .int .i64 c.1.pk, .int .i64 c.1.by_, .int .i64 c.2] = W3 at hb3 bC ⊢
    clear o0 b0 lk bN hO hb2 l1 l2
    have hBw : w1.heap.size ≤ B := hB
    have H3 := Lib.hid (And.intro (H1.out.later hb3) bC)
    have HB3 := Lib.hid (HB1.out.trans (hb3.mono HB1.out.size))
    have hBw2 : w.heap.size < B := Nat.lt_of_lt_of_le H1.out.box.lt hB
    clear hb3 H1 HB1 bC hB hBw
    go_upto_region 6 with fail
    have b0 := H3.out.1.box.cell 0; have b1 := H3.out.1.box.cell 1; have b2 := H3.out.1.box.cell 2; have b3 := H3.out.1.box.cell 3; have b4 := H3.out.1.box.cell 4; have b5 := H3.out.1.box.cell 5; have b6 := H3.out.1.box.cell 6; have b7 := H3.out.1.box.cell 7; have b8 := H3.out.1.box.cell 8; have b9 := H3.out.1.box.cell 9; have b10 := H3.out.1.box.cell 10; have b11 := H3.out.1.box.cell 11; have b12 := H3.out.1.box.cell 12; have b13 := H3.out.1.box.cell 13
    simp only [List.getElem?_toArray, List.getElem?_cons_zero, List.getElem?_cons_succ] at b0 b1 b2 b3 b4 b5 b6 b7 b8 b9 b10 b11 b12 b13
    have c0 := H3.out.2.cell 0; have c1 := H3.out.2.cell 1; have c2 := H3.out.2.cell 2; have c3 := H3.out.2.cell 3; have c4 := H3.out.2.cell 4; have c5 := H3.out.2.cell 5; have c6 := H3.out.2.cell 6; have c7 := H3.out.2.cell 7; have c8 := H3.out.2.cell 8; have c9 := H3.out.2.cell 9; have c10 := H3.out.2.cell 10; have c11 := H3.out.2.cell 11; have c12 := H3.out.2.cell 12; have c13 := H3.out.2.cell 13; have c14 := H3.out.2.cell 14
    simp only [List.getElem?_toArray, List.getElem?_cons_zero, List.getElem?_cons_succ] at c0 c1 c2 c3 c4 c5 c6 c7 c8 c9 c10 c11 c12 c13 c14
    have f0 := H3.out.2.frozen 0; have f1 := H3.out.2.frozen 1; have f2 := H3.out.2.frozen 2; have f3 := H3.out.2.frozen 3; have f4 := H3.out.2.frozen 4; have f5 := H3.out.2.frozen 5; have f6 := H3.out.2.frozen 6; have f7 := H3.out.2.frozen 7; have f8 := H3.out.2.frozen 8; have f9 := H3.out.2.frozen 9; have f10 := H3.out.2.frozen 10; have f11 := H3.out.2.frozen 11; have f12 := H3.out.2.frozen 12; have f13 := H3.out.2.frozen 13; have f14 := H3.out.2.frozen 14
    go_region
    have hgr : W3.grownBy (W3.setCells B 3 [.int .u64 s.r.1, .int .u64 s.r.2.1, .int .u64 s.r.2.2, .int .u64 s.s.1, .int .u64 s.s.2.1, .int .u64 s.s.2.2, .int .u64 s.u.1, .int .u64 s.u.2.1, .int .u64 s.u.2.2]).drew (some B) := grown_transH (grown_setCells B _ _ W3) (grown_drewH _)
    have hC4 := (H3.out.2.setCells [.int .u64 s.r.1, .int .u64 s.r.2.1, .int .u64 s.r.2.2, .int .u64 s.s.1, .int .u64 s.s.2.1, .int .u64 s.s.2.2, .int .u64 s.u.1, .int .u64 s.u.2.1, .int .u64 s.u.2.2] 3).drew
    rw [show setL #[.int .i64 c.1.id, .int .i64 c.1.pa, .bool c.1.lf, .int .u64 c.1.r.1, .int .u64 c.1.r.2.1, .int .u64 c.1.r.2.2, .int .u64 c.1.s.1, .int .u64 c.1.s.2.1, .int .u64 c.1.s.2.2, .int .u64 c.1.u.1, .int .u64 c.1.u.2.1, .int .u64 c.1.u.2.2, .int .i64 c.1.pk, .int .i64 c.1.by_, .int .i64 c.2] 3 [.int .u64 s.r.1, .int .u64 s.r.2.1, .int .u64 s.r.2.2, .int .u64 s.s.1, .int .u64 s.s.2.1, .int .u64 s.s.2.2, .int .u64 s.u.1, .int .u64 s.u.2.1, .int .u64 s.u.2.2] = #[.int .i64 c.1.id, .int .i64 c.1.pa, .bool c.1.lf, .int .u64 s.r.1, .int .u64 s.r.2.1, .int .u64 s.r.2.2, .int .u64 s.s.1, .int .u64 s.s.2.1, .int .u64 s.s.2.2, .int .u64 s.u.1, .int .u64 s.u.2.1, .int .u64 s.u.2.2, .int .i64 c.1.pk, .int .i64 c.1.by_, .int .i64 c.2] by kernel_rfl] at hC4
    have h4 := H3.out.1.other H3.out.2 (by decide) (by decide) (by decide) hgr (Nat.le_of_lt hBw2)
    have H4 := Lib.hid (And.intro h4 hC4)
    have hw4 : w.heap.size ≤ (W3.setCells B 3 [.int .u64 s.r.1, .int .u64 s.r.2.1, .int .u64 s.r.2.2, .int .u64 s.s.1, .int .u64 s.s.2.1, .int .u64 s.s.2.2, .int .u64 s.u.1, .int .u64 s.u.2.1, .int .u64 s.u.2.2]).drew.heap.size := Nat.le_trans H3.out.1.fr.size hgr.size
    have HB4 := Lib.hid (show Below w.heap.size w (W3.setCells B 3 [.int .u64 s.r.1, .int .u64 s.r.2.1, .int .u64 s.r.2.2, .int .u64 s.s.1, .int .u64 s.s.2.1, .int .u64 s.s.2.2, .int .u64 s.u.1, .int .u64 s.u.2.1, .int .u64 s.u.2.2]).drew from HB3.out.grown hgr HB3.out.size fun q e => by cases e; exact Nat.le_of_lt hBw2)
    clear hgr hC4 h4 hw4 H3 HB3 b0 b1 b2 b3 b4 b5 b6 b7 b8 b9 b10 b11 b12 b13 c0 c1 c2 c3 c4 c5 c6 c7 c8 c9 c10 c11 c12 c13 c14 f0 f1 f2 f3 f4 f5 f6 f7 f8 f9 f10 f11 f12 f13 f14
    change Exit.then _ _ Exit.normal _ (W3.setCells B 3 [.int .u64 s.r.1, .int .u64 s.r.2.1, .int .u64 s.r.2.2, .int .u64 s.s.1, .int .u64 s.s.2.1, .int .u64 s.s.2.2, .int .u64 s.u.1, .int .u64 s.u.2.1, .int .u64 s.u.2.2]).drew
    generalize (W3.setCells B 3 [.int .u64 s.r.1, .int .u64 s.r.2.1, .int .u64 s.r.2.2, .int .u64 s.s.1, .int .u64 s.s.2.1, .int .u64 s.s.2.2, .int .u64 s.u.1, .int .u64 s.u.2.1, .int .u64 s.u.2.2]).drew = W4 at H4 HB4 ⊢
    have oc := HX.out.inv.ok s.id c HC.out
    have hwf : WfSp (withC c.1 s) := ⟨oc.wf.1, HW.out.2⟩
    have hmay := fun W => spmay_any (withC c.1 s) W hwf
    unfold MayW spV spC at hmay
    have hmsd : ∀ x : Sp, x = withC c.1 s → mayS x = mayS (withC c.1 s) := fun x h => by rw [h]
    obtain ⟨ms, hms⟩ : ∃ b, mayS (withC c.1 s) = b := ⟨_, rfl⟩
    rw [hms] at hmay
    have HMS := Lib.hid hms
    clear oc hwf hmsd hms
    unfold withC at hmay
    dsimp only at hmay
    have c0 := H4.out.2.cell 0; have c1 := H4.out.2.cell 1; have c2 := H4.out.2.cell 2; have c3 := H4.out.2.cell 3; have c4 := H4.out.2.cell 4; have c5 := H4.out.2.cell 5; have c6 := H4.out.2.cell 6; have c7 := H4.out.2.cell 7; have c8 := H4.out.2.cell 8; have c9 := H4.out.2.cell 9; have c10 := H4.out.2.cell 10; have c11 := H4.out.2.cell 11; have c12 := H4.out.2.cell 12; have c13 := H4.out.2.cell 13; have c14 := H4.out.2.cell 14
    simp only [List.getElem?_toArray, List.getElem?_cons_zero, List.getElem?_cons_succ] at c0 c1 c2 c3 c4 c5 c6 c7 c8 c9 c10 c11 c12 c13 c14
    go_wp2_with fail
    refine (hmay _).mono ?_
    clear hmay c0 c1 c2 c3 c4 c5 c6 c7 c8 c9 c10 c11 c12 c13 c14
    rintro e W5 ⟨er, rfl, her, hb5⟩
    have H5 := Lib.hid (And.intro (H4.out.1.later hb5) (H4.out.2.below hb5 H4.out.2.lt))
    have HB5 := Lib.hid (HB4.out.trans (hb5.mono HB4.out.size))
    clear hb5 H4 HB4
    cases ms with
    | false =>
      have hne : (er != 0) = true := by simpa using her
      have HR := Lib.hid (show changeM M s = (130, M) by unfold changeM; rw [HC.out]; dsimp only; rw [if_pos HMS.out])
      clear her
      go_wp2_with fail
      go_ret
      exact ActW.same HX.out HB5.out rfl HR.out
    | true =>
      obtain rfl : er = 0 := by simpa using her
      have HR := Lib.hid (show changeM M s = (0, putM M s.id (withC c.1 s, c.2)) by unfold changeM; rw [HC.out]; dsimp only; rw [if_neg (by rw [HMS.out]; simp)])
      clear her
      go_upto_region 9 with fail
      have l1 := H5.out.1.tree.blk.lt; have l2 := H5.out.1.box.lt; have l3 := H5.out.2.lt
      have o0 := fun e => (over_cell (w := W5) (e := e) (o := 0) l1).trans (H5.out.1.tree.blk.cell 0)
      have b0 := fun e => (over_cell (w := W5) (e := e) (o := 0) l2).trans (H5.out.1.box.cell 0)
      have q0 := fun e => (over_cell (w := W5) (e := e) (o := 0) l3).trans (H5.out.2.cell 0); have q1 := fun e => (over_cell (w := W5) (e := e) (o := 1) l3).trans (H5.out.2.cell 1); have q2 := fun e => (over_cell (w := W5) (e := e) (o := 2) l3).trans (H5.out.2.cell 2); have q3 := fun e => (over_cell (w := W5) (e := e) (o := 3) l3).trans (H5.out.2.cell 3); have q4 := fun e => (over_cell (w := W5) (e := e) (o := 4) l3).trans (H5.out.2.cell 4); have q5 := fun e => (over_cell (w := W5) (e := e) (o := 5) l3).trans (H5.out.2.cell 5); have q6 := fun e => (over_cell (w := W5) (e := e) (o := 6) l3).trans (H5.out.2.cell 6); have q7 := fun e => (over_cell (w := W5) (e := e) (o := 7) l3).trans (H5.out.2.cell 7); have q8 := fun e => (over_cell (w := W5) (e := e) (o := 8) l3).trans (H5.out.2.cell 8); have q9 := fun e => (over_cell (w := W5) (e := e) (o := 9) l3).trans (H5.out.2.cell 9); have q10 := fun e => (over_cell (w := W5) (e := e) (o := 10) l3).trans (H5.out.2.cell 10); have q11 := fun e => (over_cell (w := W5) (e := e) (o := 11) l3).trans (H5.out.2.cell 11); have q12 := fun e => (over_cell (w := W5) (e := e) (o := 12) l3).trans (H5.out.2.cell 12); have q13 := fun e => (over_cell (w := W5) (e := e) (o := 13) l3).trans (H5.out.2.cell 13); have q14 := fun e => (over_cell (w := W5) (e := e) (o := 14) l3).trans (H5.out.2.cell 14)
      simp only [List.getElem?_toArray, List.getElem?_cons_zero, List.getElem?_cons_succ] at q0 q1 q2 q3 q4 q5 q6 q7 q8 q9 q10 q11 q12 q13 q14
      simp only [List.getElem?_toArray, List.getElem?_cons_zero, List.getElem?_cons_succ] at o0 b0
      have lk := fun e => ((HX.out.later HB5.out).later (over_below W5 e)).look1 hid
      rw [HC.out] at lk
      unfold clV clC at lk
      dsimp only [Option.getD] at lk
      obtain ⟨bn, hbn, hbf⟩ := run_neC c.1.id c.1.pa c.1.lf c.1.pk c.1.by_ c.2 (s.r, s.s, s.u) (c.1.r, c.1.s, c.1.u)
      dsimp only at hbn
      have HBF := Lib.hid hbf
      clear hbf
      refine wp_region_over (by kernel_rfl) (by kernel_rfl) ?_
      repeat (first | go_big_quiet_skip | (go_big_quiet_want; go_big_quiet_op; go_big_quiet_on))
      refine wpQuiet_nil ?_
      rintro W6 ⟨e6, he6⟩
      have hb6 := over_below W5 e6
      rw [← he6] at hb6
      clear he6 o0 b0 q0 q1 q2 q3 q4 q5 q6 q7 q8 q9 q10 q11 q12 q13 q14 l1 l2 l3 lk hbn
      have H6 := Lib.hid (And.intro (H5.out.1.later hb6) (H5.out.2.below hb6 H5.out.2.lt))
      have HB6 := Lib.hid (HB5.out.trans (hb6.mono HB5.out.size))
      clear hb6 H5 HB5
      cases bn with
      | false =>
        have he := HBF.out rfl
        simp only [Prod.mk.injEq] at he
        have hcc : withC c.1 s = c.1 := by
          obtain ⟨⟨x1, x2, x3, x4, x5, x6, x7, x8⟩, x9⟩ := c
          unfold withC
          dsimp only at he ⊢
          rw [he.1, he.2.1, he.2.2]
        have HR2 := Lib.hid (show changeM M s = (0, M) by rw [HR.out, hcc, put_look HX.out.inv.rise HC.out])
        clear he hcc
        go_wp2_with fail
        go_ret
        exact ActW.same HX.out HB6.out rfl HR2.out
      | true =>
        go_upto_region 10 with fail
        have l1 := H6.out.1.tree.blk.lt; have l2 := H6.out.1.box.lt; have l3 := H6.out.2.lt
        have o0 := fun e => (over_cell (w := W6) (e := e) (o := 0) l1).trans (H6.out.1.tree.blk.cell 0)
        have b0 := fun e => (over_cell (w := W6) (e := e) (o := 0) l2).trans (H6.out.1.box.cell 0)
        have q0 := fun e => (over_cell (w := W6) (e := e) (o := 0) l3).trans (H6.out.2.cell 0); have q1 := fun e => (over_cell (w := W6) (e := e) (o := 1) l3).trans (H6.out.2.cell 1); have q2 := fun e => (over_cell (w := W6) (e := e) (o := 2) l3).trans (H6.out.2.cell 2); have q3 := fun e => (over_cell (w := W6) (e := e) (o := 3) l3).trans (H6.out.2.cell 3); have q4 := fun e => (over_cell (w := W6) (e := e) (o := 4) l3).trans (H6.out.2.cell 4); have q5 := fun e => (over_cell (w := W6) (e := e) (o := 5) l3).trans (H6.out.2.cell 5); have q6 := fun e => (over_cell (w := W6) (e := e) (o := 6) l3).trans (H6.out.2.cell 6); have q7 := fun e => (over_cell (w := W6) (e := e) (o := 7) l3).trans (H6.out.2.cell 7); have q8 := fun e => (over_cell (w := W6) (e := e) (o := 8) l3).trans (H6.out.2.cell 8); have q9 := fun e => (over_cell (w := W6) (e := e) (o := 9) l3).trans (H6.out.2.cell 9); have q10 := fun e => (over_cell (w := W6) (e := e) (o := 10) l3).trans (H6.out.2.cell 10); have q11 := fun e => (over_cell (w := W6) (e := e) (o := 11) l3).trans (H6.out.2.cell 11); have q12 := fun e => (over_cell (w := W6) (e := e) (o := 12) l3).trans (H6.out.2.cell 12); have q13 := fun e => (over_cell (w := W6) (e := e) (o := 13) l3).trans (H6.out.2.cell 13); have q14 := fun e => (over_cell (w := W6) (e := e) (o := 14) l3).trans (H6.out.2.cell 14)
        simp only [List.getElem?_toArray, List.getElem?_cons_zero, List.getElem?_cons_succ] at q0 q1 q2 q3 q4 q5 q6 q7 q8 q9 q10 q11 q12 q13 q14
        simp only [List.getElem?_toArray, List.getElem?_cons_zero, List.getElem?_cons_succ] at o0 b0
        refine wp_region_over_tail 7 (by kernel_rfl) (by kernel_rfl) ?_
        simp only [List.take_succ_cons, List.take_zero, List.drop_succ_cons, List.drop_zero]
        repeat (first | go_big_quiet_skip | (go_big_quiet_want; go_big_quiet_op; go_big_quiet_on))
        refine wpQuiet_nil ?_
        rintro W7 ⟨e7, he7⟩
        have hb7 := over_below W6 e7
        rw [← he7] at hb7
        clear he7 o0 b0 q0 q1 q2 q3 q4 q5 q6 q7 q8 q9 q10 q11 q12 q13 q14 l1 l2 l3
        have h7 := H6.out.1.later hb7
        obtain ⟨W8, hr8, hm8, ht8⟩ := h7.tree.all.store (T := 75) (E := 84) (k := s.id) Try.underlying3 Try.underlying75 hid (by rw [mapV_length]; have := HX.out.inv.few; unfold maxLen; omega) (clV (withC c.1 s, c.2))
        rw [put_map] at hm8
        have H8 := Lib.hid (h7.all_turn (.inl rfl) hm8 ht8.grown)
        unfold clV clC withC at hr8
        dsimp only at hr8
        clear h7 hb7 hm8 ht8 H6 HB6
        go_wp2_with fail
        go_ret
        have hinv := HX.out.inv.change HW.out
        have hk : kids (putM M s.id (withC c.1 s, c.2)) = kids M := by
          funext k
          exact kids_put_same (c := (withC c.1 s, c.2)) (c0 := c) rfl HX.out.inv.rise HC.out
        refine ⟨U, by rw [HR.out]; rfl, ?_, H8.out.fr, fun b hb => .inl hb⟩
        rw [HR.out] at hinv ⊢
        have htree := H8.out.tree
        rw [← hk] at htree
        exact htree.x HX.out.gb HX.out.ab HX.out.ub HX.out.keys hinv
end Go.Proofs.Ytclhhegfffccgaa
