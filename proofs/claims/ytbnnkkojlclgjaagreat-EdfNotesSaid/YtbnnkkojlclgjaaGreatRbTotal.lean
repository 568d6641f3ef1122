/-
  A left-leaning tree of red and black nodes in memory: the summary of a node and what is below. (Printed by wip/mkrbtotal.py.)
-/
import Derived.Test.YtbnnkkojlclgjaaGreatRbMem
import Derived.BigQuiet
import Derived.Deep.CutRange
import Derived.Deep.DeepCutAuto
namespace Go.Proofs.YtbnnkkojlclgjaaGreat
set_option linter.unusedVariables false
open Go.RowKit
attribute [local go_sem ↓] Go.wp_at_zero Go.wp_at_succ
attribute [local go_sem] quietR quietAtR quietUponR midAt midUpon plain plainUpon

/-- the tree's own block -/
def treeC (p : Value) (n : Int) : Array Value := #[.func (.func 42) #[] #[], .func (.func 43) #[] #[], p, .int .i64 n]
def TotW (w : World) (h : Ky) (e : Ending) (w' : World) : Prop := e = .returned (.agg #[.int .u64 h.1, .int .i64 h.2]) ∧ Below w.heap.size w w'
/-- a new variable -/
def NewBox (n : Nat) (t : TypeId) (cs : Array Value) (u : Value) (W : World) : Prop := ∃ B, u = .pointer (some ⟨B, 0, none⟩) ∧ n ≤ B ∧ Blk W B t cs
theorem fits_cast {p q : Prop} (h : p) (e : p = q) : q := e ▸ h
/-- under way: the sum so far in a box, the result's box -/
structure TotS (w W : World) (g : Nat) (p : Value) (n : Int) (a : Nat) (k : Ky) (v : Int) (s : Ky) (c : Bool) (l r : RB) (R B : Nat) (x : Ky) : Prop where
  tree : Blk W g 129 (treeC p n)
  rb : Blk W a 157 (nodeC k v s c l r) ∧ RBAt W l ∧ RBAt W r
  res : Blk W R 81 #[.int .u64 0, .int .i64 0]
  sum : Blk W B 81 #[.int .u64 x.1, .int .i64 x.2]
  below : Below w.heap.size w W
  rlo : w.heap.size ≤ R
  blo : w.heap.size ≤ B
  ne : R ≠ B
section
variable {w W W' : World} {g : Nat} {p : Value} {n : Int} {a : Nat} {k : Ky} {v : Int} {s : Ky} {c : Bool} {l r : RB} {R B : Nat} {x : Ky}
theorem TotS.later (h : TotS w W g p n a k v s c l r R B x) (hb : Below W.heap.size W W') : TotS w W' g p n a k v s c l r R B x :=
  ⟨h.tree.below hb h.tree.lt, ⟨h.rb.1.below hb h.rb.1.lt, h.rb.2.1.later hb, h.rb.2.2.later hb⟩, h.res.below hb h.res.lt, h.sum.below hb h.sum.lt, h.below.trans (hb.mono h.below.size), h.rlo, h.blo, h.ne⟩
theorem TotS.put (h : TotS w W g p n a k v s c l r R B x) (y : Ky) : TotS w ((W.setCell ⟨B, 0, none⟩ (.int .u64 y.1)).setCell ⟨B, 1, none⟩ (.int .i64 y.2)) g p n a k v s c l r R B y := by
  have hBt : ∀ {q : Nat} {t : TypeId} {cs : Array Value}, Blk W q t cs → t ≠ 81 → q ≠ B := fun hq ht e => by
    subst e
    have := hq.symm.trans h.sum
    simp only [Option.some.injEq, Obj.cells.injEq] at this
    exact ht this.2.1
  have far : ∀ {q : Nat} {t : TypeId} {cs : Array Value}, Blk W q t cs → q ≠ B → Blk ((W.setCell ⟨B, 0, none⟩ (.int .u64 y.1)).setCell ⟨B, 1, none⟩ (.int .i64 y.2)) q t cs := fun hq hne => (hq.far hne _).far hne _
  have hh : ∀ q, q ≠ B → ((W.setCell ⟨B, 0, none⟩ (.int .u64 y.1)).setCell ⟨B, 1, none⟩ (.int .i64 y.2)).heap[q]? = W.heap[q]? := fun q hq => (Below.heap_setCell _ ⟨B, 1, none⟩ _ q hq).trans (Below.heap_setCell _ ⟨B, 0, none⟩ _ q hq)
  have kept : ∀ {t : RB}, RBAt W t → RBAt ((W.setCell ⟨B, 0, none⟩ (.int .u64 y.1)).setCell ⟨B, 1, none⟩ (.int .i64 y.2)) t := fun ht => ht.kept fun q hq => hh q fun e => RBAt.typed h.sum (by decide) ht (e ▸ hq)
  have hs := (h.sum.set_ 0 (.int .u64 y.1)).set_ 1 (.int .i64 y.2)
  simp at hs
  exact ⟨far h.tree (hBt h.tree (by decide)), ⟨far h.rb.1 (hBt h.rb.1 (by decide)), kept h.rb.2.1, kept h.rb.2.2⟩, far h.res h.ne, hs, (h.below.setCell h.blo _).setCell h.blo _, h.rlo, h.blo, h.ne⟩
end

set_option maxRecDepth 100000 in
set_option maxHeartbeats 4000000 in
theorem total_any (g a : Nat) (p : Value) (n : Int) (k : Ky) (v : Int) (s : Ky) (c : Bool) (l r : RB) (w : World) (hg : Blk w g 129 (treeC p n)) (h : RBAt w (.node a k v s c l r)) :
    Calls Tryz.prog 108 #[.pointer (some ⟨g, 0, none⟩), .pointer (some ⟨a, 0, none⟩)] w (TotW w (total k v l r)) := by
  have hb0 := (Below.refl w.heap.size w).alloc (Nat.le_refl _) (.cells #[.int .u64 0, .int .i64 0] 81)
  have hR0 := Blk.new w 81 #[.int .u64 0, .int .i64 0]
  obtain ⟨R, hR⟩ : ∃ R, R = w.heap.size := ⟨_, rfl⟩
  rw [← hR] at hR0
  have hRlo : w.heap.size ≤ R := by omega
  have hg0 := hg.below hb0 hg.lt
  have h0 := h.later hb0
  obtain ⟨h1, h2, h3⟩ := h0
  have HG := Lib.hid (And.intro hg0 (And.intro h1 (And.intro h2 h3)))
  have HB := Lib.hid (And.intro hb0 hR0)
  clear hg h h1 h2 h3 hb0 hR0 hg0
  go_enter Tryz.func108, Tryz.ntmps108
  go_upto_region 1 with fail
  rw [← hR]
  clear hR
  generalize w.alloc (.cells #[.int .u64 0, .int .i64 0] 81) = W0 at HG HB ⊢
  have lg := HG.out.1.lt; have la := HG.out.2.1.lt
  have og := fun e => (over_cell (w := W0) (e := e) (o := 0) lg).trans (HG.out.1.cell 0)
  have oa0 := fun e => (over_cell (w := W0) (e := e) (o := 0) la).trans (HG.out.2.1.cell 0)
  have oa1 := fun e => (over_cell (w := W0) (e := e) (o := 1) la).trans (HG.out.2.1.cell 1)
  have oa2 := fun e => (over_cell (w := W0) (e := e) (o := 2) la).trans (HG.out.2.1.cell 2)
  unfold treeC at og
  unfold nodeC at oa0 oa1 oa2
  simp only [List.getElem?_toArray, List.getElem?_cons_zero, List.getElem?_cons_succ] at og oa0 oa1 oa2
  refine wp_region_midg (w := W0) 14 1 [13] [] [(13, NewBox W0.heap.size 81 #[.int .u64 0, .int .i64 0])] rfl (by kernel_rfl) (by kernel_rfl) (by kernel_rfl) (by kernel_rfl) (fun _ _ _ _ _ h => h) ⟨fun v W1 W2 ⟨B, h1, h2, h3⟩ hb => ⟨B, h1, h2, h3.below hb h3.lt⟩, trivial⟩ ?_
  intro LL hL
  have HL := Lib.hid hL
  clear hL
  simp only [List.take_succ_cons, List.take_zero, putL]
  iterate 14 (first | refine wpHead_skip (by decide) ?_ | (refine wpHead_step (by decide) (fun K hK => ?_); go_simp; first | (refine hK _ ?_; clear hK K) | (apply Exists.intro; refine ⟨fun _ => ?_, hK _ ?_⟩; (focus (go_at_call 42; exact own_any k v _)); clear hK K)))
  refine wpHead_nil (HL.out _ ⟨?_, trivial⟩ ?_)
  · intro vs W1 hb1 hf
    clear HL hf og oa0 oa1 oa2
    change TStep _ _ _ (Act.put _ (some 5) (vs 13)) _ _
    refine tstep_yes (by kernel_rfl) ?_
    go_simp
    exact ⟨(Below.refl _ _).alloc (Nat.le_refl _) _, _, rfl, hb1.size, Blk.new _ _ _⟩
  · intro vs W1 hb1 hf
    have hf := fits_cast (q := NewBox W0.heap.size 81 #[.int .u64 0, .int .i64 0] (vs 13) W1 ∧ True) hf (by kernel_rfl)
    clear HL
    change wpList _ _ _ _ (Act.put _ (some 5) (vs 13)) _
    refine Exists.elim hf.1 fun B hfB => ?_
    rw [hfB.1]
    have hB := hfB.2.1
    have bN := hfB.2.2
    clear hf hfB
    simp only [List.drop_succ_cons, List.drop_zero, List.take_succ_cons, List.take_zero]
    have hRB : R ≠ B := by have := HB.out.2.lt; omega
    have H0 : TotS w W1 g p n a k v s c l r R B (0, 0) := ⟨HG.out.1.below hb1 lg, ⟨HG.out.2.1.below hb1 la, HG.out.2.2.1.later hb1, HG.out.2.2.2.later hb1⟩, HB.out.2.below hb1 HB.out.2.lt, bN, HB.out.1.trans (hb1.mono HB.out.1.size), hRlo, Nat.le_trans HB.out.1.size hB, hRB⟩
    have H1 := Lib.hid (H0.put (ownK k v))
    have n0 := bN.cell 0; have n1 := bN.cell 1; have f0 := bN.frozen 0; have f1 := bN.frozen 1
    simp only [List.getElem?_toArray, List.getElem?_cons_zero, List.getElem?_cons_succ] at n0 n1
    clear H0 hRB og oa0 oa1 oa2 lg la hb1 bN HG HB hB
    go_upto_region 2 with fail
    generalize (W1.setCell ⟨B, 0, none⟩ (.int .u64 (ownK k v).1)).setCell ⟨B, 1, none⟩ (.int .i64 (ownK k v).2) = W at H1 ⊢
    have HW := Lib.hid H1.out
    clear H1 n0 n1 f0 f1 hf
    clear W1 W0
    cases l with
    | nil =>
      cases r with
      | nil =>
        have cp := HW.out.rb.1.cell 6
        unfold nodeC at cp
        simp only [List.getElem?_toArray, List.getElem?_cons_zero, List.getElem?_cons_succ, ptrV, adr, Option.map_some, Option.map_none] at cp
        go_upto_region 4 with fail
        clear cp
        have cp := HW.out.rb.1.cell 7
        unfold nodeC at cp
        simp only [List.getElem?_toArray, List.getElem?_cons_zero, List.getElem?_cons_succ, ptrV, adr, Option.map_some, Option.map_none] at cp
        go_upto_region 6 with fail
        clear cp
        have cs0 := HW.out.sum.cell 0; have cs1 := HW.out.sum.cell 1; have cr0 := HW.out.res.cell 0; have cr1 := HW.out.res.cell 1; have fr0 := HW.out.res.frozen 0; have fr1 := HW.out.res.frozen 1
        simp only [List.getElem?_toArray, List.getElem?_cons_zero, List.getElem?_cons_succ] at cs0 cs1 cr0 cr1

        go_wp2
        have hres := (HW.out.res.set_ 0 (.int .u64 (ownK k v).1)).set_ 1 (.int .i64 (ownK k v).2)
        have e0 := hres.cell 0; have e1 := hres.cell 1
        simp at e0 e1
        refine bodyPost_ret (v := .agg #[.int .u64 (ownK k v).1, .int .i64 (ownK k v).2]) (by (simp [results, Tryz.results108, go_sem, e0, e1])) rfl ⟨by rw [show total k v _ _ = (ownK k v) from rfl], (HW.out.below.setCell HW.out.rlo _).setCell HW.out.rlo _⟩
      | node bR kR vR sSR cR lR rR =>
        have cp := HW.out.rb.1.cell 6
        unfold nodeC at cp
        simp only [List.getElem?_toArray, List.getElem?_cons_zero, List.getElem?_cons_succ, ptrV, adr, Option.map_some, Option.map_none] at cp
        go_upto_region 4 with fail
        clear cp
        have cp := HW.out.rb.1.cell 7
        unfold nodeC at cp
        simp only [List.getElem?_toArray, List.getElem?_cons_zero, List.getElem?_cons_succ, ptrV, adr, Option.map_some, Option.map_none] at cp
        go_upto_region 5 with fail
        have lg := HW.out.tree.lt; have la := HW.out.rb.1.lt; have lb := HW.out.rb.2.2.1.lt; have lB := HW.out.sum.lt
        have og := fun e => (over_cell (w := W) (e := e) (o := 1) lg).trans (HW.out.tree.cell 1)
        have oa := fun e => (over_cell (w := W) (e := e) (o := 7) la).trans (HW.out.rb.1.cell 7)
        have ob3 := fun e => (over_cell (w := W) (e := e) (o := 3) lb).trans (HW.out.rb.2.2.1.cell 3)
        have ob4 := fun e => (over_cell (w := W) (e := e) (o := 4) lb).trans (HW.out.rb.2.2.1.cell 4)
        have oB0 := fun e => (over_cell (w := W) (e := e) (o := 0) lB).trans (HW.out.sum.cell 0)
        have oB1 := fun e => (over_cell (w := W) (e := e) (o := 1) lB).trans (HW.out.sum.cell 1)
        unfold treeC at og
        unfold nodeC at oa ob3 ob4
        simp only [List.getElem?_toArray, List.getElem?_cons_zero, List.getElem?_cons_succ, ptrV, adr, Option.map_some] at og oa ob3 ob4 oB0 oB1
        refine wp_region_over_tail 13 (by kernel_rfl) (by kernel_rfl) ?_
        simp only [List.take_succ_cons, List.take_zero, List.drop_succ_cons, List.drop_zero]
        repeat (first | go_big_quiet_skip | (go_big_quiet_want; go_big_quiet_op; first | go_big_quiet_on | (apply Exists.intro; refine ⟨fun e => ?_, ?_⟩; (focus (go_at_call 43; with_reducible exact calls_over (lesser_any ((ownK k v)) (sSR) _))); go_big_quiet_on)))
        refine wpQuiet_nil ?_
        rintro W2 ⟨e, he⟩
        have hb2 := over_below W e
        rw [← he] at hb2
        have H2 := Lib.hid (HW.out.later hb2)
        clear he og oa ob3 ob4 oB0 oB1 lg la lb lB hb2
        obtain ⟨y, hy⟩ : ∃ y, lessH (ownK k v) sSR = y := ⟨_, rfl⟩
        rw [hy]
        have f0 := H2.out.sum.frozen 0; have f1 := H2.out.sum.frozen 1
        have c0 := H2.out.sum.cell 0; have c1 := H2.out.sum.cell 1
        simp only [List.getElem?_toArray, List.getElem?_cons_zero, List.getElem?_cons_succ] at c0 c1
        have HY := Lib.hid hy
        clear hy
        have HS := Lib.hid (H2.out.put y)
        go_upto_region 6 with fail
        clear c0 c1 f0 f1 HW H2
        generalize (W2.setCell ⟨B, 0, none⟩ (.int .u64 y.1)).setCell ⟨B, 1, none⟩ (.int .i64 y.2) = W at HS ⊢
        have HW := Lib.hid HS.out
        clear HS
        clear W2
        obtain ⟨xR, hxR⟩ : ∃ x, x = y := ⟨_, rfl⟩
        rw [← hxR] at HY HW ⊢
        have HYR := Lib.hid HY.out
        clear HY hxR y cp
        have cs0 := HW.out.sum.cell 0; have cs1 := HW.out.sum.cell 1; have cr0 := HW.out.res.cell 0; have cr1 := HW.out.res.cell 1; have fr0 := HW.out.res.frozen 0; have fr1 := HW.out.res.frozen 1
        simp only [List.getElem?_toArray, List.getElem?_cons_zero, List.getElem?_cons_succ] at cs0 cs1 cr0 cr1

        go_wp2
        have hres := (HW.out.res.set_ 0 (.int .u64 xR.1)).set_ 1 (.int .i64 xR.2)
        have e0 := hres.cell 0; have e1 := hres.cell 1
        simp at e0 e1
        refine bodyPost_ret (v := .agg #[.int .u64 xR.1, .int .i64 xR.2]) (by (simp [results, Tryz.results108, go_sem, e0, e1])) rfl ⟨by rw [show total k v _ _ = xR from by unfold total joinL joinR; dsimp only; try rw [HYR.out]], (HW.out.below.setCell HW.out.rlo _).setCell HW.out.rlo _⟩
    | node bL kL vL sSL cL lL rL =>
      cases r with
      | nil =>
        have cp := HW.out.rb.1.cell 6
        unfold nodeC at cp
        simp only [List.getElem?_toArray, List.getElem?_cons_zero, List.getElem?_cons_succ, ptrV, adr, Option.map_some, Option.map_none] at cp
        go_upto_region 3 with fail
        have lg := HW.out.tree.lt; have la := HW.out.rb.1.lt; have lb := HW.out.rb.2.1.1.lt; have lB := HW.out.sum.lt
        have og := fun e => (over_cell (w := W) (e := e) (o := 1) lg).trans (HW.out.tree.cell 1)
        have oa := fun e => (over_cell (w := W) (e := e) (o := 6) la).trans (HW.out.rb.1.cell 6)
        have ob3 := fun e => (over_cell (w := W) (e := e) (o := 3) lb).trans (HW.out.rb.2.1.1.cell 3)
        have ob4 := fun e => (over_cell (w := W) (e := e) (o := 4) lb).trans (HW.out.rb.2.1.1.cell 4)
        have oB0 := fun e => (over_cell (w := W) (e := e) (o := 0) lB).trans (HW.out.sum.cell 0)
        have oB1 := fun e => (over_cell (w := W) (e := e) (o := 1) lB).trans (HW.out.sum.cell 1)
        unfold treeC at og
        unfold nodeC at oa ob3 ob4
        simp only [List.getElem?_toArray, List.getElem?_cons_zero, List.getElem?_cons_succ, ptrV, adr, Option.map_some] at og oa ob3 ob4 oB0 oB1
        refine wp_region_over_tail 13 (by kernel_rfl) (by kernel_rfl) ?_
        simp only [List.take_succ_cons, List.take_zero, List.drop_succ_cons, List.drop_zero]
        repeat (first | go_big_quiet_skip | (go_big_quiet_want; go_big_quiet_op; first | go_big_quiet_on | (apply Exists.intro; refine ⟨fun e => ?_, ?_⟩; (focus (go_at_call 43; with_reducible exact calls_over (lesser_any (sSL) ((ownK k v)) _))); go_big_quiet_on)))
        refine wpQuiet_nil ?_
        rintro W2 ⟨e, he⟩
        have hb2 := over_below W e
        rw [← he] at hb2
        have H2 := Lib.hid (HW.out.later hb2)
        clear he og oa ob3 ob4 oB0 oB1 lg la lb lB hb2
        obtain ⟨y, hy⟩ : ∃ y, lessH sSL (ownK k v) = y := ⟨_, rfl⟩
        rw [hy]
        have f0 := H2.out.sum.frozen 0; have f1 := H2.out.sum.frozen 1
        have c0 := H2.out.sum.cell 0; have c1 := H2.out.sum.cell 1
        simp only [List.getElem?_toArray, List.getElem?_cons_zero, List.getElem?_cons_succ] at c0 c1
        have HY := Lib.hid hy
        clear hy
        have HS := Lib.hid (H2.out.put y)
        go_upto_region 4 with fail
        clear c0 c1 f0 f1 HW H2
        generalize (W2.setCell ⟨B, 0, none⟩ (.int .u64 y.1)).setCell ⟨B, 1, none⟩ (.int .i64 y.2) = W at HS ⊢
        have HW := Lib.hid HS.out
        clear HS
        clear W2
        obtain ⟨xL, hxL⟩ : ∃ x, x = y := ⟨_, rfl⟩
        rw [← hxL] at HY HW ⊢
        have HYL := Lib.hid HY.out
        clear HY hxL y cp
        have cp := HW.out.rb.1.cell 7
        unfold nodeC at cp
        simp only [List.getElem?_toArray, List.getElem?_cons_zero, List.getElem?_cons_succ, ptrV, adr, Option.map_some, Option.map_none] at cp
        go_upto_region 6 with fail
        clear cp
        have cs0 := HW.out.sum.cell 0; have cs1 := HW.out.sum.cell 1; have cr0 := HW.out.res.cell 0; have cr1 := HW.out.res.cell 1; have fr0 := HW.out.res.frozen 0; have fr1 := HW.out.res.frozen 1
        simp only [List.getElem?_toArray, List.getElem?_cons_zero, List.getElem?_cons_succ] at cs0 cs1 cr0 cr1

        go_wp2
        have hres := (HW.out.res.set_ 0 (.int .u64 xL.1)).set_ 1 (.int .i64 xL.2)
        have e0 := hres.cell 0; have e1 := hres.cell 1
        simp at e0 e1
        refine bodyPost_ret (v := .agg #[.int .u64 xL.1, .int .i64 xL.2]) (by (simp [results, Tryz.results108, go_sem, e0, e1])) rfl ⟨by rw [show total k v _ _ = xL from by unfold total joinL joinR; dsimp only; rw [HYL.out]; try rfl], (HW.out.below.setCell HW.out.rlo _).setCell HW.out.rlo _⟩
      | node bR kR vR sSR cR lR rR =>
        have cp := HW.out.rb.1.cell 6
        unfold nodeC at cp
        simp only [List.getElem?_toArray, List.getElem?_cons_zero, List.getElem?_cons_succ, ptrV, adr, Option.map_some, Option.map_none] at cp
        go_upto_region 3 with fail
        have lg := HW.out.tree.lt; have la := HW.out.rb.1.lt; have lb := HW.out.rb.2.1.1.lt; have lB := HW.out.sum.lt
        have og := fun e => (over_cell (w := W) (e := e) (o := 1) lg).trans (HW.out.tree.cell 1)
        have oa := fun e => (over_cell (w := W) (e := e) (o := 6) la).trans (HW.out.rb.1.cell 6)
        have ob3 := fun e => (over_cell (w := W) (e := e) (o := 3) lb).trans (HW.out.rb.2.1.1.cell 3)
        have ob4 := fun e => (over_cell (w := W) (e := e) (o := 4) lb).trans (HW.out.rb.2.1.1.cell 4)
        have oB0 := fun e => (over_cell (w := W) (e := e) (o := 0) lB).trans (HW.out.sum.cell 0)
        have oB1 := fun e => (over_cell (w := W) (e := e) (o := 1) lB).trans (HW.out.sum.cell 1)
        unfold treeC at og
        unfold nodeC at oa ob3 ob4
        simp only [List.getElem?_toArray, List.getElem?_cons_zero, List.getElem?_cons_succ, ptrV, adr, Option.map_some] at og oa ob3 ob4 oB0 oB1
        refine wp_region_over_tail 13 (by kernel_rfl) (by kernel_rfl) ?_
        simp only [List.take_succ_cons, List.take_zero, List.drop_succ_cons, List.drop_zero]
        repeat (first | go_big_quiet_skip | (go_big_quiet_want; go_big_quiet_op; first | go_big_quiet_on | (apply Exists.intro; refine ⟨fun e => ?_, ?_⟩; (focus (go_at_call 43; with_reducible exact calls_over (lesser_any (sSL) ((ownK k v)) _))); go_big_quiet_on)))
        refine wpQuiet_nil ?_
        rintro W2 ⟨e, he⟩
        have hb2 := over_below W e
        rw [← he] at hb2
        have H2 := Lib.hid (HW.out.later hb2)
        clear he og oa ob3 ob4 oB0 oB1 lg la lb lB hb2
        obtain ⟨y, hy⟩ : ∃ y, lessH sSL (ownK k v) = y := ⟨_, rfl⟩
        rw [hy]
        have f0 := H2.out.sum.frozen 0; have f1 := H2.out.sum.frozen 1
        have c0 := H2.out.sum.cell 0; have c1 := H2.out.sum.cell 1
        simp only [List.getElem?_toArray, List.getElem?_cons_zero, List.getElem?_cons_succ] at c0 c1
        have HY := Lib.hid hy
        clear hy
        have HS := Lib.hid (H2.out.put y)
        go_upto_region 4 with fail
        clear c0 c1 f0 f1 HW H2
        generalize (W2.setCell ⟨B, 0, none⟩ (.int .u64 y.1)).setCell ⟨B, 1, none⟩ (.int .i64 y.2) = W at HS ⊢
        have HW := Lib.hid HS.out
        clear HS
        clear W2
        obtain ⟨xL, hxL⟩ : ∃ x, x = y := ⟨_, rfl⟩
        rw [← hxL] at HY HW ⊢
        have HYL := Lib.hid HY.out
        clear HY hxL y cp
        have cp := HW.out.rb.1.cell 7
        unfold nodeC at cp
        simp only [List.getElem?_toArray, List.getElem?_cons_zero, List.getElem?_cons_succ, ptrV, adr, Option.map_some, Option.map_none] at cp
        go_upto_region 5 with fail
        have lg := HW.out.tree.lt; have la := HW.out.rb.1.lt; have lb := HW.out.rb.2.2.1.lt; have lB := HW.out.sum.lt
        have og := fun e => (over_cell (w := W) (e := e) (o := 1) lg).trans (HW.out.tree.cell 1)
        have oa := fun e => (over_cell (w := W) (e := e) (o := 7) la).trans (HW.out.rb.1.cell 7)
        have ob3 := fun e => (over_cell (w := W) (e := e) (o := 3) lb).trans (HW.out.rb.2.2.1.cell 3)
        have ob4 := fun e => (over_cell (w := W) (e := e) (o := 4) lb).trans (HW.out.rb.2.2.1.cell 4)
        have oB0 := fun e => (over_cell (w := W) (e := e) (o := 0) lB).trans (HW.out.sum.cell 0)
        have oB1 := fun e => (over_cell (w := W) (e := e) (o := 1) lB).trans (HW.out.sum.cell 1)
        unfold treeC at og
        unfold nodeC at oa ob3 ob4
        simp only [List.getElem?_toArray, List.getElem?_cons_zero, List.getElem?_cons_succ, ptrV, adr, Option.map_some] at og oa ob3 ob4 oB0 oB1
        refine wp_region_over_tail 13 (by kernel_rfl) (by kernel_rfl) ?_
        simp only [List.take_succ_cons, List.take_zero, List.drop_succ_cons, List.drop_zero]
        repeat (first | go_big_quiet_skip | (go_big_quiet_want; go_big_quiet_op; first | go_big_quiet_on | (apply Exists.intro; refine ⟨fun e => ?_, ?_⟩; (focus (go_at_call 43; with_reducible exact calls_over (lesser_any (xL) (sSR) _))); go_big_quiet_on)))
        refine wpQuiet_nil ?_
        rintro W2 ⟨e, he⟩
        have hb2 := over_below W e
        rw [← he] at hb2
        have H2 := Lib.hid (HW.out.later hb2)
        clear he og oa ob3 ob4 oB0 oB1 lg la lb lB hb2
        obtain ⟨y, hy⟩ : ∃ y, lessH xL sSR = y := ⟨_, rfl⟩
        rw [hy]
        have f0 := H2.out.sum.frozen 0; have f1 := H2.out.sum.frozen 1
        have c0 := H2.out.sum.cell 0; have c1 := H2.out.sum.cell 1
        simp only [List.getElem?_toArray, List.getElem?_cons_zero, List.getElem?_cons_succ] at c0 c1
        have HY := Lib.hid hy
        clear hy
        have HS := Lib.hid (H2.out.put y)
        go_upto_region 6 with fail
        clear c0 c1 f0 f1 HW H2
        generalize (W2.setCell ⟨B, 0, none⟩ (.int .u64 y.1)).setCell ⟨B, 1, none⟩ (.int .i64 y.2) = W at HS ⊢
        have HW := Lib.hid HS.out
        clear HS
        clear W2
        obtain ⟨xR, hxR⟩ : ∃ x, x = y := ⟨_, rfl⟩
        rw [← hxR] at HY HW ⊢
        have HYR := Lib.hid HY.out
        clear HY hxR y cp
        have cs0 := HW.out.sum.cell 0; have cs1 := HW.out.sum.cell 1; have cr0 := HW.out.res.cell 0; have cr1 := HW.out.res.cell 1; have fr0 := HW.out.res.frozen 0; have fr1 := HW.out.res.frozen 1
        simp only [List.getElem?_toArray, List.getElem?_cons_zero, List.getElem?_cons_succ] at cs0 cs1 cr0 cr1

        go_wp2
        have hres := (HW.out.res.set_ 0 (.int .u64 xR.1)).set_ 1 (.int .i64 xR.2)
        have e0 := hres.cell 0; have e1 := hres.cell 1
        simp at e0 e1
        refine bodyPost_ret (v := .agg #[.int .u64 xR.1, .int .i64 xR.2]) (by (simp [results, Tryz.results108, go_sem, e0, e1])) rfl ⟨by rw [show total k v _ _ = xR from by unfold total joinL joinR; dsimp only; rw [HYL.out]; try rw [HYR.out]], (HW.out.below.setCell HW.out.rlo _).setCell HW.out.rlo _⟩
end Go.Proofs.YtbnnkkojlclgjaaGreat
