/-
  The tree between calls; its calls that only read: is it made, the node of a key, a value, how many.
-/
import Derived.Test.YtbnnkkojlclgjaaGreatRbTotal
import Derived.Deep.LoopGhost
namespace Go.Proofs.YtbnnkkojlclgjaaGreat
set_option linter.unusedVariables false
open Go.RowKit
attribute [local go_sem ↓] Go.wp_at_zero Go.wp_at_succ
attribute [local go_sem] quietR quietAtR quietUponR midAt midUpon plain plainUpon

structure RbT (w : World) (g : Nat) (t : RB) : Prop where
  tree : Blk w g 129 (treeC (ptrV t) (listT t).length)
  rb : RBAt w t
  nd : (addrs t).Nodup
  well : Well t
theorem RbT.later {w w' : World} {g : Nat} {t : RB} (h : RbT w g t) (hb : Below w.heap.size w w') : RbT w' g t := ⟨h.tree.below hb h.tree.lt, h.rb.later hb, h.nd, h.well⟩
theorem RbT.fr {S : Nat → Prop} {w w' : World} {g : Nat} {t : RB} (h : RbT w g t) (hf : Fr S w w') (hg : ¬ S g) (hn : ∀ a ∈ addrs t, ¬ S a) : RbT w' g t := ⟨h.tree.fr hf hg, h.rb.fr hf hn, h.nd, h.well⟩
theorem RbT.far {w : World} {g : Nat} {t : RB} (h : RbT w g t) : g ∉ addrs t := RBAt.typed h.tree (by decide) h.rb

theorem own_nil (W : World) : (binOp .eql 82 (.func (.func 42) #[] #[]) .nilFunc).run Tryz.prog W = .ok (.bool false) W := by kernel_rfl
theorem lesser_nil (W : World) : (binOp .eql 83 (.func (.func 43) #[] #[]) .nilFunc).run Tryz.prog W = .ok (.bool false) W := by kernel_rfl
set_option maxRecDepth 100000 in
theorem none_any (g : Nat) (p : Value) (n : Int) (w : World) (h : Blk w g 129 (treeC p n)) :
    Calls Tryz.prog 88 #[.pointer (some ⟨g, 0, none⟩)] w fun e w' => e = .returned (.bool false) ∧ w = w' := by
  have c0 := h.cell 0; have c1 := h.cell 1
  unfold treeC at c0 c1
  simp only [List.getElem?_toArray, List.getElem?_cons_zero, List.getElem?_cons_succ] at c0 c1
  clear h
  have hn0 := own_nil; have hn1 := lesser_nil
  go_enter Tryz.func88, Tryz.ntmps88
  go_wp2
  go_ret
  exact ⟨rfl, rfl⟩
theorem key_eqT (x : Ky) (W : World) : (binOp .eql 131 (.agg #[.int .u64 x.1, .int .i64 x.2]) (.agg #[.int .u64 x.1, .int .i64 x.2])).run Tryz.prog W = .ok (.bool true) W := by go_simp
theorem key_neT (x : Ky) (W : World) : (binOp .neq 131 (.agg #[.int .u64 x.1, .int .i64 x.2]) (.agg #[.int .u64 x.1, .int .i64 x.2])).run Tryz.prog W = .ok (.bool false) W := by go_simp
theorem key_eqF (x y : Ky) (h : x ≠ y) (W : World) : (binOp .eql 131 (.agg #[.int .u64 x.1, .int .i64 x.2]) (.agg #[.int .u64 y.1, .int .i64 y.2])).run Tryz.prog W = .ok (.bool false) W := by
  have : ¬ (x.1 = y.1 ∧ x.2 = y.2) := fun hh => h (Prod.ext hh.1 hh.2)
  by_cases h1 : x.1 = y.1
  · have h2 : ¬ x.2 = y.2 := fun hh => this ⟨h1, hh⟩
    go_simp
  · go_simp
theorem key_neF (x y : Ky) (h : x ≠ y) (W : World) : (binOp .neq 131 (.agg #[.int .u64 x.1, .int .i64 x.2]) (.agg #[.int .u64 y.1, .int .i64 y.2])).run Tryz.prog W = .ok (.bool true) W := by
  have : ¬ (x.1 = y.1 ∧ x.2 = y.2) := fun hh => h (Prod.ext hh.1 hh.2)
  by_cases h1 : x.1 = y.1
  · have h2 : ¬ x.2 = y.2 := fun hh => this ⟨h1, hh⟩
    go_simp
  · go_simp

def AtW (w : World) (x : Ky) (t : RB) (e : Ending) (w' : World) : Prop := e = .returned (ptrV (findT x t)) ∧ Below w.heap.size w w'
theorem findT_nil (x : Ky) : findT x .nil = .nil := rfl
theorem findT_same (a : Nat) (x : Ky) (v : Int) (s : Ky) (c : Bool) (l r : RB) : findT x (.node a x v s c l r) = .node a x v s c l r := by unfold findT; rw [if_pos rfl]
theorem findT_left {a : Nat} {x k : Ky} {v : Int} {s : Ky} {c : Bool} {l r : RB} (h : lessK x k = true) : findT x (.node a k v s c l r) = findT x l := by
  have := lessK_ne h
  conv => lhs; unfold findT
  rw [if_neg this.symm, if_pos h]
theorem findT_right {a : Nat} {x k : Ky} {v : Int} {s : Ky} {c : Bool} {l r : RB} (h : lessK x k = false) (hne : k ≠ x) : findT x (.node a k v s c l r) = findT x r := by
  conv => lhs; unfold findT
  rw [if_neg hne, if_neg (by rw [h]; simp)]
set_option maxRecDepth 100000 in
set_option maxHeartbeats 4000000 in
theorem rbat_any (g : Nat) (x : Ky) (n : Int) (t : RB) (w : World) (hg : Blk w g 129 (treeC (ptrV t) n)) (hr : RBAt w t) :
    Calls Tryz.prog 89 #[.pointer (some ⟨g, 0, none⟩), .agg #[.int .u64 x.1, .int .i64 x.2]] w (AtW w x t) := by
  have hb0 := (Below.refl w.heap.size w).alloc (Nat.le_refl _) (.cells #[.int .u64 x.1, .int .i64 x.2] 131)
  have hk0 := Blk.new w 131 #[.int .u64 x.1, .int .i64 x.2]
  obtain ⟨kb, hkb⟩ : ∃ q, q = w.heap.size := ⟨_, rfl⟩
  rw [← hkb] at hk0
  have hg0 := hg.below hb0 hg.lt
  have hnone := none_any g _ _ _ hg0
  have c2 := hg0.cell 2
  unfold treeC at c2
  simp only [List.getElem?_toArray, List.getElem?_cons_zero, List.getElem?_cons_succ] at c2
  have H0 := Lib.hid (And.intro (hr.later hb0) (And.intro hk0 hb0))
  have HKB := Lib.hid hkb
  clear hg hr hb0 hk0 hkb hg0
  go_enter Tryz.func89, Tryz.ntmps89
  go_wp2_with fail
  refine hnone.mono ?_
  clear hnone
  rintro e w1 ⟨rfl, rfl⟩
  rw [← HKB.out]
  generalize w.alloc (.cells #[.int .u64 x.1, .int .i64 x.2] 131) = W1 at H0 c2 ⊢
  go_wp2_with fail
  clear c2
  have ok0 := H0.out.2.1.cell 0; have ok1 := H0.out.2.1.cell 1
  simp only [List.getElem?_toArray, List.getElem?_cons_zero, List.getElem?_cons_succ] at ok0 ok1
  go_loopg [5] (sizeT t) (fun k v5 wr => ∃ u, sizeT u = k ∧ v5 = ptrV u ∧ findT x u = findT x t ∧ RBAt wr u ∧ Blk wr kb 131 #[.int .u64 x.1, .int .i64 x.2] ∧ Below w.heap.size w wr)
  case atStart => exact ⟨t, rfl, rfl, rfl, H0.out⟩
  case round =>
    obtain ⟨u, hsz, rfl, hfu, hru, hkb, hbr⟩ := hrel
    clear ok0 ok1 H0
    cases u with
    | nil =>
      have e1 : ptrV .nil = .pointer none := rfl
      rw [e1]
      have HF := Lib.hid hfu
      have HB := Lib.hid hbr
      clear hfu hbr hru e1
      go_upto_region 4 with fail
      refine wp_region_over (by kernel_rfl) (by kernel_rfl) ?_
      repeat (first | go_big_quiet_skip | (go_big_quiet_want; go_big_quiet_op; go_big_quiet_on))
      refine wpQuiet_nil ?_
      rintro W2 ⟨e, he⟩
      have hb2 := over_below wr e
      rw [← he] at hb2
      have HB2 := Lib.hid (HB.out.trans (hb2.mono HB.out.size))
      clear he hb2 HB
      go_wp2_with fail
      go_ret
      exact ⟨by rw [← HF.out]; rfl, HB2.out⟩
    | node a k v s c l r =>
      have e1 : ptrV (.node a k v s c l r) = .pointer (some ⟨a, 0, none⟩) := rfl
      rw [e1]
      have HU := Lib.hid (And.intro hru (And.intro hkb hbr))
      have HF := Lib.hid hfu
      have HSZ := Lib.hid hsz
      have ok0 := fun e => (over_cell (w := wr) (e := e) (o := 0) hkb.lt).trans (hkb.cell 0)
      have ok1 := fun e => (over_cell (w := wr) (e := e) (o := 1) hkb.lt).trans (hkb.cell 1)
      have oa0 := fun e => (over_cell (w := wr) (e := e) (o := 0) hru.1.lt).trans (hru.1.cell 0)
      have oa1 := fun e => (over_cell (w := wr) (e := e) (o := 1) hru.1.lt).trans (hru.1.cell 1)
      unfold nodeC at oa0 oa1
      simp only [List.getElem?_toArray, List.getElem?_cons_zero, List.getElem?_cons_succ] at ok0 ok1 oa0 oa1
      clear hru hkb hbr hfu hsz e1
      by_cases hk : k = x
      · subst hk
        have hkeq := key_neT k
        go_upto_region 4 with fail
        refine wp_region_over (by kernel_rfl) (by kernel_rfl) ?_
        repeat (first | go_big_quiet_skip | (go_big_quiet_want; go_big_quiet_op; go_big_quiet_on))
        refine wpQuiet_nil ?_
        rintro W2 ⟨e, he⟩
        have hb2 := over_below wr e
        rw [← he] at hb2
        have HB2 := Lib.hid (HU.out.2.2.trans (hb2.mono HU.out.2.2.size))
        clear he hb2 HU ok0 ok1 oa0 oa1 hkeq
        go_wp2_with fail
        go_ret
        exact ⟨by rw [← HF.out, findT_same]; rfl, HB2.out⟩
      · have hkeq := key_neF k x hk
        go_upto_region 4 with fail
        refine wp_region_over (by kernel_rfl) (by kernel_rfl) ?_
        repeat (first | go_big_quiet_skip | (go_big_quiet_want; go_big_quiet_op; go_big_quiet_on))
        refine wpQuiet_nil ?_
        rintro W2 ⟨e, he⟩
        have hb2 := over_below wr e
        rw [← he] at hb2
        have H2 := Lib.hid (And.intro (HU.out.1.later hb2) (And.intro (HU.out.2.1.below hb2 HU.out.2.1.lt) (HU.out.2.2.trans (hb2.mono HU.out.2.2.size))))
        clear he hb2 HU ok0 ok1 oa0 oa1 hkeq
        go_upto_region 5 with fail
        have ok0 := fun e => (over_cell (w := W2) (e := e) (o := 0) H2.out.2.1.lt).trans (H2.out.2.1.cell 0)
        have ok1 := fun e => (over_cell (w := W2) (e := e) (o := 1) H2.out.2.1.lt).trans (H2.out.2.1.cell 1)
        have oa0 := fun e => (over_cell (w := W2) (e := e) (o := 0) H2.out.1.1.lt).trans (H2.out.1.1.cell 0)
        have oa1 := fun e => (over_cell (w := W2) (e := e) (o := 1) H2.out.1.1.lt).trans (H2.out.1.1.cell 1)
        unfold nodeC at oa0 oa1
        simp only [List.getElem?_toArray, List.getElem?_cons_zero, List.getElem?_cons_succ] at ok0 ok1 oa0 oa1
        refine wp_region_over_tail 5 (by kernel_rfl) (by kernel_rfl) ?_
        simp only [List.take_succ_cons, List.take_zero, List.drop_succ_cons, List.drop_zero]
        repeat (first | go_big_quiet_skip | (go_big_quiet_want; go_big_quiet_op; go_big_quiet_on))
        refine wpQuiet_nil ?_
        rintro W3 ⟨e, he⟩
        have hb3 := over_below W2 e
        rw [← he] at hb3
        have H3 := Lib.hid (And.intro (H2.out.1.later hb3) (And.intro (H2.out.2.1.below hb3 H2.out.2.1.lt) (H2.out.2.2.trans (hb3.mono H2.out.2.2.size))))
        clear he hb3 H2 ok0 ok1 oa0 oa1
        have hless := less_any x k W3
        go_wp2_with fail
        refine hless.mono ?_
        clear hless
        rintro e W4 ⟨rfl, hb4⟩
        have H4 := Lib.hid (And.intro (H3.out.1.later hb4) (And.intro (H3.out.2.1.below hb4 H3.out.2.1.lt) (H3.out.2.2.trans (hb4.mono H3.out.2.2.size))))
        clear hb4 H3
        have a6 := H4.out.1.1.cell 6; have a7 := H4.out.1.1.cell 7
        unfold nodeC at a6 a7
        simp only [List.getElem?_toArray, List.getElem?_cons_zero, List.getElem?_cons_succ] at a6 a7
        cases hlt : lessK x k with
        | true =>
          have HF2 := Lib.hid ((findT_left hlt).symm.trans HF.out)
          clear hlt HF a7
          go_wp2_with fail
          go_roundg (sizeT l)
          case measure => have := HSZ.out; simp only [sizeT] at this; omega
          case rel => exact ⟨l, rfl, rfl, HF2.out, H4.out.1.2.1, H4.out.2⟩
        | false =>
          have HF2 := Lib.hid ((findT_right hlt hk).symm.trans HF.out)
          clear hlt HF a6
          go_wp2_with fail
          go_roundg (sizeT r)
          case measure => have := HSZ.out; simp only [sizeT] at this; omega
          case rel => exact ⟨r, rfl, rfl, HF2.out, H4.out.1.2.2, H4.out.2⟩
end Go.Proofs.YtbnnkkojlclgjaaGreat
