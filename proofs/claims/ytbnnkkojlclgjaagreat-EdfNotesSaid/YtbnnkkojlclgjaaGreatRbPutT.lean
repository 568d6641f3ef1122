/-
  A left-leaning tree of red and black nodes in memory: a new one comes. (Printed by wip/mkrbput.py.)
-/
import Derived.Test.YtbnnkkojlclgjaaGreatRbBal
import Derived.Test.YtbnnkkojlclgjaaGreatRegL
namespace Go.Proofs.YtbnnkkojlclgjaaGreat
set_option linter.unusedVariables false
open Go.RowKit
attribute [local go_sem ↓] Go.wp_at_zero Go.wp_at_succ
attribute [local go_sem] quietR quietAtR quietUponR midAt midUpon

theorem put_addr (a : Nat) (k : Ky) (v : Int) : ∀ (t t' : RB), putR a k v t = some t' → (addrs t').Perm (a :: addrs t)
  | .nil, t', h => by cases h; exact .refl _
  | .node b k2 v2 s c l r, t', h => by
    unfold putR at h
    split at h
    · obtain ⟨l', h1, h2⟩ := Option.bind_eq_some_iff.1 h
      refine (bal_same h2).1.addr.trans ?_
      show (b :: (addrs l' ++ addrs r)).Perm (a :: b :: (addrs l ++ addrs r))
      exact (List.Perm.cons b ((put_addr a k v l l' h1).append_right _)).trans (.swap a b _)
    · obtain ⟨r', h1, h2⟩ := Option.bind_eq_some_iff.1 h
      refine (bal_same h2).1.addr.trans ?_
      show (b :: (addrs l ++ addrs r')).Perm (a :: b :: (addrs l ++ addrs r))
      exact (List.Perm.cons b (((put_addr a k v r r' h1).append_left _).trans List.perm_middle)).trans (.swap a b _)
/-- what put hands back -/
def PutW (w : World) (k : Ky) (v : Int) (t : RB) (e : Ending) (w' : World) : Prop :=
  ∃ a t', e = .returned (ptrV t') ∧ w.heap.size ≤ a ∧ putR a k v t = some t' ∧ RBAt w' t' ∧ Fr (fun x => x ∈ addrs t) w w'
/-- a tree under way, with the key's box -/
structure PutS (W : World) (g : Nat) (p : Value) (n : Int) (kb : Nat) (k : Ky) (t : RB) : Prop where
  tree : Blk W g 129 (treeC p n)
  rb : RBAt W t
  nd : (addrs t).Nodup
  key : Blk W kb 131 #[.int .u64 k.1, .int .i64 k.2]
theorem PutS.later {W W' : World} {g : Nat} {p : Value} {n : Int} {kb : Nat} {k : Ky} {t : RB} (h : PutS W g p n kb k t) (hb : Below W.heap.size W W') : PutS W' g p n kb k t :=
  ⟨h.tree.below hb h.tree.lt, h.rb.later hb, h.nd, h.key.below hb h.key.lt⟩
theorem nd_left {b : Nat} {k2 : Ky} {v2 : Int} {s : Ky} {c : Bool} {l r : RB} (h : (addrs (.node b k2 v2 s c l r)).Nodup) : (addrs l).Nodup := by
  simp only [addrs, List.nodup_cons, List.nodup_append] at h
  exact h.2.1
theorem put_left {W W' : World} {g : Nat} {p : Value} {n : Int} {kb x b : Nat} {k k2 : Ky} {v2 : Int} {s : Ky} {c : Bool} {l l' r : RB} {q : Option Addr} (h : PutS W g p n kb k (.node b k2 v2 s c l r)) (hx : W.heap.size ≤ x) (hp : (addrs l').Perm (x :: addrs l)) (hr : RBAt W' l') (hf : Fr (fun y => y ∈ addrs l) W W') (hq : .pointer q = ptrV l') :
    BalS W (W'.setCell ⟨b, 6, none⟩ (.pointer q)) g p n (x :: addrs (.node b k2 v2 s c l r)) (.node b k2 v2 s c l' r) ∧ Blk W' b 157 (nodeC k2 v2 s c l r) := by
  have hnd := h.nd
  simp only [addrs, List.nodup_cons, List.nodup_append, List.mem_append, not_or] at hnd
  obtain ⟨⟨hbl, hbr⟩, hnl, hnr, hlr⟩ := hnd
  have hlt := fun y hy => RBAt.lt h.rb y hy
  have hxb : b ≠ x := by have := hlt b (.head _); omega
  have hB' := h.rb.1.fr hf hbl
  have hk : ∀ y, y ≠ b → (W'.setCell ⟨b, 6, none⟩ (.pointer q)).heap[y]? = W'.heap[y]? := fun y hy => Below.heap_setCell W' ⟨b, 6, none⟩ _ y hy
  have hbl' : b ∉ addrs l' := fun hm => by
    rcases List.mem_cons.1 (hp.mem_iff.1 hm) with e | e
    · exact hxb e
    · exact hbl e
  have hoth := h.rb.2.2.fr hf (fun y hy hy2 => hlr y hy2 y hy rfl)
  have hperm : (addrs (.node b k2 v2 s c l' r)).Perm (x :: addrs (.node b k2 v2 s c l r)) := (List.Perm.cons b (hp.append_right _)).trans (.swap x b _)
  have hset := hB'.set_ 6 (.pointer q)
  refine ⟨⟨(hk g (node_ne h.tree h.rb.1 (by decide))).trans (h.tree.fr hf (RBAt.typed h.tree (by decide) h.rb.2.1)), ⟨?_, hr.kept fun y hy => hk y fun e => hbl' (e ▸ hy), hoth.kept fun y hy => hk y fun e => hbr (e ▸ hy)⟩, ?_, fun y hy => hperm.mem_iff.1 hy, ?_⟩, hB'⟩
  · rw [show nodeC k2 v2 s c l' r = (nodeC k2 v2 s c l r).setIfInBounds 6 (.pointer q) by rw [hq]; rfl]
    exact hset
  · refine hperm.nodup_iff.2 (List.nodup_cons.2 ⟨fun hm => ?_, h.nd⟩)
    have := hlt x hm; omega
  · exact (hf.weak fun y _ hy => List.mem_cons.2 (.inr (List.mem_cons.2 (.inr (List.mem_append.2 (.inl hy)))))).trans (Fr.set (List.mem_cons.2 (.inr (.head _))))
theorem nd_right {b : Nat} {k2 : Ky} {v2 : Int} {s : Ky} {c : Bool} {l r : RB} (h : (addrs (.node b k2 v2 s c l r)).Nodup) : (addrs r).Nodup := by
  simp only [addrs, List.nodup_cons, List.nodup_append] at h
  exact h.2.2.1
theorem put_right {W W' : World} {g : Nat} {p : Value} {n : Int} {kb x b : Nat} {k k2 : Ky} {v2 : Int} {s : Ky} {c : Bool} {l l' r : RB} {q : Option Addr} (h : PutS W g p n kb k (.node b k2 v2 s c l r)) (hx : W.heap.size ≤ x) (hp : (addrs l').Perm (x :: addrs r)) (hr : RBAt W' l') (hf : Fr (fun y => y ∈ addrs r) W W') (hq : .pointer q = ptrV l') :
    BalS W (W'.setCell ⟨b, 7, none⟩ (.pointer q)) g p n (x :: addrs (.node b k2 v2 s c l r)) (.node b k2 v2 s c l l') ∧ Blk W' b 157 (nodeC k2 v2 s c l r) := by
  have hnd := h.nd
  simp only [addrs, List.nodup_cons, List.nodup_append, List.mem_append, not_or] at hnd
  obtain ⟨⟨hbl, hbr⟩, hnl, hnr, hlr⟩ := hnd
  have hlt := fun y hy => RBAt.lt h.rb y hy
  have hxb : b ≠ x := by have := hlt b (.head _); omega
  have hB' := h.rb.1.fr hf hbr
  have hk : ∀ y, y ≠ b → (W'.setCell ⟨b, 7, none⟩ (.pointer q)).heap[y]? = W'.heap[y]? := fun y hy => Below.heap_setCell W' ⟨b, 7, none⟩ _ y hy
  have hbl' : b ∉ addrs l' := fun hm => by
    rcases List.mem_cons.1 (hp.mem_iff.1 hm) with e | e
    · exact hxb e
    · exact hbr e
  have hoth := h.rb.2.1.fr hf (fun y hy hy2 => hlr y hy y hy2 rfl)
  have hperm : (addrs (.node b k2 v2 s c l l')).Perm (x :: addrs (.node b k2 v2 s c l r)) := (List.Perm.cons b ((hp.append_left _).trans List.perm_middle)).trans (.swap x b _)
  have hset := hB'.set_ 7 (.pointer q)
  refine ⟨⟨(hk g (node_ne h.tree h.rb.1 (by decide))).trans (h.tree.fr hf (RBAt.typed h.tree (by decide) h.rb.2.2)), ⟨?_, hoth.kept fun y hy => hk y fun e => hbl (e ▸ hy), hr.kept fun y hy => hk y fun e => hbl' (e ▸ hy)⟩, ?_, fun y hy => hperm.mem_iff.1 hy, ?_⟩, hB'⟩
  · rw [show nodeC k2 v2 s c l l' = (nodeC k2 v2 s c l r).setIfInBounds 7 (.pointer q) by rw [hq]; rfl]
    exact hset
  · refine hperm.nodup_iff.2 (List.nodup_cons.2 ⟨fun hm => ?_, h.nd⟩)
    have := hlt x hm; omega
  · exact (hf.weak fun y _ hy => List.mem_cons.2 (.inr (List.mem_cons.2 (.inr (List.mem_append.2 (.inr hy)))))).trans (Fr.set (List.mem_cons.2 (.inr (.head _))))

set_option maxRecDepth 100000 in
set_option maxHeartbeats 4000000 in
theorem put_any (g : Nat) (p : Value) (n : Int) (k : Ky) (v : Int) : ∀ (t : RB) (w : World), Blk w g 129 (treeC p n) → RBAt w t → (addrs t).Nodup → (∀ a, ∃ t', putR a k v t = some t') →
    Calls Tryz.prog 92 #[.pointer (some ⟨g, 0, none⟩), ptrV t, .agg #[.int .u64 k.1, .int .i64 k.2], .int .u64 v] w (PutW w k v t) := by
  intro t
  induction t with
  | nil =>
    intro w hg _ _ _
    have hb0 := (Below.refl w.heap.size w).alloc (Nat.le_refl _) (.cells #[.int .u64 k.1, .int .i64 k.2] 131)
    have hk0 := Blk.new w 131 #[.int .u64 k.1, .int .i64 k.2]
    have H0 := Lib.hid (And.intro (hg.below hb0 hg.lt) hk0)
    have HB0 := Lib.hid hb0
    clear hg hb0 hk0
    have ev : ptrV .nil = .pointer none := rfl
    rw [ev]
    clear ev
    go_enter Tryz.func92, Tryz.ntmps92
    go_upto_region 3 with fail
    obtain ⟨kb, hkb⟩ : ∃ q, q = w.heap.size := ⟨_, rfl⟩
    rw [← hkb] at H0 ⊢
    clear hkb
    generalize w.alloc (.cells #[.int .u64 k.1, .int .i64 k.2] 131) = W1 at H0 HB0 ⊢
    have og := fun e => (over_cell (w := W1) (e := e) (o := 0) H0.out.1.lt).trans (H0.out.1.cell 0)
    have ok0 := fun e => (over_cell (w := W1) (e := e) (o := 0) H0.out.2.lt).trans (H0.out.2.cell 0)
    have ok1 := fun e => (over_cell (w := W1) (e := e) (o := 1) H0.out.2.lt).trans (H0.out.2.cell 1)
    unfold treeC at og
    simp only [List.getElem?_toArray, List.getElem?_cons_zero, List.getElem?_cons_succ] at og ok0 ok1
    refine wp_region_over_tail 9 (by kernel_rfl) (by kernel_rfl) ?_
    simp only [List.take_succ_cons, List.take_zero, List.drop_succ_cons, List.drop_zero]
    repeat (first | go_big_quiet_skip | (go_big_quiet_want; go_big_quiet_op; first | go_big_quiet_on | (apply Exists.intro; refine ⟨fun e => ?_, ?_⟩; (focus (go_at_call 42; with_reducible exact calls_over (own_any k v _))); go_big_quiet_on)))
    refine wpQuiet_nil ?_
    rintro W2 ⟨e, he⟩
    have hb2 := over_below W1 e
    rw [← he] at hb2
    have HB := Lib.hid (HB0.out.trans (hb2.mono HB0.out.size))
    clear he og ok0 ok1 hb2 H0 HB0
    obtain ⟨o, ho⟩ : ∃ o, ownK k v = o := ⟨_, rfl⟩
    rw [ho]
    have HO := Lib.hid ho
    clear ho
    go_wp2
    go_ret
    have hnb := Blk.new W2 157 (nodeC k v o true .nil .nil)
    refine ⟨W2.heap.size, .node W2.heap.size k v o true .nil .nil, rfl, HB.out.size, by rw [← HO.out]; rfl, ⟨hnb, trivial, trivial⟩, ?_⟩
    exact (Fr.of_below HB.out).trans (Fr.alloc _)
  | node b k2 v2 s c l r ihl ihr =>
    intro w hg h hn hs
    have hb0 := (Below.refl w.heap.size w).alloc (Nat.le_refl _) (.cells #[.int .u64 k.1, .int .i64 k.2] 131)
    have hk0 := Blk.new w 131 #[.int .u64 k.1, .int .i64 k.2]
    obtain ⟨kb, hkb⟩ : ∃ q, q = w.heap.size := ⟨_, rfl⟩
    rw [← hkb] at hk0
    have H0 := Lib.hid (And.intro (⟨hg.below hb0 hg.lt, h.later hb0, hn, hk0⟩ : PutS _ g p n kb k (.node b k2 v2 s c l r)) hb0)
    have HS := Lib.hid hs
    have HKB := Lib.hid hkb
    clear hg h hn hs hb0 hk0 hkb
    have ev : ptrV (.node b k2 v2 s c l r) = .pointer (some ⟨b, 0, none⟩) := rfl
    rw [ev]
    clear ev
    go_enter Tryz.func92, Tryz.ntmps92
    go_upto_region 4 with fail
    rw [← HKB.out]
    generalize w.alloc (.cells #[.int .u64 k.1, .int .i64 k.2] 131) = W1 at H0 ⊢
    have ok0 := fun e => (over_cell (w := W1) (e := e) (o := 0) H0.out.1.key.lt).trans (H0.out.1.key.cell 0)
    have ok1 := fun e => (over_cell (w := W1) (e := e) (o := 1) H0.out.1.key.lt).trans (H0.out.1.key.cell 1)
    have ob0 := fun e => (over_cell (w := W1) (e := e) (o := 0) H0.out.1.rb.1.lt).trans (H0.out.1.rb.1.cell 0)
    have ob1 := fun e => (over_cell (w := W1) (e := e) (o := 1) H0.out.1.rb.1.lt).trans (H0.out.1.rb.1.cell 1)
    unfold nodeC at ob0 ob1
    simp only [List.getElem?_toArray, List.getElem?_cons_zero, List.getElem?_cons_succ] at ok0 ok1 ob0 ob1
    refine wp_region_over_tail 5 (by kernel_rfl) (by kernel_rfl) ?_
    simp only [List.take_succ_cons, List.take_zero, List.drop_succ_cons, List.drop_zero]
    repeat (first | go_big_quiet_skip | (go_big_quiet_want; go_big_quiet_op; go_big_quiet_on))
    refine wpQuiet_nil ?_
    rintro W2 ⟨e, he⟩
    have hb2 := over_below W1 e
    rw [← he] at hb2
    have H2 := Lib.hid (And.intro (H0.out.1.later hb2) (H0.out.2.trans (hb2.mono H0.out.2.size)))
    clear he ok0 ok1 ob0 ob1 hb2 H0
    have hless := less_any k k2 W2
    go_wp2_with fail
    cases hlt : lessK k k2 with
    | true =>
      rw [hlt] at hless
      have HLT := Lib.hid hlt
      clear hlt
      refine hless.mono ?_
      clear hless
      rintro e W3 ⟨rfl, hb3⟩
      have H3 := Lib.hid (And.intro (H2.out.1.later hb3) (H2.out.2.trans (hb3.mono H2.out.2.size)))
      clear hb3 H2
      have hrec : ∀ a, ∃ l', putR a k v l = some l' ∧ ∃ t', putR a k v (.node b k2 v2 s c l r) = some t' ∧ bal (.node b k2 v2 s c l' r) = some t' := fun a => by
        obtain ⟨t', ht⟩ := HS.out a
        have ht2 := ht
        unfold putR at ht
        rw [if_pos HLT.out] at ht
        obtain ⟨l', h1, h2⟩ := Option.bind_eq_some_iff.1 ht
        exact ⟨l', h1, t', ht2, h2⟩
      have HREC := Lib.hid hrec
      clear hrec HLT
      go_upto_region 5 with fail
      have o1 := fun e => (over_cell (w := W3) (e := e) (o := 6) H3.out.1.rb.1.lt).trans (H3.out.1.rb.1.cell 6)
      unfold nodeC at o1
      simp only [List.getElem?_toArray, List.getElem?_cons_zero, List.getElem?_cons_succ] at o1
      have ok0 := fun e => (over_cell (w := W3) (e := e) (o := 0) H3.out.1.key.lt).trans (H3.out.1.key.cell 0)
      have ok1 := fun e => (over_cell (w := W3) (e := e) (o := 1) H3.out.1.key.lt).trans (H3.out.1.key.cell 1)
      simp only [List.getElem?_toArray, List.getElem?_cons_zero, List.getElem?_cons_succ] at ok0 ok1
      refine wp_region_late (w := W3) 8 4 0 [] [] [] rfl (by kernel_rfl) (by kernel_rfl) (by kernel_rfl) (by kernel_rfl) (fun _ _ _ _ _ h => h) trivial ?_
      intro LL hL
      have HL := Lib.hid hL
      clear hL
      simp only [List.take_succ_cons, List.take_zero, putL]
      iterate 8 (first | refine wpHead_skip (by decide) ?_ | (refine wpHead_step (by decide) (fun K hK => ?_); go_simp; (refine hK _ ?_; clear hK K)))
      refine wpHead_nil (HL.out _ trivial ?_)
      intro vs W4 hb4 hf
      clear hf HL
      change wpList _ _ _ _ _ _
      simp only [List.drop_succ_cons, List.drop_zero, List.take_succ_cons, List.take_zero, putHd]
      have H4 := Lib.hid (And.intro (H3.out.1.later hb4) (H3.out.2.trans (hb4.mono H3.out.2.size)))
      clear o1 ok0 ok1 hb4
      have hput := ihl W4 H4.out.1.tree H4.out.1.rb.2.1 (nd_left H4.out.1.nd) (fun a => by obtain ⟨l', h1, _⟩ := HREC.out a; exact ⟨l', h1⟩)
      clear H3
      go_wp2_with fail
      refine hput.mono ?_
      clear hput
      rintro e W5 ⟨x, l', rfl, hx, hxl, hr5, hf5⟩
      obtain ⟨pl, hpp⟩ : ∃ q, ptrV l' = .pointer q := ⟨_, rfl⟩
      obtain ⟨hbs, hblk⟩ := put_left H4.out.1 hx (put_addr x k v _ _ hxl) hr5 hf5 hpp.symm
      rw [hpp]
      have H5 := Lib.hid hbs
      have HX := Lib.hid (And.intro hx hxl)
      have c6 := hblk.cell 6; have f6 := hblk.frozen 6
      unfold nodeC at c6
      simp only [List.getElem?_toArray, List.getElem?_cons_zero, List.getElem?_cons_succ] at c6
      obtain ⟨pq, hpq⟩ : ∃ q, ptrV l = .pointer q := ⟨_, rfl⟩
      rw [hpq] at c6
      clear hpp hx hxl hr5 hf5 hbs hblk hpq
      go_upto_region 6 with fail
      generalize W5.setCell ⟨b, 6, none⟩ (.pointer pl) = W6 at H5 ⊢
      clear c6 f6
      obtain ⟨l2, e2, t', e3, e4⟩ := HREC.out x
      rw [HX.out.2] at e2
      obtain rfl : l' = l2 := Option.some.inj e2
      have hbal := balance_any g p n (.node b k2 v2 s c l' r) t' W6 H5.out.tree H5.out.rb H5.out.nd e4
      have ev2 : ptrV (.node b k2 v2 s c l' r) = .pointer (some ⟨b, 0, none⟩) := rfl
      rw [ev2] at hbal
      have HE := Lib.hid e3
      clear e2 e3 e4 ev2
      go_wp2_with fail
      refine hbal.mono ?_
      clear hbal
      rintro e W7 ⟨rfl, hr7, hf7⟩
      have HF := Lib.hid (And.intro hr7 hf7)
      clear hr7 hf7
      go_wp2_with fail
      go_ret
      refine ⟨x, t', rfl, Nat.le_trans H4.out.2.size HX.out.1, HE.out, HF.out.1, ?_⟩
      have f1 : Fr (fun y => y ∈ addrs (.node b k2 v2 s c l r)) w W4 := Fr.of_below H4.out.2
      refine f1.trans ((H5.out.fr.trans (HF.out.2.weak fun y _ hy => H5.out.sub y hy)).weak fun y hy1 hy2 => ?_)
      rcases List.mem_cons.1 hy2 with rfl | hy2
      · have := HX.out.1; omega
      · exact hy2
    | false =>
      rw [hlt] at hless
      have HLT := Lib.hid hlt
      clear hlt
      refine hless.mono ?_
      clear hless
      rintro e W3 ⟨rfl, hb3⟩
      have H3 := Lib.hid (And.intro (H2.out.1.later hb3) (H2.out.2.trans (hb3.mono H2.out.2.size)))
      clear hb3 H2
      have hrec : ∀ a, ∃ l', putR a k v r = some l' ∧ ∃ t', putR a k v (.node b k2 v2 s c l r) = some t' ∧ bal (.node b k2 v2 s c l l') = some t' := fun a => by
        obtain ⟨t', ht⟩ := HS.out a
        have ht2 := ht
        unfold putR at ht
        rw [if_neg (by rw [HLT.out]; simp)] at ht
        obtain ⟨l', h1, h2⟩ := Option.bind_eq_some_iff.1 ht
        exact ⟨l', h1, t', ht2, h2⟩
      have HREC := Lib.hid hrec
      clear hrec HLT
      go_upto_region 1 with fail
      have o1 := fun e => (over_cell (w := W3) (e := e) (o := 7) H3.out.1.rb.1.lt).trans (H3.out.1.rb.1.cell 7)
      unfold nodeC at o1
      simp only [List.getElem?_toArray, List.getElem?_cons_zero, List.getElem?_cons_succ] at o1
      have ok0 := fun e => (over_cell (w := W3) (e := e) (o := 0) H3.out.1.key.lt).trans (H3.out.1.key.cell 0)
      have ok1 := fun e => (over_cell (w := W3) (e := e) (o := 1) H3.out.1.key.lt).trans (H3.out.1.key.cell 1)
      simp only [List.getElem?_toArray, List.getElem?_cons_zero, List.getElem?_cons_succ] at ok0 ok1
      refine wp_region_late (w := W3) 8 4 0 [] [] [] rfl (by kernel_rfl) (by kernel_rfl) (by kernel_rfl) (by kernel_rfl) (fun _ _ _ _ _ h => h) trivial ?_
      intro LL hL
      have HL := Lib.hid hL
      clear hL
      simp only [List.take_succ_cons, List.take_zero, putL]
      iterate 8 (first | refine wpHead_skip (by decide) ?_ | (refine wpHead_step (by decide) (fun K hK => ?_); go_simp; (refine hK _ ?_; clear hK K)))
      refine wpHead_nil (HL.out _ trivial ?_)
      intro vs W4 hb4 hf
      clear hf HL
      change wpList _ _ _ _ _ _
      simp only [List.drop_succ_cons, List.drop_zero, List.take_succ_cons, List.take_zero, putHd]
      have H4 := Lib.hid (And.intro (H3.out.1.later hb4) (H3.out.2.trans (hb4.mono H3.out.2.size)))
      clear o1 ok0 ok1 hb4
      have hput := ihr W4 H4.out.1.tree H4.out.1.rb.2.2 (nd_right H4.out.1.nd) (fun a => by obtain ⟨l', h1, _⟩ := HREC.out a; exact ⟨l', h1⟩)
      clear H3
      go_wp2_with fail
      refine hput.mono ?_
      clear hput
      rintro e W5 ⟨x, l', rfl, hx, hxl, hr5, hf5⟩
      obtain ⟨pl, hpp⟩ : ∃ q, ptrV l' = .pointer q := ⟨_, rfl⟩
      obtain ⟨hbs, hblk⟩ := put_right H4.out.1 hx (put_addr x k v _ _ hxl) hr5 hf5 hpp.symm
      rw [hpp]
      have H5 := Lib.hid hbs
      have HX := Lib.hid (And.intro hx hxl)
      have c6 := hblk.cell 7; have f6 := hblk.frozen 7
      unfold nodeC at c6
      simp only [List.getElem?_toArray, List.getElem?_cons_zero, List.getElem?_cons_succ] at c6
      obtain ⟨pq, hpq⟩ : ∃ q, ptrV r = .pointer q := ⟨_, rfl⟩
      rw [hpq] at c6
      clear hpp hx hxl hr5 hf5 hbs hblk hpq
      go_upto_region 6 with fail
      generalize W5.setCell ⟨b, 7, none⟩ (.pointer pl) = W6 at H5 ⊢
      clear c6 f6
      obtain ⟨l2, e2, t', e3, e4⟩ := HREC.out x
      rw [HX.out.2] at e2
      obtain rfl : l' = l2 := Option.some.inj e2
      have hbal := balance_any g p n (.node b k2 v2 s c l l') t' W6 H5.out.tree H5.out.rb H5.out.nd e4
      have ev2 : ptrV (.node b k2 v2 s c l l') = .pointer (some ⟨b, 0, none⟩) := rfl
      rw [ev2] at hbal
      have HE := Lib.hid e3
      clear e2 e3 e4 ev2
      go_wp2_with fail
      refine hbal.mono ?_
      clear hbal
      rintro e W7 ⟨rfl, hr7, hf7⟩
      have HF := Lib.hid (And.intro hr7 hf7)
      clear hr7 hf7
      go_wp2_with fail
      go_ret
      refine ⟨x, t', rfl, Nat.le_trans H4.out.2.size HX.out.1, HE.out, HF.out.1, ?_⟩
      have f1 : Fr (fun y => y ∈ addrs (.node b k2 v2 s c l r)) w W4 := Fr.of_below H4.out.2
      refine f1.trans ((H5.out.fr.trans (HF.out.2.weak fun y _ hy => H5.out.sub y hy)).weak fun y hy1 hy2 => ?_)
      rcases List.mem_cons.1 hy2 with rfl | hy2
      · have := HX.out.1; omega
      · exact hy2
end Go.Proofs.YtbnnkkojlclgjaaGreat
