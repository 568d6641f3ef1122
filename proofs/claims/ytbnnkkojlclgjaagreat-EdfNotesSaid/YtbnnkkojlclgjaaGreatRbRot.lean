/-
  A left-leaning tree of red and black nodes in memory: a node is turned left, right. (Printed by wip/mkrbrot.py.)
-/
import Derived.Test.YtbnnkkojlclgjaaGreatRbTotal
namespace Go.Proofs.YtbnnkkojlclgjaaGreat
set_option linter.unusedVariables false
open Go.RowKit
attribute [local go_sem ↓] Go.wp_at_zero Go.wp_at_succ
attribute [local go_sem] quietR quietAtR quietUponR midAt midUpon

/-- what a turn hands back: the tree t', of which only nodes in S (and new ones) were changed -/
def TurnW (w : World) (S : List Nat) (t' : RB) (e : Ending) (w' : World) : Prop := e = .returned (ptrV t') ∧ RBAt w' t' ∧ Fr (fun x => x ∈ S) w w'
structure Apart2 (a b : Nat) (l m r : RB) : Prop where
  ab : a ≠ b
  al : a ∉ addrs l
  am : a ∉ addrs m
  ar : a ∉ addrs r
  bl : b ∉ addrs l
  bm : b ∉ addrs m
  br : b ∉ addrs r
theorem apart_right {a b : Nat} {k k2 : Ky} {v v2 : Int} {s s2 : Ky} {c c2 : Bool} {l m r : RB} (h : (addrs (.node a k v s c l (.node b k2 v2 s2 c2 m r))).Nodup) : Apart2 a b l m r := by
  simp only [addrs, List.nodup_cons, List.nodup_append, List.mem_append, List.mem_cons, not_or] at h
  obtain ⟨⟨h1, h2, h3, h4⟩, h5, ⟨⟨h6, h7⟩, h8⟩, h9⟩ := h
  exact ⟨h2, h1, h3, h4, fun hb => h9 b hb b (.inl rfl) rfl, h6, h7⟩
theorem apart_left {a b : Nat} {k k2 : Ky} {v v2 : Int} {s s2 : Ky} {c c2 : Bool} {l m r : RB} (h : (addrs (.node a k v s c (.node b k2 v2 s2 c2 l m) r)).Nodup) : Apart2 a b l m r := by
  simp only [addrs, List.nodup_cons, List.nodup_append, List.mem_append, List.mem_cons, not_or, List.cons_append] at h
  obtain ⟨⟨h2, ⟨h1, h3⟩, h4⟩, ⟨h6, h7⟩, h8⟩ := h
  exact ⟨h2, h1, h3, h4, h6.1, h6.2, h7⟩
structure TwoS (w W : World) (g : Nat) (p : Value) (n : Int) (a b : Nat) (cA cB : Array Value) (l m r : RB) : Prop where
  tree : Blk W g 129 (treeC p n)
  A : Blk W a 157 cA
  B : Blk W b 157 cB
  tl : RBAt W l
  tm : RBAt W m
  tr : RBAt W r
  ap : Apart2 a b l m r
  fr : Fr (fun x => x = a ∨ x = b) w W
section
variable {w W W' : World} {g : Nat} {p : Value} {n : Int} {a b : Nat} {cA cB : Array Value} {l m r : RB}
theorem TwoS.later (h : TwoS w W g p n a b cA cB l m r) (hb : Below W.heap.size W W') : TwoS w W' g p n a b cA cB l m r :=
  ⟨h.tree.below hb h.tree.lt, h.A.below hb h.A.lt, h.B.below hb h.B.lt, h.tl.later hb, h.tm.later hb, h.tr.later hb, h.ap, h.fr.trans (Fr.of_below hb)⟩
theorem node_ne {W : World} {g a : Nat} {t : TypeId} {cs cs' : Array Value} (hg : Blk W g t cs) (ha : Blk W a 157 cs') (ht : t ≠ 157) : g ≠ a := by
  rintro rfl
  have := hg.symm.trans ha
  simp only [Option.some.injEq, Obj.cells.injEq] at this
  exact ht this.2.1
theorem TwoS.setA (h : TwoS w W g p n a b cA cB l m r) (o : Nat) (u : Value) : TwoS w (W.setCell ⟨a, o, none⟩ u) g p n a b (cA.setIfInBounds o u) cB l m r := by
  have hk : ∀ q, q ≠ a → (W.setCell ⟨a, o, none⟩ u).heap[q]? = W.heap[q]? := fun q hq => Below.heap_setCell W ⟨a, o, none⟩ u q hq
  have hs := h.A.set_ o u
  exact ⟨(hk g (node_ne h.tree h.A (by decide))).trans h.tree, hs, (hk b h.ap.ab.symm).trans h.B, h.tl.kept fun q hq => hk q fun e => h.ap.al (e ▸ hq), h.tm.kept fun q hq => hk q fun e => h.ap.am (e ▸ hq), h.tr.kept fun q hq => hk q fun e => h.ap.ar (e ▸ hq), h.ap, h.fr.trans (Fr.set (.inl rfl))⟩
theorem TwoS.setB (h : TwoS w W g p n a b cA cB l m r) (o : Nat) (u : Value) : TwoS w (W.setCell ⟨b, o, none⟩ u) g p n a b cA (cB.setIfInBounds o u) l m r := by
  have hk : ∀ q, q ≠ b → (W.setCell ⟨b, o, none⟩ u).heap[q]? = W.heap[q]? := fun q hq => Below.heap_setCell W ⟨b, o, none⟩ u q hq
  have hs := h.B.set_ o u
  exact ⟨(hk g (node_ne h.tree h.B (by decide))).trans h.tree, (hk a h.ap.ab).trans h.A, hs, h.tl.kept fun q hq => hk q fun e => h.ap.bl (e ▸ hq), h.tm.kept fun q hq => hk q fun e => h.ap.bm (e ▸ hq), h.tr.kept fun q hq => hk q fun e => h.ap.br (e ▸ hq), h.ap, h.fr.trans (Fr.set (.inr rfl))⟩
theorem TwoS.castA (h : TwoS w W g p n a b cA cB l m r) {c' : Array Value} (e : cA = c') : TwoS w W g p n a b c' cB l m r := e ▸ h
theorem TwoS.castB (h : TwoS w W g p n a b cA cB l m r) {c' : Array Value} (e : cB = c') : TwoS w W g p n a b cA c' l m r := e ▸ h
end

set_option maxRecDepth 100000 in
set_option maxHeartbeats 4000000 in
theorem rotL_walk (g : Nat) (p : Value) (n : Int) (a : Nat) (k : Ky) (v : Int) (s : Ky) (c : Bool) (l m r : RB) (b : Nat) (k2 : Ky) (v2 : Int) (s2 : Ky) (c2 : Bool) (w : World) (hg : Blk w g 129 (treeC p n)) (h : RBAt w (.node a k v s c l (.node b k2 v2 s2 c2 m r))) (hn : (addrs (.node a k v s c l (.node b k2 v2 s2 c2 m r))).Nodup) :
    Calls Tryz.prog 107 #[.pointer (some ⟨g, 0, none⟩), .pointer (some ⟨a, 0, none⟩)] w (TurnW w (addrs (.node a k v s c l (.node b k2 v2 s2 c2 m r))) (.node b k2 v2 (total k2 v2 (.node a k v (total k v l m) true l m) r) c (.node a k v (total k v l m) true l m) r)) := by
  have hap := apart_right hn
  obtain ⟨hA, hl, hB, hm, hr⟩ := h
  have H0 := Lib.hid (⟨hg, hA, hB, hl, hm, hr, hap, Fr.refl _ _⟩ : TwoS w w g p n a b _ _ l m r)
  have hab : ¬ a = b := hap.ab
  have hba : ¬ b = a := fun e => hap.ab e.symm
  have a5 := hA.cell 5; have aT := hA.cell 7; have b5 := hB.cell 5; have bT := hB.cell 6
  have fa5 := hA.frozen 5; have faT := hA.frozen 7; have fb5 := hB.frozen 5; have fbT := hB.frozen 6
  unfold nodeC at a5 aT b5 bT
  simp only [List.getElem?_toArray, List.getElem?_cons_zero, List.getElem?_cons_succ] at a5 aT b5 bT
  have eb : ptrV (.node b k2 v2 s2 c2 m r) = .pointer (some ⟨b, 0, none⟩) := rfl
  rw [eb] at aT
  obtain ⟨pm, hpm⟩ : ∃ q, ptrV m = .pointer q := ⟨_, rfl⟩
  rw [hpm] at bT
  have HPM := Lib.hid hpm
  clear hpm
  clear eb hg hn hap hA hB hl hm hr
  go_enter Tryz.func107, Tryz.ntmps107
  go_upto_region 4 with fail
  have hT := ((((H0.out.setA 7 (.pointer pm)).setB 6 (.pointer (some ⟨a, 0, none⟩))).setB 5 (.bool c)).setA 5 (.bool true))
  have H3 := Lib.hid ((hT.castA (c' := nodeC k v s true l m) (by rw [← HPM.out]; rfl)).castB (c' := nodeC k2 v2 s2 c (.node a k v s true l m) r) rfl)
  clear hT
  generalize ((((w.setCell ⟨a, 7, none⟩ (.pointer pm)).setCell ⟨b, 6, none⟩ (.pointer (some ⟨a, 0, none⟩))).setCell ⟨b, 5, none⟩ (.bool c)).setCell ⟨a, 5, none⟩ (.bool true)) = W3 at H3 ⊢
  clear a5 aT b5 bT fa5 faT fb5 fbT
  have ht := total_any g a p n k v s true l m W3 H3.out.tree ⟨H3.out.A, H3.out.tl, H3.out.tm⟩
  go_wp2_with fail
  refine ht.mono ?_
  clear ht
  rintro e W4 ⟨rfl, hb4⟩
  have H4 := Lib.hid (H3.out.later hb4)
  clear hb4 H3
  obtain ⟨x, hx⟩ : ∃ x, total k v l m = x := ⟨_, rfl⟩
  rw [hx]
  have HX := Lib.hid hx
  clear hx
  have a3 := H4.out.A.cell 3; have a4 := H4.out.A.cell 4; have fa3 := H4.out.A.frozen 3; have fa4 := H4.out.A.frozen 4
  unfold nodeC at a3 a4
  simp only [List.getElem?_toArray, List.getElem?_cons_zero, List.getElem?_cons_succ] at a3 a4
  go_upto_region 5 with fail
  have H5 := Lib.hid (((H4.out.setA 3 (.int .u64 x.1)).setA 4 (.int .i64 x.2)).castA (c' := nodeC k v x true l m) rfl)
  generalize ((W4.setCell ⟨a, 3, none⟩ (.int .u64 x.1)).setCell ⟨a, 4, none⟩ (.int .i64 x.2)) = W5 at H5 ⊢
  clear a3 a4 fa3 fa4 H4
  have ht := total_any g b p n k2 v2 s2 c (.node a k v x true l m) r W5 H5.out.tree ⟨H5.out.B, ⟨H5.out.A, H5.out.tl, H5.out.tm⟩, H5.out.tr⟩
  go_wp2_with fail
  refine ht.mono ?_
  clear ht
  rintro e W6 ⟨rfl, hb6⟩
  have H6 := Lib.hid (H5.out.later hb6)
  clear hb6 H5
  obtain ⟨y, hy⟩ : ∃ y, total k2 v2 (.node a k v x true l m) r = y := ⟨_, rfl⟩
  rw [hy]
  have HY := Lib.hid hy
  clear hy
  have b3 := H6.out.B.cell 3; have b4 := H6.out.B.cell 4; have fb3 := H6.out.B.frozen 3; have fb4 := H6.out.B.frozen 4
  unfold nodeC at b3 b4
  simp only [List.getElem?_toArray, List.getElem?_cons_zero, List.getElem?_cons_succ] at b3 b4
  go_upto_region 6 with fail
  have H7 := Lib.hid (((H6.out.setB 3 (.int .u64 y.1)).setB 4 (.int .i64 y.2)).castB (c' := nodeC k2 v2 y c (.node a k v x true l m) r) rfl)
  generalize ((W6.setCell ⟨b, 3, none⟩ (.int .u64 y.1)).setCell ⟨b, 4, none⟩ (.int .i64 y.2)) = W7 at H7 ⊢
  clear b3 b4 fb3 fb4 H6
  go_wp2
  go_ret
  rw [HX.out, HY.out]
  refine ⟨rfl, ⟨H7.out.B, ⟨H7.out.A, H7.out.tl, H7.out.tm⟩, H7.out.tr⟩, H7.out.fr.weak fun q _ hq => ?_⟩
  rcases hq with rfl | rfl
  · exact .head _
  · exact List.mem_cons.2 (.inr (List.mem_append.2 (.inr (.head _))))
theorem rotL_any (g : Nat) (p : Value) (n : Int) (t t' : RB) (w : World) (hg : Blk w g 129 (treeC p n)) (h : RBAt w t) (hn : (addrs t).Nodup) (e : rotL t = some t') :
    Calls Tryz.prog 107 #[.pointer (some ⟨g, 0, none⟩), ptrV t] w (TurnW w (addrs t) t') := by
  cases t with
  | nil => cases e
  | node a k v s c l r =>
    cases r with
    | nil => cases e
    | node b k2 v2 s2 c2 x y =>
      cases e
      exact rotL_walk g p n a k v s c l x y b k2 v2 s2 c2 w hg h hn

set_option maxRecDepth 100000 in
set_option maxHeartbeats 4000000 in
theorem rotR_walk (g : Nat) (p : Value) (n : Int) (a : Nat) (k : Ky) (v : Int) (s : Ky) (c : Bool) (l m r : RB) (b : Nat) (k2 : Ky) (v2 : Int) (s2 : Ky) (c2 : Bool) (w : World) (hg : Blk w g 129 (treeC p n)) (h : RBAt w (.node a k v s c (.node b k2 v2 s2 c2 l m) r)) (hn : (addrs (.node a k v s c (.node b k2 v2 s2 c2 l m) r)).Nodup) :
    Calls Tryz.prog 101 #[.pointer (some ⟨g, 0, none⟩), .pointer (some ⟨a, 0, none⟩)] w (TurnW w (addrs (.node a k v s c (.node b k2 v2 s2 c2 l m) r)) (.node b k2 v2 (total k2 v2 l (.node a k v (total k v m r) true m r)) c l (.node a k v (total k v m r) true m r))) := by
  have hap := apart_left hn
  obtain ⟨hA, ⟨hB, hl, hm⟩, hr⟩ := h
  have H0 := Lib.hid (⟨hg, hA, hB, hl, hm, hr, hap, Fr.refl _ _⟩ : TwoS w w g p n a b _ _ l m r)
  have hab : ¬ a = b := hap.ab
  have hba : ¬ b = a := fun e => hap.ab e.symm
  have a5 := hA.cell 5; have aT := hA.cell 6; have b5 := hB.cell 5; have bT := hB.cell 7
  have fa5 := hA.frozen 5; have faT := hA.frozen 6; have fb5 := hB.frozen 5; have fbT := hB.frozen 7
  unfold nodeC at a5 aT b5 bT
  simp only [List.getElem?_toArray, List.getElem?_cons_zero, List.getElem?_cons_succ] at a5 aT b5 bT
  have eb : ptrV (.node b k2 v2 s2 c2 l m) = .pointer (some ⟨b, 0, none⟩) := rfl
  rw [eb] at aT
  obtain ⟨pm, hpm⟩ : ∃ q, ptrV m = .pointer q := ⟨_, rfl⟩
  rw [hpm] at bT
  have HPM := Lib.hid hpm
  clear hpm
  clear eb hg hn hap hA hB hl hm hr
  go_enter Tryz.func101, Tryz.ntmps101
  go_upto_region 4 with fail
  have hT := ((((H0.out.setA 6 (.pointer pm)).setB 7 (.pointer (some ⟨a, 0, none⟩))).setB 5 (.bool c)).setA 5 (.bool true))
  have H3 := Lib.hid ((hT.castA (c' := nodeC k v s true m r) (by rw [← HPM.out]; rfl)).castB (c' := nodeC k2 v2 s2 c l (.node a k v s true m r)) rfl)
  clear hT
  generalize ((((w.setCell ⟨a, 6, none⟩ (.pointer pm)).setCell ⟨b, 7, none⟩ (.pointer (some ⟨a, 0, none⟩))).setCell ⟨b, 5, none⟩ (.bool c)).setCell ⟨a, 5, none⟩ (.bool true)) = W3 at H3 ⊢
  clear a5 aT b5 bT fa5 faT fb5 fbT
  have ht := total_any g a p n k v s true m r W3 H3.out.tree ⟨H3.out.A, H3.out.tm, H3.out.tr⟩
  go_wp2_with fail
  refine ht.mono ?_
  clear ht
  rintro e W4 ⟨rfl, hb4⟩
  have H4 := Lib.hid (H3.out.later hb4)
  clear hb4 H3
  obtain ⟨x, hx⟩ : ∃ x, total k v m r = x := ⟨_, rfl⟩
  rw [hx]
  have HX := Lib.hid hx
  clear hx
  have a3 := H4.out.A.cell 3; have a4 := H4.out.A.cell 4; have fa3 := H4.out.A.frozen 3; have fa4 := H4.out.A.frozen 4
  unfold nodeC at a3 a4
  simp only [List.getElem?_toArray, List.getElem?_cons_zero, List.getElem?_cons_succ] at a3 a4
  go_upto_region 5 with fail
  have H5 := Lib.hid (((H4.out.setA 3 (.int .u64 x.1)).setA 4 (.int .i64 x.2)).castA (c' := nodeC k v x true m r) rfl)
  generalize ((W4.setCell ⟨a, 3, none⟩ (.int .u64 x.1)).setCell ⟨a, 4, none⟩ (.int .i64 x.2)) = W5 at H5 ⊢
  clear a3 a4 fa3 fa4 H4
  have ht := total_any g b p n k2 v2 s2 c l (.node a k v x true m r) W5 H5.out.tree ⟨H5.out.B, H5.out.tl, ⟨H5.out.A, H5.out.tm, H5.out.tr⟩⟩
  go_wp2_with fail
  refine ht.mono ?_
  clear ht
  rintro e W6 ⟨rfl, hb6⟩
  have H6 := Lib.hid (H5.out.later hb6)
  clear hb6 H5
  obtain ⟨y, hy⟩ : ∃ y, total k2 v2 l (.node a k v x true m r) = y := ⟨_, rfl⟩
  rw [hy]
  have HY := Lib.hid hy
  clear hy
  have b3 := H6.out.B.cell 3; have b4 := H6.out.B.cell 4; have fb3 := H6.out.B.frozen 3; have fb4 := H6.out.B.frozen 4
  unfold nodeC at b3 b4
  simp only [List.getElem?_toArray, List.getElem?_cons_zero, List.getElem?_cons_succ] at b3 b4
  go_upto_region 6 with fail
  have H7 := Lib.hid (((H6.out.setB 3 (.int .u64 y.1)).setB 4 (.int .i64 y.2)).castB (c' := nodeC k2 v2 y c l (.node a k v x true m r)) rfl)
  generalize ((W6.setCell ⟨b, 3, none⟩ (.int .u64 y.1)).setCell ⟨b, 4, none⟩ (.int .i64 y.2)) = W7 at H7 ⊢
  clear b3 b4 fb3 fb4 H6
  go_wp2
  go_ret
  rw [HX.out, HY.out]
  refine ⟨rfl, ⟨H7.out.B, H7.out.tl, ⟨H7.out.A, H7.out.tm, H7.out.tr⟩⟩, H7.out.fr.weak fun q _ hq => ?_⟩
  rcases hq with rfl | rfl
  · exact .head _
  · exact List.mem_cons.2 (.inr (List.mem_append.2 (.inl (.head _))))
theorem rotR_any (g : Nat) (p : Value) (n : Int) (t t' : RB) (w : World) (hg : Blk w g 129 (treeC p n)) (h : RBAt w t) (hn : (addrs t).Nodup) (e : rotR t = some t') :
    Calls Tryz.prog 101 #[.pointer (some ⟨g, 0, none⟩), ptrV t] w (TurnW w (addrs t) t') := by
  cases t with
  | nil => cases e
  | node a k v s c l r =>
    cases l with
    | nil => cases e
    | node b k2 v2 s2 c2 x y =>
      cases e
      exact rotR_walk g p n a k v s c x y r b k2 v2 s2 c2 w hg h hn
end Go.Proofs.YtbnnkkojlclgjaaGreat
