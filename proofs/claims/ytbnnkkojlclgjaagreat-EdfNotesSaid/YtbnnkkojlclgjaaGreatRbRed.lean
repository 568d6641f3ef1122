/-
  A left-leaning tree of red and black nodes in memory: the left one below, or one below that, is made red; the right one. (Printed by wip/mkrbred.py.)
-/
import Derived.Test.YtbnnkkojlclgjaaGreatRbPutT
namespace Go.Proofs.YtbnnkkojlclgjaaGreat
set_option linter.unusedVariables false
open Go.RowKit
attribute [local go_sem ↓] Go.wp_at_zero Go.wp_at_succ
attribute [local go_sem] quietR quietAtR quietUponR midAt midUpon

theorem child_left {w W W' : World} {g : Nat} {p : Value} {n : Int} {S : List Nat} {b : Nat} {k2 : Ky} {v2 : Int} {s : Ky} {c : Bool} {l l' r : RB} {q : Option Addr} (h : BalS w W g p n S (.node b k2 v2 s c l r)) (hn : (addrs l').Nodup) (hs : ∀ y ∈ addrs l', y ∈ addrs l) (hr : RBAt W' l') (hf : Fr (fun y => y ∈ addrs l) W W') (hq : .pointer q = ptrV l') :
    BalS w (W'.setCell ⟨b, 6, none⟩ (.pointer q)) g p n S (.node b k2 v2 s c l' r) ∧ Blk W' b 157 (nodeC k2 v2 s c l r) := by
  have hnd := h.nd
  simp only [addrs, List.nodup_cons, List.nodup_append, List.mem_append, not_or] at hnd
  obtain ⟨⟨hbl, hbr⟩, hnl, hnr, hlr⟩ := hnd
  have hB' := h.rb.1.fr hf hbl
  have hk : ∀ y, y ≠ b → (W'.setCell ⟨b, 6, none⟩ (.pointer q)).heap[y]? = W'.heap[y]? := fun y hy => Below.heap_setCell W' ⟨b, 6, none⟩ _ y hy
  have hbl' : b ∉ addrs l' := fun hm => hbl (hs b hm)
  have hoth := h.rb.2.2.fr hf (fun y hy hy2 => hlr y hy2 y hy rfl)
  have hset := hB'.set_ 6 (.pointer q)
  refine ⟨⟨(hk g (node_ne h.tree h.rb.1 (by decide))).trans (h.tree.fr hf (RBAt.typed h.tree (by decide) h.rb.2.1)), ⟨?_, hr.kept fun y hy => hk y fun e => hbl' (e ▸ hy), hoth.kept fun y hy => hk y fun e => hbr (e ▸ hy)⟩, ?_, fun y hy => ?_, ?_⟩, hB'⟩
  · rw [show nodeC k2 v2 s c l' r = (nodeC k2 v2 s c l r).setIfInBounds 6 (.pointer q) by rw [hq]; rfl]
    exact hset
  · simp only [addrs, List.nodup_cons, List.nodup_append, List.mem_append, not_or]
    exact ⟨⟨hbl', hbr⟩, hn, hnr, fun y hy z hz => hlr y (hs y hy) z hz⟩
  · rcases List.mem_cons.1 hy with rfl | hy
    · exact h.sub y (.head _)
    · rcases List.mem_append.1 hy with hy | hy
      · exact h.sub y (List.mem_cons.2 (.inr (List.mem_append.2 (.inl (hs y hy)))))
      · exact h.sub y (List.mem_cons.2 (.inr (List.mem_append.2 (.inr hy))))
  · exact h.fr.trans ((hf.weak fun y _ hy => h.sub y (List.mem_cons.2 (.inr (List.mem_append.2 (.inl hy))))).trans (Fr.set (h.sub b (.head _))))
theorem child_right {w W W' : World} {g : Nat} {p : Value} {n : Int} {S : List Nat} {b : Nat} {k2 : Ky} {v2 : Int} {s : Ky} {c : Bool} {l l' r : RB} {q : Option Addr} (h : BalS w W g p n S (.node b k2 v2 s c l r)) (hn : (addrs l').Nodup) (hs : ∀ y ∈ addrs l', y ∈ addrs r) (hr : RBAt W' l') (hf : Fr (fun y => y ∈ addrs r) W W') (hq : .pointer q = ptrV l') :
    BalS w (W'.setCell ⟨b, 7, none⟩ (.pointer q)) g p n S (.node b k2 v2 s c l l') ∧ Blk W' b 157 (nodeC k2 v2 s c l r) := by
  have hnd := h.nd
  simp only [addrs, List.nodup_cons, List.nodup_append, List.mem_append, not_or] at hnd
  obtain ⟨⟨hbl, hbr⟩, hnl, hnr, hlr⟩ := hnd
  have hB' := h.rb.1.fr hf hbr
  have hk : ∀ y, y ≠ b → (W'.setCell ⟨b, 7, none⟩ (.pointer q)).heap[y]? = W'.heap[y]? := fun y hy => Below.heap_setCell W' ⟨b, 7, none⟩ _ y hy
  have hbl' : b ∉ addrs l' := fun hm => hbr (hs b hm)
  have hoth := h.rb.2.1.fr hf (fun y hy hy2 => hlr y hy y hy2 rfl)
  have hset := hB'.set_ 7 (.pointer q)
  refine ⟨⟨(hk g (node_ne h.tree h.rb.1 (by decide))).trans (h.tree.fr hf (RBAt.typed h.tree (by decide) h.rb.2.2)), ⟨?_, hoth.kept fun y hy => hk y fun e => hbl (e ▸ hy), hr.kept fun y hy => hk y fun e => hbl' (e ▸ hy)⟩, ?_, fun y hy => ?_, ?_⟩, hB'⟩
  · rw [show nodeC k2 v2 s c l l' = (nodeC k2 v2 s c l r).setIfInBounds 7 (.pointer q) by rw [hq]; rfl]
    exact hset
  · simp only [addrs, List.nodup_cons, List.nodup_append, List.mem_append, not_or]
    exact ⟨⟨hbl, hbl'⟩, hnl, hn, fun y hy z hz => hlr y hy z (hs z hz)⟩
  · rcases List.mem_cons.1 hy with rfl | hy
    · exact h.sub y (.head _)
    · rcases List.mem_append.1 hy with hy | hy
      · exact h.sub y (List.mem_cons.2 (.inr (List.mem_append.2 (.inl hy))))
      · exact h.sub y (List.mem_cons.2 (.inr (List.mem_append.2 (.inr (hs y hy)))))
  · exact h.fr.trans ((hf.weak fun y _ hy => h.sub y (List.mem_cons.2 (.inr (List.mem_append.2 (.inr hy))))).trans (Fr.set (h.sub b (.head _))))
theorem flip_ptr {t t' : RB} (h : flipT t = some t') : ptrV t' = ptrV t := by
  cases t with
  | nil => cases h
  | node a k v s c l r =>
    cases l with
    | nil => cases h
    | node => cases r with
      | nil => cases h
      | node => cases h; rfl
theorem ptr_node {t t' : RB} {a : Nat} (h : ptrV t = .pointer (some ⟨a, 0, none⟩)) : ∃ k v s c l r, t = .node a k v s c l r := by
  cases t with
  | nil => cases h
  | node b k v s c l r =>
    have : b = a := by
      have h : (Value.pointer (some ⟨b, 0, none⟩)) = .pointer (some ⟨a, 0, none⟩) := h
      simpa using h
    subst this
    exact ⟨k, v, s, c, l, r, rfl⟩
theorem node_of {t : RB} (h : t ≠ .nil) : ∃ a k v s c l r, t = .node a k v s c l r := by
  cases t with
  | nil => exact absurd rfl h
  | node a k v s c l r => exact ⟨a, k, v, s, c, l, r, rfl⟩
theorem BalS.done {w W : World} {g : Nat} {p : Value} {n : Int} {t t' : RB} (h : BalS w W g p n (addrs t) t') : TurnW w (addrs t) t' (.returned (ptrV t')) W := ⟨rfl, h.rb, h.fr⟩

set_option maxRecDepth 100000 in
set_option maxHeartbeats 4000000 in
theorem redL_walk (g : Nat) (p : Value) (n : Int) (a : Nat) (k : Ky) (v : Int) (s : Ky) (c : Bool) (b : Nat) (k2 : Ky) (v2 : Int) (s2 : Ky) (c2 : Bool) (l2 r2 : RB) (d : Nat) (k3 : Ky) (v3 : Int) (s3 : Ky) (c3 : Bool) (l3 r3 : RB) (t' : RB) (w : World)
    (h0 : BalS w w g p n (addrs (.node a k v s c (.node b k2 v2 s2 c2 l2 r2) (.node d k3 v3 s3 c3 l3 r3))) (.node a k v s c (.node b k2 v2 s2 c2 l2 r2) (.node d k3 v3 s3 c3 l3 r3))) (e : redL (.node a k v s c (.node b k2 v2 s2 c2 l2 r2) (.node d k3 v3 s3 c3 l3 r3)) = some t') :
    Calls Tryz.prog 99 #[.pointer (some ⟨g, 0, none⟩), .pointer (some ⟨a, 0, none⟩)] w (TurnW w (addrs (.node a k v s c (.node b k2 v2 s2 c2 l2 r2) (.node d k3 v3 s3 c3 l3 r3))) t') := by
  have e1 : flipT (.node a k v s c (.node b k2 v2 s2 c2 l2 r2) (.node d k3 v3 s3 c3 l3 r3)) = some (.node a k v s (!c) (.node b k2 v2 s2 (!c2) l2 r2) (.node d k3 v3 s3 (!c3) l3 r3)) := rfl
  unfold redL at e
  rw [e1] at e
  have e : (if isR l3 = true then (rotR (.node d k3 v3 s3 (!c3) l3 r3)).bind fun r => (rotL (.node a k v s (!c) (.node b k2 v2 s2 (!c2) l2 r2) r)).bind flipT else some (.node a k v s (!c) (.node b k2 v2 s2 (!c2) l2 r2) (.node d k3 v3 s3 (!c3) l3 r3))) = some t' := e
  have hf := flip_walk a k v s c b k2 v2 s2 c2 l2 r2 d k3 v3 s3 c3 l3 r3 w h0.rb h0.nd
  have H0 := Lib.hid h0
  have HF := Lib.hid (flip_same e1).1.addr
  obtain ⟨S, hS⟩ : ∃ S, S = addrs (.node a k v s c (.node b k2 v2 s2 c2 l2 r2) (.node d k3 v3 s3 c3 l3 r3)) := ⟨_, rfl⟩
  rw [← hS] at H0 ⊢
  have HSE := Lib.hid hS
  have E := Lib.hid e
  clear e e1 h0 hS
  go_enter Tryz.func99, Tryz.ntmps99
  go_wp2_with fail
  refine hf.mono ?_
  clear hf
  rintro e W1 ⟨rfl, hr1, hf1⟩
  have H1 := Lib.hid (H0.out.turn HF.out hr1 hf1)
  clear hr1 hf1 H0 HF
  generalize (!c) = c' at H1 E
  generalize (!c2) = c2' at H1 E
  generalize (!c3) = c3' at H1 E
  have a7 := H1.out.rb.1.cell 7; have d6 := H1.out.rb.2.2.1.cell 6
  unfold nodeC at a7 d6
  simp only [List.getElem?_toArray, List.getElem?_cons_zero, List.getElem?_cons_succ] at a7 d6
  have ed : ptrV (.node d k3 v3 s3 c3' l3 r3) = .pointer (some ⟨d, 0, none⟩) := rfl
  rw [ed] at a7
  cases hl : isR l3 with
  | false =>
    have hir := is_eq l3 _ hl W1 H1.out.rb.2.2.2.1
    have e := E.out
    rw [hl] at e
    cases e
    clear hl ed
    go_wp2_with fail
    refine hir.mono ?_
    rintro e w1 ⟨rfl, rfl⟩
    go_wp2_with fail
    go_ret
    rw [HSE.out] at H1 ⊢
    exact H1.out.done
  | true =>
    have hir := is_eq l3 _ hl W1 H1.out.rb.2.2.2.1
    have e := E.out
    rw [hl, if_pos rfl] at e
    obtain ⟨r', e1, e⟩ := Option.bind_eq_some_iff.1 e
    obtain ⟨t3, e2, e3⟩ := Option.bind_eq_some_iff.1 e
    have hrot := rotR_any g p n _ _ W1 H1.out.tree H1.out.rb.2.2 (nd_right H1.out.nd) e1
    rw [ed] at hrot
    have hs1 := rotR_same e1
    have HE := Lib.hid (And.intro hs1.1.addr (And.intro e2 e3))
    clear hl e e1 e2 e3 ed E hs1
    go_wp2_with fail
    refine hir.mono ?_
    clear hir d6
    rintro e w1 ⟨rfl, rfl⟩
    go_wp2_with fail
    refine hrot.mono ?_
    clear hrot
    rintro e W2 ⟨rfl, hr2, hf2⟩
    obtain ⟨q, hq⟩ : ∃ q, ptrV r' = .pointer q := ⟨_, rfl⟩
    obtain ⟨hb2, hB2⟩ := child_right H1.out (HE.out.1.nodup_iff.2 (nd_right H1.out.nd)) (fun y hy => HE.out.1.mem_iff.1 hy) hr2 hf2 hq.symm
    rw [hq]
    have H2 := Lib.hid hb2
    have c7 := hB2.cell 7; have f7 := hB2.frozen 7
    unfold nodeC at c7
    simp only [List.getElem?_toArray, List.getElem?_cons_zero, List.getElem?_cons_succ] at c7
    have ed : ptrV (.node d k3 v3 s3 c3' l3 r3) = .pointer (some ⟨d, 0, none⟩) := rfl
    rw [ed] at c7
    clear hr2 hf2 hq hb2 hB2 ed a7
    go_upto_region 4 with fail
    generalize W2.setCell ⟨a, 7, none⟩ (.pointer q) = W3 at H2 ⊢
    clear c7 f7 H1
    have hrot := rotL_any g p n _ _ W3 H2.out.tree H2.out.rb H2.out.nd HE.out.2.1
    have ea : ptrV (.node a k v s c' (.node b k2 v2 s2 c2' l2 r2) r') = .pointer (some ⟨a, 0, none⟩) := rfl
    rw [ea] at hrot
    clear ea
    go_wp2_with fail
    refine hrot.mono ?_
    clear hrot
    rintro e W4 ⟨rfl, hr4, hf4⟩
    have H4 := Lib.hid (H2.out.turn (rotL_same HE.out.2.1).1.addr hr4 hf4)
    clear hr4 hf4 H2
    have hfl := flip_any t3 t' W4 H4.out.rb H4.out.nd HE.out.2.2
    go_wp2_with fail
    refine hfl.mono ?_
    clear hfl
    rintro e W5 ⟨rfl, hr5, hf5⟩
    have H5 := Lib.hid (H4.out.turn (flip_same HE.out.2.2).1.addr hr5 hf5)
    clear hr5 hf5 H4
    go_wp2_with fail
    go_ret
    rw [HSE.out] at H5 ⊢
    rw [← flip_ptr HE.out.2.2]
    exact H5.out.done
theorem redL_any (g : Nat) (p : Value) (n : Int) (t t' : RB) (w : World) (h : BalS w w g p n (addrs t) t) (e : redL t = some t') :
    Calls Tryz.prog 99 #[.pointer (some ⟨g, 0, none⟩), ptrV t] w (TurnW w (addrs t) t') := by
  cases t with
  | nil => cases e
  | node a k v s c l r =>
    cases l with
    | nil => cases e
    | node b k2 v2 s2 c2 l2 r2 =>
      cases r with
      | nil => cases e
      | node d k3 v3 s3 c3 l3 r3 => exact redL_walk g p n a k v s c b k2 v2 s2 c2 l2 r2 d k3 v3 s3 c3 l3 r3 t' w h e

set_option maxRecDepth 100000 in
set_option maxHeartbeats 4000000 in
theorem redRt_walk (g : Nat) (p : Value) (n : Int) (a : Nat) (k : Ky) (v : Int) (s : Ky) (c : Bool) (b : Nat) (k2 : Ky) (v2 : Int) (s2 : Ky) (c2 : Bool) (l2 r2 : RB) (d : Nat) (k3 : Ky) (v3 : Int) (s3 : Ky) (c3 : Bool) (l3 r3 : RB) (t' : RB) (w : World)
    (h0 : BalS w w g p n (addrs (.node a k v s c (.node b k2 v2 s2 c2 l2 r2) (.node d k3 v3 s3 c3 l3 r3))) (.node a k v s c (.node b k2 v2 s2 c2 l2 r2) (.node d k3 v3 s3 c3 l3 r3))) (e : redRt (.node a k v s c (.node b k2 v2 s2 c2 l2 r2) (.node d k3 v3 s3 c3 l3 r3)) = some t') :
    Calls Tryz.prog 102 #[.pointer (some ⟨g, 0, none⟩), .pointer (some ⟨a, 0, none⟩)] w (TurnW w (addrs (.node a k v s c (.node b k2 v2 s2 c2 l2 r2) (.node d k3 v3 s3 c3 l3 r3))) t') := by
  have e1 : flipT (.node a k v s c (.node b k2 v2 s2 c2 l2 r2) (.node d k3 v3 s3 c3 l3 r3)) = some (.node a k v s (!c) (.node b k2 v2 s2 (!c2) l2 r2) (.node d k3 v3 s3 (!c3) l3 r3)) := rfl
  unfold redRt at e
  rw [e1] at e
  have e : (if isR l2 = true then (rotR (.node a k v s (!c) (.node b k2 v2 s2 (!c2) l2 r2) (.node d k3 v3 s3 (!c3) l3 r3))).bind flipT else some (.node a k v s (!c) (.node b k2 v2 s2 (!c2) l2 r2) (.node d k3 v3 s3 (!c3) l3 r3))) = some t' := e
  have hf := flip_walk a k v s c b k2 v2 s2 c2 l2 r2 d k3 v3 s3 c3 l3 r3 w h0.rb h0.nd
  have H0 := Lib.hid h0
  have HF := Lib.hid (flip_same e1).1.addr
  obtain ⟨S, hS⟩ : ∃ S, S = addrs (.node a k v s c (.node b k2 v2 s2 c2 l2 r2) (.node d k3 v3 s3 c3 l3 r3)) := ⟨_, rfl⟩
  rw [← hS] at H0 ⊢
  have HSE := Lib.hid hS
  have E := Lib.hid e
  clear e e1 h0 hS
  go_enter Tryz.func102, Tryz.ntmps102
  go_wp2_with fail
  refine hf.mono ?_
  clear hf
  rintro e W1 ⟨rfl, hr1, hf1⟩
  have H1 := Lib.hid (H0.out.turn HF.out hr1 hf1)
  clear hr1 hf1 H0 HF
  generalize (!c) = c' at H1 E
  generalize (!c2) = c2' at H1 E
  generalize (!c3) = c3' at H1 E
  have a6 := H1.out.rb.1.cell 6; have b6 := H1.out.rb.2.1.1.cell 6
  unfold nodeC at a6 b6
  simp only [List.getElem?_toArray, List.getElem?_cons_zero, List.getElem?_cons_succ] at a6 b6
  have eb : ptrV (.node b k2 v2 s2 c2' l2 r2) = .pointer (some ⟨b, 0, none⟩) := rfl
  rw [eb] at a6
  clear eb
  cases hl : isR l2 with
  | false =>
    have hir := is_eq l2 _ hl W1 H1.out.rb.2.1.2.1
    have e := E.out
    rw [hl] at e
    cases e
    clear hl
    go_wp2_with fail
    refine hir.mono ?_
    rintro e w1 ⟨rfl, rfl⟩
    go_wp2_with fail
    go_ret
    rw [HSE.out] at H1 ⊢
    exact H1.out.done
  | true =>
    have hir := is_eq l2 _ hl W1 H1.out.rb.2.1.2.1
    have e := E.out
    rw [hl, if_pos rfl] at e
    obtain ⟨t3, e2, e3⟩ := Option.bind_eq_some_iff.1 e
    have HE := Lib.hid (And.intro e2 e3)
    have hrot := rotR_any g p n _ _ W1 H1.out.tree H1.out.rb H1.out.nd e2
    have ea : ptrV (.node a k v s c' (.node b k2 v2 s2 c2' l2 r2) (.node d k3 v3 s3 c3' l3 r3)) = .pointer (some ⟨a, 0, none⟩) := rfl
    rw [ea] at hrot
    clear hl e e2 e3 E ea
    go_wp2_with fail
    refine hir.mono ?_
    clear hir a6 b6
    rintro e w1 ⟨rfl, rfl⟩
    go_wp2_with fail
    refine hrot.mono ?_
    clear hrot
    rintro e W4 ⟨rfl, hr4, hf4⟩
    have H4 := Lib.hid (H1.out.turn (rotR_same HE.out.1).1.addr hr4 hf4)
    clear hr4 hf4 H1
    have hfl := flip_any t3 t' W4 H4.out.rb H4.out.nd HE.out.2
    go_wp2_with fail
    refine hfl.mono ?_
    clear hfl
    rintro e W5 ⟨rfl, hr5, hf5⟩
    have H5 := Lib.hid (H4.out.turn (flip_same HE.out.2).1.addr hr5 hf5)
    clear hr5 hf5 H4
    go_wp2_with fail
    go_ret
    rw [HSE.out] at H5 ⊢
    rw [← flip_ptr HE.out.2]
    exact H5.out.done
theorem redRt_any (g : Nat) (p : Value) (n : Int) (t t' : RB) (w : World) (h : BalS w w g p n (addrs t) t) (e : redRt t = some t') :
    Calls Tryz.prog 102 #[.pointer (some ⟨g, 0, none⟩), ptrV t] w (TurnW w (addrs t) t') := by
  cases t with
  | nil => cases e
  | node a k v s c l r =>
    cases l with
    | nil => cases e
    | node b k2 v2 s2 c2 l2 r2 =>
      cases r with
      | nil => cases e
      | node d k3 v3 s3 c3 l3 r3 => exact redRt_walk g p n a k v s c b k2 v2 s2 c2 l2 r2 d k3 v3 s3 c3 l3 r3 t' w h e
end Go.Proofs.YtbnnkkojlclgjaaGreat
