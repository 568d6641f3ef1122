/-
  The tree: nodes of their own.
-/
import Derived.Test.YtbnnkkojlclgjaaRbT
import Derived.Test.YtbnnkkojlclgjaaRegO
import Derived.Test.YtbnnkkojlclgjaaRbDoT
namespace Go.Proofs.Ytbnnkkojlclgjaa
set_option linter.unusedVariables false
open Go.RowKit
attribute [local go_sem ↓] Go.wp_at_zero Go.wp_at_succ
attribute [local go_sem] quietR quietAtR quietUponR midAt midUpon plain plainUpon
attribute [local irreducible] TStep

/-- the same tree elsewhere -/
def Twin : RB → RB → Prop
  | .nil, .nil => True
  | .node _ k v s c l r, .node _ k' v' s' c' l' r' => k' = k ∧ v' = v ∧ s' = s ∧ c' = c ∧ Twin l l' ∧ Twin r r'
  | _, _ => False
theorem Twin.list : ∀ {t t' : RB}, Twin t t' → listT t' = listT t
  | .nil, .nil, _ => rfl
  | .node _ k v s c l r, .node _ k' v' s' c' l' r', h => by
    obtain ⟨rfl, rfl, rfl, rfl, h1, h2⟩ := h
    simp only [listT, Twin.list h1, Twin.list h2]
  | .nil, .node .., h => h.elim
  | .node .., .nil, h => h.elim
theorem Twin.red : ∀ {t t' : RB}, Twin t t' → isR t' = isR t
  | .nil, .nil, _ => rfl
  | .node _ k v s c l r, .node _ k' v' s' c' l' r', h => h.2.2.2.1
  | .nil, .node .., h => h.elim
  | .node .., .nil, h => h.elim
theorem Twin.joinL : ∀ {t t' : RB}, Twin t t' → ∀ x, joinL t' x = joinL t x
  | .nil, .nil, _, _ => rfl
  | .node _ k v s c l r, .node _ k' v' s' c' l' r', h, x => by
    obtain ⟨rfl, rfl, rfl, rfl, h1, h2⟩ := h
    rfl
  | .nil, .node .., h, _ => h.elim
  | .node .., .nil, h, _ => h.elim
theorem Twin.joinR : ∀ {t t' : RB}, Twin t t' → ∀ x, joinR t' x = joinR t x
  | .nil, .nil, _, _ => rfl
  | .node _ k v s c l r, .node _ k' v' s' c' l' r', h, x => by
    obtain ⟨rfl, rfl, rfl, rfl, h1, h2⟩ := h
    rfl
  | .nil, .node .., h, _ => h.elim
  | .node .., .nil, h, _ => h.elim
theorem Twin.sum : ∀ {t t' : RB}, Twin t t' → SumOk t → SumOk t'
  | .nil, .nil, _, _ => trivial
  | .node _ k v s c l r, .node _ k' v' s' c' l' r', h, hs => by
    obtain ⟨rfl, rfl, rfl, rfl, h1, h2⟩ := h
    refine ⟨?_, h1.sum hs.2.1, h2.sum hs.2.2⟩
    rw [hs.1]
    unfold total
    rw [h1.joinL, h2.joinR]
  | .nil, .node .., h, _ => h.elim
  | .node .., .nil, h, _ => h.elim
theorem Twin.str {t : RB} {n : Nat} (hs : Str t n) : ∀ {t' : RB}, Twin t t' → Str t' n := by
  induction hs with
  | nil =>
    intro t' h
    cases t' with
    | nil => exact .nil
    | node => exact h.elim
  | red h1 h2 h3 h4 ih1 ih2 =>
    intro t' h
    cases t' with
    | nil => exact h.elim
    | node a' k' v' s' c' l' r' =>
      obtain ⟨rfl, rfl, rfl, rfl, k1, k2⟩ := h
      exact .red (ih1 k1) (ih2 k2) (k1.red.trans h3) (k2.red.trans h4)
  | black h1 h2 h3 ih1 ih2 =>
    intro t' h
    cases t' with
    | nil => exact h.elim
    | node a' k' v' s' c' l' r' =>
      obtain ⟨rfl, rfl, rfl, rfl, k1, k2⟩ := h
      exact .black (ih1 k1) (ih2 k2) (k2.red.trans h3)
theorem Twin.well {t t' : RB} (h : Twin t t') (hw : Well t) : Well t' := by
  obtain ⟨h1, ⟨n, h2⟩, h3, h4⟩ := hw
  exact ⟨h.red.trans h1, ⟨n, h.str h2⟩, h.sum h3, by rw [h.list]; exact h4⟩
/-- one place, one tree -/
theorem RBAt.one {W : World} : ∀ {t t' : RB}, ptrV t = ptrV t' → RBAt W t → RBAt W t' → t = t'
  | .nil, .nil, _, _, _ => rfl
  | .nil, .node .., h, _, _ => by simp [ptrV, adr] at h
  | .node .., .nil, h, _, _ => by simp [ptrV, adr] at h
  | .node a k v s c l r, .node a' k' v' s' c' l' r', h, h1, h2 => by
    simp only [ptrV, adr, Option.map_some, Value.pointer.injEq, Option.some.injEq, Addr.mk.injEq, and_true] at h
    subst h
    have := h1.1.symm.trans h2.1
    simp only [Option.some.injEq, Obj.cells.injEq, nodeC, Array.mk.injEq, List.cons.injEq, Value.int.injEq, Value.bool.injEq, true_and, and_true] at this
    obtain ⟨e1, e2, e3, e4, e5, e6, e7, e8⟩ := this
    rw [RBAt.one e7 h1.2.1 h2.2.1, RBAt.one e8 h1.2.2 h2.2.2]
    rw [Prod.ext e1 e2, e3, Prod.ext e4 e5, e6]
/-- the nodes that a pointer leads to -/
def OwnN (v : Value) (W : World) (b : Nat) : Prop := ∃ t, v = ptrV t ∧ RBAt W t ∧ b ∈ addrs t
/-- a copy, all its nodes from n on -/
def CopN (t : RB) (n : Nat) (v : Value) (W : World) : Prop := ∃ t', v = ptrV t' ∧ RBAt W t' ∧ Twin t t' ∧ (∀ a ∈ addrs t', n ≤ a) ∧ (addrs t').Nodup
theorem CopN.later {t : RB} {n : Nat} {v : Value} {W W' : World} (h : CopN t n v W) (hb : Below W.heap.size W W') : CopN t n v W' := by
  obtain ⟨t', h1, h2, h3⟩ := h
  exact ⟨t', h1, h2.later hb, h3⟩
theorem CopN.back {t : RB} {n : Nat} {v : Value} {W W' : World} {b : Nat} (h : CopN t n v W) (hb : Below W.heap.size W W') (ho : OwnN v W' b) : OwnN v W b := by
  obtain ⟨t', h1, h2, h3⟩ := h
  obtain ⟨t2, k1, k2, k3⟩ := ho
  have := RBAt.one (h1.symm.trans k1) (h2.later hb) k2
  subst this
  exact ⟨t', h1, h2, k3⟩
def CopW (w : World) (t : RB) (e : Ending) (w' : World) : Prop := ∃ v, e = .returned v ∧ CopN t w.heap.size v w' ∧ Below w.heap.size w w'
theorem CopN.fresh {t : RB} {W W' : World} {v : Value} (h : CopN t W.heap.size v W') : FreshO OwnN W v W' := fun b ho => by
  obtain ⟨t', h1, h2, h3, h4, h5⟩ := h
  obtain ⟨t2, k1, k2, k3⟩ := ho
  have := RBAt.one (h1.symm.trans k1) h2 k2
  subst this
  exact ⟨h4 b k3, h2.lt b k3⟩
theorem CopN.weak {t : RB} {n m : Nat} {v : Value} {W : World} (h : CopN t n v W) (hm : m ≤ n) : CopN t m v W := by
  obtain ⟨t', h1, h2, h3, h4, h5⟩ := h
  exact ⟨t', h1, h2, h3, fun a ha => Nat.le_trans hm (h4 a ha), h5⟩
set_option maxRecDepth 100000 in
set_option maxHeartbeats 4000000 in
theorem copied_any : ∀ (t : RB) (w : World), RBAt w t → Calls Try.prog 67 #[ptrV t] w (CopW w t) := by
  intro t
  induction t with
  | nil =>
    intro w _
    have e1 : ptrV .nil = .pointer none := rfl
    rw [e1]
    clear e1
    go_enter Try.func67, Try.ntmps67
    go_wp2_with fail
    go_ret
    exact ⟨_, rfl, ⟨.nil, rfl, trivial, trivial, (fun a ha => (by cases ha)), List.nodup_nil⟩, Below.refl _ _⟩
  | node a k v s c l r ihl ihr =>
    intro w h
    have e1 : ptrV (.node a k v s c l r) = .pointer (some ⟨a, 0, none⟩) := rfl
    rw [e1]
    clear e1
    have a0 := h.1.cell 0; have a1 := h.1.cell 1; have a2 := h.1.cell 2; have a3 := h.1.cell 3; have a4 := h.1.cell 4; have a5 := h.1.cell 5; have a6 := h.1.cell 6; have a7 := h.1.cell 7
    unfold nodeC at a0 a1 a2 a3 a4 a5 a6 a7
    simp only [List.getElem?_toArray, List.getElem?_cons_zero, List.getElem?_cons_succ] at a0 a1 a2 a3 a4 a5 a6 a7
    obtain ⟨pl, hpl⟩ : ∃ q, ptrV l = .pointer q := ⟨_, rfl⟩
    obtain ⟨pr, hpr⟩ : ∃ q, ptrV r = .pointer q := ⟨_, rfl⟩
    rw [hpl] at a6
    rw [hpr] at a7
    have HP := Lib.hid (And.intro hpl hpr)
    have H := Lib.hid h
    have HIL := Lib.hid ihl; have HIR := Lib.hid ihr
    clear h ihl ihr hpl hpr
    go_enter Try.func67, Try.ntmps67
    go_upto_region 4 with fail
    have hb0 := (Below.refl w.heap.size w).alloc (Nat.le_refl _) (.cells #[.int .u64 k.1, .int .i64 k.2, .int .u64 v, .int .u64 s.1, .int .i64 s.2, .bool c, .pointer pl, .pointer pr] 104)
    have hB0 := Blk.new w 104 #[.int .u64 k.1, .int .i64 k.2, .int .u64 v, .int .u64 s.1, .int .i64 s.2, .bool c, .pointer pl, .pointer pr]
    obtain ⟨B, hB⟩ : ∃ q, q = w.heap.size := ⟨_, rfl⟩
    rw [← hB] at hB0 ⊢
    have H1 := Lib.hid (And.intro (H.out.later hb0) (And.intro hB0 hb0))
    have HB := Lib.hid hB
    clear a0 a1 a2 a3 a4 a5 a6 a7 hb0 hB0 hB H
    generalize w.alloc (.cells #[.int .u64 k.1, .int .i64 k.2, .int .u64 v, .int .u64 s.1, .int .i64 s.2, .bool c, .pointer pl, .pointer pr] 104) = W1 at H1 ⊢
    have o6 := fun e => (over_cell (w := W1) (e := e) (o := 6) H1.out.1.1.lt).trans (H1.out.1.1.cell 6)
    have o7 := fun e => (over_cell (w := W1) (e := e) (o := 7) H1.out.1.1.lt).trans (H1.out.1.1.cell 7)
    unfold nodeC at o6 o7
    simp only [List.getElem?_toArray, List.getElem?_cons_zero, List.getElem?_cons_succ] at o6 o7
    rw [HP.out.1] at o6
    rw [HP.out.2] at o7
    refine wp_region_mido (w := W1) OwnN 10 4 [4, 9] [4, 9] (fun _ h => h) [] [(4, CopN l W1.heap.size), (9, CopN r W1.heap.size)] rfl (by kernel_rfl) (by kernel_rfl) (by kernel_rfl) (by kernel_rfl) (fun _ _ _ _ _ h => h) ⟨fun v A C h hb => h.later hb, fun v A C h hb => h.later hb, trivial⟩ ?ho ?_
    case ho =>
      intro q hq _ v A C b h hb ho
      rcases List.mem_cons.1 hq with rfl | hq
      · exact CopN.back h hb ho
      · rcases List.mem_cons.1 hq with rfl | hq
        · exact CopN.back h hb ho
        · cases hq
    intro LL hL
    have HL := Lib.hid hL
    clear hL
    simp only [List.take_succ_cons, List.take_zero, putL]
    iterate 10 (first | refine wpHead_skip (by decide) ?_ | (refine wpHead_step (by decide) (fun K hK => ?_); go_simp; (refine hK _ ?_; clear hK K)))
    refine wpHead_nil (HL.out _ ⟨?_, ?_, trivial⟩ ?_)
    · intro vs W2 hb2 hf
      clear HL hf o6 o7
      change TStep _ _ _ (Act.put (Act.put _ (some 13) (vs 4)) (some 18) (vs 9)) _ _
      refine tstep_yes (by kernel_rfl) ?_
      have hc := HIL.out W2 (H1.out.1.2.1.later hb2)
      rw [HP.out.1] at hc
      go_simp
      refine hc.mono ?_
      rintro e W3 ⟨u, rfl, hcu, hbu⟩
      exact ⟨u, rfl, hbu, hcu.weak hb2.size, hcu.fresh⟩
    · intro vs W2 hb2 hf
      clear HL hf o6 o7
      change TStep _ _ _ (Act.put (Act.put _ (some 13) (vs 4)) (some 18) (vs 9)) _ _
      refine tstep_yes (by kernel_rfl) ?_
      have hc := HIR.out W2 (H1.out.1.2.2.later hb2)
      rw [HP.out.2] at hc
      go_simp
      refine hc.mono ?_
      rintro e W3 ⟨u, rfl, hcu, hbu⟩
      exact ⟨u, rfl, hbu, hcu.weak hb2.size, hcu.fresh⟩
    · intro vs W2 hb2 hf hap
      have hf := fits_cast (q := CopN l W1.heap.size (vs 4) W2 ∧ CopN r W1.heap.size (vs 9) W2 ∧ True) hf (by kernel_rfl)
      have hap := hap 4 (by simp) 9 (by simp) (by decide)
      change wpList _ _ _ _ (Act.put (Act.put _ (some 13) (vs 4)) (some 18) (vs 9)) _
      generalize vs 4 = u1 at hf hap ⊢
      generalize vs 9 = u2 at hf hap ⊢
      obtain ⟨⟨tl, rfl, hrl, hwl, hgl, hnl⟩, ⟨tr, rfl, hrr, hwr, hgr, hnr⟩, -⟩ := hf
      simp only [List.drop_succ_cons, List.drop_zero, List.take_succ_cons, List.take_zero]
      obtain ⟨ql, hql⟩ : ∃ q, ptrV tl = .pointer q := ⟨_, rfl⟩
      obtain ⟨qr, hqr⟩ : ∃ q, ptrV tr = .pointer q := ⟨_, rfl⟩
      have hBl : B ∉ addrs tl := fun h => by have := hgl B h; have := H1.out.2.1.lt; omega
      have hBr : B ∉ addrs tr := fun h => by have := hgr B h; have := H1.out.2.1.lt; omega
      have hB2 := H1.out.2.1.below hb2 H1.out.2.1.lt
      have hB9 := (hB2.set_ 6 (.pointer ql)).set_ 7 (.pointer qr)
      have hl9 := (hrl.aside (o := 6) (u := .pointer ql) hBl).aside (o := 7) (u := .pointer qr) hBl
      have hr9 := (hrr.aside (o := 6) (u := .pointer ql) hBr).aside (o := 7) (u := .pointer qr) hBr
      have hlo : w.heap.size ≤ B := by rw [HB.out]; exact Nat.le_refl _
      have hb9 := ((H1.out.2.2.trans (hb2.mono H1.out.2.2.size)).setCell (p := ⟨B, 6, none⟩) hlo (.pointer ql)).setCell (p := ⟨B, 7, none⟩) hlo (.pointer qr)
      have hfin : CopW w (.node a k v s c l r) (.returned (.pointer (some ⟨B, 0, none⟩))) ((W2.setCell ⟨B, 6, none⟩ (.pointer ql)).setCell ⟨B, 7, none⟩ (.pointer qr)) := by
        refine ⟨_, rfl, ⟨.node B k v s c tl tr, rfl, ⟨?_, hl9, hr9⟩, ⟨rfl, rfl, rfl, rfl, hwl, hwr⟩, ?_, ?_⟩, hb9⟩
        · simp at hB9
          unfold nodeC
          rw [hql, hqr]
          exact hB9
        · have hs := H1.out.2.2.size
          intro x hx
          rcases List.mem_cons.1 hx with rfl | hx
          · exact hlo
          · rcases List.mem_append.1 hx with hx | hx
            · have := hgl x hx; omega
            · have := hgr x hx; omega
        · refine List.nodup_cons.2 ⟨fun h => (List.mem_append.1 h).elim hBl hBr, List.nodup_append.2 ⟨hnl, hnr, fun x hx y hy e => ?_⟩⟩
          subst e
          exact hap x ⟨tl, rfl, hrl, hx⟩ ⟨tr, rfl, hrr, hy⟩
      have HF := Lib.hid hfin
      have c6 := hB2.cell 6; have f6 := hB2.frozen 6; have c7 := hB2.cell 7; have f7 := hB2.frozen 7
      simp only [List.getElem?_toArray, List.getElem?_cons_zero, List.getElem?_cons_succ] at c6 c7
      rw [hql, hqr]
      clear o6 o7 HL hap hrl hwl hgl hnl hrr hwr hgr hnr hql hqr hBl hBr hB2 hB9 hl9 hr9 hlo hb9 hfin
      go_wp2_with fail
      go_ret
      exact HF.out
def CopyTW (w : World) (t : RB) (e : Ending) (w' : World) : Prop := ∃ g' t', e = .returned (.pointer (some ⟨g', 0, none⟩)) ∧ RbT w' g' t' ∧ listT t' = listT t ∧ w.heap.size ≤ g' ∧ (∀ a ∈ addrs t', w.heap.size ≤ a) ∧ Below w.heap.size w w'
set_option maxRecDepth 100000 in
set_option maxHeartbeats 4000000 in
theorem rbcopy_any (g : Nat) (t : RB) (w : World) (h : RbT w g t) : Calls Try.prog 57 #[.pointer (some ⟨g, 0, none⟩)] w (CopyTW w t) := by
  obtain ⟨q, hq⟩ : ∃ q, ptrV t = .pointer q := ⟨_, rfl⟩
  have c0 := h.tree.cell 0; have c1 := h.tree.cell 1; have c2 := h.tree.cell 2; have c3 := h.tree.cell 3
  unfold treeC at c0 c1 c2 c3
  simp only [List.getElem?_toArray, List.getElem?_cons_zero, List.getElem?_cons_succ] at c0 c1 c2 c3
  rw [hq] at c2
  have HQ := Lib.hid hq
  have H := Lib.hid h
  clear hq h
  go_enter Try.func57, Try.ntmps57
  go_upto_region 4 with fail
  have hb0 := (Below.refl w.heap.size w).alloc (Nat.le_refl _) (.cells #[.func (.func 53) #[] #[], .func (.func 54) #[] #[], .pointer q, .int .i64 (listT t).length] 101)
  have hB0 := Blk.new w 101 #[.func (.func 53) #[] #[], .func (.func 54) #[] #[], .pointer q, .int .i64 (listT t).length]
  obtain ⟨B, hB⟩ : ∃ q, q = w.heap.size := ⟨_, rfl⟩
  rw [← hB] at hB0 ⊢
  have H1 := Lib.hid (And.intro (H.out.later hb0) (And.intro hB0 hb0))
  have HB := Lib.hid hB
  clear c0 c1 c2 c3 hb0 hB0 hB
  generalize w.alloc (.cells #[.func (.func 53) #[] #[], .func (.func 54) #[] #[], .pointer q, .int .i64 (listT t).length] 101) = W1 at H1 ⊢
  have c2 := H1.out.1.tree.cell 2
  unfold treeC at c2
  simp only [List.getElem?_toArray, List.getElem?_cons_zero, List.getElem?_cons_succ] at c2
  rw [HQ.out] at c2
  have hc := copied_any t W1 H1.out.1.rb
  rw [HQ.out] at hc
  go_wp2_with fail
  refine hc.mono ?_
  clear hc c2
  rintro e W2 ⟨u, rfl, ⟨t', rfl, hr, htw, hge, hnd⟩, hb2⟩
  obtain ⟨q2, hq2⟩ : ∃ q, ptrV t' = .pointer q := ⟨_, rfl⟩
  rw [hq2]
  have hBn : B ∉ addrs t' := fun h => by have := hge B h; have := H1.out.2.1.lt; omega
  have hB2 := H1.out.2.1.below hb2 H1.out.2.1.lt
  have hlo : w.heap.size ≤ B := by rw [HB.out]; exact Nat.le_refl _
  have hfin : CopyTW w t (.returned (.pointer (some ⟨B, 0, none⟩))) (W2.setCell ⟨B, 2, none⟩ (.pointer q2)) := by
    have hs := H1.out.2.2.size
    refine ⟨B, t', rfl, ⟨?_, hr.aside hBn, hnd, htw.well H1.out.1.well⟩, htw.list, hlo, fun x hx => by have := hge x hx; omega, (H1.out.2.2.trans (hb2.mono hs)).setCell hlo _⟩
    have h9 := hB2.set_ 2 (.pointer q2)
    simp at h9
    unfold treeC
    rw [hq2, htw.list]
    exact h9
  have HF := Lib.hid hfin
  have c2 := hB2.cell 2; have f2 := hB2.frozen 2
  simp only [List.getElem?_toArray, List.getElem?_cons_zero, List.getElem?_cons_succ] at c2
  clear hr htw hge hnd hb2 hq2 hBn hB2 hlo hfin
  go_wp2_with fail
  go_ret
  exact HF.out
end Go.Proofs.Ytbnnkkojlclgjaa
