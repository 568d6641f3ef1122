/-
  The tree: the least summary of those up to a number.
-/
import Derived.Test.YtbnnkkojlclgjaaGreatRbT
import Derived.BigRegion
import Derived.Laws.EntriesVeiled
namespace Go.Proofs.YtbnnkkojlclgjaaGreat
set_option linter.unusedVariables false
open Go.RowKit
attribute [local go_sem ↓] Go.wp_at_zero Go.wp_at_succ
attribute [local go_sem] quietR quietAtR quietUponR midAt midUpon plain plainUpon

/-- under way: the tree's box, the sum and its flag in boxes -/
structure UpS (w W : World) (g : Nat) (p : Value) (n : Int) (t : RB) (T R I : Nat) (o : Option Ky) : Prop where
  tree : Blk W g 129 (treeC p n)
  rb : RBAt W t
  box : Blk W T 78 #[.pointer (some ⟨g, 0, none⟩)]
  sum : Blk W R 81 #[.int .u64 (o.getD (0, 0)).1, .int .i64 (o.getD (0, 0)).2]
  is_ : Blk W I 4 #[.bool o.isSome]
  below : Below w.heap.size w W
  rlo : w.heap.size ≤ R
  ilo : w.heap.size ≤ I
section
variable {w W W' : World} {g : Nat} {p : Value} {n : Int} {t : RB} {T R I : Nat} {o : Option Ky}
theorem UpS.later (h : UpS w W g p n t T R I o) (hb : Below W.heap.size W W') : UpS w W' g p n t T R I o :=
  ⟨h.tree.below hb h.tree.lt, h.rb.later hb, h.box.below hb h.box.lt, h.sum.below hb h.sum.lt, h.is_.below hb h.is_.lt, h.below.trans (hb.mono h.below.size), h.rlo, h.ilo⟩
theorem UpS.put (h : UpS w W g p n t T R I o) (y : Ky) : UpS w (((W.setCell ⟨R, 0, none⟩ (.int .u64 y.1)).setCell ⟨R, 1, none⟩ (.int .i64 y.2)).setCell ⟨I, 0, none⟩ (.bool true)) g p n t T R I (some y) := by
  have ne : ∀ {q r : Nat} {t s : TypeId} {cs ds : Array Value}, Blk W q t cs → Blk W r s ds → t ≠ s → q ≠ r := fun hq hr ht e => by
    subst e
    have := hq.symm.trans hr
    simp only [Option.some.injEq, Obj.cells.injEq] at this
    exact ht this.2.1
  have far : ∀ {q : Nat} {t : TypeId} {cs : Array Value}, Blk W q t cs → q ≠ R → q ≠ I → Blk (((W.setCell ⟨R, 0, none⟩ (.int .u64 y.1)).setCell ⟨R, 1, none⟩ (.int .i64 y.2)).setCell ⟨I, 0, none⟩ (.bool true)) q t cs := fun hq h1 h2 => ((hq.far h1 _).far h1 _).far h2 _
  have hh : ∀ q, q ≠ R → q ≠ I → (((W.setCell ⟨R, 0, none⟩ (.int .u64 y.1)).setCell ⟨R, 1, none⟩ (.int .i64 y.2)).setCell ⟨I, 0, none⟩ (.bool true)).heap[q]? = W.heap[q]? := fun q h1 h2 =>
    (Below.heap_setCell _ ⟨I, 0, none⟩ _ q h2).trans ((Below.heap_setCell _ ⟨R, 1, none⟩ _ q h1).trans (Below.heap_setCell _ ⟨R, 0, none⟩ _ q h1))
  have hs := ((h.sum.set_ 0 (.int .u64 y.1)).set_ 1 (.int .i64 y.2)).far (p := ⟨I, 0, none⟩) (ne h.sum h.is_ (by decide)) (.bool true)
  have hi := ((h.is_.far (p := ⟨R, 0, none⟩) (ne h.is_ h.sum (by decide)) (.int .u64 y.1)).far (p := ⟨R, 1, none⟩) (ne h.is_ h.sum (by decide)) (.int .i64 y.2)).set_ 0 (.bool true)
  simp at hs hi
  exact ⟨far h.tree (ne h.tree h.sum (by decide)) (ne h.tree h.is_ (by decide)), h.rb.kept fun q hq => hh q (fun e => RBAt.typed h.sum (by decide) h.rb (e ▸ hq)) (fun e => RBAt.typed h.is_ (by decide) h.rb (e ▸ hq)),
    far h.box (ne h.box h.sum (by decide)) (ne h.box h.is_ (by decide)), hs, hi, ((h.below.setCell h.rlo _).setCell h.rlo _).setCell h.ilo _, h.rlo, h.ilo⟩
theorem UpS.aside (h : UpS w W g p n t T R I o) {A : Nat} {cs : Array Value} (hA : Blk W A 81 cs) (hne : R ≠ A) (hlo : w.heap.size ≤ A) (x y : Value) : UpS w ((W.setCell ⟨A, 0, none⟩ x).setCell ⟨A, 1, none⟩ y) g p n t T R I o := by
  have ne : ∀ {q : Nat} {t : TypeId} {ds : Array Value}, Blk W q t ds → t ≠ 81 → q ≠ A := fun hq ht e => by
    subst e
    have := hq.symm.trans hA
    simp only [Option.some.injEq, Obj.cells.injEq] at this
    exact ht this.2.1
  have far : ∀ {q : Nat} {t : TypeId} {ds : Array Value}, Blk W q t ds → q ≠ A → Blk ((W.setCell ⟨A, 0, none⟩ x).setCell ⟨A, 1, none⟩ y) q t ds := fun hq h1 => (hq.far h1 _).far h1 _
  exact ⟨far h.tree (ne h.tree (by decide)), h.rb.kept fun q hq => (Below.heap_setCell _ ⟨A, 1, none⟩ _ q fun e => RBAt.typed hA (by decide) h.rb ((show q = A from e) ▸ hq)).trans (Below.heap_setCell _ ⟨A, 0, none⟩ _ q fun e => RBAt.typed hA (by decide) h.rb ((show q = A from e) ▸ hq)),
    far h.box (ne h.box (by decide)), far h.sum hne, far h.is_ (ne h.is_ (by decide)), (h.below.setCell hlo _).setCell hlo _, h.rlo, h.ilo⟩
end
def TakeW (w : World) (g : Nat) (p : Value) (n : Int) (t : RB) (T R I : Nat) (o : Option Ky) (e : Ending) (w' : World) : Prop := e = .returned (.tuple #[]) ∧ UpS w w' g p n t T R I o
set_option maxRecDepth 100000 in
set_option maxHeartbeats 4000000 in
theorem take_any (w W : World) (g : Nat) (p : Value) (n : Int) (t : RB) (T R I : Nat) (o : Option Ky) (a : Ky) (h : UpS w W g p n t T R I o) :
    Calls Tryz.prog 93 #[.agg #[.int .u64 a.1, .int .i64 a.2], .pointer (some ⟨I, 0, none⟩), .pointer (some ⟨T, 0, none⟩), .pointer (some ⟨R, 0, none⟩)] W (TakeW w g p n t T R I (takeS o a)) := by
  have hb0 := (Below.refl W.heap.size W).alloc (Nat.le_refl _) (.cells #[.int .u64 a.1, .int .i64 a.2] 81)
  have hA0 := Blk.new W 81 #[.int .u64 a.1, .int .i64 a.2]
  obtain ⟨A, hA⟩ : ∃ q, q = W.heap.size := ⟨_, rfl⟩
  rw [← hA] at hA0
  have hRA : R ≠ A := by have := h.sum.lt; omega
  have H0 := Lib.hid (And.intro (h.later hb0) hA0)
  have HKA := Lib.hid hA
  have HLO := Lib.hid (show w.heap.size ≤ A by have := h.below.size; omega)
  clear h hb0 hA0 hA
  cases o with
  | none =>
    go_enter Tryz.func93, Tryz.ntmps93
    go_upto_region 1 with fail
    rw [← HKA.out]
    generalize W.alloc (.cells #[.int .u64 a.1, .int .i64 a.2] 81) = W1 at H0 ⊢
    have i0 := H0.out.1.is_.cell 0; have k0 := H0.out.2.cell 0; have k1 := H0.out.2.cell 1
    have s0 := H0.out.1.sum.cell 0; have s1 := H0.out.1.sum.cell 1
    have fi := H0.out.1.is_.frozen 0; have f0 := H0.out.1.sum.frozen 0; have f1 := H0.out.1.sum.frozen 1
    simp only [List.getElem?_toArray, List.getElem?_cons_zero, List.getElem?_cons_succ, Option.isSome_none, Option.getD_none] at i0 k0 k1 s0 s1
    have hne : ¬ I = R := fun e => by
      have h1 := H0.out.1.is_; rw [e] at h1
      have := h1.symm.trans H0.out.1.sum
      simp only [Option.some.injEq, Obj.cells.injEq] at this
      exact absurd this.2.1 (by decide)
    go_wp2
    go_returns
    exact ⟨rfl, H0.out.1.put a⟩
  | some s =>
    go_enter Tryz.func93, Tryz.ntmps93
    go_upto_region 1 with fail
    rw [← HKA.out]
    generalize W.alloc (.cells #[.int .u64 a.1, .int .i64 a.2] 81) = W1 at H0 ⊢
    have i0 := H0.out.1.is_.cell 0
    simp only [List.getElem?_toArray, List.getElem?_cons_zero, List.getElem?_cons_succ, Option.isSome_some] at i0
    go_upto_region 2 with fail
    clear i0
    have og := fun e => (over_cell (w := W1) (e := e) (o := 1) H0.out.1.tree.lt).trans (H0.out.1.tree.cell 1)
    have ot := fun e => (over_cell (w := W1) (e := e) (o := 0) H0.out.1.box.lt).trans (H0.out.1.box.cell 0)
    have os0 := fun e => (over_cell (w := W1) (e := e) (o := 0) H0.out.1.sum.lt).trans (H0.out.1.sum.cell 0)
    have os1 := fun e => (over_cell (w := W1) (e := e) (o := 1) H0.out.1.sum.lt).trans (H0.out.1.sum.cell 1)
    have oa0 := fun e => (over_cell (w := W1) (e := e) (o := 0) H0.out.2.lt).trans (H0.out.2.cell 0)
    have oa1 := fun e => (over_cell (w := W1) (e := e) (o := 1) H0.out.2.lt).trans (H0.out.2.cell 1)
    unfold treeC at og
    simp only [List.getElem?_toArray, List.getElem?_cons_zero, List.getElem?_cons_succ, Option.getD_some] at og ot os0 os1 oa0 oa1
    refine wp_region_over_tail 7 (by kernel_rfl) (by kernel_rfl) ?_
    simp only [List.take_succ_cons, List.take_zero, List.drop_succ_cons, List.drop_zero]
    repeat (first | go_big_quiet_skip | (go_big_quiet_want; go_big_quiet_op; first | go_big_quiet_on | (apply Exists.intro; refine ⟨fun e => ?_, ?_⟩; (focus (go_at_call 43; with_reducible exact calls_over (lesser_any s a _))); go_big_quiet_on)))
    refine wpQuiet_nil ?_
    rintro W2 ⟨e, he⟩
    have hb2 := over_below W1 e
    rw [← he] at hb2
    have H2 := Lib.hid (And.intro (H0.out.1.later hb2) (H0.out.2.below hb2 H0.out.2.lt))
    clear he og ot os0 os1 oa0 oa1 hb2 H0
    obtain ⟨y, hy⟩ : ∃ y, lessH s a = y := ⟨_, rfl⟩
    rw [hy]
    have et : takeS (some s) a = some y := by rw [← hy]; rfl
    have HET := Lib.hid et
    clear hy et
    have k0 := H2.out.2.cell 0; have k1 := H2.out.2.cell 1
    have f0 := H2.out.2.frozen 0; have f1 := H2.out.2.frozen 1
    simp only [List.getElem?_toArray, List.getElem?_cons_zero, List.getElem?_cons_succ] at k0 k1
    have hA2 := (H2.out.2.set_ 0 (.int .u64 y.1)).set_ 1 (.int .i64 y.2)
    simp at hA2
    have H3 := Lib.hid (And.intro (H2.out.1.aside H2.out.2 hRA HLO.out (.int .u64 y.1) (.int .i64 y.2)) hA2)
    clear hA2
    go_upto_region 3 with fail
    clear k0 k1 f0 f1 H2
    generalize (W2.setCell ⟨A, 0, none⟩ (.int .u64 y.1)).setCell ⟨A, 1, none⟩ (.int .i64 y.2) = W3 at H3 ⊢
    have i0 := H3.out.1.is_.cell 0; have k0 := H3.out.2.cell 0; have k1 := H3.out.2.cell 1
    have s0 := H3.out.1.sum.cell 0; have s1 := H3.out.1.sum.cell 1
    have fi := H3.out.1.is_.frozen 0; have f0 := H3.out.1.sum.frozen 0; have f1 := H3.out.1.sum.frozen 1
    simp only [List.getElem?_toArray, List.getElem?_cons_zero, List.getElem?_cons_succ, Option.isSome_some, Option.getD_some] at i0 k0 k1 s0 s1
    have hne : ¬ I = R := fun e => by
      have h1 := H3.out.1.is_; rw [e] at h1
      have := h1.symm.trans H3.out.1.sum
      simp only [Option.some.injEq, Obj.cells.injEq] at this
      exact absurd this.2.1 (by decide)
    go_wp2
    go_returns
    exact ⟨rfl, by rw [HET.out]; exact H3.out.1.put y⟩
def UptoW (w : World) (o : Option Ky) (e : Ending) (w' : World) : Prop := e = .returned (.tuple #[.agg #[.int .u64 (o.getD (0, 0)).1, .int .i64 (o.getD (0, 0)).2], .bool o.isSome]) ∧ Below w.heap.size w w'
set_option maxRecDepth 100000 in
set_option maxHeartbeats 4000000 in
theorem upto_any (g : Nat) (n : Int) (num : Int) (t : RB) (w : World) (hg : Blk w g 129 (treeC (ptrV t) n)) (hr : RBAt w t) :
    Calls Tryz.prog 81 #[.pointer (some ⟨g, 0, none⟩), .int .u64 num] w (UptoW w (uptoT num t none)) := by
  obtain ⟨W0, hW0, h0⟩ : ∃ W0, W0 = ((w.alloc (.cells #[.pointer (some ⟨g, 0, none⟩)] 78)).alloc (.cells #[.int .u64 0, .int .i64 0] 81)).alloc (.cells #[.bool false] 4) ∧ UpS w W0 g (ptrV t) n t w.heap.size (w.heap.size + 1) (w.heap.size + 1 + 1) none := by
    refine ⟨_, rfl, ?_⟩
    have hT0 := Blk.new w 78 #[.pointer (some ⟨g, 0, none⟩)]
    have hR0 := Blk.new (w.alloc (.cells #[.pointer (some ⟨g, 0, none⟩)] 78)) 81 #[.int .u64 0, .int .i64 0]
    have hI0 := Blk.new ((w.alloc (.cells #[.pointer (some ⟨g, 0, none⟩)] 78)).alloc (.cells #[.int .u64 0, .int .i64 0] 81)) 4 #[.bool false]
    have b1 := (Below.refl w.heap.size w).alloc (Nat.le_refl _) (.cells #[.pointer (some ⟨g, 0, none⟩)] 78)
    have s1 : (w.alloc (.cells #[.pointer (some ⟨g, 0, none⟩)] 78)).heap.size = w.heap.size + 1 := by simp
    generalize w.alloc (.cells #[.pointer (some ⟨g, 0, none⟩)] 78) = V1 at hT0 hR0 hI0 b1 s1 ⊢
    have b2 := (Below.refl V1.heap.size V1).alloc (Nat.le_refl _) (.cells #[.int .u64 0, .int .i64 0] 81)
    have s2 : (V1.alloc (.cells #[.int .u64 0, .int .i64 0] 81)).heap.size = w.heap.size + 1 + 1 := by simp [s1]
    generalize V1.alloc (.cells #[.int .u64 0, .int .i64 0] 81) = V2 at hR0 hI0 b2 s2 ⊢
    have b3 := (Below.refl V2.heap.size V2).alloc (Nat.le_refl _) (.cells #[.bool false] 4)
    generalize V2.alloc (.cells #[.bool false] 4) = V3 at hI0 b3 ⊢
    rw [s1] at hR0
    rw [s2] at hI0
    have b12 := b1.trans (b2.mono (by omega))
    have b123 := b12.trans (b3.mono (by omega))
    exact ⟨hg.below b123 hg.lt, hr.later b123, (hT0.below b2 hT0.lt).below b3 (by have := hT0.lt; omega), hR0.below b3 hR0.lt, hI0, b123, by omega, by omega⟩
  have hnone := none_any g _ _ W0 h0.tree
  have HW0 := Lib.hid hW0
  obtain ⟨T, hT⟩ : ∃ T, T = w.heap.size := ⟨_, rfl⟩
  obtain ⟨R, hR⟩ : ∃ R, R = w.heap.size + 1 := ⟨_, rfl⟩
  obtain ⟨I, hI⟩ : ∃ I, I = w.heap.size + 1 + 1 := ⟨_, rfl⟩
  rw [← hI, ← hR, ← hT] at h0
  have H0 := Lib.hid h0
  have HT := Lib.hid hT; have HR := Lib.hid hR; have HI := Lib.hid hI
  have c0 := h0.box.cell 0; have c2 := h0.tree.cell 2
  unfold treeC at c2
  simp only [List.getElem?_toArray, List.getElem?_cons_zero, List.getElem?_cons_succ] at c0 c2
  clear hg hr h0 hW0 hT hR hI
  go_enter Tryz.func81, Tryz.ntmps81
  go_upto_region 1 with fail
  try simp only [World.size_alloc]
  rw [← HW0.out, ← HI.out, ← HR.out, ← HT.out]
  go_wp2_with fail
  refine hnone.mono ?_
  clear hnone
  rintro e w1 ⟨rfl, rfl⟩
  go_wp2_with fail
  clear c0 c2
  go_loopg [7] (sizeT t) (fun k v7 wr => ∃ u o, sizeT u = k ∧ v7 = ptrV u ∧ uptoT num u o = uptoT num t none ∧ UpS w wr g (ptrV t) n u T R I o)
  case atStart => exact ⟨t, none, rfl, rfl, rfl, H0.out⟩
  case round =>
    obtain ⟨u, o, hsz, rfl, hfu, hus⟩ := hrel
    clear H0
    have HF := Lib.hid hfu
    have HU := Lib.hid hus
    clear hfu
    cases u with
    | nil =>
      have e1 : ptrV .nil = .pointer none := rfl
      rw [e1]
      clear e1 hsz hus
      go_upto_region 12 with fail
      have s0 := HU.out.sum.cell 0; have s1 := HU.out.sum.cell 1; have i0 := HU.out.is_.cell 0
      have f0 := HU.out.sum.frozen 0; have f1 := HU.out.sum.frozen 1; have fi := HU.out.is_.frozen 0
      simp only [List.getElem?_toArray, List.getElem?_cons_zero, List.getElem?_cons_succ] at s0 s1 i0
      have hne : ¬ I = R := fun e => by
        have h1 := HU.out.is_; rw [e] at h1
        have := h1.symm.trans HU.out.sum
        simp only [Option.some.injEq, Obj.cells.injEq] at this
        exact absurd this.2.1 (by decide)
      go_region
      have hres := ((HU.out.sum.set_ 0 (.int .u64 (o.getD (0, 0)).1)).set_ 1 (.int .i64 (o.getD (0, 0)).2)).far (p := ⟨I, 0, none⟩) (fun e => hne e.symm) (.bool o.isSome)
      have hb9 := ((HU.out.below.setCell (p := ⟨R, 0, none⟩) HU.out.rlo (.int .u64 (o.getD (0, 0)).1)).setCell (p := ⟨R, 1, none⟩) HU.out.rlo (.int .i64 (o.getD (0, 0)).2)).setCell (p := ⟨I, 0, none⟩) HU.out.ilo (.bool o.isSome)
      have e0 := hres.cell 0; have e1 := hres.cell 1
      have e2 := (((HU.out.is_.far (p := ⟨R, 0, none⟩) hne (.int .u64 (o.getD (0, 0)).1)).far (p := ⟨R, 1, none⟩) hne (.int .i64 (o.getD (0, 0)).2)).set_ 0 (.bool o.isSome)).cell 0
      simp at e0 e1 e2
      have HB9 := Lib.hid hb9
      clear hb9 hres
      go_wp2_with fail
      have HF2 : uptoT num t none = o := HF.out.symm.trans rfl
      refine bodyPost_ret (v := .tuple #[.agg #[.int .u64 (o.getD (0, 0)).1, .int .i64 (o.getD (0, 0)).2], .bool o.isSome]) (by simp [results, Tryz.results81, go_sem, e0, e1, e2]) rfl ⟨by rw [HF2], HB9.out.drew⟩
    | node a k v s c l r =>
      have e1 : ptrV (.node a k v s c l r) = .pointer (some ⟨a, 0, none⟩) := rfl
      rw [e1]
      have a0 := hus.rb.1.cell 0
      unfold nodeC at a0
      simp only [List.getElem?_toArray, List.getElem?_cons_zero, List.getElem?_cons_succ] at a0
      have HSZ := Lib.hid hsz
      clear hus hsz e1
      by_cases hk : num < k.1
      · have HF2 := Lib.hid ((show uptoT num (.node a k v s c l r) o = uptoT num l o by conv => lhs; unfold uptoT
                                                                                        rw [if_pos hk]).symm.trans HF.out)
        have a6 := HU.out.rb.1.cell 6
        unfold nodeC at a6
        simp only [List.getElem?_toArray, List.getElem?_cons_zero, List.getElem?_cons_succ] at a6
        go_wp2_with fail
        go_roundg (sizeT l)
        case measure => have := HSZ.out; simp only [sizeT] at this; omega
        case rel => exact ⟨l, o, rfl, rfl, HF2.out, { HU.out with rb := HU.out.rb.2.1 }⟩
      · have hf2 := (show uptoT num (.node a k v s c l r) o = uptoT num r (takeS (takeL o l) (ownK k v)) by conv => lhs; unfold uptoT
                                                                                                            rw [if_neg hk]).symm.trans HF.out
        have a6 := HU.out.rb.1.cell 6
        unfold nodeC at a6
        simp only [List.getElem?_toArray, List.getElem?_cons_zero, List.getElem?_cons_succ] at a6
        cases l with
        | nil =>
          have e1 : ptrV .nil = .pointer none := rfl
          rw [e1] at a6
          have HF2 := Lib.hid (show uptoT num r (takeS o (ownK k v)) = _ from hf2)
          clear hf2 HF e1
          go_upto_region 10 with fail
          clear a0 a6
          have og := fun e => (over_cell (w := wr) (e := e) (o := 0) HU.out.tree.lt).trans (HU.out.tree.cell 0)
          have ot := fun e => (over_cell (w := wr) (e := e) (o := 0) HU.out.box.lt).trans (HU.out.box.cell 0)
          have oa0 := fun e => (over_cell (w := wr) (e := e) (o := 0) HU.out.rb.1.lt).trans (HU.out.rb.1.cell 0)
          have oa1 := fun e => (over_cell (w := wr) (e := e) (o := 1) HU.out.rb.1.lt).trans (HU.out.rb.1.cell 1)
          have oa2 := fun e => (over_cell (w := wr) (e := e) (o := 2) HU.out.rb.1.lt).trans (HU.out.rb.1.cell 2)
          unfold treeC at og
          unfold nodeC at oa0 oa1 oa2
          simp only [List.getElem?_toArray, List.getElem?_cons_zero, List.getElem?_cons_succ] at og ot oa0 oa1 oa2
          refine wp_region_over_tail 14 (by kernel_rfl) (by kernel_rfl) ?_
          simp only [List.take_succ_cons, List.take_zero, List.drop_succ_cons, List.drop_zero]
          repeat (first | go_big_quiet_skip | (go_big_quiet_want; go_big_quiet_op; first | go_big_quiet_on | (apply Exists.intro; refine ⟨fun e => ?_, ?_⟩; (focus (go_at_call 42; with_reducible exact calls_over (own_any k v _))); go_big_quiet_on)))
          refine wpQuiet_nil ?_
          rintro W3 ⟨e, he⟩
          have hb3 := over_below wr e
          rw [← he] at hb3
          have H3 := Lib.hid (HU.out.later hb3)
          clear he og ot oa0 oa1 oa2 hb3 HU
          obtain ⟨y, hy⟩ : ∃ y, ownK k v = y := ⟨_, rfl⟩
          rw [hy] at HF2 ⊢
          clear hy
          have htk := take_any w W3 g (ptrV t) n _ T R I _ y H3.out
          go_wp2_with fail
          refine htk.mono ?_
          clear htk
          rintro e W4 ⟨rfl, h4⟩
          have H4 := Lib.hid h4
          have a7 := h4.rb.1.cell 7
          unfold nodeC at a7
          simp only [List.getElem?_toArray, List.getElem?_cons_zero, List.getElem?_cons_succ] at a7
          clear h4 H3
          go_wp2_with fail
          go_roundg (sizeT r)
          case measure => have := HSZ.out; simp only [sizeT] at this; omega
          case rel => exact ⟨r, _, rfl, rfl, HF2.out, { H4.out with rb := H4.out.rb.2.2 }⟩
        | node b kl vl sl cl ll rl =>
          have e1 : ptrV (.node b kl vl sl cl ll rl) = .pointer (some ⟨b, 0, none⟩) := rfl
          rw [e1] at a6
          have HF2 := Lib.hid (show uptoT num r (takeS (takeS o sl) (ownK k v)) = _ from hf2)
          clear hf2 HF e1
          have b3 := HU.out.rb.2.1.1.cell 3; have b4 := HU.out.rb.2.1.1.cell 4
          unfold nodeC at b3 b4
          simp only [List.getElem?_toArray, List.getElem?_cons_zero, List.getElem?_cons_succ] at b3 b4
          have htk := take_any w wr g (ptrV t) n _ T R I o sl HU.out
          go_wp2_with fail
          refine htk.mono ?_
          clear htk a0 a6 b3 b4 HU
          rintro e W2 ⟨rfl, h2⟩
          have HU := Lib.hid h2
          clear h2
          go_upto_region 10 with fail
          have og := fun e => (over_cell (w := W2) (e := e) (o := 0) HU.out.tree.lt).trans (HU.out.tree.cell 0)
          have ot := fun e => (over_cell (w := W2) (e := e) (o := 0) HU.out.box.lt).trans (HU.out.box.cell 0)
          have oa0 := fun e => (over_cell (w := W2) (e := e) (o := 0) HU.out.rb.1.lt).trans (HU.out.rb.1.cell 0)
          have oa1 := fun e => (over_cell (w := W2) (e := e) (o := 1) HU.out.rb.1.lt).trans (HU.out.rb.1.cell 1)
          have oa2 := fun e => (over_cell (w := W2) (e := e) (o := 2) HU.out.rb.1.lt).trans (HU.out.rb.1.cell 2)
          unfold treeC at og
          unfold nodeC at oa0 oa1 oa2
          simp only [List.getElem?_toArray, List.getElem?_cons_zero, List.getElem?_cons_succ] at og ot oa0 oa1 oa2
          refine wp_region_over_tail 14 (by kernel_rfl) (by kernel_rfl) ?_
          simp only [List.take_succ_cons, List.take_zero, List.drop_succ_cons, List.drop_zero]
          repeat (first | go_big_quiet_skip | (go_big_quiet_want; go_big_quiet_op; first | go_big_quiet_on | (apply Exists.intro; refine ⟨fun e => ?_, ?_⟩; (focus (go_at_call 42; with_reducible exact calls_over (own_any k v _))); go_big_quiet_on)))
          refine wpQuiet_nil ?_
          rintro W3 ⟨e, he⟩
          have hb3 := over_below W2 e
          rw [← he] at hb3
          have H3 := Lib.hid (HU.out.later hb3)
          clear he og ot oa0 oa1 oa2 hb3 HU
          obtain ⟨y, hy⟩ : ∃ y, ownK k v = y := ⟨_, rfl⟩
          rw [hy] at HF2 ⊢
          clear hy
          have htk := take_any w W3 g (ptrV t) n _ T R I _ y H3.out
          go_wp2_with fail
          refine htk.mono ?_
          clear htk
          rintro e W4 ⟨rfl, h4⟩
          have H4 := Lib.hid h4
          have a7 := h4.rb.1.cell 7
          unfold nodeC at a7
          simp only [List.getElem?_toArray, List.getElem?_cons_zero, List.getElem?_cons_succ] at a7
          clear h4 H3
          go_wp2_with fail
          go_roundg (sizeT r)
          case measure => have := HSZ.out; simp only [sizeT] at this; omega
          case rel => exact ⟨r, _, rfl, rfl, HF2.out, { H4.out with rb := H4.out.rb.2.2 }⟩
end Go.Proofs.YtbnnkkojlclgjaaGreat
