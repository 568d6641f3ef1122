/-
  A row of leaves: a row of its own.
-/
import Derived.Test.YtbnnkkojlclgjaaEdfState
import Derived.Test.YtbnnkkojlclgjaaRbTwin
import Derived.Test.YtbnnkkojlclgjaaLayM
namespace Go.Proofs.Ytbnnkkojlclgjaa
set_option linter.unusedVariables false
open Go.RowKit Go.Maps Go.Shelf
attribute [local go_sem ↓] Go.wp_at_zero Go.wp_at_succ
attribute [local go_sem] quietR quietAtR quietUponR midAt midUpon plain plainUpon
attribute [local irreducible] TStep

theorem mclone_any (m : Nat) (M : List (Int × Value)) (w : World) (h : MapI Try.prog 3 w m M) :
    Calls Try.prog 58 #[.map (some m)] w fun e w' => e = .returned (.map (some w.heap.size)) ∧ MapI Try.prog 3 w' w.heap.size M ∧ Below w.heap.size w w' := by
  obtain ⟨es, clock, h1, F, hs, hD⟩ := h
  have hc := AnyW.maps_Clone mcloneK m es clock w h1
  refine hc.mono fun e w' ⟨he, hw⟩ => ?_
  subst hw
  exact ⟨he, ⟨es, clock, heap_alloc_new _ _, F, hs, hD⟩, (Below.refl w.heap.size w).alloc (Nat.le_refl _) _⟩
def RbN (t : RB) (n : Nat) (v : Value) (W : World) : Prop := ∃ g' t', v = .pointer (some ⟨g', 0, none⟩) ∧ RbT W g' t' ∧ listT t' = listT t ∧ n ≤ g' ∧ ∀ a ∈ addrs t', n ≤ a
def MapN (M : List (Int × Value)) (n : Nat) (v : Value) (W : World) : Prop := ∃ m', v = .map (some m') ∧ MapI Try.prog 3 W m' M ∧ n ≤ m'
def ACopyW (w : World) (t : RB) (M : List (Int × Ky)) (e : Ending) (w' : World) : Prop := ∃ q g m t', e = .returned (.pointer (some ⟨q, 0, none⟩)) ∧ AugAt w' q g m t' M ∧ listT t' = listT t ∧ (∀ b, ownA q g m t' b → w.heap.size ≤ b) ∧ Below w.heap.size w w'
set_option maxRecDepth 100000 in
set_option maxHeartbeats 4000000 in
theorem acopy_any (q g m : Nat) (t : RB) (M : List (Int × Ky)) (w : World) (h : AugAt w q g m t M) : Calls Try.prog 45 #[.pointer (some ⟨q, 0, none⟩)] w (ACopyW w t M) := by
  have c0 := h.aug.cell 0
  simp only [List.getElem?_toArray, List.getElem?_cons_zero, List.getElem?_cons_succ] at c0
  have H := Lib.hid h
  clear h
  go_enter Try.func45, Try.ntmps45
  go_upto_region 5 with fail
  clear c0
  have o0 := fun e => (over_cell (w := w) (e := e) (o := 0) H.out.aug.lt).trans (H.out.aug.cell 0)
  have o1 := fun e => (over_cell (w := w) (e := e) (o := 1) H.out.aug.lt).trans (H.out.aug.cell 1)
  simp only [List.getElem?_toArray, List.getElem?_cons_zero, List.getElem?_cons_succ] at o0 o1
  refine wp_region_midg (w := w) 10 3 [4, 9] [] [(4, RbN t w.heap.size), (9, MapN (mapV kyV M) w.heap.size)] rfl (by kernel_rfl) (by kernel_rfl) (by kernel_rfl) (by kernel_rfl) (fun _ _ _ _ _ h => h) ⟨fun v A C ⟨g', t', h1, h2, h3⟩ hb => ⟨g', t', h1, h2.later hb, h3⟩, fun v A C ⟨m', h1, h2, h3⟩ hb => ⟨m', h1, h2.heap (hb.block m' h2.lt), h3⟩, trivial⟩ ?_
  intro LL hL
  have HL := Lib.hid hL
  clear hL
  simp only [List.take_succ_cons, List.take_zero, putL]
  iterate 10 (first | refine wpHead_skip (by decide) ?_ | (refine wpHead_step (by decide) (fun K hK => ?_); go_simp; (refine hK _ ?_; clear hK K)))
  refine wpHead_nil (HL.out _ ⟨?_, ?_, trivial⟩ ?_)
  · intro vs W2 hb2 hf
    clear HL hf o0 o1
    change TStep _ _ _ (Act.put (Act.put _ (some 18) (vs 4)) (some 23) (vs 9)) _ _
    refine tstep_yes (by kernel_rfl) ?_
    have hc := rbcopy_any g t W2 (H.out.tr.later hb2)
    go_simp
    refine hc.mono ?_
    rintro e W3 ⟨g', t', rfl, hT, hl, hg, ha, hb⟩
    have := hb2.size
    exact ⟨_, rfl, hb, g', t', rfl, hT, hl, by omega, fun a h => by have := ha a h; omega⟩
  · intro vs W2 hb2 hf
    clear HL hf o0 o1
    change TStep _ _ _ (Act.put (Act.put _ (some 18) (vs 4)) (some 23) (vs 9)) _ _
    refine tstep_yes (by kernel_rfl) ?_
    have hc := mclone_any m _ W2 (H.out.map.heap (hb2.block m H.out.map.lt))
    go_simp
    refine hc.mono ?_
    rintro e W3 ⟨rfl, hM, hb⟩
    exact ⟨_, rfl, hb, _, rfl, hM, hb2.size⟩
  · intro vs W2 hb2 hf
    have hf := fits_cast (q := RbN t w.heap.size (vs 4) W2 ∧ MapN (mapV kyV M) w.heap.size (vs 9) W2 ∧ True) hf (by kernel_rfl)
    clear HL o0 o1
    change wpList _ _ _ _ (Act.put (Act.put _ (some 18) (vs 4)) (some 23) (vs 9)) _
    generalize vs 4 = u1 at hf ⊢
    generalize vs 9 = u2 at hf ⊢
    obtain ⟨⟨g', t', rfl, hT, hl, hg, ha⟩, ⟨m', rfl, hM, hm⟩, -⟩ := hf
    simp only [List.drop_succ_cons, List.drop_zero, List.take_succ_cons, List.take_zero]
    have hb3 := (Below.refl W2.heap.size W2).alloc (Nat.le_refl _) (.cells #[.pointer (some ⟨g', 0, none⟩), .map (some m')] 85)
    have hq := Blk.new W2 85 #[.pointer (some ⟨g', 0, none⟩), .map (some m')]
    have hfin : ACopyW w t M (.returned (.pointer (some ⟨W2.heap.size, 0, none⟩))) (W2.alloc (.cells #[.pointer (some ⟨g', 0, none⟩), .map (some m')] 85)) := by
      refine ⟨_, g', m', t', rfl, ⟨hq, hT.later hb3, hM.heap (hb3.block m' hM.lt), by rw [hl]; exact H.out.inv, fun i => by rw [hl]; exact H.out.look i, by rw [hl]; exact H.out.len⟩, hl, ?_, hb2.trans (hb3.mono hb2.size)⟩
      rintro b (rfl | rfl | rfl | hb)
      · exact hb2.size
      · exact hg
      · exact hm
      · exact ha b hb
    have HF := Lib.hid hfin
    clear hT hl hg ha hM hm hb3 hq hfin hb2
    go_wp2_with fail
    go_ret
    exact HF.out
def RCopyW (w : World) (L : List En) (e : Ending) (w' : World) : Prop := ∃ r S, e = .returned (.pointer (some ⟨r, 0, none⟩)) ∧ RowX w' r S L ∧ (∀ b, S b → w.heap.size ≤ b) ∧ Below w.heap.size w w'
theorem rcopyE_any (r : Nat) (S : Nat → Prop) (L : List En) (w : World) (h : RowX w r S L) : Calls Try.prog 21 #[.pointer (some ⟨r, 0, none⟩)] w (RCopyW w L) := by
  obtain ⟨q, g, m, t, M, hA, rfl, hS⟩ := h
  have hp := acopy_any q g m t M w hA.at_
  have hp2 : Calls Try.prog 45 (#[.pointer (some ⟨q, 0, none⟩)] ++ #[]) w (ACopyW w t M) := by simpa using hp
  have hask := ask_tree r q _ #[] w _ hA.row (enters_of Try.func45 (by kernel_rfl) rfl) hp2 (fun e W h => by obtain ⟨_, _, _, _, h1, _⟩ := h; exact ⟨_, h1⟩)
  clear hA hS hp hp2
  go_enter Try.func21, Try.ntmps21
  go_wp2_with fail
  refine hask.mono ?_
  clear hask
  rintro e w2 ⟨q', g', m', t', rfl, hA, hl, ho, hb⟩
  have H := Lib.hid (And.intro hA (And.intro hl (And.intro ho hb)))
  clear hA hl ho hb
  go_wp2_with fail
  go_ret
  have hb1 := (Below.refl w2.heap.size w2).alloc (Nat.le_refl _) (.cells #[.pointer (some ⟨q', 0, none⟩)] 67)
  refine ⟨_, fun b => b = w2.heap.size ∨ ownA q' g' m' t' b, rfl, ⟨q', g', m', t', M, ⟨Blk.new w2 _ _, H.out.1.later hb1⟩, H.out.2.1, fun _ => Iff.rfl⟩, ?_, H.out.2.2.2.trans (hb1.mono H.out.2.2.2.size)⟩
  rintro b (rfl | hb)
  · exact H.out.2.2.2.size
  · exact H.out.2.2.1 b hb
end Go.Proofs.Ytbnnkkojlclgjaa
