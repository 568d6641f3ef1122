/-
  The book of curves: Copy.
-/
import Derived.Test.YthmhboagbeibdaaAdmO
import Derived.Test.YthmhboagbeibdaaLayM
namespace Go.Proofs.Ythmhboagbeibdaa
set_option linter.unusedVariables false
open Go.RowKit Go.Maps Go.Sort Go.Shelf
attribute [local go_sem ↓] Go.wp_at_zero Go.wp_at_succ
attribute [local go_sem] quietR quietAtR quietUponR midAt midUpon
attribute [local irreducible] TStep HStep

theorem mclone_any (m : Nat) (M : List (Int × Value)) (w : World) (h : MapI Try.prog 3 w m M) :
    Calls Try.prog 36 #[.map (some m)] w fun e w' => e = .returned (.map (some w.heap.size)) ∧ MapI Try.prog 3 w' w.heap.size M ∧ Below w.heap.size w w' := by
  obtain ⟨es, clock, h1, F, hs, hD⟩ := h
  have hc := AnyW.maps_Clone mcloneS m es clock w h1
  refine hc.mono fun e w' ⟨he, hw⟩ => ?_
  subst hw
  exact ⟨he, ⟨es, clock, heap_alloc_new _ _, F, hs, hD⟩, (Below.refl w.heap.size w).alloc (Nat.le_refl _) _⟩

def CopyO (w : World) (r : Int) (L : List (Int × Cv)) (G : List Cv) (e : Ending) (w' : World) : Prop :=
  ∃ g m vg, e = .returned (.pointer (some ⟨g, 0, none⟩)) ∧ BkO w' w.heap.size g m r L G vg ∧ Below w.heap.size w w'
set_option maxRecDepth 100000 in
set_option maxHeartbeats 4000000 in
theorem copyO_any (g m : Nat) (r : Int) (L : List (Int × Cv)) (G : List Cv) (vg : Value) (w0 : World) (h : BkAt w0 g m r L G vg) :
    Calls Try.prog 21 #[.pointer (some ⟨g, 0, none⟩)] w0 (CopyO w0 r L G) := by
  obtain ⟨ag, cg, rfl⟩ : ∃ a cap, vg = .slice a G.length cap := by obtain ⟨_, _, a, cap, e, _⟩ := h.gh; exact ⟨a, cap, e⟩
  have l0 := h.blk.lt
  have o0 := fun e => (over_cell (w := w0) (e := e) (o := 0) l0).trans (h.blk.cell 0)
  have o1 := fun e => (over_cell (w := w0) (e := e) (o := 1) l0).trans (h.blk.cell 1)
  have o2 := fun e => (over_cell (w := w0) (e := e) (o := 2) l0).trans (h.blk.cell 2)
  simp only [List.getElem?_toArray, List.getElem?_cons_zero, List.getElem?_cons_succ] at o0 o1 o2
  have H := Lib.hid h
  clear h
  go_enter Try.func21, Try.ntmps21
  go_upto_region 3 with fail
  refine wp_region_midg (w := w0) 14 3 [8, 13] [] [(8, fun u W' => ∃ m', u = .map (some m') ∧ MapI Try.prog 3 W' m' (mapV cvV L) ∧ w0.heap.size ≤ m'), (13, fun u W' => W'.ownsRow w0.heap.size 25 3 u G.length (cvCells G))] rfl (by kernel_rfl) (by kernel_rfl) (by kernel_rfl) (by kernel_rfl) (fun _ _ _ _ _ h => h) ⟨fun v W1 W2 ⟨b, h1, h2, h3⟩ hb => ⟨b, h1, h2.kept (grown_none hb) (by simp), h3⟩, fun v W1 W2 h hb => owns_later h hb, trivial⟩ ?_
  intro LL hL
  have HL := Lib.hid hL
  clear hL
  simp only [List.take_succ_cons, List.take_zero, putL]
  iterate 14 (first | refine wpHead_skip (by decide) ?_ | (refine wpHead_step (by decide) (fun K hK => ?_); go_simp; refine hK _ ?_; clear hK K))
  refine wpHead_nil (HL.out _ ⟨?_, ?_, trivial⟩ ?_)
  · intro vs W2 hb2 hf
    clear hf HL
    change TStep _ _ _ (Act.put (Act.put _ (some 13) (vs 8)) (some 18) (vs 13)) _ _
    refine tstep_yes (by kernel_rfl) ?_
    have hm := (mclone_any m _ W2 (H.out.later hb2).map).mono (R' := fun e w' => ∃ v, e = .returned v ∧ Below W2.heap.size W2 w' ∧ ∃ m', v = .map (some m') ∧ MapI Try.prog 3 w' m' (mapV cvV L) ∧ w0.heap.size ≤ m') fun e w' ⟨he, h1, h2⟩ => ⟨_, he, h2, _, rfl, h1, hb2.size⟩
    go_simp
    try exact hm
  · intro vs W2 hb2 hf
    clear hf HL
    change TStep _ _ _ (Act.put (Act.put _ (some 13) (vs 8)) (some 18) (vs 13)) _ _
    refine tstep_yes (by kernel_rfl) ?_
    have hm := (clone_row w0 W2 _ G (H.out.gh.later hb2) hb2.size).mono (R' := fun e w' => ∃ v, e = .returned v ∧ Below W2.heap.size W2 w' ∧ w'.ownsRow w0.heap.size 25 3 v G.length (cvCells G)) fun e w' ⟨v, he, h1, h2⟩ => ⟨v, he, h2, h1⟩
    go_simp
    try exact hm
  · intro vs W2 hb2 hf
    have hf := fits_cast (q := (∃ m', vs 8 = .map (some m') ∧ MapI Try.prog 3 W2 m' (mapV cvV L) ∧ w0.heap.size ≤ m') ∧ (W2.ownsRow w0.heap.size 25 3 (vs 13) G.length (cvCells G)) ∧ True) hf (by kernel_rfl)
    clear HL
    change wpList _ _ _ _ (Act.put (Act.put _ (some 13) (vs 8)) (some 18) (vs 13)) _
    refine Exists.elim hf.1 fun m' hm => ?_
    refine Exists.elim (owns_slice hf.2.1) fun b1 x1 => ?_
    refine Exists.elim x1 fun d1 y1 => ?_
    have ho := hf.2.1
    rw [y1] at ho
    rw [hm.1, y1]
    have HI := Lib.hid (And.intro hm.2.1 (And.intro hm.2.2 (And.intro ho hb2)))
    clear hf hm x1 y1 ho hb2 o0 o1 o2 l0
    simp only [List.drop_succ_cons, List.drop_zero, List.take_succ_cons, List.take_zero]
    go_wp2_with fail
    go_ret
    have hbn := (Below.refl W2.heap.size W2).alloc (Nat.le_refl _) (.cells #[.int .u64 r, .map (some m'), .slice b1 G.length d1] 58)
    have hown := owns_later HI.out.2.2.1 hbn
    exact ⟨_, m', _, rfl, ⟨⟨Blk.new _ _ _, HI.out.1.kept (grown_none hbn) (by simp), CvAt.of_owns hown H.out.gh.1 H.out.gh.2.1, H.out.u, H.out.wf, H.out.few, H.out.rate⟩, hown, HI.out.2.2.2.size, HI.out.2.1⟩, HI.out.2.2.2.trans (hbn.mono HI.out.2.2.2.size)⟩
end Go.Proofs.Ythmhboagbeibdaa
