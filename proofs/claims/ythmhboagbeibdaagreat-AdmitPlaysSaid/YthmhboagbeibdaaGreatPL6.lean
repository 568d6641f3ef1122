/- Lemmas of the claim, merged: AdmCopy, AdmNew, AdmPlayP, AdmPlays. No conditions beyond those that each states. -/
import Derived.Test.YthmhboagbeibdaaGreatPL2
import Derived.Test.YthmhboagbeibdaaGreatLayM
import Derived.Test.YthmhboagbeibdaaGreatPL1
import Derived.Test.YthmhboagbeibdaaGreatPL4
import Derived.Test.YthmhboagbeibdaaGreatPL5
import Derived.Test.YthmhboagbeibdaaGreatFlat
/-
  The book of curves: Copy.
-/
namespace Go.Proofs.YthmhboagbeibdaaGreat
set_option linter.unusedVariables false
open Go.RowKit Go.Maps Go.Sort Go.Shelf
attribute [local go_sem ↓] Go.wp_at_zero Go.wp_at_succ
attribute [local go_sem] quietR quietAtR quietUponR midAt midUpon
attribute [local irreducible] TStep HStep

theorem mclone_any (m : Nat) (M : List (Int × Value)) (w : World) (h : MapI Tryz.prog 3 w m M) :
    Calls Tryz.prog 27 #[.map (some m)] w fun e w' => e = .returned (.map (some w.heap.size)) ∧ MapI Tryz.prog 3 w' w.heap.size M ∧ Below w.heap.size w w' := by
  obtain ⟨es, clock, h1, F, hs, hD⟩ := h
  have hc := AnyW.maps_Clone mcloneS m es clock w h1
  refine hc.mono fun e w' ⟨he, hw⟩ => ?_
  subst hw
  exact ⟨he, ⟨es, clock, heap_alloc_new _ _, F, hs, hD⟩, (Below.refl w.heap.size w).alloc (Nat.le_refl _) _⟩

def CopyO (w : World) (r : Int) (L : List (Int × Cv)) (G : List Cv) (e : Ending) (w' : World) : Prop :=
  ∃ g m vg, e = .returned (.pointer (some ⟨g, 0, none⟩)) ∧ BkO w' w.heap.size g m r L G vg ∧ Below w.heap.size w w'
set_option maxRecDepth 100000 in
set_option maxHeartbeats 4000000 in
theorem copyO_any (g m : Nat) (r : Int) (L : List (Int × Cv)) (G : List Cv) (vg : Value) (w0 : World) (h : BkAt w0 g m r L G vg) :
    Calls Tryz.prog 15 #[.pointer (some ⟨g, 0, none⟩)] w0 (CopyO w0 r L G) := by
  obtain ⟨ag, cg, rfl⟩ : ∃ a cap, vg = .slice a G.length cap := by obtain ⟨_, _, a, cap, e, _⟩ := h.gh; exact ⟨a, cap, e⟩
  have l0 := h.blk.lt
  have o0 := fun e => (over_cell (w := w0) (e := e) (o := 0) l0).trans (h.blk.cell 0)
  have o1 := fun e => (over_cell (w := w0) (e := e) (o := 1) l0).trans (h.blk.cell 1)
  have o2 := fun e => (over_cell (w := w0) (e := e) (o := 2) l0).trans (h.blk.cell 2)
  simp only [List.getElem?_toArray, List.getElem?_cons_zero, List.getElem?_cons_succ] at o0 o1 o2
  have H := Lib.hid h
  clear h
  go_enter Tryz.func15, Tryz.ntmps15
  go_upto_region 3 with fail
  refine wp_region_midg (w := w0) 14 3 [8, 13] [] [(8, fun u W' => ∃ m', u = .map (some m') ∧ MapI Tryz.prog 3 W' m' (mapV cvV L) ∧ w0.heap.size ≤ m'), (13, fun u W' => W'.ownsRow w0.heap.size 25 3 u G.length (cvCells G))] rfl (by kernel_rfl) (by kernel_rfl) (by kernel_rfl) (by kernel_rfl) (fun _ _ _ _ _ h => h) ⟨fun v W1 W2 ⟨b, h1, h2, h3⟩ hb => ⟨b, h1, h2.kept (grown_none hb) (by simp), h3⟩, fun v W1 W2 h hb => owns_later h hb, trivial⟩ ?_
  intro LL hL
  have HL := Lib.hid hL
  clear hL
  simp only [List.take_succ_cons, List.take_zero, putL]
  iterate 14 (first | refine wpHead_skip (by decide) ?_ | (refine wpHead_step (by decide) (fun K hK => ?_); go_simp; refine hK _ ?_; clear hK K))
  refine wpHead_nil (HL.out _ ⟨?_, ?_, trivial⟩ ?_)
  · intro vs W2 hb2 hf
    clear hf HL
    change TStep _ _ _ (Act.put (Act.put _ (some 13) (vs 8)) (some 18) (vs 13)) _ _
    refine tstep_yes (by kernel_rfl) ?_
    have hm := (mclone_any m _ W2 (H.out.later hb2).map).mono (R' := fun e w' => ∃ v, e = .returned v ∧ Below W2.heap.size W2 w' ∧ ∃ m', v = .map (some m') ∧ MapI Tryz.prog 3 w' m' (mapV cvV L) ∧ w0.heap.size ≤ m') fun e w' ⟨he, h1, h2⟩ => ⟨_, he, h2, _, rfl, h1, hb2.size⟩
    go_simp
    try exact hm
  · intro vs W2 hb2 hf
    clear hf HL
    change TStep _ _ _ (Act.put (Act.put _ (some 13) (vs 8)) (some 18) (vs 13)) _ _
    refine tstep_yes (by kernel_rfl) ?_
    have hm := (clone_row w0 W2 _ G (H.out.gh.later hb2) hb2.size).mono (R' := fun e w' => ∃ v, e = .returned v ∧ Below W2.heap.size W2 w' ∧ w'.ownsRow w0.heap.size 25 3 v G.length (cvCells G)) fun e w' ⟨v, he, h1, h2⟩ => ⟨v, he, h2, h1⟩
    go_simp
    try exact hm
  · intro vs W2 hb2 hf
    have hf := fits_cast (q := (∃ m', vs 8 = .map (some m') ∧ MapI Tryz.prog 3 W2 m' (mapV cvV L) ∧ w0.heap.size ≤ m') ∧ (W2.ownsRow w0.heap.size 25 3 (vs 13) G.length (cvCells G)) ∧ True) hf (by kernel_rfl)
    clear HL
    change wpList _ _ _ _ (Act.put (Act.put _ (some 13) (vs 8)) (some 18) (vs 13)) _
    refine Exists.elim hf.1 fun m' hm => ?_
    refine Exists.elim (owns_slice hf.2.1) fun b1 x1 => ?_
    refine Exists.elim x1 fun d1 y1 => ?_
    have ho := hf.2.1
    rw [y1] at ho
    rw [hm.1, y1]
    have HI := Lib.hid (And.intro hm.2.1 (And.intro hm.2.2 (And.intro ho hb2)))
    clear hf hm x1 y1 ho hb2 o0 o1 o2 l0
    simp only [List.drop_succ_cons, List.drop_zero, List.take_succ_cons, List.take_zero]
    go_wp2_with fail
    go_ret
    have hbn := (Below.refl W2.heap.size W2).alloc (Nat.le_refl _) (.cells #[.int .u64 r, .map (some m'), .slice b1 G.length d1] 55)
    have hown := owns_later HI.out.2.2.1 hbn
    exact ⟨_, m', _, rfl, ⟨⟨Blk.new _ _ _, HI.out.1.kept (grown_none hbn) (by simp), CvAt.of_owns hown H.out.gh.1 H.out.gh.2.1, H.out.u, H.out.wf, H.out.few, H.out.rate⟩, hown, HI.out.2.2.2.size, HI.out.2.1⟩, HI.out.2.2.2.trans (hbn.mono HI.out.2.2.2.size)⟩
end Go.Proofs.YthmhboagbeibdaaGreat
/-
  Both books' New.
-/
namespace Go.Proofs.YthmhboagbeibdaaGreat
set_option linter.unusedVariables false
open Go.RowKit Go.Maps Go.Sort

def NewW (w : World) (r : Int) (e : Ending) (w' : World) : Prop :=
  ((¬ (1 ≤ r ∧ r ≤ 1048576) ∧ e = .returned (.tuple #[.pointer none, .int .i64 240])) ∨ ((1 ≤ r ∧ r ≤ 1048576) ∧ ∃ g m, e = .returned (.tuple #[.pointer (some ⟨g, 0, none⟩), .int .i64 0]) ∧ BkAt w' g m r [] [] (.slice none 0 0) ∧ w.heap.size ≤ g ∧ w.heap.size ≤ m)) ∧ Below w.heap.size w w'
theorem new_any (r : Int) (w : World) (hr : U r) : Calls Tryz.prog 5 #[.int .u64 r] w (NewW w r) := by
  by_cases h1 : 1 ≤ r
  · have n1 : ¬ r < 1 := by omega
    by_cases h2 : r ≤ 1048576
    · have n2 : ¬ 1048576 < r := by omega
      have hmm := @run_makeMap Tryz.prog
      go_enter Tryz.func5, Tryz.ntmps5
      go_wp2_with fail
      go_ret2
      have hb := ((Below.refl w.heap.size w).alloc (Nat.le_refl _) (.map #[] 0)).alloc (by simp) (.cells #[.int .u64 r, .map (some w.heap.size), .slice none 0 0] 55)
      have hB := Blk.new (w.alloc (.map #[] 0)) 55 #[.int .u64 r, .map (some w.heap.size), .slice none 0 0]
      rw [World.size_alloc] at hB
      have hM : MapI Tryz.prog 3 (w.alloc (.map #[] 0)) w.heap.size [] := MapI.made w
      refine ⟨.inr ⟨⟨h1, h2⟩, w.heap.size + 1, w.heap.size, rfl, ⟨hB, hM.kept (World.grownBy_alloc _ _ none) (by simp), ⟨fun c hc => by simp at hc, by simp, none, 0, rfl, .inl rfl⟩, fun c hc => by simp at hc, fun p hp => by simp at hp, by simp, ⟨h1, h2⟩⟩, by omega, Nat.le_refl _⟩, hb⟩
    · have n2 : 1048576 < r := by omega
      go_enter Tryz.func5, Tryz.ntmps5
      go_wp2_with fail
      go_ret2
      exact ⟨.inl ⟨fun h => by omega, rfl⟩, Below.refl _ _⟩
  · have n1 : r < 1 := by omega
    go_enter Tryz.func5, Tryz.ntmps5
    go_wp2_with fail
    go_ret2
    exact ⟨.inl ⟨fun h => by omega, rfl⟩, Below.refl _ _⟩
def RnewW (w : World) (r : Int) (e : Ending) (w' : World) : Prop :=
  ((¬ (1 ≤ r ∧ r ≤ 1048576) ∧ e = .returned (.tuple #[.pointer none, .int .i64 240])) ∨ ((1 ≤ r ∧ r ≤ 1048576) ∧ ∃ p, e = .returned (.tuple #[.pointer (some ⟨p, 0, none⟩), .int .i64 0]) ∧ RbAt w' p r [] [] [] (.slice none 0 0) (.slice none 0 0) (.slice none 0 0))) ∧ Below w.heap.size w w'
theorem rnew_any (r : Int) (w : World) (hr : U r) : Calls Tryz.prog 6 #[.int .u64 r] w (RnewW w r) := by
  have hnil : ∀ W, CvAt W (.slice none 0 0) [] := fun W => ⟨fun c hc => by simp at hc, by simp, none, 0, rfl, .inl rfl⟩
  by_cases h1 : 1 ≤ r
  · have n1 : ¬ r < 1 := by omega
    by_cases h2 : r ≤ 1048576
    · have n2 : ¬ 1048576 < r := by omega
      go_enter Tryz.func6, Tryz.ntmps6
      go_wp2_with fail
      go_ret2
      exact ⟨.inr ⟨⟨h1, h2⟩, w.heap.size, rfl, ⟨Blk.new w _ _, IntAt.nil _, hnil _, hnil _, rfl, by simp⟩⟩, (Below.refl w.heap.size w).alloc (Nat.le_refl _) _⟩
    · have n2 : 1048576 < r := by omega
      go_enter Tryz.func6, Tryz.ntmps6
      go_wp2_with fail
      go_ret2
      exact ⟨.inl ⟨fun h => by omega, rfl⟩, Below.refl _ _⟩
  · have n1 : r < 1 := by omega
    go_enter Tryz.func6, Tryz.ntmps6
    go_wp2_with fail
    go_ret2
    exact ⟨.inl ⟨fun h => by omega, rfl⟩, Below.refl _ _⟩

theorem map_cell {w : World} {m : Nat} {M : List (Int × Value)} (h : MapI Tryz.prog 3 w m M) (o : Nat) (v : Value) : w.cell? ⟨m, o, none⟩ ≠ some v := by
  obtain ⟨es, clock, h1, _⟩ := h
  simp [World.cell?, h1]
theorem rb_turned {w w' : World} {p m : Nat} {r : Int} {I : List Int} {V G : List Cv} {vi vl vg : Value} {M : List (Int × Value)} (h : RbAt w p r I V G vi vl vg) (hM : MapI Tryz.prog 3 w m M) (hg : w.grownBy w' (some m)) : RbAt w' p r I V G vi vl vg := by
  have hpm : p ≠ m := by
    rintro rfl
    obtain ⟨es, clock, h1, _⟩ := hM
    have h2 := h.blk
    unfold Blk at h2
    rw [h1] at h2
    cases h2
  have cv : ∀ {v : Value} {G : List Cv}, CvAt w v G → CvAt w' v G := fun {v G} h => by
    obtain ⟨hu, hl, a, cap, e, h3⟩ := h
    refine ⟨hu, hl, a, cap, e, ?_⟩
    rcases h3 with h3 | ⟨b, off, e2, hbl, hcap, hc⟩
    · exact .inl h3
    · by_cases hn : G = []
      · exact .inl hn
      · refine .inr ⟨b, off, e2, Nat.lt_of_lt_of_le hbl hg.size, hcap, fun i c hi => ?_⟩
        obtain ⟨c0, c1, c2⟩ := hc i c hi
        have hbm : b ≠ m := by rintro rfl; exact map_cell hM _ _ c0
        have far := fun o => hg.cell_far ⟨b, o, none⟩ hbl (by simpa using hbm)
        exact ⟨(far _).trans c0, (far _).trans c1, (far _).trans c2⟩
  refine ⟨h.blk.grown hg (by simpa using hpm), ?_, cv h.live, cv h.gh, h.same, h.few⟩
  obtain ⟨hl, a, cap, e, h3⟩ := h.ids
  refine ⟨hl, a, cap, e, ?_⟩
  rcases h3 with h3 | ⟨b, off, e2, hbl, hcap, hc⟩
  · exact .inl h3
  · by_cases hn : I = []
    · exact .inl hn
    · refine .inr ⟨b, off, e2, Nat.lt_of_lt_of_le hbl hg.size, hcap, fun i c hi => ?_⟩
      have c0 := hc i c hi
      have hbm : b ≠ m := by rintro rfl; exact map_cell hM _ _ c0
      exact (hg.cell_far ⟨b, off + i, none⟩ hbl (by simpa using hbm)).trans c0
end Go.Proofs.YthmhboagbeibdaaGreat
/-
  Both books side by side: what each act leaves of them.
-/
namespace Go.Proofs.YthmhboagbeibdaaGreat
set_option linter.unusedVariables false
open Go.RowKit Go.Maps Go.Sort
attribute [local go_sem ↓] Go.wp_at_zero Go.wp_at_succ
attribute [local go_sem] quietR quietAtR quietUponR midAt midUpon
attribute [local irreducible] TStep HStep

theorem map_lt {w : World} {base g m : Nat} {r : Int} {L : List (Int × Cv)} {G : List Cv} {vg : Value} (h : BkO w base g m r L G vg) : m < w.heap.size := h.bk.map.lt
theorem BkO.up {base g m : Nat} {w w' : World} {r : Int} {L : List (Int × Cv)} {G : List Cv} {vg : Value} (h : BkO w base g m r L G vg) (hb : ∀ k, base ≤ k → k < w.heap.size → w'.heap[k]? = w.heap[k]?) : BkO w' base g m r L G vg := by
  have hown : w'.ownsRow base 25 3 vg G.length (cvCells G) := by
    refine ⟨h.own.1, ?_⟩
    rcases h.own.2 with h2 | ⟨g', c', cur, e, h3, h4, h5⟩
    · exact .inl h2
    · exact .inr ⟨g', c', cur, e, h3, (hb g' h3 (Array.getElem?_eq_some_iff.1 h4).1).trans h4, h5⟩
  exact ⟨⟨(hb g h.gb h.bk.blk.lt).trans h.bk.blk, h.bk.map.heap (hb m h.mb (map_lt h)), CvAt.of_owns hown h.bk.gh.1 (by have := h.bk.few; omega), h.bk.u, h.bk.wf, h.bk.few, h.bk.rate⟩, hown, h.gb, h.mb⟩
theorem cell_of_heap {w w' : World} {b o : Nat} (h : w'.heap[b]? = w.heap[b]?) : w'.cell? ⟨b, o, none⟩ = w.cell? ⟨b, o, none⟩ := by simp [World.cell?, h]
/-- the document's book, where its rows' blocks are as they were -/
theorem RbAt.kept {w w' : World} {p : Nat} {r : Int} {I : List Int} {V G : List Cv} {vi vl vg : Value} (h : RbAt w p r I V G vi vl vg) (hsz : w.heap.size ≤ w'.heap.size) (hp : w'.heap[p]? = w.heap[p]?) (hd : DocIn (fun b => b < w.heap.size → w'.heap[b]? = w.heap[b]?) I V G vi vl vg) : RbAt w' p r I V G vi vl vg := by
  refine ⟨hp.trans h.blk, ?_, ?_, ?_, h.same, h.few⟩
  · obtain ⟨h2, a, cap, rfl, h3⟩ := h.ids
    refine ⟨h2, a, cap, rfl, ?_⟩
    rcases h3 with h3 | ⟨b, off, rfl, hl, hcap, hc⟩
    · exact .inl h3
    · by_cases hn : I = []
      · exact .inl hn
      · exact .inr ⟨b, off, rfl, Nat.lt_of_lt_of_le hl hsz, hcap, fun i k hi => (cell_of_heap (hd.1 hn b rfl hl)).trans (hc i k hi)⟩
  · obtain ⟨h1, h2, a, cap, rfl, h3⟩ := h.live
    refine ⟨h1, h2, a, cap, rfl, ?_⟩
    rcases h3 with h3 | ⟨b, off, rfl, hl, hcap, hc⟩
    · exact .inl h3
    · by_cases hn : V = []
      · exact .inl hn
      · exact .inr ⟨b, off, rfl, Nat.lt_of_lt_of_le hl hsz, hcap, fun i k hi => by
          have e := hd.2.1 hn b rfl hl
          obtain ⟨c0, c1, c2⟩ := hc i k hi
          exact ⟨(cell_of_heap e).trans c0, (cell_of_heap e).trans c1, (cell_of_heap e).trans c2⟩⟩
  · obtain ⟨h1, h2, a, cap, rfl, h3⟩ := h.gh
    refine ⟨h1, h2, a, cap, rfl, ?_⟩
    rcases h3 with h3 | ⟨b, off, rfl, hl, hcap, hc⟩
    · exact .inl h3
    · by_cases hn : G = []
      · exact .inl hn
      · exact .inr ⟨b, off, rfl, Nat.lt_of_lt_of_le hl hsz, hcap, fun i k hi => by
          have e := hd.2.2 hn b rfl hl
          obtain ⟨c0, c1, c2⟩ := hc i k hi
          exact ⟨(cell_of_heap e).trans c0, (cell_of_heap e).trans c1, (cell_of_heap e).trans c2⟩⟩
theorem RbAt.lt {w : World} {p : Nat} {r : Int} {I : List Int} {V G : List Cv} {vi vl vg : Value} (h : RbAt w p r I V G vi vl vg) : DocIn (fun b => b < w.heap.size) I V G vi vl vg := by
  refine ⟨fun hn b hb => ?_, fun hn b hb => ?_, fun hn b hb => ?_⟩
  · obtain ⟨_, a, cap, rfl, h3⟩ := h.ids
    obtain ⟨b', off, rfl, hl, _⟩ := h3.resolve_left hn
    cases hb; exact hl
  · obtain ⟨_, _, a, cap, rfl, h3⟩ := h.live
    obtain ⟨b', off, rfl, hl, _⟩ := h3.resolve_left hn
    cases hb; exact hl
  · obtain ⟨_, _, a, cap, rfl, h3⟩ := h.gh
    obtain ⟨b', off, rfl, hl, _⟩ := h3.resolve_left hn
    cases hb; exact hl
theorem DocIn.imp {X Y : Nat → Prop} {I : List Int} {V G : List Cv} {vi vl vg : Value} (h : DocIn X I V G vi vl vg) (k : DocIn (fun b => X b → Y b) I V G vi vl vg) : DocIn Y I V G vi vl vg :=
  ⟨fun hn b hb => k.1 hn b hb (h.1 hn b hb), fun hn b hb => k.2.1 hn b hb (h.2.1 hn b hb), fun hn b hb => k.2.2 hn b hb (h.2.2 hn b hb)⟩
theorem DocIn.all {X : Nat → Prop} {I : List Int} {V G : List Cv} {vi vl vg : Value} (h : ∀ b, X b) : DocIn X I V G vi vl vg := ⟨fun _ b _ => h b, fun _ b _ => h b, fun _ b _ => h b⟩
theorem DocIn.mono {X Y : Nat → Prop} {I : List Int} {V G : List Cv} {vi vl vg : Value} (h : DocIn X I V G vi vl vg) (k : ∀ b, X b → Y b) : DocIn Y I V G vi vl vg := h.imp (DocIn.all k)
theorem DocIn.and {X Y : Nat → Prop} {I : List Int} {V G : List Cv} {vi vl vg : Value} (h : DocIn X I V G vi vl vg) (k : DocIn Y I V G vi vl vg) : DocIn (fun b => X b ∧ Y b) I V G vi vl vg := ⟨fun hn b hb => ⟨h.1 hn b hb, k.1 hn b hb⟩, fun hn b hb => ⟨h.2.1 hn b hb, k.2.1 hn b hb⟩, fun hn b hb => ⟨h.2.2 hn b hb, k.2.2 hn b hb⟩⟩
/-- apart from the program's book -/
def Off (g m : Nat) (vg : Value) (b : Nat) : Prop := b ≠ g ∧ b ≠ m ∧ vg.ownBlock ≠ some b

/-- both books, a curve in a box, all that was there before -/
structure PlAt (w W : World) (base g m bc p : Nat) (r : Int) (L : List (Int × Cv)) (G : List Cv) (I : List Int) (V D : List Cv) (F L0 R0 : Int) : Prop where
  ex : ∃ vg vi vl vgd, BkO W base g m r L G vg ∧ RbAt W p r I V D vi vl vgd ∧ DocIn (Off g m vg) I V D vi vl vgd
  box : Blk W bc 25 #[.int .u64 F, .int .u64 L0, .int .u64 R0]
  below : Below w.heap.size w W
  lo : bc < base
  hb : w.heap.size ≤ base
section
variable {w W W' : World} {base g m bc p : Nat} {r : Int} {L L' : List (Int × Cv)} {G G' : List Cv} {I : List Int} {V D : List Cv} {F L0 R0 : Int}
theorem PlAt.later (h : PlAt w W base g m bc p r L G I V D F L0 R0) (hb : Below W.heap.size W W') : PlAt w W' base g m bc p r L G I V D F L0 R0 := by
  obtain ⟨⟨vg, vi, vl, vgd, h1, h2, h3⟩, h4, h5, h6, h7⟩ := h
  exact ⟨⟨vg, vi, vl, vgd, h1.later hb, h2.later hb, h3⟩, h4.below hb h4.lt, h5.trans (hb.mono h5.size), h6, h7⟩
theorem doc_ne {vg vi vl vgd : Value} (h1 : BkO W base g m r L G vg) (h2 : RbAt W p r I V D vi vl vgd) : p ≠ g ∧ p ≠ m ∧ vg.ownBlock ≠ some p := by
  refine ⟨fun e => ?_, fun e => ?_, ?_⟩
  · subst e
    have := h1.bk.blk.symm.trans h2.blk
    simp at this
  · subst e
    obtain ⟨es, clock, hm, _⟩ := h1.bk.map
    have := hm.symm.trans h2.blk
    simp at this
  · rcases own_blk h1.own h2.blk (by decide) with h | h
    · rw [h]; simp
    · exact h
/-- the program's book turned -/
theorem PlAt.act {vg vi vl vgd vg' : Value} (h : PlAt w W base g m bc p r L G I V D F L0 R0) (h1 : BkO W base g m r L G vg) (h2 : RbAt W p r I V D vi vl vgd) (h3 : DocIn (Off g m vg) I V D vi vl vgd) (h' : BkO W' base g m r L' G' vg') (hb : Below base W W') (hs : Spare W W' g m vg) (hf : Fr W vg vg') : PlAt w W' base g m bc p r L' G' I V D F L0 R0 := by
  obtain ⟨n1, n2, n3⟩ := doc_ne h1 h2
  have hk : RbAt W' p r I V D vi vl vgd := h2.kept hs.1 (hs.2 p h2.blk.lt n1 n2 n3) (h3.mono fun b hx hl => hs.2 b hl hx.1 hx.2.1 hx.2.2)
  refine ⟨⟨vg', vi, vl, vgd, h', hk, (h3.and h2.lt).mono fun b hx => ⟨hx.1.1, hx.1.2.1, fun e => ?_⟩⟩, h.box.below hb h.lo, h.below.trans (hb.mono h.hb), h.lo, h.hb⟩
  rcases hf with hf | ⟨k, hf, hk2⟩
  · exact hx.1.2.2 (by rw [← hf]; exact e)
  · rw [hf] at e
    cases e
    have := hx.2
    omega
/-- the document's book turned -/
theorem PlAt.doc {p' : Nat} {I' : List Int} {V' D' : List Cv} {vg vi vl vgd vi' vl' vgd' : Value} (h : PlAt w W base g m bc p r L G I V D F L0 R0) (h1 : BkO W base g m r L G vg) (h3 : DocIn (Off g m vg) I V D vi vl vgd) (h' : RbAt W' p' r I' V' D' vi' vl' vgd') (hb : Below W.heap.size W W') (hf : FrX W I V D vi vl vgd I' V' D' vi' vl' vgd') : PlAt w W' base g m bc p' r L G I' V' D' F L0 R0 := by
  refine ⟨⟨vg, vi', vl', vgd', h1.later hb, h', hf _ h3 fun b hb => ?_⟩, h.box.below hb h.box.lt, h.below.trans (hb.mono h.below.size), h.lo, h.hb⟩
  have l1 := h1.bk.blk.lt
  have l2 := map_lt h1
  exact ⟨by omega, by omega, fun e => by have := (h1.own.lt b e).2; omega⟩
theorem PlAt.cells (h : PlAt w W base g m bc p r L G I V D F L0 R0) : W.cell? ⟨bc, 0, none⟩ = some (.int .u64 F) ∧ W.cell? ⟨bc, 1, none⟩ = some (.int .u64 L0) ∧ W.cell? ⟨bc, 2, none⟩ = some (.int .u64 R0) :=
  ⟨h.box.cell 0, h.box.cell 1, h.box.cell 2⟩

/-- the acts' boxes stay -/
def KeepA (W W' : World) : Prop := ∀ ab cs, Blk W ab 35 cs → Blk W' ab 35 cs
theorem KeepA.below (hb : Below W.heap.size W W') : KeepA W W' := fun ab cs h => h.below hb h.lt
theorem KeepA.spare {vg : Value} (h1 : BkO W base g m r L G vg) (hs : Spare W W' g m vg) : KeepA W W' := fun ab cs h => by
  refine hs.blk h (fun e => ?_) (fun e => ?_) ?_
  · subst e
    have := h1.bk.blk.symm.trans h
    simp at this
  · subst e
    obtain ⟨es, clock, hm, _⟩ := h1.bk.map
    have := hm.symm.trans h
    simp at this
  · rcases own_blk h1.own h (by decide) with h | h
    · rw [h]; simp
    · exact h
theorem KeepA.set {q o : Nat} {t : TypeId} {cs0 : Array Value} {v : Value} (hB : Blk W q t cs0) (hne : t ≠ 35) : KeepA W (W.setCell ⟨q, o, none⟩ v) := fun ab cs h => by
  refine h.grown (grown_setAt W q o v) fun e => ?_
  cases e
  have := hB.symm.trans h
  simp at this
  exact hne this.2
theorem KeepA.trans {W'' : World} (h : KeepA W W') (k : KeepA W' W'') : KeepA W W'' := fun ab cs x => k ab cs (h ab cs x)
def PlIs (w W : World) (base g m bc p : Nat) (r : Int) (L : List (Int × Cv)) (G : List Cv) (I : List Int) (V D : List Cv) (F L0 R0 : Int) (v : Value) (e : Ending) (W' : World) : Prop :=
  e = .returned v ∧ PlAt w W' base g m bc p r L G I V D F L0 R0 ∧ KeepA W W'
theorem pl_put (h : PlAt w W base g m bc p r L G I V D F L0 R0) {id x y z : Int} (hu : U x ∧ U y ∧ U z) (hid : (Lit.int .i64 id).wf = true) (hf : L.length + G.length < 100000) : Calls Tryz.prog 7 #[.pointer (some ⟨g, 0, none⟩), .int .i64 id, .agg #[.int .u64 x, .int .u64 y, .int .u64 z]] W (PlIs w W base g m bc p r (putBk L G id (x, y, z) r) G I V D F L0 R0 (.int .i64 (putC L G id (x, y, z) r))) := by
  obtain ⟨vg, vi, vl, vgd, h1, h2, h3⟩ := h.ex
  refine (putO_any x y z id base g m r L G vg W hu hid h1 hf).mono ?_
  rintro e W' ⟨rfl, hb, hbl, hsp⟩
  exact ⟨rfl, h.act h1 h2 h3 hb hbl hsp (Fr.refl _ _), KeepA.spare h1 hsp⟩
theorem pl_swap (h : PlAt w W base g m bc p r L G I V D F L0 R0) {id x y z : Int} {keep : Bool} (hu : U x ∧ U y ∧ U z) (hid : (Lit.int .i64 id).wf = true) (hf : L.length + G.length < 99999) : Calls Tryz.prog 9 #[.pointer (some ⟨g, 0, none⟩), .int .i64 id, .agg #[.int .u64 x, .int .u64 y, .int .u64 z], .bool keep] W (PlIs w W base g m bc p r (swapL L G id (x, y, z) keep r) (swapG L G id (x, y, z) keep r) I V D F L0 R0 (.int .i64 (swapC L G id (x, y, z) keep r))) := by
  obtain ⟨vg, vi, vl, vgd, h1, h2, h3⟩ := h.ex
  refine (swap_any x y z id keep base g m r L G vg W hu hid h1 hf).mono ?_
  rintro e W' ⟨rfl, ⟨vg', hb, _, hfr⟩, hbl, hsp⟩
  exact ⟨rfl, h.act h1 h2 h3 hb hbl hsp hfr, KeepA.spare h1 hsp⟩
theorem pl_drop (h : PlAt w W base g m bc p r L G I V D F L0 R0) {id : Int} {keep : Bool} (hid : (Lit.int .i64 id).wf = true) (hf : L.length + G.length < 100000) : Calls Tryz.prog 12 #[.pointer (some ⟨g, 0, none⟩), .int .i64 id, .bool keep] W (PlIs w W base g m bc p r (delM L id) (if keep then G ++ (lookM L id).toList else G) I V D F L0 R0 (.bool (lookM L id).isSome)) := by
  obtain ⟨vg, vi, vl, vgd, h1, h2, h3⟩ := h.ex
  refine (drop_any id keep base g m r L G vg W hid h1 hf).mono ?_
  rintro e W' ⟨rfl, ⟨vg', hb, _, hfr⟩, hbl, hsp⟩
  exact ⟨rfl, h.act h1 h2 h3 hb hbl hsp hfr, KeepA.spare h1 hsp⟩
theorem pl_settle (h : PlAt w W base g m bc p r L G I V D F L0 R0) : Calls Tryz.prog 13 #[.pointer (some ⟨g, 0, none⟩)] W (PlIs w W base g m bc p r L [] I V D F L0 R0 (.int .i64 G.length)) := by
  obtain ⟨vg, vi, vl, vgd, h1, h2, h3⟩ := h.ex
  refine (settle_any g m r L G vg W h1.bk).mono ?_
  rintro e W' ⟨rfl, hb, hgr⟩
  have hO : BkO W' base g m r L [] (.slice none 0 0) := ⟨hb, World.ownsRow_nil _ _ _ _, h1.gb, h1.mb⟩
  have hbl : Below base W W' := (Below.refl base W).grown hgr h1.base_le (fun k e => by cases e; exact h1.gb)
  have hsp := Spare.atG g m vg hgr
  obtain ⟨n1, n2, n3⟩ := doc_ne h1 h2
  have hk : RbAt W' p r I V D vi vl vgd := h2.kept hsp.1 (hsp.2 p h2.blk.lt n1 n2 n3) (h3.mono fun b hx hl => hsp.2 b hl hx.1 hx.2.1 hx.2.2)
  exact ⟨rfl, ⟨⟨_, vi, vl, vgd, hO, hk, h3.mono fun b hx => ⟨hx.1, hx.2.1, fun e => by simp [Value.ownBlock] at e⟩⟩, h.box.below hbl h.lo, h.below.trans (hbl.mono h.hb), h.lo, h.hb⟩, KeepA.spare h1 hsp⟩
theorem PlAt.doc3 {n : Nat} (h : PlAt w W base g m bc p r L G I V D F L0 R0) (hn : D.length = n) : ∃ ad cp, W.cell? ⟨p, 3, none⟩ = some (.slice ad n cp) := by
  obtain ⟨vg, vi, vl, vgd, h1, h2, h3⟩ := h.ex
  obtain ⟨_, _, a, cap, e, _⟩ := h2.gh
  exact ⟨a, cap, by rw [h2.blk.cell 3, e, hn]; rfl⟩
def PlSe (w W : World) (base g m bc p : Nat) (r : Int) (L : List (Int × Cv)) (I : List Int) (V D : List Cv) (F L0 R0 : Int) (n k : Nat) (e : Ending) (W' : World) : Prop :=
  e = .returned (.int .i64 n) ∧ PlAt w W' base g m bc p r L [] I V D F L0 R0 ∧ KeepA W W' ∧ ∃ ad cp, W'.cell? ⟨p, 3, none⟩ = some (.slice ad k cp)
theorem pl_settleX {n : Nat} (h : PlAt w W base g m bc p r L D I V D F L0 R0) (hn : D.length = n) : Calls Tryz.prog 13 #[.pointer (some ⟨g, 0, none⟩)] W (PlSe w W base g m bc p r L I V D F L0 R0 n n) := by
  refine (pl_settle h).mono ?_
  rintro e W' ⟨rfl, hP, hK⟩
  exact ⟨by rw [hn], hP, hK, hP.doc3 hn⟩
/-- a document's book handed back, and a value -/
def PlTo (w W : World) (base g m bc : Nat) (r : Int) (L : List (Int × Cv)) (G : List Cv) (I : List Int) (V D : List Cv) (F L0 R0 : Int) (v : Value) (e : Ending) (W' : World) : Prop :=
  ∃ p', e = .returned (.tuple #[.pointer (some ⟨p', 0, none⟩), v]) ∧ PlAt w W' base g m bc p' r L G I V D F L0 R0 ∧ KeepA W W'
theorem pl_rput {M : List (Int × Cv)} {E : List Cv} (h : PlAt w W base g m bc p r L G (M.map (·.1)) (M.map (·.2)) E F L0 R0) (hr : U r) {id x y z : Int} (hu : U x ∧ U y ∧ U z) (hf : M.length + E.length < 100000) : Calls Tryz.prog 8 #[.pointer (some ⟨p, 0, none⟩), .int .i64 id, .agg #[.int .u64 x, .int .u64 y, .int .u64 z]] W (PlTo w W base g m bc r L G ((putBk M E id (x, y, z) r).map (·.1)) ((putBk M E id (x, y, z) r).map (·.2)) E F L0 R0 (.int .i64 (putC M E id (x, y, z) r))) := by
  obtain ⟨vg, vi, vl, vgd, h1, h2, h3⟩ := h.ex
  refine (rput2_any x y z id p r M E vi vl vgd W hu hr h2 hf).mono ?_
  rintro e W' ⟨p', vi', vl', vgd', rfl, hd, hb, hx⟩
  exact ⟨p', rfl, h.doc h1 h3 hd hb hx, KeepA.below hb⟩
theorem pl_rswap {M : List (Int × Cv)} {E : List Cv} (h : PlAt w W base g m bc p r L G (M.map (·.1)) (M.map (·.2)) E F L0 R0) (hr : U r) (hM : Rising M) {id x y z : Int} {keep : Bool} (hu : U x ∧ U y ∧ U z) (hf : M.length + E.length < 99999) : Calls Tryz.prog 10 #[.pointer (some ⟨p, 0, none⟩), .int .i64 id, .agg #[.int .u64 x, .int .u64 y, .int .u64 z], .bool keep] W (PlTo w W base g m bc r L G ((swapL M E id (x, y, z) keep r).map (·.1)) ((swapL M E id (x, y, z) keep r).map (·.2)) (swapG M E id (x, y, z) keep r) F L0 R0 (.int .i64 (swapC M E id (x, y, z) keep r))) := by
  obtain ⟨vg, vi, vl, vgd, h1, h2, h3⟩ := h.ex
  refine (rswap_any x y z id keep p r M E vi vl vgd W hu hr hM h2 hf).mono ?_
  rintro e W' ⟨p', vi', vl', vgd', rfl, hd, hb, hx⟩
  exact ⟨p', rfl, h.doc h1 h3 hd hb hx, KeepA.below hb⟩
theorem pl_rdrop {M : List (Int × Cv)} {E : List Cv} (h : PlAt w W base g m bc p r L G (M.map (·.1)) (M.map (·.2)) E F L0 R0) (hM : Rising M) {id : Int} {keep : Bool} (hf : M.length + E.length < 100000) : Calls Tryz.prog 11 #[.pointer (some ⟨p, 0, none⟩), .int .i64 id, .bool keep] W (PlTo w W base g m bc r L G ((delM M id).map (·.1)) ((delM M id).map (·.2)) (if keep then E ++ (lookM M id).toList else E) F L0 R0 (.bool (lookM M id).isSome)) := by
  obtain ⟨vg, vi, vl, vgd, h1, h2, h3⟩ := h.ex
  refine (rdrop_any id keep p r M E vi vl vgd W hM h2 hf).mono ?_
  rintro e W' ⟨p', vi', vl', vgd', rfl, hd, hb, hx⟩
  exact ⟨p', rfl, h.doc h1 h3 hd hb hx, KeepA.below hb⟩
/-- a copy of the document's, its own rows apart from it -/
def PlCp (w W : World) (base g m bc : Nat) (r : Int) (L : List (Int × Cv)) (G : List Cv) (I : List Int) (V D : List Cv) (F L0 R0 : Int) (e : Ending) (W' : World) : Prop :=
  ∃ p', e = .returned (.pointer (some ⟨p', 0, none⟩)) ∧ PlAt w (W'.setCell ⟨p', 3, none⟩ (.slice none 0 0)) base g m bc p' r L G I V [] F L0 R0 ∧ W'.frozen? ⟨p', 3, none⟩ = false ∧ (∃ v, W'.cell? ⟨p', 3, none⟩ = some v) ∧ KeepA W (W'.setCell ⟨p', 3, none⟩ (.slice none 0 0))
theorem pl_rcopy (h : PlAt w W base g m bc p r L G I V D F L0 R0) : Calls Tryz.prog 14 #[.pointer (some ⟨p, 0, none⟩)] W (PlCp w W base g m bc r L G I V D F L0 R0) := by
  obtain ⟨vg, vi, vl, vgd, h1, h2, h3⟩ := h.ex
  have hcore : Calls Tryz.prog 14 #[.pointer (some ⟨p, 0, none⟩)] W (fun e W' => ∃ q vi' vl' vg', e = .returned (.pointer (some ⟨q, 0, none⟩)) ∧ RbAt W' q r I V D vi' vl' vg' ∧ W.heap.size ≤ q ∧ Below W.heap.size W W' ∧ (∀ b, vi'.ownBlock = some b → W.heap.size ≤ b) ∧ (∀ b, vl'.ownBlock = some b → W.heap.size ≤ b) ∧ (I ≠ [] → ∀ b, vi'.ownBlock = some b → b ≠ q) ∧ (V ≠ [] → ∀ b, vl'.ownBlock = some b → b ≠ q)) := by
    by_cases hV : V = []
    · have hI : I = [] := List.eq_nil_of_length_eq_zero (by rw [h2.same, hV]; rfl)
      refine (rcopy_any p r I V D vi vl vgd W h2).mono ?_
      rintro e W' ⟨q, vi', vl', vg', rfl, hd, hq, hb, _, hlv, _, hli⟩
      exact ⟨q, vi', vl', vg', rfl, hd, hq, hb, hli, hlv, fun h => absurd hI h, fun h => absurd hV h⟩
    · refine (rcopyO p r I V D vi vl vgd W h2 hV).mono ?_
      rintro e W' ⟨q, bi, ci, bl, cl, bg, cg, rfl, hB, hi, hl, hg, _, hq, hb, l1, l2, l3⟩
      exact ⟨q, _, _, _, rfl, ⟨hB, IntAt.of_owns hi h2.ids.1, CvAt.of_owns hl h2.live.1 h2.live.2.1, CvAt.of_owns hg h2.gh.1 h2.gh.2.1, h2.same, h2.few⟩, hq, hb, fun b hb => (hi.lt b hb).1, fun b hb => (hl.lt b hb).1, fun _ b hb => by have := l1 b hb; omega, fun _ b hb => by have := l2 b hb; omega⟩
  refine hcore.mono ?_
  rintro e W' ⟨q, vi', vl', vg', rfl, hd, hq, hb, hli, hlv, ni, nl⟩
  have hB3 := hd.blk.set_ 3 (.slice none 0 0)
  have hgs := grown_setAt W' q 3 (.slice none 0 0)
  have hb2 : Below W.heap.size W (W'.setCell ⟨q, 3, none⟩ (.slice none 0 0)) := hb.setCell (p := ⟨q, 3, none⟩) hq _
  have hd2 : RbAt (W'.setCell ⟨q, 3, none⟩ (.slice none 0 0)) q r I V [] vi' vl' (.slice none 0 0) := by
    refine ⟨by simpa using hB3, ?_, ?_, ⟨fun c hc => by simp at hc, by simp, none, 0, rfl, .inl rfl⟩, hd.same, by have := hd.few; simp; omega⟩
    · by_cases hI : I = []
      · obtain ⟨h1, a, cap, e, _⟩ := hd.ids
        exact ⟨h1, a, cap, e, .inl hI⟩
      · exact hd.ids.grown hgs fun k e => by simpa using ni hI k e
    · by_cases hV : V = []
      · obtain ⟨h0, h1, a, cap, e, _⟩ := hd.live
        exact ⟨h0, h1, a, cap, e, .inl hV⟩
      · exact hd.live.grown hgs fun k e => by simpa using nl hV k e
  exact ⟨q, rfl, h.doc h1 h3 hd2 hb2 (FrX.new hli hlv (fun b hb => by simp [Value.ownBlock] at hb)), hd.blk.frozen 3, ⟨_, by rw [hd.blk.cell 3]; rfl⟩, (KeepA.below hb).trans (KeepA.set hd.blk (by decide))⟩

/-- the program's copy beside the book it was made of -/
structure CpAt (w W : World) (base g m bc p base2 g2 m2 : Nat) (r : Int) (Lo L : List (Int × Cv)) (Go G : List Cv) (I : List Int) (V D : List Cv) (F L0 R0 : Int) : Prop where
  ex : ∃ vg v2 vi vl vgd, BkO W base g m r Lo Go vg ∧ BkO W base2 g2 m2 r L G v2 ∧ RbAt W p r I V D vi vl vgd ∧ DocIn (fun b => Off g m vg b ∧ b < base2) I V D vi vl vgd ∧ (∀ k, vg.ownBlock = some k → k < base2)
  g1 : g < base2
  m1 : m < base2
  p1 : p < base2
  box : Blk W bc 25 #[.int .u64 F, .int .u64 L0, .int .u64 R0]
  below : Below w.heap.size w W
  lo : bc < base
  hb : w.heap.size ≤ base
  lo2 : base ≤ base2
def CpTo (w W : World) (base g m bc p base2 : Nat) (r : Int) (L : List (Int × Cv)) (G : List Cv) (I : List Int) (V D : List Cv) (F L0 R0 : Int) (e : Ending) (W' : World) : Prop :=
  ∃ g2 m2, e = .returned (.pointer (some ⟨g2, 0, none⟩)) ∧ CpAt w W' base g m bc p base2 g2 m2 r L L G G I V D F L0 R0 ∧ KeepA W W'
theorem pl_copy (h : PlAt w W base g m bc p r L G I V D F L0 R0) : Calls Tryz.prog 15 #[.pointer (some ⟨g, 0, none⟩)] W (CpTo w W base g m bc p W.heap.size r L G I V D F L0 R0) := by
  obtain ⟨vg, vi, vl, vgd, h1, h2, h3⟩ := h.ex
  refine (copyO_any g m r L G vg W h1.bk).mono ?_
  rintro e W' ⟨g2, m2, v2, rfl, hb2, hbl⟩
  exact ⟨g2, m2, rfl, ⟨⟨vg, v2, vi, vl, vgd, h1.later hbl, hb2, h2.later hbl, h3.and h2.lt, fun k hk => (h1.own.lt k hk).2⟩, h1.bk.blk.lt, map_lt h1, h2.blk.lt, h.box.below hbl h.box.lt, h.below.trans (hbl.mono h.below.size), h.lo, h.hb, h1.base_le⟩, KeepA.below hbl⟩
/-- behind the elder one's Drop -/
structure CqAt (w W : World) (base g m bc p base2 g2 m2 : Nat) (r : Int) (L : List (Int × Cv)) (G : List Cv) (I : List Int) (V D : List Cv) (F L0 R0 : Int) : Prop where
  ex : ∃ Lo Go vg v2 vi vl vgd, BkO W base g m r Lo Go vg ∧ BkO W base2 g2 m2 r L G v2 ∧ RbAt W p r I V D vi vl vgd ∧ DocIn (fun b => b ≠ g ∧ b < base2) I V D vi vl vgd ∧ p ≠ g
  g1 : g < base2
  box : Blk W bc 25 #[.int .u64 F, .int .u64 L0, .int .u64 R0]
  below : Below w.heap.size w W
  lo : bc < base
  hb : w.heap.size ≤ base
  lo2 : base ≤ base2
def CqTo (w W : World) (base g m bc p base2 g2 m2 : Nat) (r : Int) (L : List (Int × Cv)) (G : List Cv) (I : List Int) (V D : List Cv) (F L0 R0 : Int) (e : Ending) (W' : World) : Prop :=
  ∃ v, e = .returned v ∧ CqAt w W' base g m bc p base2 g2 m2 r L G I V D F L0 R0 ∧ KeepA W W'
variable {base2 g2 m2 : Nat} {Lo : List (Int × Cv)} {Go : List Cv}
theorem cp_drop (h : CpAt w W base g m bc p base2 g2 m2 r Lo L Go G I V D F L0 R0) {id : Int} {keep : Bool} (hid : (Lit.int .i64 id).wf = true) (hf : Lo.length + Go.length < 100000) : Calls Tryz.prog 12 #[.pointer (some ⟨g, 0, none⟩), .int .i64 id, .bool keep] W (CqTo w W base g m bc p base2 g2 m2 r L G I V D F L0 R0) := by
  obtain ⟨vg, v2, vi, vl, vgd, h1, h2, h3, h4, h5⟩ := h.ex
  refine (drop_any id keep base g m r Lo Go vg W hid h1 hf).mono ?_
  rintro e W' ⟨rfl, ⟨vg', hb, _, _⟩, hbl, hsp⟩
  obtain ⟨n1, n2, n3⟩ := doc_ne h1 h3
  have hk : RbAt W' p r I V D vi vl vgd := h3.kept hsp.1 (hsp.2 p h3.blk.lt n1 n2 n3) (h4.mono fun b hx hl => hsp.2 b hl hx.1.1 hx.1.2.1 hx.1.2.2)
  have hu : BkO W' base2 g2 m2 r L G v2 := h2.up fun k hk hl => hsp.2 k hl (by have := h.g1; omega) (by have := h.m1; omega) (fun e => by have := h5 k e; omega)
  exact ⟨_, rfl, ⟨⟨_, _, vg', v2, vi, vl, vgd, hb, hu, hk, h4.mono fun b hx => ⟨hx.1.1, hx.2⟩, n1⟩, h.g1, h.box.below hbl h.lo, h.below.trans (hbl.mono h.hb), h.lo, h.hb, h.lo2⟩, KeepA.spare h1 hsp⟩
theorem cq_settle (h : CqAt w W base g m bc p base2 g2 m2 r L G I V D F L0 R0) : Calls Tryz.prog 13 #[.pointer (some ⟨g, 0, none⟩)] W (fun e W' => ∃ v, e = .returned v ∧ PlAt w W' base2 g2 m2 bc p r L G I V D F L0 R0 ∧ KeepA W W') := by
  obtain ⟨Lo, Go, vg, v2, vi, vl, vgd, h1, h2, h3, h4, n1⟩ := h.ex
  refine (settle_any g m r Lo Go vg W h1.bk).mono ?_
  rintro e W' ⟨rfl, hb, hgr⟩
  have hbl : Below base W W' := (Below.refl base W).grown hgr h1.base_le (fun k e => by cases e; exact h1.gb)
  have hk : RbAt W' p r I V D vi vl vgd := h3.kept hgr.size (hgr.block p h3.blk.lt (by simpa using n1)) (h4.mono fun b hx hl => hgr.block b hl (by simpa using hx.1))
  have hu : BkO W' base2 g2 m2 r L G v2 := h2.up fun k hk hl => hgr.block k hl (by have := h.g1; simp; omega)
  refine ⟨_, rfl, ⟨⟨v2, vi, vl, vgd, hu, hk, h4.mono fun b hx => ⟨?_, ?_, fun e => ?_⟩⟩, h.box.below hbl h.lo, h.below.trans (hbl.mono h.hb), by have := h.lo; have := h.lo2; omega, by have := h.hb; have := h.lo2; omega⟩, KeepA.spare h1 (Spare.atG g m vg hgr)⟩
  · have := h2.gb; omega
  · have := h2.mb; omega
  · have := (h2.own.lt b e).1; omega
theorem pl_bth (h : PlAt w W base g m bc p r L G (L.map (·.1)) (L.map (·.2)) G F L0 R0) : Bth W g m p r L G := by
  obtain ⟨vg, vi, vl, vgd, h1, h2, _⟩ := h.ex
  exact ⟨⟨vg, h1.bk⟩, vi, vl, vgd, h2⟩
end
end Go.Proofs.YthmhboagbeibdaaGreat
/-
  The law: whatever is put, swapped, dropped, settled, what is told is what the document says; a copy goes on alone.
-/
namespace Go.Proofs.YthmhboagbeibdaaGreat
set_option linter.unusedVariables false
open Go.RowKit Go.Maps Go.Sort
attribute [local go_sem ↓] Go.wp_at_zero Go.wp_at_succ
attribute [local go_sem] quietR quietAtR quietUponR midAt midUpon
attribute [local irreducible] TStep HStep

theorem putBk_le (L : List (Int × Cv)) (G : List Cv) (id : Int) (c : Cv) (r : Int) : (putBk L G id c r).length ≤ L.length + 1 := by
  have := put_length id c L
  unfold putBk
  split <;> omega
theorem swap_le (L : List (Int × Cv)) (G : List Cv) (id : Int) (c : Cv) (keep : Bool) (r : Int) : (swapL L G id c keep r).length + (swapG L G id c keep r).length ≤ L.length + G.length + 2 := by
  have hd := del_length id L
  have hpd := put_length id c (delM L id)
  have hsm := swapM_len L id keep
  unfold swapL swapG
  split
  · rw [List.length_append]; split <;> omega
  · omega
theorem drop_le (L : List (Int × Cv)) (G : List Cv) (id : Int) (keep : Bool) : (delM L id).length + (if keep then G ++ (lookM L id).toList else G).length ≤ L.length + G.length + 1 := by
  have hd := del_length id L
  have hlk : (lookM L id).toList.length ≤ 1 := by cases lookM L id <;> simp
  split
  · rw [List.length_append]; omega
  · omega

set_option maxRecDepth 100000 in
set_option maxHeartbeats 8000000 in
theorem plays_walk (a0 : Option Addr) (len cp0 : Nat) (zs : List (List Value)) (r id F L0 R0 : Int) (w : World) (hr : U r) (hz : IsRows [some .u8, some .i64, some .u64, some .u64, some .u64, none] w a0 len cp0 zs) (hid : (Lit.int .i64 id).wf = true) (hc : U F ∧ U L0 ∧ U R0) :
    Calls Tryz.prog 3 #[.int .u64 r, .slice a0 len cp0, .int .i64 id, .agg #[.int .u64 F, .int .u64 L0, .int .u64 R0]] w fun e w' => e = .returned (.bool true) ∧ Below w.heap.size w w' := by
  obtain ⟨hlm, z, hZ⟩ := bacts_of hz
  have hzl := hZ.1
  have HR := Lib.hid hr; have HC := Lib.hid hc; have HID := Lib.hid hid
  have hb0 := (Below.refl w.heap.size w).alloc (Nat.le_refl _) (.cells #[.int .u64 F, .int .u64 L0, .int .u64 R0] 25)
  have hB0 := Blk.new w 25 #[.int .u64 F, .int .u64 L0, .int .u64 R0]
  have hlo := long_any a0 len cp0 (w.alloc (.cells #[.int .u64 F, .int .u64 L0, .int .u64 R0] 25))
  have HB0 := Lib.hid (And.intro hb0 hB0); have HZ := Lib.hid hZ
  clear hz hZ hb0 hB0
  go_enter Tryz.func3, Tryz.ntmps3
  by_cases h60 : 60 < len
  · rw [decide_eq_true h60] at hlo
    go_wp2_with fail
    refine hlo.mono ?_
    clear hlo
    rintro e w2 ⟨rfl, rfl⟩
    go_wp2_with fail
    go_ret
    exact ⟨rfl, HB0.out.1⟩
  · rw [decide_eq_false h60] at hlo
    generalize hw1 : w.alloc (.cells #[.int .u64 F, .int .u64 L0, .int .u64 R0] 25) = w1 at hlo HB0
    go_wp2_with fail
    clear hw1
    refine hlo.mono ?_
    clear hlo
    rintro e w2 ⟨rfl, rfl⟩
    subst hzl
    have hmk := make_any r w2 hr
    go_wp2_with fail
    refine hmk.mono ?_
    clear hmk
    rintro e w3 ⟨hcase, hb3⟩
    have hrn := rnew_any r w3 hr
    rcases hcase with ⟨hbad, rfl⟩ | ⟨hgood, g, m, rfl, hbo⟩
    · have HB3 := Lib.hid (HB0.out.1.trans (hb3.mono HB0.out.1.size))
      have HBAD := Lib.hid hbad
      clear hb3 hbad
      go_wp2_with fail
      refine hrn.mono ?_
      clear hrn
      rintro e w4 ⟨hcase, hb4⟩
      rcases hcase with ⟨_, rfl⟩ | ⟨hgood, _⟩
      · have HB4 := Lib.hid (HB3.out.trans (hb4.mono HB3.out.size))
        clear hb4
        go_wp2_with fail
        go_ret
        exact ⟨rfl, HB4.out⟩
      · exact absurd hgood HBAD.out
    · have HB3 := Lib.hid (And.intro hbo (And.intro hb3 hgood))
      clear hbo hb3 hgood
      go_wp2_with fail
      refine hrn.mono ?_
      clear hrn
      rintro e w4 ⟨hcase, hb4⟩
      rcases hcase with ⟨hbad, _⟩ | ⟨_, p, rfl, hrb⟩
      · exact absurd HB3.out.2.2 hbad
      have hP : PlAt w w4 w2.heap.size g m w.heap.size p r [] [] [] [] [] F L0 R0 := ⟨⟨_, _, _, _, HB3.out.1.later hb4, hrb, ⟨fun h => absurd rfl h, fun h => absurd rfl h, fun h => absurd rfl h⟩⟩, (HB0.out.2.below HB3.out.2.1 HB0.out.2.lt).below hb4 (Nat.lt_of_lt_of_le HB0.out.2.lt HB3.out.2.1.size), (HB0.out.1.trans (HB3.out.2.1.mono HB0.out.1.size)).trans (hb4.mono (by have := HB0.out.1.size; have := HB3.out.2.1.size; omega)), HB0.out.2.lt, HB0.out.1.size⟩
      have HP := Lib.hid hP
      clear hb4 hrb hP
      go_wp2_with fail
      go_loopw [9, 11, 13] (fun v9 v11 v13 W => ∃ (i base g m p : Nat), v9 = .pointer (some ⟨g, 0, none⟩) ∧ v11 = .pointer (some ⟨p, 0, none⟩) ∧ v13 = .int .i64 i ∧ i ≤ z.length ∧ PlAt w W base g m w.heap.size p r (playP r (z.take i)).1 (playP r (z.take i)).2 ((playP r (z.take i)).1.map (·.1)) ((playP r (z.take i)).1.map (·.2)) (playP r (z.take i)).2 F L0 R0) (fun _ _ v13 _ => (z.length - Go.RowKit.intOf v13).toNat)
      case atStart => exact ⟨0, _, _, _, _, rfl, rfl, rfl, Nat.zero_le _, by simpa [playP] using HP.out⟩
      case round =>
        obtain ⟨i, base, g, m, p, rfl, rfl, rfl, hi, hpl⟩ := hrel
        clear HP HB3
        by_cases hlt : i < z.length
        · obtain ⟨hzl, hzu, hzc⟩ := HZ.out.later hpl.below
          obtain ⟨b, off, rfl, hbl, hcl⟩ := hzc.resolve_left (by omega)
          obtain ⟨q, hq⟩ : ∃ q, z[i]? = some q := ⟨_, List.getElem?_eq_getElem hlt⟩
          have hfit := hzu q (List.mem_of_getElem? hq)
          have hsn := play_snoc (r := r) hq
          have hle := play_len r (z.take i)
          rw [List.length_take] at hle
          obtain ⟨c0, c1, c2, c3, c4, c5⟩ := hcl i q hq
          generalize playP r (z.take i) = S at hpl hsn hle
          obtain ⟨LL, GG⟩ := S
          dsimp only at hpl hle
          have hfew : LL.length + GG.length < 99999 := by omega
          obtain ⟨⟨hk0, hk1⟩, hqid, hU⟩ := hfit
          obtain ⟨vg_, _, _, _, hbo, _, _⟩ := hpl.ex
          have hrise := hbo.bk.rising
          have HSN := Lib.hid hsn; have HPL := Lib.hid hpl; have HFEW := Lib.hid hfew; have HU := Lib.hid hU; have HQID := Lib.hid hqid; have HRI := Lib.hid hrise; have HLE := Lib.hid (show LL.length + GG.length ≤ 120 by omega)
          clear hzl hzu hzc hcl hq hsn hpl hfew hU hqid hle hbo hrise
          obtain ⟨k, ai, AF, AL, AR, kp⟩ := q
          dsimp only [BAct.c] at hk0 hk1 HSN HU HQID c0 c1 c2 c3 c4 c5
          obtain ⟨kk, hkk⟩ : ∃ kk, k % 5 = kk := ⟨_, rfl⟩
          have hq1 : 0 ≤ kk := by omega
          have hq2 : kk < 5 := by omega
          have HKK := Lib.hid hkk
          have hb6 := (Below.refl wr.heap.size wr).alloc (Nat.le_refl _) (.cells #[.int .u8 k, .int .i64 ai, .int .u64 AF, .int .u64 AL, .int .u64 AR, .bool kp] 35)
          have hB6 := Blk.new wr 35 #[.int .u8 k, .int .i64 ai, .int .u64 AF, .int .u64 AL, .int .u64 AR, .bool kp]
          have hP6 := HPL.out.later hb6
          have H6 := Lib.hid (And.intro hB6 hP6)
          clear hb6 hB6 hP6 hbl
          rcases (by omega : kk = 0 ∨ kk = 1 ∨ kk = 2 ∨ kk = 3 ∨ kk = 4) with rfl | rfl | rfl | rfl | rfl
          · have hput := pl_put H6.out.2 HU.out HQID.out (by have := HFEW.out; omega)
            have hst : stepP r (LL, GG) ⟨k, ai, AF, AL, AR, kp⟩ = (putBk LL GG ai (AF, AL, AR) r, GG) := by
              unfold stepP BAct.c
              dsimp only
              rw [if_pos HKK.out]
            have HST := Lib.hid hst
            clear hst
            obtain ⟨pc, hpc⟩ : ∃ pc, putC LL GG ai (AF, AL, AR) r = pc := ⟨_, rfl⟩
            rw [hpc] at hput
            have HPC := Lib.hid hpc
            clear hpc
            go_wp2_with fail
            refine hput.mono ?_
            clear hput c0 c1 c2 c3 c4 c5 hkk
            rintro e w7 ⟨rfl, hP, hK⟩
            have H7 := Lib.hid (And.intro (hK _ _ H6.out.1) hP)
            have hrp := pl_rput (id := ai) hP HR.out HU.out (by have := HFEW.out; omega)
            rw [HPC.out] at hrp
            have a1 := H7.out.1.cell 1; have a2 := H7.out.1.cell 2; have a3 := H7.out.1.cell 3; have a4 := H7.out.1.cell 4; have a5 := H7.out.1.cell 5
            simp only [List.getElem?_toArray, List.getElem?_cons_zero, List.getElem?_cons_succ] at a1 a2 a3 a4 a5
            clear hP hK
            go_wp2_with fail
            refine hrp.mono ?_
            clear hrp a1 a2 a3 a4 a5
            rintro e w8 ⟨p8, rfl, hP, hK⟩
            have H8 := Lib.hid (And.intro (hK _ _ H7.out.1) hP)
            clear hP hK
            have hsh := show_any g m p8 r id F L0 R0 (putBk LL GG ai (AF, AL, AR) r) GG _ (pl_bth H8.out.2) HC.out hid (by have := HLE.out; have := putBk_le LL GG ai (AF, AL, AR) r; omega)
            obtain ⟨y0, y1, y2⟩ := H8.out.2.cells
            go_wp2_with fail
            refine hsh.mono ?_
            clear hsh y0 y1 y2
            rintro e w9 ⟨rfl, hb9⟩
            have H9 := Lib.hid (H8.out.2.later hb9)
            clear hb9
            go_wp2_with fail
            go_roundw
            case measure => (simp [Go.RowKit.intOf]; try omega)
            case rel => exact ⟨i + 1, _, _, _, _, rfl, rfl, by go_num, by omega, by rw [HSN.out, HST.out]; exact H9.out⟩
          · have hput := pl_swap (keep := kp) H6.out.2 HU.out HQID.out HFEW.out
            have hst : stepP r (LL, GG) ⟨k, ai, AF, AL, AR, kp⟩ = (swapL LL GG ai (AF, AL, AR) kp r, swapG LL GG ai (AF, AL, AR) kp r) := by
              unfold stepP BAct.c
              dsimp only
              rw [if_neg (by rw [HKK.out]; decide)]; rw [if_pos HKK.out]
            have HST := Lib.hid hst
            clear hst
            obtain ⟨pc, hpc⟩ : ∃ pc, swapC LL GG ai (AF, AL, AR) kp r = pc := ⟨_, rfl⟩
            rw [hpc] at hput
            have HPC := Lib.hid hpc
            clear hpc
            go_wp2_with fail
            refine hput.mono ?_
            clear hput c0 c1 c2 c3 c4 c5 hkk
            rintro e w7 ⟨rfl, hP, hK⟩
            have H7 := Lib.hid (And.intro (hK _ _ H6.out.1) hP)
            have hrp := pl_rswap (id := ai) (keep := kp) hP HR.out HRI.out HU.out HFEW.out
            rw [HPC.out] at hrp
            have a1 := H7.out.1.cell 1; have a2 := H7.out.1.cell 2; have a3 := H7.out.1.cell 3; have a4 := H7.out.1.cell 4; have a5 := H7.out.1.cell 5
            simp only [List.getElem?_toArray, List.getElem?_cons_zero, List.getElem?_cons_succ] at a1 a2 a3 a4 a5
            clear hP hK
            go_wp2_with fail
            refine hrp.mono ?_
            clear hrp a1 a2 a3 a4 a5
            rintro e w8 ⟨p8, rfl, hP, hK⟩
            have H8 := Lib.hid (And.intro (hK _ _ H7.out.1) hP)
            clear hP hK
            have hsh := show_any g m p8 r id F L0 R0 (swapL LL GG ai (AF, AL, AR) kp r) (swapG LL GG ai (AF, AL, AR) kp r) _ (pl_bth H8.out.2) HC.out hid (by have := HLE.out; have := swap_le LL GG ai (AF, AL, AR) kp r; omega)
            obtain ⟨y0, y1, y2⟩ := H8.out.2.cells
            go_wp2_with fail
            refine hsh.mono ?_
            clear hsh y0 y1 y2
            rintro e w9 ⟨rfl, hb9⟩
            have H9 := Lib.hid (H8.out.2.later hb9)
            clear hb9
            go_wp2_with fail
            go_roundw
            case measure => (simp [Go.RowKit.intOf]; try omega)
            case rel => exact ⟨i + 1, _, _, _, _, rfl, rfl, by go_num, by omega, by rw [HSN.out, HST.out]; exact H9.out⟩
          · have hput := pl_rdrop (id := ai) (keep := kp) H6.out.2 HRI.out (by have := HFEW.out; omega)
            have hst : stepP r (LL, GG) ⟨k, ai, AF, AL, AR, kp⟩ = (delM LL ai, if kp then GG ++ (lookM LL ai).toList else GG) := by
              unfold stepP BAct.c
              dsimp only
              rw [if_neg (by rw [HKK.out]; decide), if_neg (by rw [HKK.out]; decide)]; rw [if_pos HKK.out]
            have HST := Lib.hid hst
            clear hst
            obtain ⟨hd, hhd⟩ : ∃ hd, (lookM LL ai).isSome = hd := ⟨_, rfl⟩
            obtain ⟨GK, hGK⟩ : ∃ GK, (if kp then GG ++ (lookM LL ai).toList else GG) = GK := ⟨_, rfl⟩
            rw [hhd, hGK] at hput
            have HHD := Lib.hid (And.intro hhd hGK)
            clear hhd hGK
            go_wp2_with fail
            refine hput.mono ?_
            clear hput c0 c1 c2 c3 c4 c5 hkk
            rintro e w7 ⟨p8, rfl, hP, hK⟩
            have H7 := Lib.hid (And.intro (hK _ _ H6.out.1) hP)
            have hrp := pl_drop (id := ai) (keep := kp) hP HQID.out (by have := HFEW.out; omega)
            rw [HHD.out.1, HHD.out.2] at hrp
            have a1 := H7.out.1.cell 1; have a2 := H7.out.1.cell 2; have a3 := H7.out.1.cell 3; have a4 := H7.out.1.cell 4; have a5 := H7.out.1.cell 5
            simp only [List.getElem?_toArray, List.getElem?_cons_zero, List.getElem?_cons_succ] at a1 a2 a3 a4 a5
            clear hP hK
            go_wp2_with fail
            refine hrp.mono ?_
            clear hrp a1 a2 a3 a4 a5
            rintro e w8 ⟨rfl, hP, hK⟩
            have H8 := Lib.hid (And.intro (hK _ _ H7.out.1) hP)
            rw [HHD.out.2] at HST
            clear hP hK
            have hsh := show_any g m p8 r id F L0 R0 (delM LL ai) GK _ (pl_bth H8.out.2) HC.out hid (by have := HLE.out; have := drop_le LL GG ai kp; rw [HHD.out.2] at this; omega)
            obtain ⟨y0, y1, y2⟩ := H8.out.2.cells
            go_wp2_with fail
            refine hsh.mono ?_
            clear hsh y0 y1 y2
            rintro e w9 ⟨rfl, hb9⟩
            have H9 := Lib.hid (H8.out.2.later hb9)
            clear hb9
            go_wp2_with fail
            go_roundw
            case measure => (simp [Go.RowKit.intOf]; try omega)
            case rel => exact ⟨i + 1, _, _, _, _, rfl, rfl, by go_num, by omega, by rw [HSN.out, HST.out]; exact H9.out⟩
          · have hst : stepP r (LL, GG) ⟨k, ai, AF, AL, AR, kp⟩ = (LL, []) := by
              unfold stepP BAct.c
              dsimp only
              rw [if_neg (by rw [HKK.out]; decide), if_neg (by rw [HKK.out]; decide), if_neg (by rw [HKK.out]; decide)]; rw [if_pos HKK.out]
            have HST := Lib.hid hst
            clear hst
            go_upto_region 31 with fail
            clear c0 c1 c2 c3 c4 c5 hkk
            generalize wr.alloc (.cells #[.int .u8 k, .int .i64 ai, .int .u64 AF, .int .u64 AL, .int .u64 AR, .bool kp] 35) = w6 at H6 ⊢
            obtain ⟨n, hn⟩ : ∃ n, GG.length = n := ⟨_, rfl⟩
            have hset := fun (W : World) (hW : Below w6.heap.size w6 W) => pl_settleX (H6.out.2.later hW) hn
            obtain ⟨ad, cp, x3⟩ := (H6.out.2).doc3 hn
            have HSET := Lib.hid hset
            clear hset
            go_cut [15, 16] from 140 to 146 (fun v15 v16 wx => v15 = .int .i64 n ∧ v16 = .int .i64 n ∧ PlAt w wx base g m w.heap.size p r LL [] (LL.map (·.1)) (LL.map (·.2)) GG F L0 R0)
            case first =>
              go_region_with (go_at_call 13; refine (HSET.out _ (by go_grown <;> exact below_drewN (Below.refl _ _) _)).mono ?_; rintro e w7 ⟨rfl, hP, _, ad7, cp7, x7⟩)
              all_goals (go_wp2; go_meet; exact ⟨rfl, rfl, by first | exact hP | exact hP.later (Below.refl _ _).drew⟩)
            case rest =>
              obtain ⟨rfl, rfl, hP⟩ := hcut
              have hrc := pl_rcopy hP
              clear hP x3
              go_wp2_with fail
              refine hrc.mono ?_
              clear hrc
              rintro e w8 ⟨p8, rfl, hP, z0, ⟨u, z1⟩, hK⟩
              have H8 := Lib.hid (And.intro True.intro hP)
              clear hP hK
              have hsh := show_any g m p8 r id F L0 R0 LL [] _ (pl_bth H8.out.2) HC.out hid (by have := HFEW.out; simp; omega)
              obtain ⟨y0, y1, y2⟩ := H8.out.2.cells
              go_wp2_with fail
              refine hsh.mono ?_
              clear hsh y0 y1 y2 z0 z1
              rintro e w9 ⟨rfl, hb9⟩
              have H9 := Lib.hid (H8.out.2.later hb9)
              clear hb9
              go_wp2_with fail
              go_roundw
              case measure => (simp [Go.RowKit.intOf]; try omega)
              case rel => exact ⟨i + 1, _, _, _, _, rfl, rfl, by go_num, by omega, by rw [HSN.out, HST.out]; exact H9.out⟩
          · have hput := pl_copy H6.out.2
            have hst : stepP r (LL, GG) ⟨k, ai, AF, AL, AR, kp⟩ = (LL, GG) := by
              unfold stepP BAct.c
              dsimp only
              rw [if_neg (by rw [HKK.out]; decide), if_neg (by rw [HKK.out]; decide), if_neg (by rw [HKK.out]; decide), if_neg (by rw [HKK.out]; decide)]
            have HST := Lib.hid hst
            clear hst
            generalize hbs2 : (wr.alloc (.cells #[.int .u8 k, .int .i64 ai, .int .u64 AF, .int .u64 AL, .int .u64 AR, .bool kp] 35)).heap.size = base2 at hput
            clear hbs2
            go_wp2_with fail
            refine hput.mono ?_
            clear hput c0 c1 c2 c3 c4 c5 hkk
            rintro e w7 ⟨g2, m2, rfl, hP, hK⟩
            have H7 := Lib.hid (And.intro (hK _ _ H6.out.1) hP)
            have hrp := cp_drop (id := ai) (keep := true) hP HQID.out (by have := HFEW.out; omega)
            have a1 := H7.out.1.cell 1; have a2 := H7.out.1.cell 2; have a3 := H7.out.1.cell 3; have a4 := H7.out.1.cell 4; have a5 := H7.out.1.cell 5
            simp only [List.getElem?_toArray, List.getElem?_cons_zero, List.getElem?_cons_succ] at a1 a2 a3 a4 a5
            clear hP hK
            go_wp2_with fail
            refine hrp.mono ?_
            clear hrp a1 a2 a3 a4 a5
            rintro e w8 ⟨v8, rfl, hP, hK⟩
            have hcs := cq_settle hP
            clear hP hK
            go_wp2_with fail
            refine hcs.mono ?_
            clear hcs
            rintro e w8' ⟨v9, rfl, hP, hK⟩
            have H8 := Lib.hid (And.intro True.intro hP)
            clear hP hK
            have hsh := show_any g2 m2 p r id F L0 R0 LL GG _ (pl_bth H8.out.2) HC.out hid (by have := HFEW.out; omega)
            obtain ⟨y0, y1, y2⟩ := H8.out.2.cells
            go_wp2_with fail
            refine hsh.mono ?_
            clear hsh y0 y1 y2
            rintro e w9 ⟨rfl, hb9⟩
            have H9 := Lib.hid (H8.out.2.later hb9)
            clear hb9
            go_wp2_with fail
            go_roundw
            case measure => (simp [Go.RowKit.intOf]; try omega)
            case rel => exact ⟨i + 1, _, _, _, _, rfl, rfl, by go_num, by omega, by rw [HSN.out, HST.out]; exact H9.out⟩
        · obtain rfl : i = z.length := by omega
          rw [List.take_length] at hpl
          have hle := play_len r z
          generalize playP r z = S at hpl hle
          obtain ⟨LL, GG⟩ := S
          dsimp only at hpl hle
          have hsh := show_any g m p r id F L0 R0 LL GG _ (pl_bth hpl) HC.out hid (by omega)
          obtain ⟨y0, y1, y2⟩ := hpl.cells
          have HPL := Lib.hid hpl
          clear hpl
          go_wp2_with fail
          refine hsh.mono ?_
          clear hsh y0 y1 y2
          rintro e w9 ⟨rfl, hb9⟩
          have H9 := Lib.hid (HPL.out.later hb9)
          clear hb9
          go_wp2_with fail
          go_ret
          exact ⟨rfl, H9.out.below⟩
end Go.Proofs.YthmhboagbeibdaaGreat
