/-
  The document's book of curves: Copy, Kept, with.
-/
import Derived.Test.YthmhboagbeibdaaRb
namespace Go.Proofs.Ythmhboagbeibdaa
set_option linter.unusedVariables false
open Go.RowKit
attribute [local go_sem ↓] Go.wp_at_zero Go.wp_at_succ
attribute [local go_sem] quietR quietAtR quietUponR midAt midUpon
attribute [local irreducible] TStep HStep

theorem app_ints0 (ty : TypeId) {l : List Int} {w : World} {v : Value} {base g : Nat} (h : IntAt w v l) (hown : w.ownsRow base 3 1 (.slice (some ⟨g, 0, none⟩) 0 0) 0 []) (hb : base ≤ w.heap.size) :
    ∃ v' w', (Builtin.append_ #[59, 59] ty #[.slice (some ⟨g, 0, none⟩) 0 0, v]).run Try.prog w = .ok v' w' ∧ w'.ownsRow base 3 1 v' l.length (l.map (Value.int .i64)) ∧ Below w.heap.size w w' := by
  obtain ⟨i0, hi0, hz0, hz1, hz2⟩ := info_parts info_int
  obtain ⟨hl, a, cap, rfl, h3⟩ := h
  by_cases hne : l = []
  · subst hne
    refine ⟨_, _, run_append_nothing w _ _ ty _ i0 Try.underlying59 hi0 _ 0 0 (Nat.le_refl _) _ ?_, hown, Below.refl _ _⟩
    cases a with
    | none => exact Src.ofNil w Try.underlying59 cap
    | some ad => exact Src.ofSlice w Try.underlying59 ad 0 cap [] (by simp) (fun j u hj => by simp at hj) (fun u hu => by simp at hu)
  · rcases h3 with h3 | ⟨b, off, rfl, hbl, hcap, hc⟩
    · exact absurd h3 hne
    · have hl0 : 0 < l.length := List.length_pos_iff.2 hne
      obtain ⟨v', w', hr, ho, hg⟩ := run_append_arg_grows (P := Try.prog) w 59 ty 3 i0 _ 1 8 Try.underlying59 hi0 hz0 hz1 hz2 rfl (by decide) ⟨g, 0, none⟩ 0 0 [] (by simp) (fun j u hj => by simp at hj) ⟨b, off, none⟩ l.length cap (l.map (Value.int .i64)) (by simp) (fun j u hj => by
        rw [List.getElem?_map] at hj
        cases hk : l[j]? with
        | none => rw [hk] at hj; cases hj
        | some x => rw [hk] at hj; cases hj; simpa [Addr.add_lit] using hc j x hk) (by omega) (by unfold maxLen; omega) (by omega)
      exact ⟨v', w', hr, owns_base (by simpa using ho) hb, ⟨hg.os, hg.tape, hg.output, hg.size, fun k hk => hg.block k hk (by simp)⟩⟩

theorem IntAt.grown {w w' : World} {v : Value} {l : List Int} {row : Option Nat} (h : IntAt w v l) (hg : w.grownBy w' row) (hne : ∀ k, v.ownBlock = some k → some k ≠ row) : IntAt w' v l := by
  obtain ⟨h2, a, cap, e, h3⟩ := h
  refine ⟨h2, a, cap, e, ?_⟩
  rcases h3 with h3 | ⟨b, off, e2, hl, hcap, hc⟩
  · exact .inl h3
  · subst e2; subst e
    by_cases hn : l = []
    · exact .inl hn
    · refine .inr ⟨b, off, rfl, Nat.lt_of_lt_of_le hl hg.size, hcap, fun i k hi => ?_⟩
      exact (hg.cell_far ⟨b, off + i, none⟩ hl (hne b rfl)).trans (hc i k hi)
/-- a book handed back -/
def RcW (w : World) (r : Int) (I : List Int) (V G : List Cv) (e : Ending) (w' : World) : Prop :=
  ∃ q vi vl vg, e = .returned (.pointer (some ⟨q, 0, none⟩)) ∧ RbAt w' q r I V G vi vl vg ∧ w.heap.size ≤ q ∧ Below w.heap.size w w' ∧ ∀ b, vg.ownBlock = some b → b < q

set_option maxRecDepth 100000 in
set_option maxHeartbeats 4000000 in
theorem rcopy_any (p : Nat) (r : Int) (I : List Int) (V G : List Cv) (vi vl vg : Value) (w0 : World) (h : RbAt w0 p r I V G vi vl vg) :
    Calls Try.prog 43 #[.pointer (some ⟨p, 0, none⟩)] w0 (RcW w0 r I V G) := by
  obtain ⟨ai, ci, rfl⟩ : ∃ a cap, vi = .slice a I.length cap := by obtain ⟨_, a, cap, e, _⟩ := h.ids; exact ⟨a, cap, e⟩
  obtain ⟨al, cl, rfl⟩ : ∃ a cap, vl = .slice a V.length cap := by obtain ⟨_, _, a, cap, e, _⟩ := h.live; exact ⟨a, cap, e⟩
  obtain ⟨ag, cg, rfl⟩ : ∃ a cap, vg = .slice a G.length cap := by obtain ⟨_, _, a, cap, e, _⟩ := h.gh; exact ⟨a, cap, e⟩
  have HSAME := Lib.hid h.same; have hfew := h.few
  have l0 := h.blk.lt
  have o0 := fun e => (over_cell (w := w0) (e := e) (o := 0) l0).trans (h.blk.cell 0)
  have o1 := fun e => (over_cell (w := w0) (e := e) (o := 1) l0).trans (h.blk.cell 1)
  have o2 := fun e => (over_cell (w := w0) (e := e) (o := 2) l0).trans (h.blk.cell 2)
  have o3 := fun e => (over_cell (w := w0) (e := e) (o := 3) l0).trans (h.blk.cell 3)
  simp only [List.getElem?_toArray, List.getElem?_cons_zero, List.getElem?_cons_succ] at o0 o1 o2 o3
  have H0 := Lib.hid h
  clear h
  go_enter Try.func43, Try.ntmps43
  go_upto_region 1 with fail
  refine wp_region_midg (w := w0) 22 3 [4, 9, 10, 15, 16, 21] [] [(4, fun u W' => ∃ g, u = .slice (some ⟨g, 0, none⟩) 0 0 ∧ W'.ownsRow w0.heap.size 3 1 u 0 []), (9, fun u W' => W'.ownsRow w0.heap.size 3 1 u (I).length ((I).map (Value.int .i64))), (10, fun u W' => ∃ g, u = .slice (some ⟨g, 0, none⟩) 0 0 ∧ W'.ownsRow w0.heap.size 25 3 u 0 []), (15, fun u W' => W'.ownsRow w0.heap.size 25 3 u (V).length (cvCells (V))), (16, fun u W' => ∃ g, u = .slice (some ⟨g, 0, none⟩) 0 0 ∧ W'.ownsRow w0.heap.size 25 3 u 0 []), (21, fun u W' => W'.ownsRow w0.heap.size 25 3 u (G).length (cvCells (G)))] rfl (by kernel_rfl) (by kernel_rfl) (by kernel_rfl) (by kernel_rfl) (fun _ _ _ _ _ h => h) ⟨fun v W1 W2 ⟨b, h1, h2⟩ hb => ⟨b, h1, owns_later h2 hb⟩, fun v W1 W2 h hb => owns_later h hb, fun v W1 W2 ⟨b, h1, h2⟩ hb => ⟨b, h1, owns_later h2 hb⟩, fun v W1 W2 h hb => owns_later h hb, fun v W1 W2 ⟨b, h1, h2⟩ hb => ⟨b, h1, owns_later h2 hb⟩, fun v W1 W2 h hb => owns_later h hb, trivial⟩ ?_
  intro LL hL
  have HL := Lib.hid hL
  clear hL
  simp only [List.take_succ_cons, List.take_zero, putL]
  iterate 22 (first | refine wpHead_skip (by decide) ?_ | (refine wpHead_step (by decide) (fun K hK => ?_); go_simp; refine hK _ ?_; clear hK K))
  refine wpHead_nil (HL.out _ ⟨?_, ?_, ?_, ?_, ?_, ?_, trivial⟩ ?_)
  · intro vs W2 hb2 hf
    clear HL
    change TStep _ _ _ (Act.put (Act.put (Act.put (Act.put (Act.put (Act.put _ (some 7) (vs 4)) (some 12) (vs 9)) (some 13) (vs 10)) (some 18) (vs 15)) (some 19) (vs 16)) (some 24) (vs 21)) _ _
    refine tstep_yes (by kernel_rfl) ?_
    go_simp
    exact ⟨(Below.refl _ _).alloc (Nat.le_refl _) _, World.ownsRow_made (base := w0.heap.size) (e := 3) (size := 1) W2 #[] 0 hb2.size (by decide) rfl⟩
  · intro vs W2 hb2 hf
    have hf := fits_cast (q := (∃ g, (vs 4) = .slice (some ⟨g, 0, none⟩) 0 0 ∧ W2.ownsRow w0.heap.size 3 1 (vs 4) 0 []) ∧ True) hf (by kernel_rfl)
    clear HL
    refine Exists.elim hf.1 fun B4 hB4 => ?_
    change TStep _ _ _ (Act.put (Act.put (Act.put (Act.put (Act.put (Act.put _ (some 7) (vs 4)) (some 12) (vs 9)) (some 13) (vs 10)) (some 18) (vs 15)) (some 19) (vs 16)) (some 24) (vs 21)) _ _
    have hown := hB4.2
    rw [hB4.1] at hown
    have happ := app_ints0 59 (H0.out.ids.later hb2) hown hb2.size
    refine Exists.elim happ fun v' ha1 => ?_
    refine Exists.elim ha1 fun w' ha2 => ?_
    rw [hB4.1]
    refine tstep_yes (by kernel_rfl) ?_
    exact midAt_app rfl (by kernel_rfl) (by kernel_rfl) ha2.1 ha2.2.2 ha2.2.1
  · intro vs W2 hb2 hf
    clear HL
    change TStep _ _ _ (Act.put (Act.put (Act.put (Act.put (Act.put (Act.put _ (some 7) (vs 4)) (some 12) (vs 9)) (some 13) (vs 10)) (some 18) (vs 15)) (some 19) (vs 16)) (some 24) (vs 21)) _ _
    refine tstep_yes (by kernel_rfl) ?_
    go_simp
    exact ⟨(Below.refl _ _).alloc (Nat.le_refl _) _, World.ownsRow_made (base := w0.heap.size) (e := 25) (size := 3) W2 #[] 0 hb2.size (by decide) rfl⟩
  · intro vs W2 hb2 hf
    have hf := fits_cast (q := (∃ g, (vs 10) = .slice (some ⟨g, 0, none⟩) 0 0 ∧ W2.ownsRow w0.heap.size 25 3 (vs 10) 0 []) ∧ True) hf (by kernel_rfl)
    clear HL
    refine Exists.elim hf.1 fun B10 hB10 => ?_
    change TStep _ _ _ (Act.put (Act.put (Act.put (Act.put (Act.put (Act.put _ (some 7) (vs 4)) (some 12) (vs 9)) (some 13) (vs 10)) (some 18) (vs 15)) (some 19) (vs 16)) (some 24) (vs 21)) _ _
    have hown := hB10.2
    rw [hB10.1] at hown
    have happ := app_all 23 (H0.out.live.later hb2) hown hb2.size
    refine Exists.elim happ fun v' ha1 => ?_
    refine Exists.elim ha1 fun w' ha2 => ?_
    rw [hB10.1]
    refine tstep_yes (by kernel_rfl) ?_
    exact midAt_app rfl (by kernel_rfl) (by kernel_rfl) ha2.1 ha2.2.2 ha2.2.1
  · intro vs W2 hb2 hf
    clear HL
    change TStep _ _ _ (Act.put (Act.put (Act.put (Act.put (Act.put (Act.put _ (some 7) (vs 4)) (some 12) (vs 9)) (some 13) (vs 10)) (some 18) (vs 15)) (some 19) (vs 16)) (some 24) (vs 21)) _ _
    refine tstep_yes (by kernel_rfl) ?_
    go_simp
    exact ⟨(Below.refl _ _).alloc (Nat.le_refl _) _, World.ownsRow_made (base := w0.heap.size) (e := 25) (size := 3) W2 #[] 0 hb2.size (by decide) rfl⟩
  · intro vs W2 hb2 hf
    have hf := fits_cast (q := (∃ g, (vs 16) = .slice (some ⟨g, 0, none⟩) 0 0 ∧ W2.ownsRow w0.heap.size 25 3 (vs 16) 0 []) ∧ True) hf (by kernel_rfl)
    clear HL
    refine Exists.elim hf.1 fun B16 hB16 => ?_
    change TStep _ _ _ (Act.put (Act.put (Act.put (Act.put (Act.put (Act.put _ (some 7) (vs 4)) (some 12) (vs 9)) (some 13) (vs 10)) (some 18) (vs 15)) (some 19) (vs 16)) (some 24) (vs 21)) _ _
    have hown := hB16.2
    rw [hB16.1] at hown
    have happ := app_all 23 (H0.out.gh.later hb2) hown hb2.size
    refine Exists.elim happ fun v' ha1 => ?_
    refine Exists.elim ha1 fun w' ha2 => ?_
    rw [hB16.1]
    refine tstep_yes (by kernel_rfl) ?_
    exact midAt_app rfl (by kernel_rfl) (by kernel_rfl) ha2.1 ha2.2.2 ha2.2.1
  · intro vs W2 hb2 hf
    have hf := fits_cast (q := (∃ g, vs 4 = .slice (some ⟨g, 0, none⟩) 0 0 ∧ W2.ownsRow w0.heap.size 3 1 (vs 4) 0 []) ∧ (W2.ownsRow w0.heap.size 3 1 (vs 9) (I).length ((I).map (Value.int .i64))) ∧ (∃ g, vs 10 = .slice (some ⟨g, 0, none⟩) 0 0 ∧ W2.ownsRow w0.heap.size 25 3 (vs 10) 0 []) ∧ (W2.ownsRow w0.heap.size 25 3 (vs 15) (V).length (cvCells (V))) ∧ (∃ g, vs 16 = .slice (some ⟨g, 0, none⟩) 0 0 ∧ W2.ownsRow w0.heap.size 25 3 (vs 16) 0 []) ∧ (W2.ownsRow w0.heap.size 25 3 (vs 21) (G).length (cvCells (G))) ∧ True) hf (by kernel_rfl)
    clear HL
    change wpList _ _ _ _ (Act.put (Act.put (Act.put (Act.put (Act.put (Act.put _ (some 7) (vs 4)) (some 12) (vs 9)) (some 13) (vs 10)) (some 18) (vs 15)) (some 19) (vs 16)) (some 24) (vs 21)) _
    have hi := IntAt.of_owns hf.2.1 H0.out.ids.1
    have hv := CvAt.of_owns hf.2.2.2.1 H0.out.live.1 H0.out.live.2.1
    have hg := CvAt.of_owns hf.2.2.2.2.2.1 H0.out.gh.1 H0.out.gh.2.1
    refine Exists.elim (owns_slice hf.2.1) fun b1 x1 => ?_
    refine Exists.elim x1 fun d1 y1 => ?_
    refine Exists.elim (owns_slice hf.2.2.2.1) fun b2 x2 => ?_
    refine Exists.elim x2 fun d2 y2 => ?_
    refine Exists.elim (owns_slice hf.2.2.2.2.2.1) fun b3 x3 => ?_
    refine Exists.elim x3 fun d3 y3 => ?_
    have hlt := hf.2.2.2.2.2.1.lt
    rw [y3] at hlt
    rw [y1] at hi; rw [y2] at hv; rw [y3] at hg
    rw [y1, y2, y3]
    have HI := Lib.hid (And.intro hi (And.intro hv (And.intro hg hb2))); have HLT := Lib.hid hlt
    clear hf hi hv hg hb2 hlt o0 o1 o2 o3 l0 x1 x2 x3 y1 y2 y3
    simp only [List.drop_succ_cons, List.drop_zero, List.take_succ_cons, List.take_zero]
    go_wp2_with fail
    go_ret
    have hbn := (Below.refl W2.heap.size W2).alloc (Nat.le_refl _) (.cells #[.int .u64 r, .slice b1 I.length d1, .slice b2 V.length d2, .slice b3 G.length d3] 61)
    exact ⟨_, _, _, _, rfl, ⟨Blk.new _ _ _, HI.out.1.later hbn, HI.out.2.1.later hbn, HI.out.2.2.1.later hbn, HSAME.out, hfew⟩, HI.out.2.2.2.size, HI.out.2.2.2.trans (hbn.mono HI.out.2.2.2.size), fun b hb => (HLT.out b hb).2⟩

set_option maxRecDepth 100000 in
set_option maxHeartbeats 4000000 in
theorem rkept_any (p : Nat) (r : Int) (I : List Int) (V G : List Cv) (vi vl vg : Value) (w0 : World) (h : RbAt w0 p r I V G vi vl vg) (hr : U r) :
    Calls Try.prog 28 #[.pointer (some ⟨p, 0, none⟩)] w0 fun e w' => e = .returned (.bool (decide (Keep (V ++ G) r))) ∧ Below w0.heap.size w0 w' := by
  obtain ⟨ai, ci, rfl⟩ : ∃ a cap, vi = .slice a I.length cap := by obtain ⟨_, a, cap, e, _⟩ := h.ids; exact ⟨a, cap, e⟩
  obtain ⟨al, cl, rfl⟩ : ∃ a cap, vl = .slice a V.length cap := by obtain ⟨_, _, a, cap, e, _⟩ := h.live; exact ⟨a, cap, e⟩
  obtain ⟨ag, cg, rfl⟩ : ∃ a cap, vg = .slice a G.length cap := by obtain ⟨_, _, a, cap, e, _⟩ := h.gh; exact ⟨a, cap, e⟩
  have HSAME := Lib.hid h.same; have hfew := h.few
  have l0 := h.blk.lt
  have o0 := fun e => (over_cell (w := w0) (e := e) (o := 0) l0).trans (h.blk.cell 0)
  have o2 := fun e => (over_cell (w := w0) (e := e) (o := 2) l0).trans (h.blk.cell 2)
  have o3 := fun e => (over_cell (w := w0) (e := e) (o := 3) l0).trans (h.blk.cell 3)
  simp only [List.getElem?_toArray, List.getElem?_cons_zero, List.getElem?_cons_succ] at o0 o2 o3
  have H0 := Lib.hid h
  clear h
  go_enter Try.func28, Try.ntmps28
  go_upto_region 1 with fail
  refine wp_region_hot (w := w0) 15 2 [0, 5, 10] [] [(0, fun u W' => ∃ g, u = .slice (some ⟨g, 0, none⟩) 0 0 ∧ W'.ownsRow w0.heap.size 25 3 u 0 []), (5, fun u W' => W'.ownsRow w0.heap.size 25 3 u (V).length (cvCells (V))), (10, fun u W' => W'.ownsRow w0.heap.size 25 3 u (V ++ G).length (cvCells (V ++ G)))] [(0, 5), (5, 10)] [10] [] rfl (by decide) (by decide) (by kernel_rfl) (by kernel_rfl) (by kernel_rfl) (by kernel_rfl) (by kernel_rfl) (fun _ _ _ _ _ h => h) ⟨fun v W1 W2 ⟨b, h1, h2⟩ hb => ⟨b, h1, owns_later h2 hb⟩, fun v W1 W2 h hb => owns_later h hb, fun v W1 W2 h hb => owns_later h hb, trivial⟩ ⟨fun h => by simp at h, fun h => by simp at h, fun h => by simp at h, trivial⟩ ?_
  intro LL hL
  have HL := Lib.hid hL
  clear hL
  simp only [List.take_succ_cons, List.take_zero, putL]
  iterate 15 (first | refine wpHead_skip (by decide) ?_ | (refine wpHead_step (by decide) (fun K hK => ?_); go_simp; refine hK _ ?_; clear hK K))
  refine wpHead_nil (HL.out _ ⟨?_, ?_, ?_, trivial⟩ ?_)
  · intro vs W2 hb2 hf
    clear HL
    change TStep _ _ _ (Act.put (Act.put (Act.put _ (some 3) (vs 0)) (some 8) (vs 5)) (some 13) (vs 10)) _ _
    refine tstep_yes (by kernel_rfl) ?_
    go_simp
    exact ⟨(Below.refl _ _).alloc (Nat.le_refl _) _, World.ownsRow_made (base := w0.heap.size) (e := 25) (size := 3) W2 #[] 0 hb2.size (by decide) rfl⟩
  · intro vs W2 hb2 hf
    have hf := fits_cast (q := (∃ g, (vs 0) = .slice (some ⟨g, 0, none⟩) 0 0 ∧ W2.ownsRow w0.heap.size 25 3 (vs 0) 0 []) ∧ True) hf (by kernel_rfl)
    clear HL
    refine Exists.elim hf.1 fun B0 hB0 => ?_
    change TStep _ _ _ (Act.put (Act.put (Act.put _ (some 3) (vs 0)) (some 8) (vs 5)) (some 13) (vs 10)) _ _
    have hown := hB0.2
    rw [hB0.1] at hown
    have happ := app_all 23 (H0.out.live.later hb2) hown hb2.size
    refine Exists.elim happ fun v' ha1 => ?_
    refine Exists.elim ha1 fun w' ha2 => ?_
    rw [hB0.1]
    refine tstep_yes (by kernel_rfl) ?_
    exact midAt_app rfl (by kernel_rfl) (by kernel_rfl) ha2.1 ha2.2.2 ha2.2.1
  · intro vs W2 hb2 hf
    have hf := fits_cast (q := (W2.ownsRow w0.heap.size 25 3 (vs 5) (V).length (cvCells (V))) ∧ True) hf (by kernel_rfl)
    clear HL
    change HStep _ _ _ _ (Act.put (Act.put (Act.put _ (some 3) (vs 0)) (some 8) (vs 5)) (some 13) (vs 10)) _ _
    have happ := app_more 23 (A := V) (H0.out.gh.later hb2) hf.1 hb2.size (by have h1 := HSAME.out; have h2 := hfew; simp; try omega)
    refine Exists.elim happ fun v' ha1 => ?_
    refine Exists.elim ha1 fun w' ha2 => ?_
    refine hstep_yes (by kernel_rfl) ?_
    exact hotUpon_app rfl (by kernel_rfl) (by kernel_rfl) ha2.1 (hb2.trans ha2.2.2.1) (by simpa using ha2.2.1)
  · intro vs W2 hb2 hf
    have hf := fits_cast (q := (W2.ownsRow w0.heap.size 25 3 (vs 10) (V ++ G).length (cvCells (V ++ G))) ∧ True) hf (by kernel_rfl)
    clear HL
    change wpList _ _ _ _ (Act.put (Act.put (Act.put _ (some 3) (vs 0)) (some 8) (vs 5)) (some 13) (vs 10)) _
    have hu : UU (V ++ G) := fun d hd => by
      rcases List.mem_append.1 hd with hd | hd
      · exact H0.out.live.1 d hd
      · exact H0.out.gh.1 d hd
    have hcv := CvAt.of_owns hf.1 hu (by simp; omega)
    have hk := r4kept_any _ _ r W2 hcv hr
    refine Exists.elim (⟨_, rfl⟩ : ∃ kb, decide (Keep (V ++ G) r) = kb) fun kb hkb => ?_
    rw [hkb] at hk
    have HKB := Lib.hid hkb
    have HB := Lib.hid hb2
    clear hf hu hcv hkb hb2 o0 o2 o3 l0
    simp only [List.drop_succ_cons, List.drop_zero, List.take_succ_cons, List.take_zero]
    go_wp2_with fail
    refine hk.mono ?_
    clear hk
    rintro e w5 ⟨rfl, hb5⟩
    have HB5 := Lib.hid (HB.out.trans (hb5.mono HB.out.size))
    clear hb5
    go_wp2_with fail
    go_ret
    exact ⟨by rw [HKB.out]; rfl, HB5.out⟩
end Go.Proofs.Ythmhboagbeibdaa
