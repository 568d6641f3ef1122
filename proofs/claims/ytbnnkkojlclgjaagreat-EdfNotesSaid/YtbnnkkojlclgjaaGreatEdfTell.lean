/-
  A row of leaves: who is next, what is noted of a leaf, the next tick, all, how many.
-/
import Derived.Test.YtbnnkkojlclgjaaGreatEdfDo
import Derived.Test.YtbnnkkojlclgjaaGreatEdfActs
import Derived.BigRegion
namespace Go.Proofs.YtbnnkkojlclgjaaGreat
set_option linter.unusedVariables false
open Go.RowKit Go.Maps
attribute [local go_sem ↓] Go.wp_at_zero Go.wp_at_succ
attribute [local go_sem] quietR quietAtR quietUponR midAt midUpon plain plainUpon

set_option maxRecDepth 100000 in
theorem next1_any (q g m b1 : Nat) (now : Int) (t : RB) (M : List (Int × Ky)) (w : World) (h : AugAt w q g m t M) (h1 : Blk w b1 23 #[.int .u64 now]) :
    Calls Tryz.prog 63 (#[.pointer (some ⟨q, 0, none⟩)] ++ #[.pointer (some ⟨b1, 0, none⟩)]) w fun e w' => e = .returned (.agg #[.int .i64 (nextId now (listT t)), .bool (nextIs now (listT t))]) ∧ Below w.heap.size w w' := by
  have hb0 := (Below.refl w.heap.size w).alloc (Nat.le_refl _) (.cells #[.int .i64 0, .bool false] 113)
  have hR0 := Blk.new w 113 #[.int .i64 0, .bool false]
  have hp := aleast_any q g m now t M _ (h.later hb0)
  have c1 := (h1.below hb0 h1.lt).cell 0
  simp only [List.getElem?_toArray, List.getElem?_cons_zero, List.getElem?_cons_succ] at c1
  obtain ⟨R, hR⟩ : ∃ R, R = w.heap.size := ⟨_, rfl⟩
  rw [← hR] at hR0
  have H := Lib.hid (And.intro hR0 hb0)
  have HR := Lib.hid hR
  have e1 : ((nextL now (listT t)).map (·.2)).getD 0 = nextId now (listT t) := by unfold nextId; cases nextL now (listT t) <;> rfl
  have e2 : ((nextL now (listT t)).map (·.2)).isSome = nextIs now (listT t) := by unfold nextIs; cases nextL now (listT t) <;> rfl
  unfold IdW at hp
  rw [e1, e2] at hp
  generalize nextId now (listT t) = x at hp ⊢
  generalize nextIs now (listT t) = y at hp ⊢
  clear h h1 hR0 hb0 hR e1 e2
  simp only [List.append_toArray, List.cons_append, List.nil_append]
  go_enter Tryz.func63, Tryz.ntmps63
  go_upto_region 1 with fail
  rw [← HR.out]
  generalize w.alloc (.cells #[.int .i64 0, .bool false] 113) = W1 at H hp c1 ⊢
  go_wp2_with fail
  refine hp.mono ?_
  clear hp c1
  rintro e W2 ⟨rfl, hb⟩
  have hR2 := H.out.1.below hb H.out.1.lt
  have hb2 := H.out.2.trans (hb.mono H.out.2.size)
  have r0 := hR2.cell 0; have f0 := hR2.frozen 0; have r1 := hR2.cell 1; have f1 := hR2.frozen 1
  simp only [List.getElem?_toArray, List.getElem?_cons_zero, List.getElem?_cons_succ] at r0 r1
  have hlo : w.heap.size ≤ R := by have := HR.out; omega
  have h9 := (hR2.set_ 0 (.int .i64 x)).set_ 1 (.bool y)
  have b9 := (hb2.setCell (p := ⟨R, 0, none⟩) (by omega) (.int .i64 x)).setCell (p := ⟨R, 1, none⟩) (by omega) (.bool y)
  simp at h9
  have H9 := Lib.hid (And.intro h9 b9)
  clear hR2 hb2 h9 b9 hb H
  go_upto_region 2 with fail
  clear r0 r1 f0 f1
  generalize (W2.setCell ⟨R, 0, none⟩ (.int .i64 x)).setCell ⟨R, 1, none⟩ (.bool y) = W3 at H9 ⊢
  have r0 := H9.out.1.cell 0; have f0 := H9.out.1.frozen 0; have r1 := H9.out.1.cell 1; have f1 := H9.out.1.frozen 1
  simp only [List.getElem?_toArray, List.getElem?_cons_zero, List.getElem?_cons_succ] at r0 r1
  have h9 := (H9.out.1.set_ 0 (.int .i64 x)).set_ 1 (.bool y)
  have b9 := (H9.out.2.setCell (p := ⟨R, 0, none⟩) (by omega) (.int .i64 x)).setCell (p := ⟨R, 1, none⟩) (by omega) (.bool y)
  simp at h9
  have e0 := h9.cell 0
  have e1 := h9.cell 1
  simp only [List.getElem?_toArray, List.getElem?_cons_zero, List.getElem?_cons_succ] at e0 e1
  have HB9 := Lib.hid b9
  clear h9 b9 H9 hlo
  go_wp2_with fail
  refine bodyPost_ret (v := .agg #[.int .i64 x, .bool y]) (by simp [results, Tryz.results63, go_sem, e0, e1]) rfl ⟨rfl, HB9.out⟩
set_option maxRecDepth 100000 in
theorem rnext_any (r : Nat) (S : Nat → Prop) (L : List En) (now : Int) (w : World) (h : RowX w r S L) :
    Calls Tryz.prog 33 #[.pointer (some ⟨r, 0, none⟩), .int .u64 now] w fun e w' => e = .returned (.tuple #[.int .i64 (nextId now L), .bool (nextIs now L)]) ∧ Below w.heap.size w w' := by
  obtain ⟨q, g, m, t, M, hA, rfl, hS⟩ := h
  have hb : Below w.heap.size w (w.alloc (.cells #[.int .u64 now] 23)) := (Below.refl _ _).alloc (Nat.le_refl _) _
  have k1 := Blk.new w 23 #[.int .u64 now]
  have hask := ask_found r q _ _ _ _ _ (hA.row.below hb hA.row.lt) (enters_of Tryz.func63 (by kernel_rfl) rfl) (fun W hW => next1_any q g m _ now t M W ((hA.at_.later hb).later hW) (k1.below hW k1.lt))
  have HB := Lib.hid hb
  generalize nextId now (listT t) = x at hask ⊢
  generalize nextIs now (listT t) = y at hask ⊢
  clear hA hS k1 hb
  go_enter Tryz.func33, Tryz.ntmps33
  go_wp2_with fail
  refine hask.mono ?_
  clear hask
  rintro e w2 ⟨rfl, hb2⟩
  have HB2 := Lib.hid (HB.out.trans (hb2.mono HB.out.size))
  clear hb2
  go_upto_region 2 with fail
  have hb3 : Below w.heap.size w (w2.alloc (.cells #[.int .i64 x, .bool y] 113)) := HB2.out.alloc HB2.out.size _
  have k2 := Blk.new w2 113 #[.int .i64 x, .bool y]
  have o0 := fun e => (over_cell (w := w2.alloc (.cells #[.int .i64 x, .bool y] 113)) (e := e) (o := 0) k2.lt).trans (k2.cell 0)
  have o1 := fun e => (over_cell (w := w2.alloc (.cells #[.int .i64 x, .bool y] 113)) (e := e) (o := 1) k2.lt).trans (k2.cell 1)
  simp only [List.getElem?_toArray, List.getElem?_cons_zero, List.getElem?_cons_succ] at o0 o1
  have HB3 := Lib.hid hb3
  clear hb3 k2
  generalize w2.alloc (.cells #[.int .i64 x, .bool y] 113) = W3 at HB3 o0 o1 ⊢
  refine wp_region_over (by kernel_rfl) (by kernel_rfl) ?_
  repeat (first | go_big_quiet_skip | (go_big_quiet_want; go_big_quiet_op; go_big_quiet_on))
  refine wpQuiet_nil ?_
  rintro W4 ⟨e, he⟩
  have HB4 := Lib.hid (HB3.out.trans (he ▸ (over_below W3 e).mono HB3.out.size))
  clear he o0 o1
  go_wp2_with fail
  go_ret2
  exact ⟨rfl, HB4.out⟩
theorem getA_of (L : List En) (i : Int) : ((getE L i).map (·.1.1)).getD 0 = getA L i := by unfold getA; cases getE L i <;> rfl
theorem getB_of (L : List En) (i : Int) : ((getE L i).map (·.2)).getD 0 = getB L i := by unfold getB; cases getE L i <;> rfl
set_option maxRecDepth 100000 in
set_option maxHeartbeats 1000000 in
theorem get1_any (q g m b1 : Nat) (i : Int) (t : RB) (M : List (Int × Ky)) (w : World) (h : AugAt w q g m t M) (h1 : Blk w b1 3 #[.int .i64 i]) (hi : (Lit.int .i64 i).wf = true) :
    Calls Tryz.prog 66 (#[.pointer (some ⟨q, 0, none⟩)] ++ #[.pointer (some ⟨b1, 0, none⟩)]) w fun e w' => e = .returned (.agg #[.int .u64 (getA (listT t) i), .int .u64 (getB (listT t) i), .bool (getIs (listT t) i)]) ∧ Below w.heap.size w w' := by
  have hb0 := (Below.refl w.heap.size w).alloc (Nat.le_refl _) (.cells #[.int .u64 0, .int .u64 0, .bool false] 117)
  have hR0 := Blk.new w 117 #[.int .u64 0, .int .u64 0, .bool false]
  have hp := aget_any q g m i t M _ (h.later hb0) hi
  have c1 := (h1.below hb0 h1.lt).cell 0
  simp only [List.getElem?_toArray, List.getElem?_cons_zero, List.getElem?_cons_succ] at c1
  obtain ⟨R, hR⟩ : ∃ R, R = w.heap.size := ⟨_, rfl⟩
  rw [← hR] at hR0
  have H := Lib.hid (And.intro hR0 hb0)
  have HR := Lib.hid hR
  unfold GetAW at hp
  rw [getA_of, getB_of, show (getE (listT t) i).isSome = getIs (listT t) i from rfl] at hp
  generalize getA (listT t) i = x at hp ⊢
  generalize getB (listT t) i = y at hp ⊢
  generalize getIs (listT t) i = z at hp ⊢
  clear h h1 hR0 hb0 hR
  simp only [List.append_toArray, List.cons_append, List.nil_append]
  go_enter Tryz.func66, Tryz.ntmps66
  go_upto_region 1 with fail
  rw [← HR.out]
  generalize w.alloc (.cells #[.int .u64 0, .int .u64 0, .bool false] 117) = W1 at H hp c1 ⊢
  go_wp2_with fail
  refine hp.mono ?_
  clear hp c1
  rintro e W2 ⟨rfl, hb⟩
  have hR2 := H.out.1.below hb H.out.1.lt
  have hb2 := H.out.2.trans (hb.mono H.out.2.size)
  have r0 := hR2.cell 0; have f0 := hR2.frozen 0; have r1 := hR2.cell 1; have f1 := hR2.frozen 1; have r2 := hR2.cell 2; have f2 := hR2.frozen 2
  simp only [List.getElem?_toArray, List.getElem?_cons_zero, List.getElem?_cons_succ] at r0 r1 r2
  have hlo : w.heap.size ≤ R := by have := HR.out; omega
  have h9 := ((hR2.set_ 0 (.int .u64 x)).set_ 1 (.int .u64 y)).set_ 2 (.bool z)
  have b9 := ((hb2.setCell (p := ⟨R, 0, none⟩) (by omega) (.int .u64 x)).setCell (p := ⟨R, 1, none⟩) (by omega) (.int .u64 y)).setCell (p := ⟨R, 2, none⟩) (by omega) (.bool z)
  simp at h9
  have H9 := Lib.hid (And.intro h9 b9)
  clear hR2 hb2 h9 b9 hb H
  go_upto_region 2 with fail
  clear r0 r1 r2 f0 f1 f2
  generalize ((W2.setCell ⟨R, 0, none⟩ (.int .u64 x)).setCell ⟨R, 1, none⟩ (.int .u64 y)).setCell ⟨R, 2, none⟩ (.bool z) = W3 at H9 ⊢
  have r0 := H9.out.1.cell 0; have f0 := H9.out.1.frozen 0; have r1 := H9.out.1.cell 1; have f1 := H9.out.1.frozen 1; have r2 := H9.out.1.cell 2; have f2 := H9.out.1.frozen 2
  simp only [List.getElem?_toArray, List.getElem?_cons_zero, List.getElem?_cons_succ] at r0 r1 r2
  have h9 := ((H9.out.1.set_ 0 (.int .u64 x)).set_ 1 (.int .u64 y)).set_ 2 (.bool z)
  have b9 := ((H9.out.2.setCell (p := ⟨R, 0, none⟩) (by omega) (.int .u64 x)).setCell (p := ⟨R, 1, none⟩) (by omega) (.int .u64 y)).setCell (p := ⟨R, 2, none⟩) (by omega) (.bool z)
  simp at h9
  have e0 := h9.cell 0
  have e1 := h9.cell 1
  have e2 := h9.cell 2
  simp only [List.getElem?_toArray, List.getElem?_cons_zero, List.getElem?_cons_succ] at e0 e1 e2
  have HB9 := Lib.hid b9
  clear h9 b9 H9 hlo
  go_wp2_with fail
  refine bodyPost_ret (v := .agg #[.int .u64 x, .int .u64 y, .bool z]) (by simp [results, Tryz.results66, go_sem, e0, e1, e2]) rfl ⟨rfl, HB9.out⟩
set_option maxRecDepth 100000 in
theorem rget_any (r : Nat) (S : Nat → Prop) (L : List En) (i : Int) (w : World) (h : RowX w r S L) (hi : (Lit.int .i64 i).wf = true) :
    Calls Tryz.prog 35 #[.pointer (some ⟨r, 0, none⟩), .int .i64 i] w fun e w' => e = .returned (.tuple #[.int .u64 (getA L i), .int .u64 (getB L i), .bool (getIs L i)]) ∧ Below w.heap.size w w' := by
  obtain ⟨q, g, m, t, M, hA, rfl, hS⟩ := h
  have hb : Below w.heap.size w (w.alloc (.cells #[.int .i64 i] 3)) := (Below.refl _ _).alloc (Nat.le_refl _) _
  have k1 := Blk.new w 3 #[.int .i64 i]
  have hask := ask_noted r q _ _ _ _ _ _ (hA.row.below hb hA.row.lt) (enters_of Tryz.func66 (by kernel_rfl) rfl) (fun W hW => get1_any q g m _ i t M W ((hA.at_.later hb).later hW) (k1.below hW k1.lt) hi)
  have HB := Lib.hid hb
  generalize getA (listT t) i = x at hask ⊢
  generalize getB (listT t) i = y at hask ⊢
  generalize getIs (listT t) i = z at hask ⊢
  clear hA hS k1 hb
  go_enter Tryz.func35, Tryz.ntmps35
  go_wp2_with fail
  refine hask.mono ?_
  clear hask
  rintro e w2 ⟨rfl, hb2⟩
  have HB2 := Lib.hid (HB.out.trans (hb2.mono HB.out.size))
  clear hb2
  go_upto_region 2 with fail
  have hb3 : Below w.heap.size w (w2.alloc (.cells #[.int .u64 x, .int .u64 y, .bool z] 117)) := HB2.out.alloc HB2.out.size _
  have k2 := Blk.new w2 117 #[.int .u64 x, .int .u64 y, .bool z]
  have o0 := fun e => (over_cell (w := w2.alloc (.cells #[.int .u64 x, .int .u64 y, .bool z] 117)) (e := e) (o := 0) k2.lt).trans (k2.cell 0)
  have o1 := fun e => (over_cell (w := w2.alloc (.cells #[.int .u64 x, .int .u64 y, .bool z] 117)) (e := e) (o := 1) k2.lt).trans (k2.cell 1)
  have o2 := fun e => (over_cell (w := w2.alloc (.cells #[.int .u64 x, .int .u64 y, .bool z] 117)) (e := e) (o := 2) k2.lt).trans (k2.cell 2)
  simp only [List.getElem?_toArray, List.getElem?_cons_zero, List.getElem?_cons_succ] at o0 o1 o2
  have HB3 := Lib.hid hb3
  clear hb3 k2
  generalize w2.alloc (.cells #[.int .u64 x, .int .u64 y, .bool z] 117) = W3 at HB3 o0 o1 o2 ⊢
  refine wp_region_over (by kernel_rfl) (by kernel_rfl) ?_
  repeat (first | go_big_quiet_skip | (go_big_quiet_want; go_big_quiet_op; go_big_quiet_on))
  refine wpQuiet_nil ?_
  rintro W4 ⟨e, he⟩
  have HB4 := Lib.hid (HB3.out.trans (he ▸ (over_below W3 e).mono HB3.out.size))
  clear he o0 o1 o2
  go_wp2_with fail
  go_ret3
  exact ⟨rfl, HB4.out⟩
theorem fst_tick {L : List En} (h : InvE L) : fstL L = none ∧ tickL L = 9223372036854775808 ∨ ∃ x, fstL L = some x ∧ getA L x = tickL L := by
  cases L with
  | nil => exact .inl ⟨rfl, rfl⟩
  | cons e L =>
    refine .inr ⟨e.1.2, rfl, ?_⟩
    unfold getA
    rw [getE_mem h.ids (List.mem_cons_self ..)]
    rfl
set_option maxRecDepth 100000 in
theorem tick1_any (q g m : Nat) (t : RB) (M : List (Int × Ky)) (w : World) (h : AugAt w q g m t M) (hok : ∀ x, fstL (listT t) = some x → (Lit.int .i64 x).wf = true) :
    Calls Tryz.prog 71 (#[.pointer (some ⟨q, 0, none⟩)] ++ #[]) w fun e w' => e = .returned (.int .u64 (tickL (listT t))) ∧ Below w.heap.size w w' := by
  have hp := afirst_any q g m t M w h
  unfold IdW at hp
  have H := Lib.hid h
  have hft := fst_tick h.inv
  clear h
  simp only [List.append_toArray, List.cons_append, List.nil_append]
  rcases hft with ⟨h1, h2⟩ | ⟨x, h1, h2⟩
  · rw [h1] at hp
    rw [h2]
    simp only [Option.getD_none, Option.isSome_none] at hp
    clear h1 h2 hok
    go_enter Tryz.func71, Tryz.ntmps71
    go_wp2_with fail
    refine hp.mono ?_
    clear hp
    rintro e w2 ⟨rfl, hb2⟩
    have HB2 := Lib.hid hb2
    clear hb2
    go_wp2_with fail
    go_ret
    exact ⟨rfl, HB2.out⟩
  · have hx := hok x h1
    rw [h1] at hp
    rw [← h2]
    simp only [Option.getD_some, Option.isSome_some] at hp
    clear h1 h2 hok
    go_enter Tryz.func71, Tryz.ntmps71
    go_wp2_with fail
    refine hp.mono ?_
    clear hp
    rintro e w2 ⟨rfl, hb2⟩
    have hg := aget_any q g m x t M w2 (H.out.later hb2) hx
    unfold GetAW at hg
    rw [getA_of] at hg
    have HB2 := Lib.hid hb2
    clear hb2
    go_wp2_with fail
    refine hg.mono ?_
    clear hg
    rintro e w3 ⟨rfl, hb3⟩
    have HB3 := Lib.hid (HB2.out.trans (hb3.mono HB2.out.size))
    clear hb3
    go_wp2_with fail
    go_ret
    exact ⟨rfl, HB3.out⟩
set_option maxRecDepth 100000 in
theorem rtick_any (r : Nat) (S : Nat → Prop) (L : List En) (w : World) (h : RowX w r S L) (hok : OkE L) :
    Calls Tryz.prog 38 #[.pointer (some ⟨r, 0, none⟩)] w fun e w' => e = .returned (.int .u64 (tickL L)) ∧ Below w.heap.size w w' := by
  obtain ⟨q, g, m, t, M, hA, rfl, hS⟩ := h
  have hp := tick1_any q g m t M w hA.at_ (fun x hx => by
    unfold fstL at hx
    cases hL : listT t with
    | nil => rw [hL] at hx; cases hx
    | cons e L =>
      rw [hL] at hx
      cases hx
      exact (hok e (by rw [hL]; exact List.mem_cons_self ..)).2.1)
  have hask := ask_u64 r q _ _ 9223372036854775808 w _ hA.row (enters_of Tryz.func71 (by kernel_rfl) rfl) hp (fun e W h => ⟨_, h.1⟩)
  generalize tickL (listT t) = x at hask ⊢
  clear hA hS hp hok
  go_enter Tryz.func38, Tryz.ntmps38
  go_wp2_with fail
  refine hask.mono ?_
  clear hask
  rintro e w2 ⟨rfl, hb2⟩
  have HB2 := Lib.hid hb2
  clear hb2
  go_wp2_with fail
  go_ret
  exact ⟨rfl, HB2.out⟩
set_option maxRecDepth 100000 in
theorem rlen_any (r : Nat) (S : Nat → Prop) (L : List En) (w : World) (h : RowX w r S L) :
    Calls Tryz.prog 40 #[.pointer (some ⟨r, 0, none⟩)] w fun e w' => e = .returned (.int .i64 L.length) ∧ w = w' := by
  obtain ⟨q, g, m, t, M, hA, rfl, hS⟩ := h
  have hp := alen_any q g m t M w hA.at_
  have hp2 : Calls Tryz.prog 74 (#[.pointer (some ⟨q, 0, none⟩)] ++ #[]) w fun e w' => e = .returned (.int .i64 (listT t).length) ∧ w = w' := by simpa using hp
  have hask := ask_int r q _ #[] 0 w _ hA.row (enters_of Tryz.func74 (by kernel_rfl) rfl) hp2 (fun e W h => ⟨_, h.1⟩)
  clear hA hS hp hp2
  go_enter Tryz.func40, Tryz.ntmps40
  go_wp2_with fail
  refine hask.mono ?_
  clear hask
  rintro e w2 ⟨rfl, rfl⟩
  go_wp2_with fail
  go_ret
  exact ⟨rfl, rfl⟩
set_option maxRecDepth 100000 in
theorem rids_any (r : Nat) (S : Nat → Prop) (L : List En) (w : World) (h : RowX w r S L) (hfew : L.length < 1000000) :
    Calls Tryz.prog 37 #[.pointer (some ⟨r, 0, none⟩)] w (IdsW w L) := by
  obtain ⟨q, g, m, t, M, hA, rfl, hS⟩ := h
  have hp := aids_any q g m t M w hA.at_ hfew
  have hp2 : Calls Tryz.prog 69 (#[.pointer (some ⟨q, 0, none⟩)] ++ #[]) w (IdsW w (listT t)) := by simpa using hp
  have hask := ask_ids r q _ #[] w _ hA.row (enters_of Tryz.func69 (by kernel_rfl) rfl) hp2 (fun e W h => by obtain ⟨v, h1, _⟩ := h; exact ⟨v, h1⟩)
  clear hA hS hp hp2
  go_enter Tryz.func37, Tryz.ntmps37
  go_wp2_with fail
  refine hask.mono ?_
  clear hask
  rintro e w2 ⟨v, rfl, h1, h2, h3⟩
  have H := Lib.hid (And.intro h1 (And.intro h2 h3))
  clear h1 h2 h3
  go_wp2_with fail
  go_ret
  exact ⟨v, rfl, H.out⟩
end Go.Proofs.YtbnnkkojlclgjaaGreat
