/-
  The tree: the iterator over all entries; the first one.
-/
import Derived.Test.YtbnnkkojlclgjaaGreatRbEach
namespace Go.Proofs.YtbnnkkojlclgjaaGreat
set_option linter.unusedVariables false
open Go.RowKit Go.Shelf
section
attribute [local go_sem] Oper.semAt_some

theorem Each_any (g : Nat) (w : World) :
    Calls Tryz.prog 83 #[.pointer (some ⟨g, 0, none⟩)] w fun e w' => e = .returned (.func (.func 94) #[] #[.pointer (some ⟨w.heap.size, 0, none⟩)]) ∧ w.alloc (.cells #[.pointer (some ⟨g, 0, none⟩)] 78) = w' := by
  go_enter Tryz.func83, Tryz.ntmps83
  go_wp2
  go_ret
  exact ⟨rfl, rfl⟩
set_option maxRecDepth 100000 in
set_option maxHeartbeats 4000000 in
theorem each_stops (n n0 B g : Nat) (m : Int) (t : RB) (w : World) (hB : Blk w B 78 #[.pointer (some ⟨g, 0, none⟩)]) (hg : Blk w g 129 (treeC (ptrV t) m)) (hr : RBAt w t) (hlt : ∀ a ∈ addrs t, a < n0) (hn0 : n0 ≤ w.heap.size) :
    SeqStopsK Fence.wide n Tryz.prog 94 #[.pointer (some ⟨B, 0, none⟩)] encE (Below n0) (fun ys => ys = listT t) (fun pre => pre <+: listT t) (listT t).length w := fun l J Jx W hW hJ hJx hY h0 => by
  have hcon := each_in l n0 (listT t).length J Jx (fun s A C hs hg => hJ s A C none hs hg (fun r e => by cases e)) (fun s A C hs hg => hJx s A C none hs hg (fun r e => by cases e)) (fun m pre x W1 hj hl => yield_any m (hY pre x W1 hj hl)) t (n - 1) [] W (hr.later hW) hlt (Nat.le_trans hn0 hW.size) h0 (by simp)
  have hg2 := hg.below hW hg.lt
  have hnone : CallsIn Fence.wide (n - 1) Tryz.prog _ _ W _ := callsIn_wide.2 (none_any g _ _ W hg2)
  have c0 := (hB.below hW hB.lt).cell 0
  have c2 := hg2.cell 2
  unfold treeC at c2
  simp only [List.getElem?_toArray, List.getElem?_cons_zero, List.getElem?_cons_succ] at c0 c2
  have hJn := Lib.hid hJ
  clear hB hg hr hlt hn0 hW hJ hJx hY h0 hg2
  refine callsIn_of_wp Tryz.func94 rfl trivial ?_ rfl
  simp only [Tryz.ntmps94, List.size_toArray, List.length_cons, List.length_nil, Nat.reduceAdd, Nat.reduceSub, Array.replicate_succ, Array.replicate_zero, List.push_toArray, List.append_toArray, List.nil_append, List.cons_append]
  gi_wp2
  refine ⟨trivial, room_wideE, hnone.mono ?_⟩
  clear hnone
  rintro e w1 ⟨rfl, rfl⟩
  gi_wp2
  refine ⟨trivial, room_wideE, hcon.mono ?_⟩
  clear hcon
  rintro e w2 (⟨rfl, hj, -⟩ | ⟨rfl, q, hq, hx⟩)
  · gi_wp2
    go_end0
    exact ⟨⟨_, rfl⟩, .inl ⟨_, rfl, by simpa using hj⟩⟩
  · gi_wp2
    go_end0
    exact ⟨⟨_, rfl⟩, .inr ⟨q, hq, by simpa using hx⟩⟩
def FirstW (w : World) (L : List En) (e : Ending) (w' : World) : Prop := e = .returned (.tuple #[.agg #[.int .u64 ((L.head?.map (·.1)).getD (0, 0)).1, .int .i64 ((L.head?.map (·.1)).getD (0, 0)).2], .bool (!L.isEmpty)]) ∧ Below w.heap.size w w'
theorem blk_own {β : Type} (n0 B : Nat) (t : TypeId) (cs : Array Value) : OwnFrom n0 (fun (_ : β) W => Blk W B t cs) :=
  fun s X Y row hs hg hr => hs.grown hg (fun e => by obtain ⟨o, ho, hc⟩ := (hr _ e.symm).2; rw [show X.heap[B]? = _ from hs] at ho; cases ho; cases hc)
theorem keeps_belowE {W W' : World} (h : Below W.heap.size W W') : KeepsOthers W W' := ⟨h.size, fun k _ hk _ => (h.block k (Array.getElem?_eq_some_iff.1 hk).1).trans hk⟩
theorem blk_put {W : World} {B D : Nat} {t : TypeId} {cs : Array Value} {ds : Option (List Deferred)} (h : Blk W B t cs) (hK : W.heap[D]? = some (.deferred ds)) (o : Obj) : Blk (W.putObj D o) B t cs := by
  have hne : B ≠ D := fun e => by subst e; have := h.symm.trans hK; cases this
  exact (World.putObj_heap_other hne).trans h
set_option maxRecDepth 100000 in
set_option maxHeartbeats 4000000 in
theorem first_any (g : Nat) (m : Int) (t : RB) (w : World) (hg : Blk w g 129 (treeC (ptrV t) m)) (hr : RBAt w t) :
    Calls Tryz.prog 84 #[.pointer (some ⟨g, 0, none⟩)] w (FirstW w (listT t)) := by
  refine (callsIn_wide (n := 9)).1 ?_
  refine callsIn_of_wp_marks Tryz.func84 rfl trivial ?_ rfl
  simp only [Tryz.ntmps84, List.size_toArray, List.length_cons, List.length_nil, Nat.reduceAdd, Nat.reduceSub, Array.replicate_succ, Array.replicate_zero, List.push_toArray, List.append_toArray, List.nil_append, List.cons_append]
  gi_wp2_with (refine ⟨trivial, ?_⟩; gi_at_call 83; refine (callsIn_wide.2 (Each_any g _)).mono ?_; rintro e w' ⟨rfl, rfl⟩)
  obtain ⟨W0, hW0, bR, bI, bC, hB0, hsz⟩ : ∃ W0, ((w.alloc (.cells #[.int .u64 0, .int .i64 0] 131)).alloc (.cells #[.bool false] 4)).alloc (.cells #[.pointer (some ⟨g, 0, none⟩)] 78) = W0 ∧ Blk W0 w.heap.size 131 #[.int .u64 0, .int .i64 0] ∧ Blk W0 (w.heap.size + 1) 4 #[.bool false] ∧ Blk W0 (w.heap.size + 1 + 1) 78 #[.pointer (some ⟨g, 0, none⟩)] ∧ Below w.heap.size w W0 ∧ W0.heap.size = w.heap.size + 3 := by
    refine ⟨_, rfl, ?_⟩
    have h1 := (((Blk.new w 131 #[.int .u64 0, .int .i64 0]).alloc (.cells #[.bool false] 4)).alloc (.cells #[.pointer (some ⟨g, 0, none⟩)] 78))
    have h2 := ((Blk.new (w.alloc (.cells #[.int .u64 0, .int .i64 0] 131)) 4 #[.bool false]).alloc (.cells #[.pointer (some ⟨g, 0, none⟩)] 78))
    have h3 := (Blk.new ((w.alloc (.cells #[.int .u64 0, .int .i64 0] 131)).alloc (.cells #[.bool false] 4)) 78 #[.pointer (some ⟨g, 0, none⟩)])
    simp only [World.size_alloc] at h1 h2 h3
    exact ⟨h1, h2, h3, by go_grown, by simp⟩
  try simp only [World.size_alloc]
  rw [hW0]
  clear hW0
  refine wpIn_rangeFunc_ownH rfl (by omega) (gf := 94) (lb := #[.pointer (some ⟨w.heap.size + 1 + 1, 0, none⟩)]) rfl trivial (enters_of Tryz.func94 (by kernel_rfl) rfl)
    (each_stops _ w.heap.size (w.heap.size + 1 + 1) g m t W0 bC (hg.below hB0 hg.lt) (hr.later hB0) hr.lt hB0.size) belowK_t (belowK_b (by omega)) (Below.refl _ _) (fun _ => rfl)
    (fun pre W => (pre = [] ∧ Blk W w.heap.size 131 #[.int .u64 0, .int .i64 0] ∧ Blk W (w.heap.size + 1) 4 #[.bool false]) ∧ Below w.heap.size w W)
    (fun c pre W => ((c = .ret ∧ ∃ x, pre = [x] ∧ Blk W w.heap.size 131 #[.int .u64 x.1.1, .int .i64 x.1.2] ∧ Blk W (w.heap.size + 1) 4 #[.bool true])) ∧ Below w.heap.size w W)
    (OwnFrom.and (fun s X Y row hs hg hr => ⟨hs.1, blk_own (β := Unit) _ _ _ _ () X Y row hs.2.1 hg hr, blk_own (β := Unit) _ _ _ _ () X Y row hs.2.2 hg hr⟩) (ownFrom_below (Nat.le_refl _) (by omega)))
    (fun c => OwnFrom.and (fun s X Y row hs hg hr => by obtain ⟨h1, x, h2, h3, h4⟩ := hs; exact ⟨h1, x, h2, blk_own (β := Unit) _ _ _ _ () X Y row h3 hg hr, blk_own (β := Unit) _ _ _ _ () X Y row h4 hg hr⟩) (ownFrom_below (Nat.le_refl _) (by omega)))
    ⟨⟨rfl, bR, bI⟩, hB0⟩
    (fun x a' W => ∃ Bx, w.heap.size + 1 < Bx ∧ Blk W Bx 131 #[.int .u64 x.1.1, .int .i64 x.1.2] ∧ a' = { tmps := #[.pointer (some ⟨g, 0, none⟩), undef, .pointer (some ⟨w.heap.size, 0, none⟩), .pointer (some ⟨w.heap.size + 1, 0, none⟩), .pointer (some ⟨Bx, 0, none⟩), .pointer (some ⟨g, 0, none⟩), .func (.func 94) #[] #[.pointer (some ⟨w.heap.size + 1 + 1, 0, none⟩)], .agg #[.int .u64 x.1.1, .int .i64 x.1.2], .int .u64 x.2, undef, undef], defers := [] })
    (fun x a' _ X Y row hs hg hr => by obtain ⟨Bx, h1, h2, h3⟩ := hs; exact ⟨Bx, h1, blk_own (β := Unit) _ _ _ _ () X Y row h2 hg hr, h3⟩)
    ?assign ?body ?done ?stop
  case assign =>
    rintro l pre x W K ⟨⟨h0, b1, b2⟩, hB1⟩ hK
    gi_wp2
    exact hK _ _ ((KeepsOthers.alloc _ _).from _) ((Below.refl _ _).alloc hB1.size _) ⟨⟨h0, b1.alloc _, b2.alloc _⟩, hB1.alloc hB1.size _⟩ ⟨W.heap.size, by have := b2.lt; omega, Blk.new W _ _, rfl⟩
  case body =>
    rintro l pre x a' W hl ⟨r, hr⟩ ⟨⟨h0, b1, b2⟩, hB1⟩ ⟨Bx, hBx, bX, rfl⟩ hlt
    subst h0
    have c0 := bX.cell 0; have c1 := bX.cell 1
    have r0 := b1.cell 0; have r1 := b1.cell 1; have i0 := b2.cell 0
    have f0 := b1.frozen 0; have f1 := b1.frozen 1; have g0 := b2.frozen 0
    simp only [List.getElem?_toArray, List.getElem?_cons_zero, List.getElem?_cons_succ] at c0 c1 r0 r1 i0
    have h1 := ((b1.set_ 0 (.int .u64 x.1.1)).set_ 1 (.int .i64 x.1.2)).far (p := ⟨w.heap.size + 1, 0, none⟩) (by simp) (.bool true)
    have h2 := ((b2.far (p := ⟨w.heap.size, 0, none⟩) (by simp) (.int .u64 x.1.1)).far (p := ⟨w.heap.size, 1, none⟩) (by simp) (.int .i64 x.1.2)).set_ 0 (.bool true)
    have h3 := ((hB1.setCell (p := ⟨w.heap.size, 0, none⟩) (Nat.le_refl _) (.int .u64 x.1.1)).setCell (p := ⟨w.heap.size, 1, none⟩) (Nat.le_refl _) (.int .i64 x.1.2)).setCell (p := ⟨w.heap.size + 1, 0, none⟩) (by simp) (.bool true)
    simp at h1 h2
    have H := Lib.hid (And.intro h1 (And.intro h2 h3))
    clear b1 b2 bX hB1 h1 h2 h3
    gi_wp2
    exact ⟨(((KeepsOthers.setCell _ _ _).trans (KeepsOthers.setCell _ _ _)).trans (KeepsOthers.setCell _ _ _)).from _, ⟨rfl, x, rfl, H.out.1, H.out.2.1⟩, H.out.2.2⟩
  case done =>
    rintro D xs W hD rfl ⟨⟨h0, b1, b2⟩, hB1⟩ hK
    have r0 := b1.cell 0; have r1 := b1.cell 1; have i0 := b2.cell 0
    have f0 := b1.frozen 0; have f1 := b1.frozen 1; have g0 := b2.frozen 0
    simp only [List.getElem?_toArray, List.getElem?_cons_zero, List.getElem?_cons_succ] at r0 r1 i0
    have h1 := ((b1.set_ 0 (.int .u64 0)).set_ 1 (.int .i64 0)).far (p := ⟨w.heap.size + 1, 0, none⟩) (by simp) (.bool false)
    have h2 := ((b2.far (p := ⟨w.heap.size, 0, none⟩) (by simp) (.int .u64 0)).far (p := ⟨w.heap.size, 1, none⟩) (by simp) (.int .i64 0)).set_ 0 (.bool false)
    have h3 := ((hB1.setCell (p := ⟨w.heap.size, 0, none⟩) (Nat.le_refl _) (.int .u64 0)).setCell (p := ⟨w.heap.size, 1, none⟩) (Nat.le_refl _) (.int .i64 0)).setCell (p := ⟨w.heap.size + 1, 0, none⟩) (by simp) (.bool false)
    have hK2 := (((KeepsOthers.setCell W ⟨w.heap.size, 0, none⟩ (.int .u64 0)).trans (KeepsOthers.setCell _ ⟨w.heap.size, 1, none⟩ (.int .i64 0))).trans (KeepsOthers.setCell _ ⟨w.heap.size + 1, 0, none⟩ (.bool false))).same D _ hK rfl
    simp at h1 h2
    have H := Lib.hid (And.intro h1 (And.intro h2 (And.intro h3 hK2)))
    have HL := Lib.hid h0
    have HSZ := Lib.hid hB1.size
    clear b1 b2 h1 h2 h3 hK2 hB1
    gi_wp2
    obtain ⟨h1, h2, h3, hK2⟩ := H.out
    have e1 := (blk_put h1 hK2 (.deferred none)).cell 0
    have e2 := (blk_put h1 hK2 (.deferred none)).cell 1
    have e3 := (blk_put h2 hK2 (.deferred none)).cell 0
    simp only [List.getElem?_toArray, List.getElem?_cons_zero, List.getElem?_cons_succ] at e1 e2 e3
    refine ⟨by simp, .inl ⟨_, _, rfl, run_takeDeferred hK2, ?_⟩⟩
    refine ⟨.tuple #[.agg #[.int .u64 0, .int .i64 0], .bool false], by simp [results, Tryz.results84, go_sem, e1, e2, e3], ⟨by rw [HL.out]; rfl, h3.trans (belowK_b (w := w) (Nat.le_refl _) _ D _ _ (by have := HSZ.out; omega) hK2 rfl rfl)⟩⟩
  case stop =>
    rintro D c pre W hD hpre ⟨⟨rfl, x, rfl, b1, b2⟩, hB1⟩ hK
    gi_wp2
    have e1 := (blk_put b1 hK (.deferred none)).cell 0
    have e2 := (blk_put b1 hK (.deferred none)).cell 1
    have e3 := (blk_put b2 hK (.deferred none)).cell 0
    simp only [List.getElem?_toArray, List.getElem?_cons_zero, List.getElem?_cons_succ] at e1 e2 e3
    obtain ⟨L, hL⟩ := hpre
    refine ⟨by simp, .inl ⟨_, _, rfl, run_takeDeferred hK, ?_⟩⟩
    refine ⟨.tuple #[.agg #[.int .u64 x.1.1, .int .i64 x.1.2], .bool true], by simp [results, Tryz.results84, go_sem, e1, e2, e3], ⟨by rw [← hL]; rfl, hB1.trans (belowK_b (w := w) (Nat.le_refl _) _ D _ _ (by have := hB1.size; omega) hK rfl rfl)⟩⟩
end
end Go.Proofs.YtbnnkkojlclgjaaGreat
