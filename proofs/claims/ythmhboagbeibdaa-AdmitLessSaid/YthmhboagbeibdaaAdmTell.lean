/-
  The book of curves: Live, Ids, Ghosts, Settle.
-/
import Derived.Test.YthmhboagbeibdaaAdmPut
namespace Go.Proofs.Ythmhboagbeibdaa
set_option linter.unusedVariables false
open Go.RowKit Go.Maps Go.Sort

def LiveW (w : World) (L : List (Int × Cv)) (id : Int) (e : Ending) (w' : World) : Prop :=
  e = .returned (.tuple #[cvV ((lookM L id).getD (0, 0, 0)), .bool (lookM L id).isSome]) ∧ Below w.heap.size w w'
set_option maxRecDepth 100000 in
theorem live_any (id : Int) (g m : Nat) (r : Int) (L : List (Int × Cv)) (G : List Cv) (vg : Value) (w : World) (hid : (Lit.int .i64 id).wf = true) (h : BkAt w g m r L G vg) :
    Calls Try.prog 17 #[.pointer (some ⟨g, 0, none⟩), .int .i64 id] w (LiveW w L id) := by
  have hb0 := (Below.refl w.heap.size w).alloc (Nat.le_refl _) (.cells #[.int .u64 0, .int .u64 0, .int .u64 0] 25)
  have h0 := h.later hb0
  have hn := bnone_no g r _ (h0.blk.cell 0) h.rate.1
  have hlook := h0.map.look_ok (k := id) (E := 25) (T := 56) (z := cvV (0, 0, 0)) Try.underlying3 Try.underlying56 (by exact Try.zeroValue25 _) hid
  have y1 := h0.blk.cell 1
  have hB := Blk.new w 25 #[.int .u64 0, .int .u64 0, .int .u64 0]
  have z0 := hB.cell 0; have z1 := hB.cell 1; have z2 := hB.cell 2; have f0 := hB.frozen 0; have f1 := hB.frozen 1; have f2 := hB.frozen 2
  simp only [List.getElem?_toArray, List.getElem?_cons_zero, List.getElem?_cons_succ] at y1 z0 z1 z2
  have hval : (lookM (mapV cvV L) id).getD (cvV (0, 0, 0)) = cvV ((lookM L id).getD (0, 0, 0)) := by rw [look_map]; cases lookM L id <;> rfl
  have hsm : (lookM (mapV cvV L) id).isSome = (lookM L id).isSome := by rw [look_map]; cases lookM L id <;> rfl
  rw [hval, hsm] at hlook
  unfold LiveW
  generalize (lookM L id).isSome = bs at hlook ⊢
  generalize (lookM L id).getD (0, 0, 0) = c at hlook ⊢
  obtain ⟨CF, CL, CR⟩ := c
  unfold cvV at hlook ⊢
  dsimp only at hlook ⊢
  have HB := Lib.hid (And.intro hb0 hB)
  clear h h0 hval hsm hb0 hB
  go_enter Try.func17, Try.ntmps17
  go_wp2_with (go_at_call 29; refine hn.mono ?_; rintro e w1 ⟨rfl, rfl⟩)
  have hE := (Blk.new w 25 #[.int .u64 CF, .int .u64 CL, .int .u64 CR]).alloc (.cells #[.int .u64 CF, .int .u64 CL, .int .u64 CR] 25)
  have q0 := hE.cell 0; have q1 := hE.cell 1; have q2 := hE.cell 2
  simp only [List.getElem?_toArray, List.getElem?_cons_zero, List.getElem?_cons_succ] at q0 q1 q2
  refine bodyPost_ret (v := .tuple #[.agg #[.int .u64 CF, .int .u64 CL, .int .u64 CR], .bool bs]) (by simp [results, Try.results17, go_sem, q0, q1, q2]) rfl ⟨rfl, ((Below.refl w.heap.size w).alloc (Nat.le_refl _) _).alloc (by simp) _⟩
theorem ids_any (g m : Nat) (r : Int) (L : List (Int × Cv)) (G : List Cv) (vg : Value) (w : World) (h : BkAt w g m r L G vg) :
    Calls Try.prog 35 #[.pointer (some ⟨g, 0, none⟩)] w (KeysW w (L.map (·.1))) := by
  have hk := keys_any m (mapV cvV L) w h.map (by rw [mapV_length]; have := h.few; omega)
  rw [mapV_keys] at hk
  have hn := bnone_no g r w (h.blk.cell 0) h.rate.1
  have y1 := h.blk.cell 1
  simp only [List.getElem?_toArray, List.getElem?_cons_zero, List.getElem?_cons_succ] at y1
  clear h
  go_enter Try.func35, Try.ntmps35
  go_wp2_with (go_at_call 29; refine hn.mono ?_; rintro e w1 ⟨rfl, rfl⟩)
  refine hk.mono ?_
  clear hk y1
  rintro e w2 ⟨v, rfl, ho, hb⟩
  go_wp2_with fail
  go_ret
  exact ⟨v, rfl, ho, hb⟩
theorem ghosts_any (g m : Nat) (r : Int) (L : List (Int × Cv)) (G : List Cv) (vg : Value) (w : World) (h : BkAt w g m r L G vg) :
    Calls Try.prog 34 #[.pointer (some ⟨g, 0, none⟩)] w (CloneW w w G) := by
  obtain ⟨ag, cg, rfl⟩ : ∃ a cap, vg = .slice a G.length cap := by obtain ⟨_, _, a, cap, e, _⟩ := h.gh; exact ⟨a, cap, e⟩
  have hk := clone_row w w _ G h.gh (Nat.le_refl _)
  have hn := bnone_no g r w (h.blk.cell 0) h.rate.1
  have y1 := h.blk.cell 2
  simp only [List.getElem?_toArray, List.getElem?_cons_zero, List.getElem?_cons_succ] at y1
  clear h
  go_enter Try.func34, Try.ntmps34
  go_wp2_with (go_at_call 29; refine hn.mono ?_; rintro e w1 ⟨rfl, rfl⟩)
  refine hk.mono ?_
  clear hk y1
  rintro e w2 ⟨v, rfl, ho, hb⟩
  go_wp2_with fail
  go_ret
  exact ⟨v, rfl, ho, hb⟩

theorem grown_at (W : World) (q o : Nat) (v : Value) : W.grownBy (W.setCell ⟨q, o, none⟩ v) (some q) :=
  ⟨rfl, rfl, rfl, by simp [World.setCell], fun k hk hne => Below.heap_setCell W ⟨q, o, none⟩ v k (by show k ≠ q; rintro rfl; exact hne rfl)⟩
def SettleW (w : World) (g m : Nat) (r : Int) (L : List (Int × Cv)) (G : List Cv) (e : Ending) (w' : World) : Prop :=
  e = .returned (.int .i64 G.length) ∧ BkAt w' g m r L [] (.slice none 0 0) ∧ w.grownBy w' (some g)
theorem settle_any (g m : Nat) (r : Int) (L : List (Int × Cv)) (G : List Cv) (vg : Value) (w : World) (h : BkAt w g m r L G vg) :
    Calls Try.prog 20 #[.pointer (some ⟨g, 0, none⟩)] w (SettleW w g m r L G) := by
  obtain ⟨ag, cg, rfl⟩ : ∃ a cap, vg = .slice a G.length cap := by obtain ⟨_, _, a, cap, e, _⟩ := h.gh; exact ⟨a, cap, e⟩
  have hn := bnone_no g r w (h.blk.cell 0) h.rate.1
  have y1 := h.blk.cell 2; have z1 := h.blk.frozen 2
  simp only [List.getElem?_toArray, List.getElem?_cons_zero, List.getElem?_cons_succ] at y1
  have hg := grown_at w g 2 (.slice none 0 0)
  have hfin : BkAt (w.setCell ⟨g, 2, none⟩ (.slice none 0 0)) g m r L [] (.slice none 0 0) :=
    ⟨by simpa using h.blk.set_ 2 (.slice none 0 0), h.map.kept hg (by simpa using (Ne.symm h.ne)), ⟨fun c hc => by simp at hc, by simp, none, 0, rfl, .inl rfl⟩, h.u, h.wf, by have := h.few; simp; omega, h.rate⟩
  have HF := Lib.hid (And.intro hfin hg)
  clear h hfin hg
  go_enter Try.func20, Try.ntmps20
  go_wp2_with (go_at_call 29; refine hn.mono ?_; rintro e w1 ⟨rfl, rfl⟩)
  go_ret
  exact ⟨rfl, HF.out.1, HF.out.2⟩
end Go.Proofs.Ythmhboagbeibdaa
