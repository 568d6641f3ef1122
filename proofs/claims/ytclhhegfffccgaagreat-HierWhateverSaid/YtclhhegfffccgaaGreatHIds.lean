/-
  A tree of classes: Ids, Under.
-/
import Derived.Test.YtclhhegfffccgaaGreatHRead
namespace Go.Proofs.YtclhhegfffccgaaGreat
set_option linter.unusedVariables false
open Go.RowKit Go.Maps Go.Sort Go.Shelf

theorem sortsI (m : Nat) : AnyZI.SortsIn Tryz.prog sortedI_ren Fence.wide m :=
  ⟨fun blk off cap ss W hH hblk hsz => callsIn_wide.2 (AnyM.slices_Sort_int sortI blk off cap ss W hH hblk hsz),
   fun p cap W => callsIn_wide.2 (AnyM.slices_Sort_int_none sortI p cap W)⟩
/-- numbers handed back in memory of the call's own -/
def IdsW (w : World) (l : List Int) (e : Ending) (w' : World) : Prop := ∃ v, e = .returned v ∧ w'.ownsRow w.heap.size 3 1 v l.length (l.map (Value.int .i64)) ∧ Below w.heap.size w w'
theorem sorted_postH (M : Mp) (w : World) (m : Nat) (h : MapI Tryz.prog 3 w m (mapV clV M)) (e : Ending) (W : World) (hh : ∃ (v : Value) (ss : List Int), e = .returned v ∧ ss.Perm (intKeys (toD (mapV clV M))) ∧
      W.ownsRow (w.alloc (.cells #[.map (some m)] 55)).heap.size (sortedI_ren.t 26) 1 v ss.length ((ss.mergeSort (fun x y => decide (x ≤ y))).map encZ) ∧ (v = .slice none 0 0 ↔ ss = []) ∧ Below (w.alloc (.cells #[.map (some m)] 55)).heap.size (w.alloc (.cells #[.map (some m)] 55)) W) : IdsW w (M.map (·.1)) e W := by
  obtain ⟨v, ss, he, hS, hrow, hnil, hb⟩ := hh
  rw [intKeys_toD, mapV_keys] at hS
  have hr := h.rising (int_keyed Tryz.underlying3)
  have hks := sorted_keys hr (ss := ss) (by rw [mapV_keys]; exact hS)
  rw [mapV_keys] at hks
  rw [hks] at hrow
  have hl := hS.length_eq
  rw [hl] at hrow
  exact ⟨v, he, owns_baseH (show W.ownsRow _ 3 1 v (M.map (·.1)).length ((M.map (·.1)).map (Value.int .i64)) from hrow) (by simp), ((Below.refl _ w).alloc (Nat.le_refl _) _).trans (hb.mono (by simp))⟩

set_option maxHeartbeats 1000000 in
theorem tids_any (base g ma mu : Nat) (U : List (Int × Value)) (M : Mp) (w : World) (h : TreeX w base g ma mu U M) :
    Calls Tryz.prog 17 #[.pointer (some ⟨g, 0, none⟩)] w (IdsW w (M.map (·.1))) := by
  refine (callsIn_wide (n := 6)).1 ?_
  have hbl := h.all.lt
  have c0 := h.blk.cell 0
  simp only [List.getElem?_toArray, List.getElem?_cons_zero, List.getElem?_cons_succ] at c0
  have hn0 := htnone_no g ma _ w h.blk
  have hfew := h.inv.few
  have h1 := h.all.kept (World.grownBy_alloc w (.cells #[.map (some ma)] 55) none) (by simp)
  unfold MapI at h1
  have hseq : SeqGives Fence.wide 2 Tryz.prog 64 #[.pointer (some ⟨w.heap.size, 0, none⟩)] encZ (fun ss => ss.Perm (intKeys (toD (mapV clV M)))) (Maps.size (toD (mapV clV M))) (w.alloc (.cells #[.map (some ma)] 55)) :=
    AnyZI.keys_gives (ρ := keysH_ren) { keysH with } Fence.wide _ trivial rfl (by omega) w.heap.size ma _ (toD (mapV clV M)) _ (by simp) (by simp) h1
  have cK : ∀ mb W, CallsIn Fence.wide 5 Tryz.prog 46 #[.map mb] W fun e w' => e = .returned (.func (.func 64) #[] #[.pointer (some ⟨W.heap.size, 0, none⟩)]) ∧ w' = W.alloc (.cells #[.map mb] 55) := fun mb W => AnyZI.keys_in keysH Fence.wide 5 trivial rfl mb W
  have hsz : Maps.size (toD (mapV clV M)) < 1000000 := by rw [size_toD, mapV_length]; omega
  have cS := AnyZI.sorted_in sortedI Fence.wide 5 trivial trivial trivial trivial rfl (by omega) (sortsI _) (enters_of Tryz.func47 (by kernel_rfl) rfl) 64 #[.pointer (some ⟨w.heap.size, 0, none⟩)] trivial (enters_of Tryz.func64 (by kernel_rfl) rfl) _ _ (by unfold maxLen; omega) (by omega) _ hseq
  change CallsIn _ _ Tryz.prog 45 _ _ _ at cS
  have hfK : Fence.wide.fn 46 := trivial
  have hfS : Fence.wide.fn 45 := trivial
  have hfN : Fence.wide.fn 26 := trivial
  have hnF : CallsIn Fence.wide 5 Tryz.prog 26 #[.pointer (some ⟨g, 0, none⟩)] w _ := callsIn_wide.2 hn0
  have cS := cS.mono (sorted_postH M w ma h.all)
  clear h1 hseq hn0 hsz h
  refine callsIn_of_wp Tryz.func17 rfl trivial ?_ rfl
  simp only [Tryz.ntmps17, List.size_toArray, List.length_cons, List.length_nil, Nat.reduceAdd, Nat.reduceSub, Array.replicate_succ, Array.replicate_zero, List.push_toArray, List.append_toArray, List.nil_append, List.cons_append]
  gi_wp2_with (first
    | (gi_at_call 26; refine hnF.mono ?_; rintro e w' ⟨rfl, rfl⟩)
    | (gi_at_call 46; refine (cK _ _).mono ?_; rintro e w' ⟨rfl, rfl⟩)
    | (gi_at_call 45; refine cS.mono ?_; rintro e W ⟨v, rfl, hrow, hb⟩))
  go_ret
  exact ⟨_, rfl, hrow, hb⟩

theorem clone_int (base : Nat) (v : Value) (l : List Int) (w : World) (h : w.ownsRow base 3 1 v l.length (l.map (Value.int .i64))) (hl : l.length ≤ 1000) :
    Calls Tryz.prog 37 #[v] w (IdsW w l) := by
  rcases h.2 with ⟨rfl, h0⟩ | ⟨g, cap, cur, rfl, h1, h2, h3, h4⟩
  · obtain rfl : l = [] := List.eq_nil_of_length_eq_zero h0
    refine (AnyE.slices_Clone_nil cloneI 0 0 w).mono ?_
    rintro e w' ⟨rfl, rfl⟩
    exact ⟨_, rfl, World.ownsRow_nil _ _ _ _, Below.refl _ _⟩
  · obtain ⟨i0, hi0, hz0, hz1, hz2⟩ := info_parts info_int
    refine (AnyE.slices_Clone cloneI i0 (.int .i64 0) 1 8 hi0 hz0 hz1 hz2 rfl (by decide) (by exact Tryz.sizeOf3) g 0 l.length cap (l.map (Value.int .i64)) w (by simp) (by unfold maxLen; omega) (by omega) (fun j u hj => ?_) (fun u hu => ?_)).mono ?_
    · rw [Nat.zero_add, h.cellAt j (by have := (List.getElem?_eq_some_iff.1 hj).1; simp at this; omega)]
      exact hj
    · obtain ⟨x, _, rfl⟩ := List.mem_map.1 hu
      rfl
    · rintro e w' ⟨v', rfl, hr, _, hb⟩
      exact ⟨v', rfl, hr, hb⟩
set_option maxRecDepth 100000 in
set_option maxHeartbeats 1000000 in
theorem tunder_any (id : Int) (base g ma mu : Nat) (U : List (Int × Value)) (M : Mp) (w : World) (hid : (Lit.int .i64 id).wf = true) (h : TreeX w base g ma mu U M) :
    Calls Tryz.prog 21 #[.pointer (some ⟨g, 0, none⟩), .int .i64 id] w (IdsW w (kids M id)) := by
  have hn := htnone_no g ma _ _ h.blk
  have hlook := h.lookU hid
  have y1 := h.blk.cell 1
  simp only [List.getElem?_toArray, List.getElem?_cons_zero, List.getElem?_cons_succ] at y1
  have hc := clone_int base (rowV U id) (kids M id) w (h.rows id) (by have := h.inv.few; have := kids_len M id; omega)
  generalize rowV U id = v at hlook hc
  clear h
  go_enter Tryz.func21, Tryz.ntmps21
  go_wp2_with (first | (go_at_call 26; refine hn.mono ?_; rintro e w' ⟨rfl, rfl⟩) | (go_at_call 37; refine hc.mono ?_; rintro e w' ⟨v', rfl, hrow, hb⟩))
  go_ret
  exact ⟨_, rfl, hrow, hb⟩
end Go.Proofs.YtclhhegfffccgaaGreat
