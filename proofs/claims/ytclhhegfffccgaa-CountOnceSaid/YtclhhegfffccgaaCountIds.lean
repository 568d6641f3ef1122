/-
  The counters: of whom something was told.
-/
import Derived.Test.YtclhhegfffccgaaCountDo
import Derived.Test.YtclhhegfffccgaaLayC
import Derived.Shelf.AbstractIn
namespace Go.Proofs.Ytclhhegfffccgaa
set_option linter.unusedVariables false
open Go.RowKit Go.Maps Go.Sort Go.Shelf

theorem sortsI (m : Nat) : AnyZI.SortsIn Try.prog sortedI_ren Fence.wide m :=
  ⟨fun blk off cap ss W hH hblk hsz => callsIn_wide.2 (AnyM.slices_Sort_int sortI blk off cap ss W hH hblk hsz),
   fun p cap W => callsIn_wide.2 (AnyM.slices_Sort_int_none sortI p cap W)⟩

theorem gives0 (x : Int) (W : World) : FnGives Try.prog 66 #[] #[.int .i64 x] (.bool (decide (x = 0))) W := by
  show Calls Try.prog 66 #[.int .i64 x] W _
  go_enter Try.func66, Try.ntmps66
  go_wp2
  go_ret
  exact ⟨by show Ending.returned (Value.bool (x == 0)) = _; rw [show (x == 0) = decide (x = 0) by by_cases h : x = 0 <;> simp [h]], 0, rfl⟩

/-- numbers handed back in memory of the call's own -/
def IdsPost (w : World) (l : List Int) (e : Ending) (w' : World) : Prop := ∃ v, e = .returned v ∧ w'.ownsRow w.heap.size 3 1 v l.length (l.map (Value.int .i64)) ∧ Below w.heap.size w w'

theorem heap_putRowI {w : World} {g n : Nat} {cur : Array Value} {e : TypeId} {fr : Nat × Nat} (d : Array Int) (hb : w.heap[g]? = some (.cells cur e fr)) :
    (putRow (Value.int .i64) (Sort.ahead w n) g 0 d).heap[g]? = some (.cells (putCells (Value.int .i64) 0 d cur) e fr) := by
  simp [putRow, mapBlock, Sort.ahead, Array.getElem?_modify, hb, onCells]
theorem grown_putRowI {w : World} {g n : Nat} (d : Array Int) : w.grownBy (putRow (Value.int .i64) (Sort.ahead w n) g 0 d) (some g) := by
  refine ⟨rfl, rfl, rfl, by simp, fun k hk hne => ?_⟩
  have : g ≠ k := fun e => hne (by rw [e])
  simp [putRow, mapBlock, Sort.ahead, Array.getElem?_modify, this]
theorem take_putI (cur : Array Value) (ts : List Int) (n : Nat) (hn : n ≤ ts.length) (h : ts.length ≤ cur.size) : (putCells (Value.int .i64) 0 ts.toArray cur).toList.take n = (ts.take n).map (Value.int .i64) := by
  apply List.ext_getElem?
  intro j
  by_cases hj : j < n
  · rw [List.getElem?_take_of_lt hj, Array.getElem?_toList]
    simp [putCells, show j < ts.length by omega, show j < cur.size by omega, hj]
  · rw [List.getElem?_take_eq_none (by omega), List.getElem?_eq_none (by simp; omega)]

theorem pred0 (w : World) : PredAt Try.prog 66 #[] (Value.int .i64) (fun x => decide (x = 0)) w := fun W x _ => gives0 x W
theorem over0 (blk off size : Nat) (w : World) : PredOver Try.prog 66 #[] (Value.int .i64) (fun x => decide (x = 0)) blk off size w := fun n os dk x _ => gives0 x _

/-- a class of all but 0 -/
def idsB (B : Bk) : List Int := (B.map (·.1)).filter fun x => !decide (x = 0)

/-- what slices.Sorted hands back, of a map's keys -/
def SortedPost (w : World) (K : List Int) (e : Ending) (W : World) : Prop :=
  ∃ gb cap cur, e = .returned (.slice (some ⟨gb, 0, none⟩) K.length cap) ∧ W.heap[gb]? = some (.cells cur 3 (0, 0)) ∧ cur.toList.take K.length = K.map (Value.int .i64) ∧ K.length ≤ cap ∧ cap ≤ maxLen ∧ cur.size = cap * 1 ∧ w.heap.size ≤ gb ∧ Below w.heap.size w W
theorem sorted_post (B : Bk) (w : World) (m : Nat) (h : MapI Try.prog 3 w m (mapV stV B)) (hne : B ≠ []) (e : Ending) (W : World) (hh : ∃ (v : Value) (ss : List Int), e = .returned v ∧ ss.Perm (intKeys (toD (mapV stV B))) ∧
      W.ownsRow (w.alloc (.cells #[.map (some m)] 56)).heap.size (sortedI_ren.t 26) 1 v ss.length ((ss.mergeSort (fun x y => decide (x ≤ y))).map encZ) ∧ (v = .slice none 0 0 ↔ ss = []) ∧ Below (w.alloc (.cells #[.map (some m)] 56)).heap.size (w.alloc (.cells #[.map (some m)] 56)) W) : SortedPost w (B.map (·.1)) e W := by
  obtain ⟨v, ss, he, hS, hrow, hnil, hb⟩ := hh
  rw [intKeys_toD, mapV_keys] at hS
  have hr := h.rising (int_keyed Try.underlying3)
  have hks := sorted_keys hr (ss := ss) (by rw [mapV_keys]; exact hS)
  rw [mapV_keys] at hks
  rw [hks] at hrow
  have hl := hS.length_eq
  rw [hl] at hrow
  rcases hrow.2 with ⟨hv, h0⟩ | ⟨gb, cap, cur, rfl, h1, h2, h3, h4, h5, h6⟩
  · have := hnil.1 hv
    subst this
    cases B with
    | nil => exact absurd rfl hne
    | cons p r => simp at hl
  · refine ⟨gb, cap, cur, he, h2, by simpa [encZ] using h6, h3, h4, h5, by simp at h1; omega, ?_⟩
    exact ((Below.refl _ w).alloc (Nat.le_refl _) _).trans (hb.mono (by simp))

set_option maxHeartbeats 1000000 in
theorem ids_any (g m : Nat) (B : Bk) (w : World) (h : BookAt w g m B) (hn : B.length < 1000000) (hne : B ≠ []) :
    Calls Try.prog 40 #[.pointer (some ⟨g, 0, none⟩)] w (IdsPost w (idsB B)) := by
  refine (callsIn_wide (n := 6)).1 ?_
  have hbl := h.map.lt
  have c0 := h.blk.cell 0
  simp only [List.getElem?_toArray, List.getElem?_cons_zero, List.getElem?_cons_succ] at c0
  have hn0 := none_no g m w h.blk
  have h1 := h.map.kept (World.grownBy_alloc w (.cells #[.map (some m)] 56) none) (by simp)
  unfold MapI at h1
  have hseq : SeqGives Fence.wide 2 Try.prog 80 #[.pointer (some ⟨w.heap.size, 0, none⟩)] encZ (fun ss => ss.Perm (intKeys (toD (mapV stV B)))) (Maps.size (toD (mapV stV B))) (w.alloc (.cells #[.map (some m)] 56)) :=
    AnyZI.keys_gives (ρ := keysS_ren) { keysS with } Fence.wide _ trivial rfl (by omega) w.heap.size m _ (toD (mapV stV B)) _ (by simp) (by simp) h1
  have cK : ∀ mb W, CallsIn Fence.wide 5 Try.prog 65 #[.map mb] W fun e w' => e = .returned (.func (.func 80) #[] #[.pointer (some ⟨W.heap.size, 0, none⟩)]) ∧ w' = W.alloc (.cells #[.map mb] 56) := fun mb W => AnyZI.keys_in keysS Fence.wide 5 trivial rfl mb W
  have hsz : Maps.size (toD (mapV stV B)) < 1000000 := by rw [size_toD, mapV_length]; exact hn
  have cS := AnyZI.sorted_in sortedI Fence.wide 5 trivial trivial trivial trivial rfl (by omega) (sortsI _) (enters_of Try.func68 (by kernel_rfl) rfl) 80 #[.pointer (some ⟨w.heap.size, 0, none⟩)] trivial (enters_of Try.func80 (by kernel_rfl) rfl) _ _ (by unfold maxLen; omega) (by omega) _ hseq
  change CallsIn _ _ Try.prog 54 _ _ _ at cS
  have hfK : Fence.wide.fn 65 := trivial
  have hfS : Fence.wide.fn 54 := trivial
  have hfD : Fence.wide.fn 61 := trivial
  have hfN : Fence.wide.fn 49 := trivial
  have hnF : CallsIn Fence.wide 5 Try.prog 49 #[.pointer (some ⟨g, 0, none⟩)] w _ := callsIn_wide.2 hn0
  have cS := cS.mono (sorted_post B w m h.map hne)
  have hlen : (B.map (·.1)).length = B.length := by simp
  have hL := Lib.hid hlen
  obtain ⟨K, hK⟩ : ∃ K, K = B.map (·.1) := ⟨_, rfl⟩
  rw [← hK] at cS hL
  have HK := Lib.hid hK
  clear hK hlen h1 hseq hn0 hsz
  refine callsIn_of_wp Try.func40 rfl trivial ?_ rfl
  simp only [Try.ntmps40, List.size_toArray, List.length_cons, List.length_nil, Nat.reduceAdd, Nat.reduceSub, Array.replicate_succ, Array.replicate_zero, List.push_toArray, List.append_toArray, List.nil_append, List.cons_append]
  gi_wp2_with (first
    | (gi_at_call 49; refine hnF.mono ?_; rintro e w' ⟨rfl, rfl⟩)
    | (gi_at_call 65; refine (cK _ _).mono ?_; rintro e w' ⟨rfl, rfl⟩)
    | (gi_at_call 54; refine cS.mono ?_; rintro e W ⟨gb, cap, cur, rfl, hgb, hcur, hc1, hc2, hc3, hge, hb⟩))
  have hcon := AnyE.slices_DeleteFunc delI (Value.int .i64) (fun _ => rfl) (fun x => decide (x = 0)) 66 #[] (enters_of Try.func66 (by kernel_rfl) rfl) 0 Try.zeroValue3 gb 0 cap K.toArray W (pred0 W) (over0 gb 0 K.toArray.size W) (holds_of_block_i hgb (by simpa using hcur)) (by have := hL.out; simp; omega) (by simpa using hc1)
  change Calls Try.prog 61 _ _ _ at hcon
  have hcon := (callsIn_wide (n := 5)).2 hcon
  simp only [List.size_toArray] at hcon
  obtain ⟨F, hF⟩ : ∃ F, F = K.filter fun x => !decide (x = 0) := ⟨_, rfl⟩
  have hFl : F.length ≤ K.length := by rw [hF]; exact List.length_filter_le _ _
  rw [← hF] at hcon
  have HF := Lib.hid hF
  clear hF cS cK hnF c0
  refine hcon.mono ?_
  rintro e W2 ⟨rfl, q, rfl⟩
  have hKl := hL.out
  have hheap := heap_putRowI (n := q) (F ++ List.replicate (K.length - F.length) 0).toArray hgb
  have hgr := grown_putRowI (w := W) (g := gb) (n := q) (F ++ List.replicate (K.length - F.length) 0).toArray
  have htk := take_putI cur (F ++ List.replicate (K.length - F.length) 0) F.length (by simp) (by simp; omega)
  have hsz : (putCells (Value.int .i64) 0 (F ++ List.replicate (K.length - F.length) 0).toArray cur).size = cap := by simp [putCells, hc3]
  rw [List.take_left] at htk
  have HH := Lib.hid hheap; have HT := Lib.hid htk; have HZ := Lib.hid hsz; have HG := Lib.hid hgr
  clear hheap htk hsz hgr hcon
  generalize putRow (Value.int .i64) (Sort.ahead W q) gb 0 (F ++ List.replicate (K.length - F.length) 0).toArray = W2 at *
  gi_wp2
  go_ret
  have e1 : idsB B = F := by rw [HF.out, HK.out]; rfl
  refine ⟨_, rfl, ?_, hb.grown HG.out hb.size (fun k e => by cases e; exact hge)⟩
  rw [e1]
  exact ⟨by simp, .inr ⟨gb, cap, _, rfl, hge, HH.out, by omega, hc2, by rw [HZ.out]; simp, by rw [Nat.mul_one]; exact HT.out⟩⟩
end Go.Proofs.Ytclhhegfffccgaa
