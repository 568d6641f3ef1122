/-
  The book of curves: its live keys, rising.
-/
import Derived.Test.YthmhboagbeibdaaGreatMaps
import Derived.Test.YthmhboagbeibdaaGreatLayC
import Derived.Test.YthmhboagbeibdaaGreatCvApp
import Derived.Shelf.AbstractIn
namespace Go.Proofs.YthmhboagbeibdaaGreat
set_option linter.unusedVariables false
open Go.RowKit Go.Maps Go.Sort Go.Shelf

theorem sortsI (m : Nat) : AnyZI.SortsIn Tryz.prog sortedI_ren Fence.wide m :=
  ⟨fun blk off cap ss W hH hblk hsz => callsIn_wide.2 (AnyM.slices_Sort_int sortI blk off cap ss W hH hblk hsz),
   fun p cap W => callsIn_wide.2 (AnyM.slices_Sort_int_none sortI p cap W)⟩

/-- keys in memory of the call's own -/
def KeysW (w : World) (K : List Int) (e : Ending) (w' : World) : Prop := ∃ v, e = .returned v ∧ w'.ownsRow w.heap.size 3 1 v K.length (K.map (Value.int .i64)) ∧ Below w.heap.size w w'
theorem keys_post (M : List (Int × Value)) (w : World) (m : Nat) (h : MapI Tryz.prog 3 w m M) (e : Ending) (W : World) (hh : ∃ (v : Value) (ss : List Int), e = .returned v ∧ ss.Perm (intKeys (toD M)) ∧
      W.ownsRow (w.alloc (.cells #[.map (some m)] 53)).heap.size (sortedI_ren.t 26) 1 v ss.length ((ss.mergeSort (fun x y => decide (x ≤ y))).map encZ) ∧ (v = .slice none 0 0 ↔ ss = []) ∧ Below (w.alloc (.cells #[.map (some m)] 53)).heap.size (w.alloc (.cells #[.map (some m)] 53)) W) : KeysW w (M.map (·.1)) e W := by
  obtain ⟨v, ss, he, hS, hrow, hnil, hb⟩ := hh
  rw [intKeys_toD] at hS
  have hr := h.rising (int_keyed Tryz.underlying3)
  have hks := sorted_keys hr (ss := ss) hS
  rw [hks] at hrow
  have hl := hS.length_eq
  rw [hl] at hrow
  refine ⟨v, he, ?_, ((Below.refl _ w).alloc (Nat.le_refl _) _).trans (hb.mono (by simp))⟩
  obtain ⟨h1, h2⟩ := hrow
  refine ⟨by simp, ?_⟩
  rcases h2 with h2 | ⟨gb, cap, cur, e1, h3, h4⟩
  · exact .inl h2
  · exact .inr ⟨gb, cap, cur, e1, by simp at h3; omega, h4⟩

set_option maxHeartbeats 1000000 in
theorem keys_any (m : Nat) (M : List (Int × Value)) (w : World) (h : MapI Tryz.prog 3 w m M) (hn : M.length < 1000000) :
    Calls Tryz.prog 40 #[.map (some m)] w (KeysW w (M.map (·.1))) := by
  refine (callsIn_wide (n := 6)).1 ?_
  have h1 := h.kept (World.grownBy_alloc w (.cells #[.map (some m)] 53) none) (by simp)
  unfold MapI at h1
  have hseq : SeqGives Fence.wide 2 Tryz.prog 51 #[.pointer (some ⟨w.heap.size, 0, none⟩)] encZ (fun ss => ss.Perm (intKeys (toD M))) (Maps.size (toD M)) (w.alloc (.cells #[.map (some m)] 53)) :=
    AnyZI.keys_gives (ρ := keysS_ren) { keysS with } Fence.wide _ trivial rfl (by omega) w.heap.size m _ (toD M) _ (by simp) (by simp) h1
  have cK : ∀ mb W, CallsIn Fence.wide 5 Tryz.prog 46 #[.map mb] W fun e w' => e = .returned (.func (.func 51) #[] #[.pointer (some ⟨W.heap.size, 0, none⟩)]) ∧ w' = W.alloc (.cells #[.map mb] 53) := fun mb W => AnyZI.keys_in keysS Fence.wide 5 trivial rfl mb W
  have hsz : Maps.size (toD M) < 1000000 := by rw [size_toD]; exact hn
  have cS := AnyZI.sorted_in sortedI Fence.wide 5 trivial trivial trivial trivial rfl (by omega) (sortsI _) (enters_of Tryz.func50 (by kernel_rfl) rfl) 51 #[.pointer (some ⟨w.heap.size, 0, none⟩)] trivial (enters_of Tryz.func51 (by kernel_rfl) rfl) _ _ (by unfold maxLen; omega) (by omega) _ hseq
  change CallsIn _ _ Tryz.prog 45 _ _ _ at cS
  have hfK : Fence.wide.fn 46 := trivial
  have hfS : Fence.wide.fn 45 := trivial
  have cS := cS.mono (keys_post M w m h)
  clear h1 hseq hsz
  obtain ⟨K, hK⟩ : ∃ K, K = M.map (·.1) := ⟨_, rfl⟩
  rw [← hK] at cS ⊢
  clear hK
  refine callsIn_of_wp Tryz.func40 rfl trivial ?_ rfl
  simp only [Tryz.ntmps40, List.size_toArray, List.length_cons, List.length_nil, Nat.reduceAdd, Nat.reduceSub, Array.replicate_succ, Array.replicate_zero, List.push_toArray, List.append_toArray, List.nil_append, List.cons_append]
  gi_wp2_with (first
    | (gi_at_call 46; refine (cK _ _).mono ?_; rintro e w' ⟨rfl, rfl⟩)
    | (gi_at_call 45; refine cS.mono ?_; rintro e W ⟨v, rfl, hrow, hb⟩))
  go_ret
  exact ⟨_, rfl, hrow, hb⟩
end Go.Proofs.YthmhboagbeibdaaGreat
