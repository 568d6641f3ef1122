/-
  Both books' New.
-/
import Derived.Test.YthmhboagbeibdaaRbPut
namespace Go.Proofs.Ythmhboagbeibdaa
set_option linter.unusedVariables false
open Go.RowKit Go.Maps Go.Sort

def NewW (w : World) (r : Int) (e : Ending) (w' : World) : Prop :=
  ((¬ (1 ≤ r ∧ r ≤ 1048576) ∧ e = .returned (.tuple #[.pointer none, .int .i64 240])) ∨ ((1 ≤ r ∧ r ≤ 1048576) ∧ ∃ g m, e = .returned (.tuple #[.pointer (some ⟨g, 0, none⟩), .int .i64 0]) ∧ BkAt w' g m r [] [] (.slice none 0 0) ∧ w.heap.size ≤ g ∧ w.heap.size ≤ m)) ∧ Below w.heap.size w w'
theorem new_any (r : Int) (w : World) (hr : U r) : Calls Try.prog 7 #[.int .u64 r] w (NewW w r) := by
  by_cases h1 : 1 ≤ r
  · have n1 : ¬ r < 1 := by omega
    by_cases h2 : r ≤ 1048576
    · have n2 : ¬ 1048576 < r := by omega
      have hmm := @run_makeMap Try.prog
      go_enter Try.func7, Try.ntmps7
      go_wp2_with fail
      go_ret2
      have hb := ((Below.refl w.heap.size w).alloc (Nat.le_refl _) (.map #[] 0)).alloc (by simp) (.cells #[.int .u64 r, .map (some w.heap.size), .slice none 0 0] 58)
      have hB := Blk.new (w.alloc (.map #[] 0)) 58 #[.int .u64 r, .map (some w.heap.size), .slice none 0 0]
      rw [World.size_alloc] at hB
      have hM : MapI Try.prog 3 (w.alloc (.map #[] 0)) w.heap.size [] := MapI.made w
      refine ⟨.inr ⟨⟨h1, h2⟩, w.heap.size + 1, w.heap.size, rfl, ⟨hB, hM.kept (World.grownBy_alloc _ _ none) (by simp), ⟨fun c hc => by simp at hc, by simp, none, 0, rfl, .inl rfl⟩, fun c hc => by simp at hc, fun p hp => by simp at hp, by simp, ⟨h1, h2⟩⟩, by omega, Nat.le_refl _⟩, hb⟩
    · have n2 : 1048576 < r := by omega
      go_enter Try.func7, Try.ntmps7
      go_wp2_with fail
      go_ret2
      exact ⟨.inl ⟨fun h => by omega, rfl⟩, Below.refl _ _⟩
  · have n1 : r < 1 := by omega
    go_enter Try.func7, Try.ntmps7
    go_wp2_with fail
    go_ret2
    exact ⟨.inl ⟨fun h => by omega, rfl⟩, Below.refl _ _⟩
def RnewW (w : World) (r : Int) (e : Ending) (w' : World) : Prop :=
  ((¬ (1 ≤ r ∧ r ≤ 1048576) ∧ e = .returned (.tuple #[.pointer none, .int .i64 240])) ∨ ((1 ≤ r ∧ r ≤ 1048576) ∧ ∃ p, e = .returned (.tuple #[.pointer (some ⟨p, 0, none⟩), .int .i64 0]) ∧ RbAt w' p r [] [] [] (.slice none 0 0) (.slice none 0 0) (.slice none 0 0))) ∧ Below w.heap.size w w'
theorem rnew_any (r : Int) (w : World) (hr : U r) : Calls Try.prog 8 #[.int .u64 r] w (RnewW w r) := by
  have hnil : ∀ W, CvAt W (.slice none 0 0) [] := fun W => ⟨fun c hc => by simp at hc, by simp, none, 0, rfl, .inl rfl⟩
  by_cases h1 : 1 ≤ r
  · have n1 : ¬ r < 1 := by omega
    by_cases h2 : r ≤ 1048576
    · have n2 : ¬ 1048576 < r := by omega
      go_enter Try.func8, Try.ntmps8
      go_wp2_with fail
      go_ret2
      exact ⟨.inr ⟨⟨h1, h2⟩, w.heap.size, rfl, ⟨Blk.new w _ _, IntAt.nil _, hnil _, hnil _, rfl, by simp⟩⟩, (Below.refl w.heap.size w).alloc (Nat.le_refl _) _⟩
    · have n2 : 1048576 < r := by omega
      go_enter Try.func8, Try.ntmps8
      go_wp2_with fail
      go_ret2
      exact ⟨.inl ⟨fun h => by omega, rfl⟩, Below.refl _ _⟩
  · have n1 : r < 1 := by omega
    go_enter Try.func8, Try.ntmps8
    go_wp2_with fail
    go_ret2
    exact ⟨.inl ⟨fun h => by omega, rfl⟩, Below.refl _ _⟩

theorem map_cell {w : World} {m : Nat} {M : List (Int × Value)} (h : MapI Try.prog 3 w m M) (o : Nat) (v : Value) : w.cell? ⟨m, o, none⟩ ≠ some v := by
  obtain ⟨es, clock, h1, _⟩ := h
  simp [World.cell?, h1]
theorem rb_turned {w w' : World} {p m : Nat} {r : Int} {I : List Int} {V G : List Cv} {vi vl vg : Value} {M : List (Int × Value)} (h : RbAt w p r I V G vi vl vg) (hM : MapI Try.prog 3 w m M) (hg : w.grownBy w' (some m)) : RbAt w' p r I V G vi vl vg := by
  have hpm : p ≠ m := by
    rintro rfl
    obtain ⟨es, clock, h1, _⟩ := hM
    have h2 := h.blk
    unfold Blk at h2
    rw [h1] at h2
    cases h2
  have cv : ∀ {v : Value} {G : List Cv}, CvAt w v G → CvAt w' v G := fun {v G} h => by
    obtain ⟨hu, hl, a, cap, e, h3⟩ := h
    refine ⟨hu, hl, a, cap, e, ?_⟩
    rcases h3 with h3 | ⟨b, off, e2, hbl, hcap, hc⟩
    · exact .inl h3
    · by_cases hn : G = []
      · exact .inl hn
      · refine .inr ⟨b, off, e2, Nat.lt_of_lt_of_le hbl hg.size, hcap, fun i c hi => ?_⟩
        obtain ⟨c0, c1, c2⟩ := hc i c hi
        have hbm : b ≠ m := by rintro rfl; exact map_cell hM _ _ c0
        have far := fun o => hg.cell_far ⟨b, o, none⟩ hbl (by simpa using hbm)
        exact ⟨(far _).trans c0, (far _).trans c1, (far _).trans c2⟩
  refine ⟨h.blk.grown hg (by simpa using hpm), ?_, cv h.live, cv h.gh, h.same, h.few⟩
  obtain ⟨hl, a, cap, e, h3⟩ := h.ids
  refine ⟨hl, a, cap, e, ?_⟩
  rcases h3 with h3 | ⟨b, off, e2, hbl, hcap, hc⟩
  · exact .inl h3
  · by_cases hn : I = []
    · exact .inl hn
    · refine .inr ⟨b, off, e2, Nat.lt_of_lt_of_le hbl hg.size, hcap, fun i c hi => ?_⟩
      have c0 := hc i c hi
      have hbm : b ≠ m := by rintro rfl; exact map_cell hM _ _ c0
      exact (hg.cell_far ⟨b, off + i, none⟩ hbl (by simpa using hbm)).trans c0
end Go.Proofs.Ythmhboagbeibdaa
