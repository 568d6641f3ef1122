/-
  A run of a curve of either kind: a bent one's two lines, or a sagging one's copies, behind an interface.
-/
import Derived.Test.YtipiajnaechadaaBentLive
import Derived.Test.YtipiajnaechadaaSagAns
import Derived.Test.YtipiajnaechadaaRunNone
namespace Go.Proofs.Ytipiajnaechadaa
set_option linter.unusedVariables false
open Go.RowKit

abbrev ifB (g : Nat) : Value := .iface 61 (.agg #[.pointer (some ⟨g, 0, none⟩)])
abbrev ifS (g : Nat) : Value := .iface 67 (.agg #[.pointer (some ⟨g, 0, none⟩)])

def RunB (w : World) (r g : Nat) (F L R x : Int) (A : List (Int × Int)) : Prop :=
  Blk w r 65 #[.int .u64 F, .int .u64 L, .int .u64 R, ifB g] ∧ BentAt w g F L R x A ∧ g < r
def RunS (w : World) (r g : Nat) (F L R x : Int) (A : List (Int × Int)) : Prop :=
  Blk w r 65 #[.int .u64 F, .int .u64 L, .int .u64 R, ifS g] ∧ (∃ K, Live w g F L R x K A) ∧ g < r
/-- a run in memory, of the curve F, L, R: A started, the last one at x -/
def RunAt (w : World) (r g : Nat) (F L R x : Int) (A : List (Int × Int)) : Prop := RunB w r g F L R x A ∨ RunS w r g F L R x A

section
variable {w w' : World} {r g : Nat} {F L R x : Int} {A : List (Int × Int)}

theorem RunB.below (h : RunB w r g F L R x A) (hb : Below w.heap.size w w') : RunB w' r g F L R x A := ⟨h.1.below hb h.1.lt, h.2.1.below hb, h.2.2⟩
theorem RunS.below (h : RunS w r g F L R x A) (hb : Below w.heap.size w w') : RunS w' r g F L R x A := ⟨h.1.below hb h.1.lt, by obtain ⟨K, hK⟩ := h.2.1; exact ⟨K, hK.below hb⟩, h.2.2⟩
theorem RunAt.below (h : RunAt w r g F L R x A) (hb : Below w.heap.size w w') : RunAt w' r g F L R x A := by
  rcases h with h | h
  · exact .inl (h.below hb)
  · exact .inr (h.below hb)
theorem RunAt.lt (h : RunAt w r g F L R x A) : g < r ∧ r < w.heap.size := by
  rcases h with h | h
  · exact ⟨h.2.2, h.1.lt⟩
  · exact ⟨h.2.2, h.1.lt⟩
theorem RunAt.may (h : RunAt w r g F L R x A) : MayC F L R := by
  rcases h with h | ⟨_, ⟨K, hK⟩, _⟩
  · exact h.2.1.may
  · exact hK.may
theorem RunAt.num (h : RunAt w r g F L R x A) : (∀ a ∈ A, a.1 ≤ x ∧ 0 ≤ a.2) ∧ 0 ≤ x ∧ x ≤ 9223372036854775808 := by
  rcases h with h | ⟨_, ⟨K, hK⟩, _⟩
  · exact ⟨h.2.1.low, h.2.1.x0, h.2.1.x1⟩
  · exact ⟨fun a ha => ⟨hK.run.le a ha, (hK.num a ha).2.1⟩, hK.x0, hK.x1⟩

theorem of_bent (h : RunB w r g F L R x A) : Calls Try.prog 44 #[.pointer (some ⟨r, 0, none⟩)] w fun e w' => e = .returned (ifB g) ∧ w = w' := by
  have c3 := h.1.cell 3
  simp only [List.getElem?_toArray, List.getElem?_cons_zero, List.getElem?_cons_succ] at c3
  clear h
  go_enter Try.func44, Try.ntmps44
  go_wp2
  all_goals go_ret
  all_goals exact ⟨rfl, rfl⟩
theorem of_sag (h : RunS w r g F L R x A) : Calls Try.prog 44 #[.pointer (some ⟨r, 0, none⟩)] w fun e w' => e = .returned (ifS g) ∧ w = w' := by
  have c3 := h.1.cell 3
  simp only [List.getElem?_toArray, List.getElem?_cons_zero, List.getElem?_cons_succ] at c3
  clear h
  go_enter Try.func44, Try.ntmps44
  go_wp2
  all_goals go_ret
  all_goals exact ⟨rfl, rfl⟩

theorem run_start (h : RunAt w r g F L R x A) (t y X Y : Int) (ht : U t) (hy : U y) (hX : X = max (min t 9223372036854775808) x) (hY : Y = min y 4611686018427387904) (hfew : A.length < 900000) :
    Calls Try.prog 10 #[.pointer (some ⟨r, 0, none⟩), .int .u64 t, .int .u64 y] w fun e w' =>
      e = .returned (.tuple #[]) ∧ RunAt w' r g F L R X (A ++ [(X, Y)]) ∧ w.grownBy w' (some g) := by
  rcases h with h | h
  · have HH := Lib.hid h; have HX := Lib.hid hX; have HY := Lib.hid hY; clear h hX hY
    go_enter Try.func10, Try.ntmps10
    go_wp2_with (first
      | (go_at_call 44; refine (of_bent HH.out).mono ?_; rintro e w' ⟨rfl, rfl⟩)
      | (go_at_call 121; refine (bent_start HH.out.2.1 t y X Y ht hy HX.out HY.out hfew).mono ?_; rintro e w1 ⟨rfl, hb1, hg1⟩; have HB1 := Lib.hid hb1; clear hb1))
    go_returns
    exact ⟨rfl, .inl ⟨HH.out.1.grown hg1 (by have := HH.out.2.2; simp; omega), HB1.out, HH.out.2.2⟩, hg1⟩
  · obtain ⟨hB, ⟨K, hK⟩, hlt⟩ := h
    have HH := Lib.hid (show RunS w r g F L R x A from ⟨hB, ⟨K, hK⟩, hlt⟩); have HK := Lib.hid hK; have HX := Lib.hid hX; have HY := Lib.hid hY; clear hB hK hX hY
    go_enter Try.func10, Try.ntmps10
    go_wp2_with (first
      | (go_at_call 44; refine (of_sag HH.out).mono ?_; rintro e w' ⟨rfl, rfl⟩)
      | (go_at_call 26; refine (live_start HK.out t y X Y ht hy HX.out HY.out hfew).mono ?_; rintro e w1 ⟨rfl, hb1, hg1⟩; have HB1 := Lib.hid hb1; clear hb1))
    go_returns
    exact ⟨rfl, .inr ⟨HH.out.1.grown hg1 (by simp; omega), ⟨_, HB1.out⟩, hlt⟩, hg1⟩

theorem run_at (h : RunAt w r g F L R x A) (hA : A ≠ []) (t : Int) (ht : U t) :
    Calls Try.prog 36 #[.pointer (some ⟨r, 0, none⟩), .int .u64 t] w fun e w' => e = .returned (.int .u64 (vA F L R A (max t x))) ∧ Below w.heap.size w w' := by
  have HA := Lib.hid hA; clear hA
  rcases h with h | h
  · have HH := Lib.hid h; clear h
    go_enter Try.func36, Try.ntmps36
    go_wp2_with (first
      | (go_at_call 44; refine (of_bent HH.out).mono ?_; rintro e w' ⟨rfl, rfl⟩)
      | (go_at_call 118; refine (bent_at_ HH.out.2.1 HA.out t ht).mono ?_; rintro e w1 ⟨rfl, hb1⟩))
    go_ret
    exact ⟨rfl, hb1⟩
  · obtain ⟨K, hK⟩ := h.2.1
    have HH := Lib.hid h; have HK := Lib.hid hK; clear h hK
    go_enter Try.func36, Try.ntmps36
    go_wp2_with (first
      | (go_at_call 44; refine (of_sag HH.out).mono ?_; rintro e w' ⟨rfl, rfl⟩)
      | (go_at_call 58; refine (live_at HK.out HA.out t ht).mono ?_; rintro e w1 ⟨rfl, hb1⟩))
    go_ret
    exact ⟨rfl, hb1⟩

end

end Go.Proofs.Ytipiajnaechadaa
