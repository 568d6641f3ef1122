/-
  Can curves be kept, what is spare beside them: sums.Kept, sums.Spare.
-/
import Derived.Test.YthmhboagbeibdaaGreatLateAll
import Derived.Deep.RegionLaw
import Derived.Deep.DrawnRows
namespace Go.Proofs.YthmhboagbeibdaaGreat
set_option linter.unusedVariables false
open Go.RowKit

noncomputable instance (l : List Cv) (r : Int) : Decidable (Keep l r) := Classical.propDecidable _
theorem kept_any (v : Value) (l : List Cv) (r : Int) (w : World) (h : CvAt w v l) (hr : U r) :
    Calls Tryz.prog 41 #[v, .int .u64 r] w fun e w' => e = .returned (.bool (decide (Keep l r))) ∧ Below w.heap.size w w' := by
  have hl := late_any v l r w h hr
  clear h
  go_enter Tryz.func41, Tryz.ntmps41
  go_wp2_with fail
  refine hl.mono ?_
  clear hl
  rintro e w1 ⟨n, rfl, hI, hb⟩
  have hk : decide (Keep l r) = (n == 9223372036854775808) := by
    rw [Bool.eq_iff_iff, decide_eq_true_eq, ← hI.keep]; simp
  have HK := Lib.hid hk; have HB := Lib.hid hb
  clear hI hb hk
  go_wp2_with fail
  go_ret
  exact ⟨by rw [HK.out]; rfl, HB.out⟩

/-- what sums.Spare hands back -/
def SpareW (w : World) (l : List Cv) (r : Int) (e : Ending) (w' : World) : Prop :=
  ((∃ n : Int, e = .returned (.tuple #[.int .u64 n, .bool true]) ∧ Keep l r ∧ IsSpare l r n) ∨ (e = .returned (.tuple #[.int .u64 0, .bool false]) ∧ ¬ Keep l r)) ∧ Below w.heap.size w w'

/-- a clone, as a row of the call's own -/
def CloneW (w0 w : World) (l : List Cv) (e : Ending) (w' : World) : Prop := ∃ v, e = .returned v ∧ w'.ownsRow w0.heap.size 25 3 v l.length (cvCells l) ∧ Below w.heap.size w w'
theorem clone_row (w0 w : World) (v : Value) (l : List Cv) (h : CvAt w v l) (h0 : w0.heap.size ≤ w.heap.size) :
    Calls Tryz.prog 28 #[v] w (CloneW w0 w l) := by
  obtain ⟨a, cap, rfl⟩ : ∃ a cap, v = .slice a l.length cap := by obtain ⟨_, _, a, cap, e, _⟩ := h; exact ⟨a, cap, e⟩
  refine (clone_any a cap l w h).mono ?_
  rintro e w' ⟨v, rfl, hb, ⟨rfl, rfl⟩ | ⟨g, c, rfl, hr⟩⟩
  · exact ⟨_, rfl, World.ownsRow_nil _ _ _ _, hb⟩
  · refine ⟨_, rfl, ?_, hb⟩
    obtain ⟨hlen, hcase⟩ := hr
    refine ⟨hlen, ?_⟩
    rcases hcase with h | ⟨g', c', cur, e, h1, h2⟩
    · exact .inl h
    · exact .inr ⟨g', c', cur, e, by omega, h2⟩
theorem cvCells_append (a b : List Cv) : cvCells (a ++ b) = cvCells a ++ cvCells b := by simp [cvCells]
theorem CvAt.of_owns {w : World} {base : Nat} {v : Value} {l : List Cv} (h : w.ownsRow base 25 3 v l.length (cvCells l)) (hu : UU l) (hl : l.length ≤ 1000000) : CvAt w v l := by
  rcases h.2 with ⟨rfl, h0⟩ | ⟨g, cap, cur, rfl, h1, h2⟩
  · obtain rfl : l = [] := List.eq_nil_of_length_eq_zero h0
    exact ⟨hu, hl, none, 0, rfl, .inl rfl⟩
  · exact CvAt.of_row h hu hl

end Go.Proofs.YthmhboagbeibdaaGreat
