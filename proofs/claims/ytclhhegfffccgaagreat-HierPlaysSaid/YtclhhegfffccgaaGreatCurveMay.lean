/-
  May a curve be? (layer 3), where nothing else of layer 3 is reached.
-/
import Derived.Test.YtclhhegfffccgaaGreatReg
import Derived.Test.YtclhhegfffccgaaGreatMath
namespace Go.Proofs.YtclhhegfffccgaaGreat
set_option linter.unusedVariables false
open Go.RowKit

/-- may a curve be? is it bent? -/
def mayB (F L R : Int) : Bool := decide (F ≤ 1048576) && decide (R ≤ 1048576) && decide (L ≤ 1099511627776) && (if L = 0 then decide (F = 0) else decide (F ≠ R))
theorem mayB_spec {F L R : Int} (hF : 0 ≤ F) (hL : 0 ≤ L) (hR : 0 ≤ R) (h : mayB F L R = true) : MayC F L R := by
  unfold mayB at h
  simp only [Bool.and_eq_true, decide_eq_true_eq] at h
  obtain ⟨⟨⟨h1, h2⟩, h3⟩, h4⟩ := h
  exact ⟨hF, h1, hR, h2, hL, h3, fun h0 => by simpa [h0] using h4⟩

theorem may_any (F L R : Int) (w : World) (hL : 0 ≤ L) :
    Calls Tryz.prog 68 #[.agg #[.int .u64 F, .int .u64 L, .int .u64 R]] w fun e w' => e = .returned (.bool (mayB F L R)) ∧ Below w.heap.size w w' := by
  by_cases h1 : F ≤ 1048576
  · by_cases h2 : R ≤ 1048576
    · by_cases h3 : L ≤ 1099511627776
      · by_cases h4 : L = 0
        · subst h4
          have e : mayB F 0 R = decide (F = 0) := by simp [mayB, h1, h2]
          have E := Lib.hid e; clear e
          by_cases h5 : F = 0
          · subst h5
            go_enter Tryz.func68, Tryz.ntmps68
            go_wp2
            go_ret
            exact ⟨by rw [E.out]; rfl, by go_grown⟩
          · have h5b : (F == 0) = false := by simpa using h5
            go_enter Tryz.func68, Tryz.ntmps68
            go_wp2
            go_ret
            exact ⟨by rw [E.out]; simp [h5], by go_grown⟩
        · have h4b : (L == 0) = false := by simpa using h4
          have e : mayB F L R = decide (F ≠ R) := by simp [mayB, h1, h2, h3, h4]
          have E := Lib.hid e; clear e
          by_cases h5 : F = R
          · subst h5
            have h5b : (F != F) = false := by simp
            go_enter Tryz.func68, Tryz.ntmps68
            go_wp2
            go_ret
            exact ⟨by rw [E.out]; simp, by go_grown⟩
          · have h5b : (F != R) = true := by simpa using h5
            go_enter Tryz.func68, Tryz.ntmps68
            go_wp2
            go_ret
            exact ⟨by rw [E.out]; simp [h5], by go_grown⟩
      · have E := Lib.hid (show mayB F L R = false by simp [mayB, h3])
        go_enter Tryz.func68, Tryz.ntmps68
        go_wp2
        go_ret
        exact ⟨by rw [E.out]; rfl, by go_grown⟩
    · have E := Lib.hid (show mayB F L R = false by simp [mayB, h2])
      go_enter Tryz.func68, Tryz.ntmps68
      go_wp2
      go_ret
      exact ⟨by rw [E.out]; rfl, by go_grown⟩
  · have E := Lib.hid (show mayB F L R = false by simp [mayB, h1])
    go_enter Tryz.func68, Tryz.ntmps68
    go_wp2
    go_ret
    exact ⟨by rw [E.out]; rfl, by go_grown⟩

end Go.Proofs.YtclhhegfffccgaaGreat
