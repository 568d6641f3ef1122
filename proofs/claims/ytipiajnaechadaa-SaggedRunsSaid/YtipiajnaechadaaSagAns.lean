/-
  What is asked of a sagging run, in values that the caller names; the two answers 'Reach' and 'Ahead', told by what all copies have.
-/
import Derived.Test.YtipiajnaechadaaSagLive
import Derived.Test.YtipiajnaechadaaSagLast
import Derived.Test.YtipiajnaechadaaBentPlain
namespace Go.Proofs.Ytipiajnaechadaa
set_option linter.unusedVariables false
open Go.RowKit

section
variable {w : World} {g : Nat} {F L R x : Int} {K A : List (Int × Int)}
theorem live_at' (h : Live w g F L R x K A) (hA : A ≠ []) (t v : Int) (ht : U t) (hv : minF (atK F L R (max t x)) 4611686018427387904 A = v) :
    Calls Try.prog 58 #[.pointer (some ⟨g, 0, none⟩), .int .u64 t] w fun e w' => e = .returned (.int .u64 v) ∧ Below w.heap.size w w' := by
  rw [← hv]; exact live_at h hA t ht
theorem live_line' (h : Live w g F L R x K A) (hA : A ≠ []) (t v : Int) (ht : U t) (hv : minF (linK R (max t x)) 4611686018427387904 A = v) :
    Calls Try.prog 62 #[.pointer (some ⟨g, 0, none⟩), .int .u64 t] w fun e w' => e = .returned (.int .u64 v) ∧ Below w.heap.size w w' := by
  rw [← hv]; exact live_line h hA t ht
theorem live_reach' (h : Live w g F L R x K A) (hA : A ≠ []) (y n : Int) (hy : U y) (hn : lastAt (reachC F L R) y K x = n) :
    Calls Try.prog 60 #[.pointer (some ⟨g, 0, none⟩), .int .u64 y] w fun e w' => e = .returned (.int .u64 n) ∧ Below w.heap.size w w' := by
  rw [← hn]; exact live_reach h hA y hy
theorem live_ahead' (h : Live w g F L R x K A) (hA : A ≠ []) (y n : Int) (hy : U y) (hn : lastAt (reachC 0 0 R) y K x = n) :
    Calls Try.prog 63 #[.pointer (some ⟨g, 0, none⟩), .int .u64 y] w fun e w' => e = .returned (.int .u64 n) ∧ Below w.heap.size w w' := by
  rw [← hn]; exact live_ahead h hA y hy
end

theorem lastAt_le (needs : Int → Int) (y : Int) (K : List (Int × Int)) {s : Int} (hs : s ≤ 9223372036854775808) : lastAt needs y K s ≤ 9223372036854775808 := by
  unfold lastAt; split
  · exact Int.le_refl _
  · exact lastL_never needs y K s hs

theorem reach_first {F L R : Int} (h : MayC F L R) : ∀ m, 0 ≤ m → m ≤ 4611686018427387904 → FirstF (W F L R) m (reachC F L R m) := by
  intro m h0 h1
  rcases reachC_spec h h0 h1 with h2 | ⟨h2, _, h3, h4⟩
  · exact .inl h2
  · exact .inr ⟨h2, h3, h4⟩

theorem W_line (R t : Int) (ht : 0 ≤ t) : W 0 0 R t = R * t := by
  unfold W; rw [Int.min_eq_right ht]; simp

theorem reach_mono {F L R m : Int} (h : MayC F L R) (hs : F ≤ R) (h0 : 0 ≤ m) (h1 : m ≤ 4611686018427387904) : reachC 0 0 R m ≤ reachC F L R m := by
  have hr : MayC 0 0 R := ⟨Int.le_refl _, by omega, h.r0, h.r1, Int.le_refl _, by omega, fun _ => rfl⟩
  rcases reach_first h m h0 h1 with ⟨e, _⟩ | ⟨a0, a1, _⟩
  · rw [e]
    rcases reach_first hr m h0 h1 with ⟨e2, _⟩ | ⟨b0, b1, b2⟩
    · omega
    · rcases reachC_spec hr h0 h1 with ⟨e3, _⟩ | ⟨_, b3, _⟩ <;> omega
  · rcases reach_first hr m h0 h1 with ⟨e2, b2⟩ | ⟨b0, b1, b2⟩
    · exfalso
      have h4 := b2 (reachC F L R m) a0
      have hg := gap_nonneg (F := F) (L := L) (R := R) ⟨h, .inr hs⟩ a0
      have := W_gap F L R (reachC F L R m)
      rw [W_line _ _ a0] at h4
      omega
    · rcases Int.lt_or_le (reachC F L R m) (reachC 0 0 R m) with h3 | h3
      · exfalso
        have h4 := b2 (reachC F L R m) a0 h3
        have hg := gap_nonneg (F := F) (L := L) (R := R) ⟨h, .inr hs⟩ a0
        have := W_gap F L R (reachC F L R m)
        rw [W_line _ _ a0] at h4
        omega
      · exact h3

/-- the two answers, told by what all copies have -/
theorem live_back {w : World} {g : Nat} {F L R x y : Int} {K A : List (Int × Int)} (h : Live w g F L R x K A) (hA : A ≠ []) :
    Back (fun t => minF (atK F L R (max t x)) 4611686018427387904 A) x y (lastAt (reachC F L R) y K x) ∧
    Back (fun t => minF (linK R (max t x)) 4611686018427387904 A) x y (lastAt (reachC 0 0 R) y K x) ∧
    lastAt (reachC 0 0 R) y K x ≤ lastAt (reachC F L R) y K x := by
  have hrun := fun t (ht : x ≤ t) => h.run.least (t := t) (fun a ha => (h.num a ha).2.1) ht
  have hk : ∀ k ∈ K, 0 ≤ k.1 ∧ k.1 ≤ x ∧ 0 ≤ k.2 := fun k hk => by have := h.kept k hk; exact ⟨this.1, this.2.1, this.2.2.1⟩
  refine ⟨?_, ?_, ?_⟩
  · refine Back.of h.x1 (lastAt_le _ _ _ h.x1) (back_any (y := y) (f := W F L R) (fun t => minF (atK F L R (max t x)) 4611686018427387904 A) (reach_first h.may) (fun t ht => W_nonneg h.may.f0 h.may.r0 h.may.l0 ht) (fun t u _ htu => W_mono h.may.f0 h.may.r0 htu) hk h.x1 ?_ ?_ ?_)
    · intro t; exact minF_le_start _ _ _
    · intro t ht k hkK
      simp only [Int.max_eq_left ht]; rw [← (hrun t ht).1]
      refine Int.le_trans (minF_le _ K _ k hkK) ?_
      rw [atK_has (hk k hkK).2.2]
      exact cap_le_self _
    · intro t ht hy hall
      simp only [Int.max_eq_left ht]; rw [← (hrun t ht).1]
      refine le_minF _ _ K _ hy fun k hkK => ?_
      rw [atK_has (hk k hkK).2.2]
      have := hall k hkK
      unfold hasK cap; split <;> omega
  · refine Back.of h.x1 (lastAt_le _ _ _ h.x1) (back_any (y := y) (f := W 0 0 R) (fun t => minF (linK R (max t x)) 4611686018427387904 A) (reach_first h.rest) (fun t ht => W_nonneg (by omega) h.may.r0 (by omega) ht) (fun t u _ htu => W_mono (by omega) h.may.r0 htu) hk h.x1 ?_ ?_ ?_)
    · intro t; exact minF_le_start _ _ _
    · intro t ht k hkK
      simp only [Int.max_eq_left ht]; rw [← (hrun t ht).2]
      refine Int.le_trans (minF_le _ K _ k hkK) ?_
      rw [linK_line (hk k hkK).2.2, W_line _ _ (by have := hk k hkK; omega)]
      exact cap_le_self _
    · intro t ht hy hall
      simp only [Int.max_eq_left ht]; rw [← (hrun t ht).2]
      refine le_minF _ _ K _ hy fun k hkK => ?_
      rw [linK_line (hk k hkK).2.2]
      have := hall k hkK
      rw [W_line _ _ (by have := hk k hkK; omega)] at this
      unfold lineK cap; split <;> omega
  · unfold lastAt
    split
    · exact Int.le_refl _
    · exact lastL_le (fun m h0 h1 => reach_mono h.may h.le h0 h1) K x x (Int.le_refl _) h.x1


end Go.Proofs.Ytipiajnaechadaa
