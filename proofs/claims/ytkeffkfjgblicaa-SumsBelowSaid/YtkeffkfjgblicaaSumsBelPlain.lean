/-
  What SumsBelow says of curves that are below one another, in plain arithmetic.
-/
import Derived.Test.YtkeffkfjgblicaaBelow
namespace Go.Proofs.Ytkeffkfjgblicaa
set_option linter.unusedVariables false

theorem BelowP.self {a : Cv} (h : okC a = true) : BelowP a a := ⟨h, h, fun t _ => Int.le_refl _⟩
theorem BelowP.trans {a b c : Cv} (h : BelowP a b) (h' : BelowP b c) : BelowP a c := ⟨h.1, h'.2.1, fun t ht => Int.le_trans (h.2.2 t ht) (h'.2.2 t ht)⟩
theorem okC_cases {c : Cv} (h : okC c = true) : (c.2.1 = 0 ∧ c.1 = 0) ∨ (c.2.1 ≠ 0 ∧ c.1 ≠ c.2.2) := by
  unfold okC mayB at h
  simp only [Bool.and_eq_true, decide_eq_true_eq] at h
  have h2 := h.2
  by_cases h0 : c.2.1 = 0
  · rw [if_pos h0] at h2; exact .inl ⟨h0, by simpa using h2⟩
  · rw [if_neg h0] at h2; exact .inr ⟨h0, by simpa using h2⟩
/-- what a curve has, by its slopes' difference -/
theorem vC_diff (c : Cv) (t : Int) : vC c t = (c.1 - c.2.2) * min t c.2.1 + c.2.2 * t := by
  unfold vC W
  rw [Int.sub_mul, Int.mul_sub]; omega
theorem BelowP.anti {a b : Cv} (na : 0 ≤ a.1 ∧ 0 ≤ a.2.1 ∧ 0 ≤ a.2.2) (nb : 0 ≤ b.1 ∧ 0 ≤ b.2.1 ∧ 0 ≤ b.2.2) (h : BelowP a b) (h' : BelowP b a) : a = b := by
  have e : ∀ t, 0 ≤ t → vC a t = vC b t := fun t ht => by have := h.2.2 t ht; have := h'.2.2 t ht; omega
  have hR : a.2.2 = b.2.2 := by
    have h1 := under_rest h.1 h.2.1 na nb (h.2.2 _ (by decide))
    have h2 := under_rest h.2.1 h.1 nb na (h'.2.2 _ (by decide))
    omega
  have hm : ∀ t, 0 ≤ t → (a.1 - a.2.2) * min t a.2.1 = (b.1 - b.2.2) * min t b.2.1 := fun t ht => by
    have := e t ht
    rw [vC_diff, vC_diff, hR] at this
    rw [hR]
    omega
  obtain ⟨F, L, R⟩ := a
  obtain ⟨G, M, S⟩ := b
  simp only at na nb hR hm
  subst hR
  have ha := okC_cases h.1
  have hb := okC_cases h.2.1
  simp only at ha hb
  have h1 := hm 1 (by decide)
  rcases ha with ⟨l0, f0⟩ | ⟨l1, f1⟩ <;> rcases hb with ⟨m0, g0⟩ | ⟨m1, g1⟩
  · rw [l0, f0, m0, g0]
  · rw [l0, Int.min_eq_right (by decide), Int.min_eq_left (by omega)] at h1
    omega
  · rw [m0, Int.min_eq_left (by omega), Int.min_eq_right (by decide)] at h1
    omega
  · rw [Int.min_eq_left (by omega), Int.min_eq_left (by omega)] at h1
    have hFG : F = G := by omega
    subst hFG
    have hd : F - R ≠ 0 := by omega
    have hmin : ∀ t, 0 ≤ t → min t L = min t M := fun t ht => Int.eq_of_mul_eq_mul_left hd (hm t ht)
    have hL := hmin L na.2.1
    have hM := hmin M nb.2.1
    have : L = M := by
      rw [Int.min_self] at hL hM
      omega
    rw [this]
theorem keep_under {l : List Cv} {a b : Cv} {r : Int} (h : BelowP a b) (hk : Keep (l ++ [b]) r) : Keep (l ++ [a]) r := by
  intro t t0 t1
  have h1 := hk t t0 t1
  have h2 := h.2.2 t t0
  unfold Lt at *
  rw [vS_append] at *
  simp only [vS, h.1, h.2.1, if_true] at *
  omega
/-- not below: seen at one of three ticks -/
theorem not_below {a b : Cv} (oa : okC a = true) (ob : okC b = true) (na : 0 ≤ a.1 ∧ 0 ≤ a.2.1 ∧ 0 ≤ a.2.2) (nb : 0 ≤ b.1 ∧ 0 ≤ b.2.1 ∧ 0 ≤ b.2.2) (h : ¬ BelowP a b) :
    ∃ t ∈ [a.2.1, b.2.1, 9223372036854775807], vC b t < vC a t := by
  by_cases h1 : vC b a.2.1 < vC a a.2.1
  · exact ⟨_, by simp, h1⟩
  · by_cases h2 : vC b b.2.1 < vC a b.2.1
    · exact ⟨_, by simp, h2⟩
    · by_cases h3 : vC b 9223372036854775807 < vC a 9223372036854775807
      · exact ⟨_, by simp, h3⟩
      · exact absurd ⟨oa, ob, (under_iff oa ob na nb).2 ⟨by omega, by omega, by omega⟩⟩ h
end Go.Proofs.Ytkeffkfjgblicaa
