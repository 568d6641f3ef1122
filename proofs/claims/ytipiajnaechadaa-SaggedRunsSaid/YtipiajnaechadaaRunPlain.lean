/-
  The plain laws of runs of either kind: what a run has behind a tick is at most what E has then, and what the curve has. No program in sight.
-/
import Derived.Test.YtipiajnaechadaaBentPlain
namespace Go.Proofs.Ytipiajnaechadaa
set_option linter.unusedVariables false

theorem minF_at (g : Int × Int → Int) : ∀ (l : List (Int × Int)) (m : Int), minF g m l = m ∨ ∃ k ∈ l, minF g m l = g k
  | [], m => .inl rfl
  | k :: l, m => by
    have h : minF g m (k :: l) = minF g (min m (g k)) l := rfl
    rw [h]
    rcases minF_at g l (min m (g k)) with h1 | ⟨j, hj, h1⟩
    · by_cases h2 : m ≤ g k
      · exact .inl (by omega)
      · exact .inr ⟨k, by simp, by omega⟩
    · exact .inr ⟨j, by simp [hj], h1⟩
theorem minF_snoc (g : Int × Int → Int) (m : Int) (A : List (Int × Int)) (a : Int × Int) : minF g m (A ++ [a]) = min (minF g m A) (g a) := by
  simp [minF, List.foldl_append]
theorem minF_more (g : Int × Int → Int) (m : Int) (A B : List (Int × Int)) : minF g m (A ++ B) ≤ minF g m A := by
  unfold minF
  rw [List.foldl_append]
  exact minF_le_start g B _
theorem minF_mono {f g : Int × Int → Int} {m : Int} {A : List (Int × Int)} (h : ∀ a ∈ A, f a ≤ g a) : minF f m A ≤ minF g m A :=
  le_minF g _ A m (minF_le_start f A m) fun k hk => Int.le_trans (minF_le f A m k hk) (h k hk)

/-- what a run has, and what E has -/
def vA (F L R : Int) (A : List (Int × Int)) (t : Int) : Int := minF (atK F L R t) 4611686018427387904 A
def vL (R : Int) (A : List (Int × Int)) (t : Int) : Int := minF (linK R t) 4611686018427387904 A
def vE (F L R : Int) (A : List (Int × Int)) (t : Int) : Int := if R < F then vA F L R A t else vL R A t

section
variable {F L R x : Int} {A : List (Int × Int)}
theorem vA_mono (h : MayC F L R) (hA : ∀ a ∈ A, a.1 ≤ x ∧ 0 ≤ a.2) {t u : Int} (ht : x ≤ t) (htu : t ≤ u) : vA F L R A t ≤ vA F L R A u := by
  refine minF_mono fun a ha => ?_
  rw [atK_has (hA a ha).2, atK_has (hA a ha).2]
  refine cap_mono ?_
  unfold hasK
  have := W_mono h.f0 h.r0 (F := F) (L := L) (R := R) (show t - a.1 ≤ u - a.1 by omega)
  omega
theorem vL_mono (hR : 0 ≤ R) (hA : ∀ a ∈ A, a.1 ≤ x ∧ 0 ≤ a.2) {t u : Int} (ht : x ≤ t) (htu : t ≤ u) : vL R A t ≤ vL R A u := by
  refine minF_mono fun a ha => ?_
  rw [linK_line (hA a ha).2, linK_line (hA a ha).2]
  refine cap_mono ?_
  unfold lineK
  have := Int.mul_le_mul_of_nonneg_left (show t - a.1 ≤ u - a.1 by omega) hR
  omega
theorem vE_mono (h : MayC F L R) (hA : ∀ a ∈ A, a.1 ≤ x ∧ 0 ≤ a.2) {t u : Int} (ht : x ≤ t) (htu : t ≤ u) : vE F L R A t ≤ vE F L R A u := by
  unfold vE; split
  · exact vA_mono h hA ht htu
  · exact vL_mono h.r0 hA ht htu
theorem vA_le {t : Int} : vA F L R A t ≤ 4611686018427387904 := minF_le_start _ _ _
theorem vA_nonneg (h : MayC F L R) (hA : ∀ a ∈ A, a.1 ≤ x ∧ 0 ≤ a.2) {t : Int} (ht : x ≤ t) : 0 ≤ vA F L R A t := by
  refine le_minF _ 0 A _ (by omega) fun a ha => ?_
  rw [atK_has (hA a ha).2]
  refine cap_nonneg ?_
  unfold hasK
  have := W_nonneg h.f0 h.r0 h.l0 (t := t - a.1) (by have := hA a ha; omega)
  have := hA a ha
  omega
theorem vL_nonneg (hR : 0 ≤ R) (hA : ∀ a ∈ A, a.1 ≤ x ∧ 0 ≤ a.2) {t : Int} (ht : x ≤ t) : 0 ≤ vL R A t := by
  refine le_minF _ 0 A _ (by omega) fun a ha => ?_
  rw [linK_line (hA a ha).2]
  refine cap_nonneg ?_
  unfold lineK
  have := hA a ha
  have := Int.mul_nonneg hR (show 0 ≤ t - a.1 by omega)
  omega
theorem vE_nonneg (h : MayC F L R) (hA : ∀ a ∈ A, a.1 ≤ x ∧ 0 ≤ a.2) {t : Int} (ht : x ≤ t) : 0 ≤ vE F L R A t := by
  unfold vE; split
  · exact vA_nonneg h hA ht
  · exact vL_nonneg h.r0 hA ht
theorem vE_le {t : Int} : vE F L R A t ≤ 4611686018427387904 := by unfold vE; split <;> exact minF_le_start _ _ _

/-- E is at least what the run has -/
theorem vA_vE (h : MayC F L R) (hA : ∀ a ∈ A, a.1 ≤ x ∧ 0 ≤ a.2) {t : Int} (ht : x ≤ t) : vA F L R A t ≤ vE F L R A t := by
  unfold vE; split
  · exact Int.le_refl _
  · rename_i hs
    refine minF_mono fun a ha => ?_
    have hk := hA a ha
    rw [atK_has hk.2, linK_line hk.2]
    refine cap_mono ?_
    rw [line_gap F L R]
    have := gap_nonneg (F := F) (L := L) (R := R) ⟨h, .inr (by omega)⟩ (show 0 ≤ t - a.1 by omega)
    omega

theorem W_sub_bent (h : MayC F L R) (hb : R < F) {u d : Int} (hu : 0 ≤ u) (hd : 0 ≤ d) : W F L R (u + d) ≤ W F L R u + W F L R d := by
  rw [W_bent hb h.l0 (show 0 ≤ u + d by omega), W_bent hb h.l0 hu, W_bent hb h.l0 hd, Int.mul_add, Int.mul_add]
  have h1 := Int.mul_le_mul_of_nonneg_right (show R ≤ F by omega) hu
  have h2 := Int.mul_le_mul_of_nonneg_right (show R ≤ F by omega) hd
  have h3 := Int.mul_nonneg (show 0 ≤ F - R by omega) h.l0
  omega
theorem W_sub_sag (h : MayC F L R) (hs : F ≤ R) {u d : Int} (hu : 0 ≤ u) (hd : 0 ≤ d) : W F L R (u + d) ≤ R * u + W F L R d := by
  rw [W_gap, W_gap F L R d, Int.mul_add]
  have := gap_mono (F := F) (L := L) (R := R) (a := u + d) (b := d) ⟨h, .inr hs⟩ hd (by omega)
  omega

/-- what a run has d ticks behind t is at most what E has at t, and what the curve has at d -/
theorem ahead_law (h : MayC F L R) (hA : ∀ a ∈ A, a.1 ≤ x ∧ 0 ≤ a.2) {t d : Int} (ht : x ≤ t) (hd : 0 ≤ d) : vA F L R A (t + d) ≤ cap (vE F L R A t + W F L R d) := by
  have w0 := W_nonneg h.f0 h.r0 h.l0 hd
  have hle : vA F L R A (t + d) ≤ 4611686018427387904 := minF_le_start _ _ _
  by_cases hb : R < F
  · have e : vE F L R A t = vA F L R A t := if_pos hb
    rw [e]
    rcases minF_at (atK F L R t) A 4611686018427387904 with h1 | ⟨a, ha, h1⟩
    · have e2 : vA F L R A t = 4611686018427387904 := h1
      rw [e2]; unfold cap; split <;> omega
    · have e2 : vA F L R A t = atK F L R t a := h1
      have hk := hA a ha
      have h3 : vA F L R A (t + d) ≤ atK F L R (t + d) a := minF_le _ A _ a ha
      rw [atK_has hk.2] at h3
      rw [e2, atK_has hk.2]
      have h4 := W_sub_bent h hb (show 0 ≤ t - a.1 by omega) hd
      rw [show t - a.1 + d = t + d - a.1 by omega] at h4
      have h5 := W_nonneg h.f0 h.r0 h.l0 (t := t - a.1) (by omega)
      unfold hasK at *
      generalize W F L R (t + d - a.1) = p at *
      generalize W F L R (t - a.1) = q at *
      generalize W F L R d = r at *
      unfold cap at *; omega
  · have e : vE F L R A t = vL R A t := if_neg hb
    rw [e]
    rcases minF_at (linK R t) A 4611686018427387904 with h1 | ⟨a, ha, h1⟩
    · have e2 : vL R A t = 4611686018427387904 := h1
      rw [e2]; unfold cap; split <;> omega
    · have e2 : vL R A t = linK R t a := h1
      have hk := hA a ha
      have h3 : vA F L R A (t + d) ≤ atK F L R (t + d) a := minF_le _ A _ a ha
      rw [atK_has hk.2] at h3
      rw [e2, linK_line hk.2]
      have h4 := W_sub_sag h (show F ≤ R by omega) (show 0 ≤ t - a.1 by omega) hd
      rw [show t - a.1 + d = t + d - a.1 by omega] at h4
      have h5 := Int.mul_nonneg h.r0 (show 0 ≤ t - a.1 by omega)
      unfold hasK at *
      unfold lineK
      generalize W F L R (t + d - a.1) = p at *
      generalize R * (t - a.1) = q at *
      generalize W F L R d = r at *
      unfold cap at *; omega
end

section
variable {v : Int → Int} {x y n : Int}
theorem Back.gt (h : Back v x y n) (hm : ∀ t u, x ≤ t → t ≤ u → v t ≤ v u) {s : Int} (hs : x ≤ s) (hsn : s < n) : v s < y := by
  rcases h with ⟨h1, h2, h3⟩ | ⟨h1, h2⟩ | ⟨h1, h2, h3⟩ | ⟨h1, h2, h3, h4⟩
  · have := hm s 9223372036854775807 hs (by omega); omega
  · omega
  · omega
  · have := hm s (n - 1) hs (by omega); omega
theorem Back.le (h : Back v x y n) (hm : ∀ t u, x ≤ t → t ≤ u → v t ≤ v u) {e : Int} (hne : n ≤ e) (he : e < 9223372036854775808) : x ≤ n ∧ y ≤ v e := by
  rcases h with ⟨h1, h2, h3⟩ | ⟨h1, h2⟩ | ⟨h1, h2, h3⟩ | ⟨h1, h2, h3, h4⟩
  · omega
  · omega
  · have := hm n e (by omega) hne; exact ⟨by omega, by omega⟩
  · have := hm n e (by omega) hne; exact ⟨by omega, by omega⟩
theorem Back.x_le (h : Back v x y n) : x ≤ n := by
  rcases h with ⟨h1, h2, h3⟩ | ⟨h1, h2⟩ | ⟨h1, h2, h3⟩ | ⟨h1, h2, h3, h4⟩ <;> omega
theorem Back.le_never (h : Back v x y n) : n ≤ 9223372036854775808 := by
  rcases h with ⟨h1, h2, h3⟩ | ⟨h1, h2⟩ | ⟨h1, h2, h3⟩ | ⟨h1, h2, h3, h4⟩ <;> omega
/-- of two, the greater one has so much earlier -/
theorem Back.less {w : Int → Int} {m : Int} (h : Back v x y n) (k : Back w x y m) (hm : ∀ t u, x ≤ t → t ≤ u → w t ≤ w u) (hvw : ∀ t, x ≤ t → v t ≤ w t) : m ≤ n := by
  have hk := k.le_never
  rcases Int.lt_or_le n m with hlt | hle
  · exfalso
    have h1 := h.x_le
    have h2 : n < 9223372036854775808 := by omega
    have h3 := k.gt hm h1 hlt
    have h4 := hvw n h1
    rcases h with ⟨a, _⟩ | ⟨a, _⟩ | ⟨_, _, a⟩ | ⟨_, _, a, _⟩ <;> omega
  · exact hle
end

end Go.Proofs.Ytipiajnaechadaa
