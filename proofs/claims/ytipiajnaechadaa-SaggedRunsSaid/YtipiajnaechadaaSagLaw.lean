/-
  The plain law of a sagging run, part 2: when it has so much, and its line; how far the line is above. No program in sight.
-/
import Derived.Test.YtipiajnaechadaaSagPlain
namespace Go.Proofs.Ytipiajnaechadaa
set_option linter.unusedVariables false

/-- the last of the ticks at which each copy has y, by what it needs from its start on -/
def lastL (needs : Int → Int) (y : Int) : List (Int × Int) → Int → Int
  | [], a => a
  | k :: K, a => if 9223372036854775808 - k.1 ≤ needs (less y k.2) then 9223372036854775808 else lastL needs y K (max a (k.1 + needs (less y k.2)))
def lastAt (needs : Int → Int) (y : Int) (K : List (Int × Int)) (s : Int) : Int := if 4611686018427387904 < y then 9223372036854775808 else lastL needs y K s

theorem lastL_never (needs : Int → Int) (y : Int) : ∀ (K : List (Int × Int)) (a : Int), a ≤ 9223372036854775808 → lastL needs y K a ≤ 9223372036854775808
  | [], a, h => h
  | k :: K, a, h => by
    unfold lastL
    split
    · exact Int.le_refl _
    · exact lastL_never needs y K _ (by omega)
theorem lastL_le {n1 n2 : Int → Int} {y : Int} (hn : ∀ m, 0 ≤ m → m ≤ 4611686018427387904 → n1 m ≤ n2 m) : ∀ (K : List (Int × Int)) (a b : Int), a ≤ b → a ≤ 9223372036854775808 → lastL n1 y K a ≤ lastL n2 y K b
  | [], a, b, h, _ => h
  | k :: K, a, b, h, ha => by
    have h0 : 0 ≤ less y k.2 := U_less.1
    have h1 : less y k.2 ≤ 4611686018427387904 := by unfold less cap; omega
    have h2 := hn _ h0 h1
    unfold lastL
    by_cases c1 : 9223372036854775808 - k.1 ≤ n1 (less y k.2)
    · rw [if_pos c1, if_pos (by omega)]; exact Int.le_refl _
    · rw [if_neg c1]
      by_cases c2 : 9223372036854775808 - k.1 ≤ n2 (less y k.2)
      · rw [if_pos c2]; exact lastL_never _ _ _ _ (by omega)
      · rw [if_neg c2]; exact lastL_le hn K _ _ (by omega) (by omega)

/-- r is the first tick at which f is m, or it never is -/
def FirstF (f : Int → Int) (m r : Int) : Prop :=
  (r = 9223372036854775808 ∧ ∀ t, 0 ≤ t → f t < m) ∨ (0 ≤ r ∧ m ≤ f r ∧ ∀ t, 0 ≤ t → t < r → f t < m)

theorem lastL_spec {f needs : Int → Int} {y : Int} (hn : ∀ m, 0 ≤ m → m ≤ 4611686018427387904 → FirstF f m (needs m)) (hf : ∀ t, 0 ≤ t → 0 ≤ f t) (hm : ∀ t u, 0 ≤ t → t ≤ u → f t ≤ f u) (hy : y ≤ 4611686018427387904) :
    ∀ (K : List (Int × Int)) (a : Int), (∀ k ∈ K, 0 ≤ k.1 ∧ k.1 ≤ a ∧ 0 ≤ k.2) →
    (lastL needs y K a = 9223372036854775808 ∧ ∃ k ∈ K, ∀ t, k.1 ≤ t → t < 9223372036854775808 → k.2 + f (t - k.1) < y) ∨
    (a ≤ lastL needs y K a ∧ (∀ k ∈ K, y ≤ k.2 + f (lastL needs y K a - k.1)) ∧ (lastL needs y K a = a ∨ ∃ k ∈ K, ∀ t, k.1 ≤ t → t < lastL needs y K a → k.2 + f (t - k.1) < y))
  | [], a, _ => .inr ⟨Int.le_refl _, (by intro k hk; simp at hk), .inl rfl⟩
  | k :: K, a, hK => by
    obtain ⟨hk0, hka, hk2⟩ := hK k (by simp)
    have h0 : 0 ≤ less y k.2 := U_less.1
    have h1 : less y k.2 ≤ 4611686018427387904 := by unfold less cap; omega
    have h2 : 0 < less y k.2 → less y k.2 = y - k.2 := by unfold less cap; intro h; omega
    have h3 : y ≤ k.2 + less y k.2 := by unfold less cap; omega
    have hF := hn _ h0 h1
    unfold lastL
    by_cases c1 : 9223372036854775808 - k.1 ≤ needs (less y k.2)
    · rw [if_pos c1]
      refine .inl ⟨rfl, k, by simp, fun t ht htn => ?_⟩
      have hlt : f (t - k.1) < less y k.2 := by
        rcases hF with ⟨_, h4⟩ | ⟨_, _, h4⟩
        · exact h4 _ (by omega)
        · exact h4 _ (by omega) (by omega)
      have := hf (t - k.1) (by omega)
      have := h2 (by omega)
      omega
    · rw [if_neg c1]
      obtain ⟨hr0, hr1, hr2⟩ : 0 ≤ needs (less y k.2) ∧ less y k.2 ≤ f (needs (less y k.2)) ∧ ∀ t, 0 ≤ t → t < needs (less y k.2) → f t < less y k.2 := by
        rcases hF with ⟨h4, _⟩ | h4
        · omega
        · exact h4
      generalize hnn : needs (less y k.2) = n at *
      rcases lastL_spec hn hf hm hy K (max a (k.1 + n)) (fun x hx => by have := hK x (by simp [hx]); exact ⟨this.1, by omega, this.2.2⟩) with ⟨e, x, hx, h4⟩ | ⟨e, h4, h5⟩
      · exact .inl ⟨e, x, by simp [hx], h4⟩
      · generalize lastL needs y K (max a (k.1 + n)) = r at *
        refine .inr ⟨by omega, fun x hx => ?_, ?_⟩
        · rcases List.mem_cons.1 hx with rfl | hx
          · have := hm n (r - x.1) hr0 (by omega)
            omega
          · exact h4 x hx
        · rcases h5 with h5 | ⟨x, hx, h5⟩
          · by_cases hc : r = a
            · exact .inl hc
            · refine .inr ⟨k, by simp, fun t ht htr => ?_⟩
              have hlt := hr2 (t - k.1) (by omega) (by omega)
              have := hf (t - k.1) (by omega)
              have := h2 (by omega)
              omega
          · exact .inr ⟨x, by simp [hx], h5⟩

/-- at the tick that lastAt tells all have y, a tick ahead not; v: the least of what all have -/
theorem back_any {f needs : Int → Int} {y s : Int} {K : List (Int × Int)} (v : Int → Int) (hn : ∀ m, 0 ≤ m → m ≤ 4611686018427387904 → FirstF f m (needs m)) (hf : ∀ t, 0 ≤ t → 0 ≤ f t) (hm : ∀ t u, 0 ≤ t → t ≤ u → f t ≤ f u)
    (hK : ∀ k ∈ K, 0 ≤ k.1 ∧ k.1 ≤ s ∧ 0 ≤ k.2) (hs : s ≤ 9223372036854775808)
    (hv1 : ∀ t, v t ≤ 4611686018427387904) (hv2 : ∀ t, s ≤ t → ∀ k ∈ K, v t ≤ k.2 + f (t - k.1)) (hv3 : ∀ t, s ≤ t → y ≤ 4611686018427387904 → (∀ k ∈ K, y ≤ k.2 + f (t - k.1)) → y ≤ v t) :
    (lastAt needs y K s = 9223372036854775808 → s < 9223372036854775808 → v 9223372036854775807 < y) ∧
    (lastAt needs y K s < 9223372036854775808 → s ≤ lastAt needs y K s ∧ y ≤ v (lastAt needs y K s) ∧ (s < lastAt needs y K s → v (lastAt needs y K s - 1) < y)) := by
  unfold lastAt
  by_cases hy : 4611686018427387904 < y
  · rw [if_pos hy]
    exact ⟨fun _ _ => by have := hv1 9223372036854775807; omega, fun h => by omega⟩
  · rw [if_neg hy]
    rcases lastL_spec (y := y) hn hf hm (by omega) K s hK with ⟨e, k, hk, h1⟩ | ⟨h0, h1, h2⟩
    · rw [e]
      refine ⟨fun _ h => ?_, fun h => by omega⟩
      have := h1 9223372036854775807 (by have := hK k hk; omega) (by omega)
      have := hv2 9223372036854775807 (by omega) k hk
      omega
    · generalize lastL needs y K s = r at *
      refine ⟨fun hr hs2 => ?_, fun hr => ⟨h0, hv3 r h0 (by omega) h1, fun hlt => ?_⟩⟩
      · rcases h2 with h2 | ⟨k, hk, h2⟩
        · omega
        · have := h2 9223372036854775807 (by have := hK k hk; omega) (by omega)
          have := hv2 9223372036854775807 (by omega) k hk
          omega
      · rcases h2 with h2 | ⟨k, hk, h2⟩
        · omega
        · have := h2 (r - 1) (by have := hK k hk; omega) (by omega)
          have := hv2 (r - 1) (by omega) k hk
          omega

end Go.Proofs.Ytipiajnaechadaa
