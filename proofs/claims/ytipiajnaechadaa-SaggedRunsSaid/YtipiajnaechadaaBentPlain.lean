/-
  The plain law of a bent run: two lines' heights tell the least of what all copies have. No program in sight.
-/
import Derived.Test.YtipiajnaechadaaSagLaw
namespace Go.Proofs.Ytipiajnaechadaa
set_option linter.unusedVariables false

/-- a line of slope s, of height h at the tick x, tells for each later tick the least of the lines of all copies, each m above its copy's start -/
structure Below1 (s m x h : Int) (A : List (Int × Int)) : Prop where
  h0 : 0 ≤ h
  h1 : h ≤ 4611686018427387904
  eq : ∀ t, x ≤ t → cap (h + s * (t - x)) = minF (fun k => cap (k.2 + m + s * (t - k.1))) 4611686018427387904 A

theorem mul_split (s a b c : Int) : s * (c - a) = s * (b - a) + s * (c - b) := by rw [← Int.mul_add]; congr 1; omega

theorem Below1.first {s m x y : Int} (hs : 0 ≤ s) (hm : 0 ≤ m) (hy0 : 0 ≤ y) : Below1 s m x (cap (y + m)) [(x, y)] := by
  refine ⟨cap_nonneg (by omega), cap_le _, fun t ht => ?_⟩
  have := Int.mul_nonneg hs (show 0 ≤ t - x by omega)
  simp only [minF, List.foldl_cons, List.foldl_nil]
  unfold cap; split <;> split <;> (try split) <;> omega
theorem Below1.next {s m x x' y h : Int} {A : List (Int × Int)} (hs : 0 ≤ s) (hm : 0 ≤ m) (hy0 : 0 ≤ y) (hx : x ≤ x') (b : Below1 s m x h A) :
    Below1 s m x' (min (cap (h + cap (s * (x' - x)))) (cap (y + m))) (A ++ [(x', y)]) := by
  have b0 := b.h0
  have hd := Int.mul_nonneg hs (show 0 ≤ x' - x by omega)
  have c1 := cap_nonneg hd
  refine ⟨?_, ?_, fun t ht => ?_⟩
  · have := cap_nonneg (show 0 ≤ h + cap (s * (x' - x)) by omega); have := cap_nonneg (show 0 ≤ y + m by omega); omega
  · have := cap_le (y + m); omega
  · have h1 := b.eq t (by omega)
    have h2 : minF (fun k => cap (k.2 + m + s * (t - k.1))) 4611686018427387904 (A ++ [(x', y)]) = min (minF (fun k => cap (k.2 + m + s * (t - k.1))) 4611686018427387904 A) (cap (y + m + s * (t - x'))) := by
      simp [minF, List.foldl_append]
    rw [h2, ← h1, mul_split s x x' t]
    have hd2 := Int.mul_nonneg hs (show 0 ≤ t - x' by omega)
    generalize s * (x' - x) = d at *
    generalize s * (t - x') = e at *
    unfold cap; omega

/-- the least of two is the least of both -/
theorem minF_two (f g : Int × Int → Int) (m : Int) : ∀ (A : List (Int × Int)), min (minF f m A) (minF g m A) = minF (fun k => min (f k) (g k)) m A := by
  intro A
  apply Int.le_antisymm
  · refine le_minF _ _ A m ?_ fun k hk => ?_
    · have := minF_le_start f A m; omega
    · have := minF_le f A m k hk; have := minF_le g A m k hk
      omega
  · have h1 := le_minF f (minF (fun k => min (f k) (g k)) m A) A m (minF_le_start _ A m) fun k hk => by have := minF_le (fun k => min (f k) (g k)) A m k hk; omega
    have h2 := le_minF g (minF (fun k => min (f k) (g k)) m A) A m (minF_le_start _ A m) fun k hk => by have := minF_le (fun k => min (f k) (g k)) A m k hk; omega
    omega

/-- a curve that is bent: two lines -/
theorem W_bent {F L R u : Int} (h : R < F) (hL : 0 ≤ L) (hu : 0 ≤ u) : W F L R u = min (F * u) ((F - R) * L + R * u) := by
  by_cases hul : u ≤ L
  · rw [W_early hul]
    have : (F - R) * u ≤ (F - R) * L := Int.mul_le_mul_of_nonneg_left hul (by omega)
    rw [Int.sub_mul] at this
    rw [Int.sub_mul] at this ⊢
    omega
  · rw [W_late (by omega)]
    have : (F - R) * L ≤ (F - R) * u := Int.mul_le_mul_of_nonneg_left (by omega) (by omega)
    rw [Int.sub_mul, Int.sub_mul] at this
    rw [Int.sub_mul, Int.mul_sub]
    omega

theorem bent_at {F L R x t h1 h2 : Int} {A : List (Int × Int)} (h : R < F) (hL : 0 ≤ L) (hA : ∀ a ∈ A, a.1 ≤ x ∧ 0 ≤ a.2) (b1 : Below1 F 0 x h1 A) (b2 : Below1 R ((F - R) * L) x h2 A) (ht : x ≤ t) :
    min (cap (h1 + F * (t - x))) (cap (h2 + R * (t - x))) = minF (atK F L R t) 4611686018427387904 A := by
  rw [b1.eq t ht, b2.eq t ht, minF_two]
  have : ∀ (l : List (Int × Int)) (m : Int), (∀ a ∈ l, a.1 ≤ x ∧ 0 ≤ a.2) → minF (fun k => min (cap (k.2 + 0 + F * (t - k.1))) (cap (k.2 + (F - R) * L + R * (t - k.1)))) m l = minF (atK F L R t) m l := by
    intro l
    induction l with
    | nil => intro m _; rfl
    | cons k l ih =>
      intro m hl
      have hk := hl k (by simp)
      have e : min (cap (k.2 + 0 + F * (t - k.1))) (cap (k.2 + (F - R) * L + R * (t - k.1))) = atK F L R t k := by
        rw [atK_has hk.2]
        unfold hasK
        rw [W_bent h hL (by omega)]
        generalize F * (t - k.1) = p
        generalize (F - R) * L = q
        generalize R * (t - k.1) = r
        unfold cap; omega
      simp only [minF, List.foldl_cons] at ih ⊢
      rw [e]
      exact ih _ fun a ha => hl a (by simp [ha])
  exact this A _ hA

/-- how many ticks a line needs up to y -/
def untilL (s h y : Int) : Int := if y ≤ h then 0 else if s = 0 ∨ 4611686018427387904 < y then 9223372036854775808 else ceil (y - h) s

theorem untilL_bd {s h y : Int} (hs : 0 ≤ s) (hh : 0 ≤ h) : 0 ≤ untilL s h y ∧ untilL s h y ≤ 9223372036854775808 := by
  unfold untilL
  split
  · omega
  · split
    · omega
    · rename_i h1 h2
      have h3 := ceil_nonneg (y := y - h) (c := s) (by omega) (by omega)
      have h4 := ceil_le (y := y - h) (c := s) (by omega) (by omega)
      omega

theorem untilL_spec {s h y : Int} (hs : 0 ≤ s) (hh : 0 ≤ h) (hh1 : h ≤ 4611686018427387904) :
    (untilL s h y = 9223372036854775808 ∧ ∀ n, 0 ≤ n → cap (h + s * n) < y) ∨ (untilL s h y ≤ 4611686018427387904 ∧ (∀ n, untilL s h y ≤ n → y ≤ cap (h + s * n)) ∧ ∀ n, 0 ≤ n → n < untilL s h y → cap (h + s * n) < y) := by
  unfold untilL
  by_cases h1 : y ≤ h
  · rw [if_pos h1]
    refine .inr ⟨by omega, fun n hn => ?_, fun n h0 hn => by omega⟩
    have := Int.mul_nonneg hs hn
    unfold cap; split <;> omega
  · rw [if_neg h1]
    by_cases h2 : s = 0 ∨ 4611686018427387904 < y
    · rw [if_pos h2]
      refine .inl ⟨rfl, fun n hn => ?_⟩
      rcases h2 with h2 | h2
      · rw [h2, Int.zero_mul]; unfold cap; split <;> omega
      · have := cap_le (h + s * n); omega
    · rw [if_neg h2]
      have h3 := ceil_le (y := y - h) (c := s) (by omega) (by omega)
      have h4 := ceil_mul (y := y - h) (c := s) (by omega)
      refine .inr ⟨by omega, fun n hn => ?_, fun n h0 hn => ?_⟩
      · have := Int.mul_le_mul_of_nonneg_left hn hs
        unfold cap; split <;> omega
      · have := ceil_lt (y := y - h) (c := s) (t := n) (by omega) hn
        unfold cap; split <;> omega

/-- what is known of a tick at which v has y, or of Never -/
def Back (v : Int → Int) (x y n : Int) : Prop :=
  (n = 9223372036854775808 ∧ x < 9223372036854775808 ∧ v 9223372036854775807 < y) ∨ (n = 9223372036854775808 ∧ x = 9223372036854775808) ∨
  (n < 9223372036854775808 ∧ x = n ∧ y ≤ v n) ∨ (n < 9223372036854775808 ∧ x < n ∧ y ≤ v n ∧ v (n - 1) < y)
theorem Back.of {v : Int → Int} {x y n : Int} (hx : x ≤ 9223372036854775808) (hn : n ≤ 9223372036854775808) (h : (n = 9223372036854775808 → x < 9223372036854775808 → v 9223372036854775807 < y) ∧ (n < 9223372036854775808 → x ≤ n ∧ y ≤ v n ∧ (x < n → v (n - 1) < y))) : Back v x y n := by
  by_cases h1 : n = 9223372036854775808
  · by_cases h2 : x = 9223372036854775808
    · exact .inr (.inl ⟨h1, h2⟩)
    · exact .inl ⟨h1, by omega, h.1 h1 (by omega)⟩
  · have h3 := h.2 (by omega)
    by_cases h2 : x = n
    · exact .inr (.inr (.inl ⟨by omega, h2, h3.2.1⟩))
    · exact .inr (.inr (.inr ⟨by omega, by omega, h3.2.1, h3.2.2 (by omega)⟩))

/-- the tick at which both lines have y -/
def reachB (F R x h1 h2 y : Int) : Int :=
  if 9223372036854775808 - x ≤ max (untilL F h1 y) (untilL R h2 y) then 9223372036854775808 else x + max (untilL F h1 y) (untilL R h2 y)

theorem bent_back {F L R x y h1 h2 : Int} {A : List (Int × Int)} (h : R < F) (hR : 0 ≤ R) (hL : 0 ≤ L) (hx0 : 0 ≤ x) (hx1 : x ≤ 9223372036854775808) (hA : ∀ a ∈ A, a.1 ≤ x ∧ 0 ≤ a.2) (b1 : Below1 F 0 x h1 A) (b2 : Below1 R ((F - R) * L) x h2 A) :
    Back (fun t => minF (atK F L R (max t x)) 4611686018427387904 A) x y (reachB F R x h1 h2 y) := by
  have hv : ∀ t, x ≤ t → minF (atK F L R (max t x)) 4611686018427387904 A = min (cap (h1 + F * (t - x))) (cap (h2 + R * (t - x))) := fun t ht => by
    rw [Int.max_eq_left ht, bent_at h hL hA b1 b2 ht]
  have s1 := untilL_spec (y := y) (show 0 ≤ F by omega) b1.h0 b1.h1
  have s2 := untilL_spec (y := y) hR b2.h0 b2.h1
  have d1 := untilL_bd (y := y) (show 0 ≤ F by omega) b1.h0
  have d2 := untilL_bd (y := y) hR b2.h0
  unfold reachB
  generalize untilL F h1 y = u1 at *
  generalize untilL R h2 y = u2 at *
  by_cases hn : 9223372036854775808 - x ≤ max u1 u2
  · rw [if_pos hn]
    refine Back.of hx1 (Int.le_refl _) ⟨fun _ hlt => ?_, fun hh => by omega⟩
    rw [hv _ (by omega)]
    rcases Int.lt_or_le u1 (9223372036854775808 - x) with hu | hu
    · rcases s2 with ⟨_, e⟩ | ⟨_, _, e⟩
      · have := e (9223372036854775807 - x) (by omega); omega
      · have := e (9223372036854775807 - x) (by omega) (by omega); omega
    · rcases s1 with ⟨_, e⟩ | ⟨_, _, e⟩
      · have := e (9223372036854775807 - x) (by omega); omega
      · have := e (9223372036854775807 - x) (by omega) (by omega); omega
  · rw [if_neg hn]
    refine Back.of hx1 (by omega) ⟨fun hh => by omega, fun _ => ⟨by omega, ?_, fun hlt => ?_⟩⟩
    · rw [hv _ (by omega)]
      rcases s1 with ⟨e, _⟩ | ⟨_, e1, _⟩
      · omega
      · rcases s2 with ⟨e, _⟩ | ⟨_, e2, _⟩
        · omega
        · have := e1 (x + max u1 u2 - x) (by omega); have := e2 (x + max u1 u2 - x) (by omega)
          omega
    · rw [hv _ (by omega)]
      rcases Int.lt_or_le u1 (max u1 u2) with hu | hu
      · rcases s2 with ⟨e, _⟩ | ⟨_, _, e⟩
        · omega
        · have := e (x + max u1 u2 - 1 - x) (by omega) (by omega); omega
      · rcases s1 with ⟨e, _⟩ | ⟨_, _, e⟩
        · omega
        · have := e (x + max u1 u2 - 1 - x) (by omega) (by omega); omega

end Go.Proofs.Ytipiajnaechadaa
