/-
  Corners put in one by one, each where it belongs, in plain arithmetic.
-/
import Derived.Test.YthmhboagbeibdaaGreatSumsPlain
namespace Go.Proofs.YthmhboagbeibdaaGreat
set_option linter.unusedVariables false

theorem IsCorn.nil : IsCorn [] [] := ⟨by simp, fun n => by simp⟩
theorem IsCorn.skip {f : List Cv} {ks : List Int} {c : Cv} (h : IsCorn f ks) (hc : okC c = false ∨ c.2.1 = 0) : IsCorn (f ++ [c]) ks := by
  refine ⟨h.up, fun n => ?_⟩
  rw [h.mem]
  constructor
  · rintro ⟨d, hd, h1⟩; exact ⟨d, by simp [hd], h1⟩
  · rintro ⟨d, hd, h1, h2, h3⟩
    rcases List.mem_append.1 hd with hd | hd
    · exact ⟨d, hd, h1, h2, h3⟩
    · simp at hd; subst hd
      rcases hc with hc | hc
      · rw [hc] at h1; cases h1
      · exact absurd hc h2
theorem IsCorn.again {f : List Cv} {ks : List Int} {c : Cv} (h : IsCorn f ks) (hc : c.2.1 ∈ ks) : IsCorn (f ++ [c]) ks := by
  refine ⟨h.up, fun n => ?_⟩
  constructor
  · intro hn
    obtain ⟨d, hd, h1⟩ := (h.mem n).1 hn
    exact ⟨d, by simp [hd], h1⟩
  · rintro ⟨d, hd, h1, h2, h3⟩
    rcases List.mem_append.1 hd with hd | hd
    · exact (h.mem n).2 ⟨d, hd, h1, h2, h3⟩
    · simp at hd; subst hd; rw [← h3]; exact hc
/-- put in at a place -/
theorem IsCorn.put {f : List Cv} {ks : List Int} {c : Cv} (h : IsCorn f ks) (ho : okC c = true) (hn : c.2.1 ≠ 0) (p : Nat) (hp : p ≤ ks.length)
    (hlo : ∀ x ∈ (0 :: ks).take (p + 1), x < c.2.1) (hhi : ∀ x ∈ (0 :: ks).drop (p + 1), c.2.1 < x) :
    IsCorn (f ++ [c]) (ks.take p ++ c.2.1 :: ks.drop p) := by
  have e1 : (0 :: ks).take (p + 1) = 0 :: ks.take p := rfl
  have e2 : (0 :: ks).drop (p + 1) = ks.drop p := rfl
  rw [e1] at hlo
  rw [e2] at hhi
  refine ⟨?_, fun n => ?_⟩
  · have hs : (0 :: ks.take p ++ ks.drop p).Pairwise (· < ·) := by rw [List.cons_append, List.take_append_drop]; exact h.up
    have hA := List.pairwise_append.1 hs
    rw [show 0 :: (ks.take p ++ c.2.1 :: ks.drop p) = (0 :: ks.take p) ++ c.2.1 :: ks.drop p from rfl]
    refine List.pairwise_append.2 ⟨hA.1, List.pairwise_cons.2 ⟨hhi, hA.2.1⟩, fun a ha b hb => ?_⟩
    rcases List.mem_cons.1 hb with rfl | hb
    · exact hlo a ha
    · exact hA.2.2 a ha b hb
  · have hm : n ∈ ks.take p ++ c.2.1 :: ks.drop p ↔ n = c.2.1 ∨ n ∈ ks := by
      rw [List.mem_append, List.mem_cons]
      conv => rhs; rw [← List.take_append_drop p ks, List.mem_append]
      constructor
      · rintro (h | h | h)
        · exact .inr (.inl h)
        · exact .inl h
        · exact .inr (.inr h)
      · rintro (h | h | h)
        · exact .inr (.inl h)
        · exact .inl h
        · exact .inr (.inr h)
    rw [hm, h.mem]
    constructor
    · rintro (rfl | ⟨d, hd, h1⟩)
      · exact ⟨c, by simp, ho, hn, rfl⟩
      · exact ⟨d, by simp [hd], h1⟩
    · rintro ⟨d, hd, h1, h2, h3⟩
      rcases List.mem_append.1 hd with hd | hd
      · exact .inr ⟨d, hd, h1, h2, h3⟩
      · simp at hd; subst hd; exact .inl h3.symm
end Go.Proofs.YthmhboagbeibdaaGreat
