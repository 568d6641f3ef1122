/-
  The plain laws of the document's answer: the least of all copies without an end, stopped, is what a run has; a search by halves.
-/
import Derived.Test.YtipiajnaechadaaRunPlain
namespace Go.Proofs.Ytipiajnaechadaa
set_option linter.unusedVariables false

theorem cap_min (a b : Int) : cap (min a b) = min (cap a) (cap b) := by unfold cap; omega
/-- the least of all copies at a tick, from m on, as the document goes through them -/
def leastW (F L R t : Int) (m : Int) (A : List (Int × Int)) : Int := A.foldl (fun m k => if hasK F L R k t < m then hasK F L R k t else m) m
theorem leastW_cap (F L R t : Int) : ∀ (A : List (Int × Int)) (m : Int), cap (leastW F L R t m A) = minF (fun k => cap (hasK F L R k t)) (cap m) A
  | [], m => rfl
  | k :: A, m => by
    have h := leastW_cap F L R t A (if hasK F L R k t < m then hasK F L R k t else m)
    have e : leastW F L R t m (k :: A) = leastW F L R t (if hasK F L R k t < m then hasK F L R k t else m) A := rfl
    have e2 : minF (fun k => cap (hasK F L R k t)) (cap m) (k :: A) = minF (fun k => cap (hasK F L R k t)) (min (cap m) (cap (hasK F L R k t))) A := rfl
    rw [e, h, e2, ← cap_min]
    congr 1
    congr 1
    split <;> omega
theorem leastW_nonneg {F L R t : Int} : ∀ (A : List (Int × Int)) (m : Int), 0 ≤ m → (∀ a ∈ A, 0 ≤ hasK F L R a t) → 0 ≤ leastW F L R t m A ∧ leastW F L R t m A ≤ m
  | [], m, h, _ => ⟨h, Int.le_refl _⟩
  | k :: A, m, h, hA => by
    have hk := hA k (List.mem_cons_self ..)
    have h2 := leastW_nonneg A (if hasK F L R k t < m then hasK F L R k t else m) (by split <;> omega) (fun a ha => hA a (List.mem_cons_of_mem _ ha))
    have e : leastW F L R t m (k :: A) = leastW F L R t (if hasK F L R k t < m then hasK F L R k t else m) A := rfl
    rw [e]
    refine ⟨h2.1, Int.le_trans h2.2 ?_⟩
    split <;> omega
theorem leastW_snoc (F L R t m : Int) (A : List (Int × Int)) (k : Int × Int) : leastW F L R t m (A ++ [k]) = if hasK F L R k t < leastW F L R t m A then hasK F L R k t else leastW F L R t m A := by
  unfold leastW
  rw [List.foldl_append]
  rfl
theorem minF_congr {f g : Int × Int → Int} : ∀ (A : List (Int × Int)) (m : Int), (∀ a ∈ A, f a = g a) → minF f m A = minF g m A
  | [], m, _ => rfl
  | k :: A, m, h => by
    have e : minF f m (k :: A) = minF f (min m (f k)) A := rfl
    have e2 : minF g m (k :: A) = minF g (min m (g k)) A := rfl
    rw [e, e2, h k (List.mem_cons_self ..), minF_congr A _ (fun a ha => h a (List.mem_cons_of_mem _ ha))]
theorem vA_leastW {F L R t : Int} {a : Int × Int} {B : List (Int × Int)} (h : ∀ k ∈ a :: B, 0 ≤ k.2) : vA F L R (a :: B) t = cap (leastW F L R t (hasK F L R a t) B) := by
  rw [leastW_cap]
  have e : vA F L R (a :: B) t = minF (atK F L R t) (min 4611686018427387904 (atK F L R t a)) B := rfl
  rw [e, atK_has (h a (List.mem_cons_self ..))]
  have e2 : min 4611686018427387904 (cap (hasK F L R a t)) = cap (hasK F L R a t) := by unfold cap; omega
  rw [e2]
  exact minF_congr B _ fun k hk => atK_has (h k (List.mem_cons_of_mem _ hk))

/-- a tick found by halves -/
theorem halves_back {v : Int → Int} {x y n : Int} (hx : x ≤ n) (hn : n ≤ 9223372036854775807) (h1 : y ≤ v n) (h2 : x < n → v (n - 1) < y) : Back v x y n :=
  Back.of (by omega) (by omega) ⟨fun h => by omega, fun _ => ⟨hx, h1, h2⟩⟩

end Go.Proofs.Ytipiajnaechadaa
