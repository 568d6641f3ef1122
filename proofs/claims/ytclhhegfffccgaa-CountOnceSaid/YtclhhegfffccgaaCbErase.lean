/-
  The document's book of counters: what Drop leaves, in plain words.
-/
import Derived.Test.YtclhhegfffccgaaCbGet
namespace Go.Proofs.Ytclhhegfffccgaa
set_option linter.unusedVariables false
open Go.RowKit Go.Maps

theorem del_at {R : Bk} {q : Int} {s : St} : ∀ {k : Nat}, R.Pairwise (fun a b => a.1 < b.1) → R[k]? = some (q, s) → delM R q = R.take k ++ R.drop (k + 1) := by
  induction R with
  | nil => intro k _ h; simp at h
  | cons p R ih =>
    intro k hr h
    obtain ⟨hp, hr⟩ := List.pairwise_cons.1 hr
    match k with
    | 0 =>
      simp at h
      subst h
      have : delM R q = R := List.filter_eq_self.2 fun x hx => by have := hp x hx; dsimp only at this; simp; omega
      simp only [List.take_zero, List.nil_append, List.drop_succ_cons, List.drop_zero]
      rw [← this]
      simp [delM]
    | k + 1 =>
      have hk : R[k]? = some (q, s) := by simpa using h
      have hpq := hp (q, s) (List.mem_of_getElem? hk)
      dsimp only at hpq
      have := ih hr hk
      rw [List.take_succ_cons, List.cons_append, List.drop_succ_cons, ← this]
      unfold delM
      rw [List.filter_cons_of_pos (by simp; omega)]
theorem dropB_some {B : Bk} {q : Int} {s s0 : St} {k : Nat} {R : Bk} (hB : B = (0, s0) :: R) (hpos : ∀ p ∈ R, 0 < p.1) (hr : Rising B) (hk1 : 1 ≤ k) (hk : B[k]? = some (q, s)) :
    dropB B q = (B.set 0 (0, stepsS s0 [(6, s 6, true), (7, s 7, true)])).take k ++ (B.set 0 (0, stepsS s0 [(6, s 6, true), (7, s 7, true)])).drop (k + 1) := by
  have hg : getB B q = s := by
    unfold getB
    rw [look_at' hr hk]
    rfl
  subst hB
  obtain ⟨j, rfl⟩ : ∃ j, k = j + 1 := ⟨k - 1, by omega⟩
  have hj : R[j]? = some (q, s) := by simpa using hk
  have hq := hpos (q, s) (List.mem_of_getElem? hj)
  dsimp only at hq
  have htell : tellB ((0, s0) :: R) 0 [(6, s 6, true), (7, s 7, true)] = (0, stepsS s0 [(6, s 6, true), (7, s 7, true)]) :: R := by
    simp [tellB, tell0, getB, lookM, putM]
  unfold dropB
  rw [if_neg (by omega), hg, htell]
  refine del_at (k := j + 1) (s := s) ?_ (by simpa using hj)
  exact List.pairwise_cons.2 ⟨fun x hx => hpos x hx, (List.pairwise_cons.1 hr).2⟩
end Go.Proofs.Ytclhhegfffccgaa
