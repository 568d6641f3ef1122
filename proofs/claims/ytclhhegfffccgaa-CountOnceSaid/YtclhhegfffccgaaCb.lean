/-
  The document's book of counters, in memory: classes in a row, all first.
-/
import Derived.Test.YtclhhegfffccgaaCountTell
namespace Go.Proofs.Ytclhhegfffccgaa
set_option linter.unusedVariables false
open Go.RowKit Go.Maps

/-- a class's cells -/
def clC (p : Int × St) : List Value := .int .i64 p.1 :: (stC p.2).toList
def clCells (B : Bk) : List Value := B.flatMap clC
theorem clC_len (p : Int × St) : (clC p).length = 9 := rfl
theorem clCells_len (B : Bk) : (clCells B).length = B.length * 9 := by
  induction B with
  | nil => rfl
  | cons p B ih => simp [clCells, clC_len] at ih ⊢; omega
/-- an array holds these classes -/
def ClIn (cur : Array Value) (B : Bk) : Prop := B.length * 9 ≤ cur.size ∧ ∀ i p, B[i]? = some p → cur[i * 9]? = some (.int .i64 p.1) ∧ ∀ f, f < 8 → cur[i * 9 + 1 + f]? = some (.int .u64 (p.2 f))
theorem clC_at (p : Int × St) (j : Nat) (h : j < 9) : (clC p)[j]? = if j = 0 then some (.int .i64 p.1) else some (.int .u64 (p.2 (j - 1))) := by
  rcases (by omega : j = 0 ∨ j = 1 ∨ j = 2 ∨ j = 3 ∨ j = 4 ∨ j = 5 ∨ j = 6 ∨ j = 7 ∨ j = 8) with rfl | rfl | rfl | rfl | rfl | rfl | rfl | rfl | rfl <;> rfl
theorem clCells_at : ∀ (B : Bk) (i j : Nat) (p : Int × St), B[i]? = some p → j < 9 → (clCells B)[i * 9 + j]? = (clC p)[j]?
  | [], i, j, p, h, _ => by simp at h
  | x :: B, 0, j, p, h, hj => by
    simp at h
    subst h
    have e : clCells (x :: B) = clC x ++ clCells B := rfl
    rw [e, Nat.zero_mul, Nat.zero_add, List.getElem?_append_left (by rw [clC_len]; exact hj)]
  | x :: B, i + 1, j, p, h, hj => by
    have e : clCells (x :: B) = clC x ++ clCells B := rfl
    rw [e, List.getElem?_append_right (by rw [clC_len]; omega), clC_len, show (i + 1) * 9 + j - 9 = i * 9 + j by omega]
    exact clCells_at B i j p (by simpa using h) hj
theorem ClIn.list {cur : Array Value} {B : Bk} (h : ClIn cur B) : cur.toList.take (B.length * 9) = clCells B := by
  apply List.ext_getElem?
  intro m
  by_cases hm : m < B.length * 9
  · rw [List.getElem?_take_of_lt hm]
    obtain ⟨p, hp⟩ : ∃ p, B[m / 9]? = some p := ⟨_, List.getElem?_eq_getElem (by omega)⟩
    have e : m = m / 9 * 9 + m % 9 := by omega
    obtain ⟨h0, h1⟩ := h.2 _ _ hp
    rw [e, clCells_at B _ _ p hp (by omega), clC_at _ _ (by omega), Array.getElem?_toList]
    by_cases hj : m % 9 = 0
    · rw [if_pos hj, hj, Nat.add_zero]; exact h0
    · rw [if_neg hj]
      have := h1 (m % 9 - 1) (by omega)
      rwa [show m / 9 * 9 + 1 + (m % 9 - 1) = m / 9 * 9 + m % 9 by omega] at this
  · rw [List.getElem?_eq_none (by rw [List.length_take]; omega), List.getElem?_eq_none (by rw [clCells_len]; omega)]
theorem ClIn.of_list {cur : Array Value} {B : Bk} (h : cur.toList.take (B.length * 9) = clCells B) : ClIn cur B := by
  have hs : B.length * 9 ≤ cur.size := by
    have := congrArg List.length h
    rw [clCells_len, List.length_take] at this
    have h2 : cur.toList.length = cur.size := by simp
    omega
  refine ⟨hs, fun i p hp => ?_⟩
  have hi : i < B.length := (List.getElem?_eq_some_iff.1 hp).1
  have at_ : ∀ j, j < 9 → cur[i * 9 + j]? = (clC p)[j]? := fun j hj => by
    rw [← clCells_at B i j p hp hj, ← h, List.getElem?_take_of_lt (by omega), Array.getElem?_toList]
  refine ⟨at_ 0 (by omega), fun f hf => ?_⟩
  have := at_ (1 + f) (by omega)
  rw [← Nat.add_assoc] at this
  rw [this, clC_at _ _ (by omega), if_neg (by omega), show 1 + f - 1 = f by omega]
/-- the counters of one class are set -/
theorem ClIn.set {cur cur' : Array Value} {B : Bk} {i : Nat} {k : Int} {s s' : St} (h : ClIn cur B) (hi : B[i]? = some (k, s)) (hsz : cur'.size = cur.size) (ho : ∀ m, (m < i * 9 + 1 ∨ i * 9 + 9 ≤ m) → cur'[m]? = cur[m]?) (hn : ∀ f, f < 8 → cur'[i * 9 + 1 + f]? = some (.int .u64 (s' f))) : ClIn cur' (B.set i (k, s')) := by
  refine ⟨by rw [List.length_set, hsz]; exact h.1, fun j p hj => ?_⟩
  rw [List.getElem?_set] at hj
  by_cases e : i = j
  · subst e
    rw [if_pos rfl, if_pos (List.getElem?_eq_some_iff.1 hi).1] at hj
    cases hj
    exact ⟨(ho _ (.inl (by omega))).trans (h.2 _ _ hi).1, hn⟩
  · rw [if_neg e] at hj
    obtain ⟨h0, h1⟩ := h.2 _ _ hj
    exact ⟨(ho _ (by omega)).trans h0, fun f hf => (ho _ (by omega)).trans (h1 f hf)⟩

/-- the document's book -/
structure CbAt (W : World) (base p : Nat) (B : Bk) : Prop where
  ex : ∃ g cap cur, Blk W p 63 #[.slice (some ⟨g, 0, none⟩) B.length cap] ∧ Blk W g 60 cur ∧ ClIn cur B ∧ B.length ≤ cap ∧ cur.size = cap * 9 ∧ cap ≤ maxLen ∧ base ≤ g
  pb : base ≤ p
  ok : OkB B
theorem CbAt.later {W W' : World} {base p : Nat} {B : Bk} (h : CbAt W base p B) (hb : Below W.heap.size W W') : CbAt W' base p B := by
  obtain ⟨⟨g, cap, cur, h1, h2, h3⟩, h4, h5⟩ := h
  exact ⟨⟨g, cap, cur, h1.below hb h1.lt, h2.below hb h2.lt, h3⟩, h4, h5⟩
theorem CbAt.base_le {W : World} {base p : Nat} {B : Bk} (h : CbAt W base p B) : base ≤ W.heap.size := by
  obtain ⟨⟨g, cap, cur, h1, _⟩, h4, _⟩ := h
  have := h1.lt
  omega
/-- a map turned -/
theorem CbAt.told {W W' : World} {base p m : Nat} {B : Bk} {M : List (Int × Value)} (h : CbAt W base p B) (hm : MapI Try.prog 3 W m M) (hg : W.grownBy W' (some m)) : CbAt W' base p B := by
  obtain ⟨⟨g, cap, cur, h1, h2, h3⟩, h4, h5⟩ := h
  obtain ⟨es, clock, hmm, _⟩ := hm
  refine ⟨⟨g, cap, cur, h1.grown hg fun e => ?_, h2.grown hg fun e => ?_, h3⟩, h4, h5⟩
  · cases e
    have := hmm.symm.trans h1
    simp at this
  · cases e
    have := hmm.symm.trans h2
    simp at this
/-- a class with nothing counted is put in, if it is not there -/
def insB (B : Bk) (c : Int) : Bk := if (lookM B c).isSome then B else putM B c st0
theorem ins_get {B : Bk} {c : Int} (h : lookM B c = none) : getB B c = st0 := by unfold getB; rw [h]; rfl
theorem put_at {α : Type} {c : Int} {v v' : α} : ∀ {L : List (Int × α)} {k : Nat}, (putM L c v)[k]? = some (c, v) → Rising L → lookM L c = none → (putM L c v).set k (c, v') = putM L c v'
  | [], k, h, _, _ => by
    unfold putM at h ⊢
    cases k with
    | zero => rfl
    | succ k => simp at h
  | p :: r, k, h, hr, hn => by
    have hp : p.1 ≠ c := look_none.1 hn p (.head _)
    have hrr := (List.pairwise_cons.1 hr).2
    have hnr : lookM r c = none := look_none.2 fun q hq => look_none.1 hn q (.tail _ hq)
    unfold putM at h ⊢
    by_cases hlt : c < p.1
    · rw [if_pos hlt] at h ⊢
      rw [if_pos hlt]
      cases k with
      | zero => rfl
      | succ k =>
        exfalso
        have hr0 : (p :: r)[k]? = some (c, v) := by simpa using h
        have hm := List.mem_of_getElem? hr0
        exact look_none.1 hn _ hm rfl
    · rw [if_neg hlt, if_neg hp] at h ⊢
      rw [if_neg hlt, if_neg hp]
      cases k with
      | zero =>
        simp at h
        exact absurd (by rw [h]) hp
      | succ k => rw [List.set_cons_succ, put_at (L := r) (k := k) (v := v) (by simpa using h) hrr hnr]
theorem put_same {α : Type} {c : Int} {v v' : α} : ∀ {L : List (Int × α)} {k : Nat}, L[k]? = some (c, v) → Rising L → L.set k (c, v') = putM L c v'
  | [], k, h, _ => by simp at h
  | p :: r, 0, h, _ => by
    simp at h
    subst h
    unfold putM
    simp
  | p :: r, k + 1, h, hr => by
    have h1 := (List.pairwise_cons.1 hr).1
    have hr0 : r[k]? = some (c, v) := by simpa using h
    have hm : p.1 < c := h1 _ (List.mem_of_getElem? hr0)
    unfold putM
    rw [if_neg (by omega), if_neg (by omega), List.set_cons_succ, put_same (L := r) (k := k) (v := v) hr0 (List.pairwise_cons.1 hr).2]
theorem look_idx {α : Type} {c : Int} {v : α} : ∀ {L : List (Int × α)}, lookM L c = some v → ∃ k : Nat, L[k]? = some (c, v)
  | [], h => by cases h
  | p :: r, h => by
    unfold lookM at h
    by_cases e : p.1 = c
    · rw [if_pos e] at h
      cases h
      exact ⟨0, by rw [← e]; rfl⟩
    · rw [if_neg e] at h
      obtain ⟨k, hk⟩ := look_idx h
      exact ⟨k + 1, by simpa using hk⟩
theorem look_at' {α : Type} : ∀ {L : List (Int × α)} {i : Nat} {k : Int} {c : α}, Rising L → L[i]? = some (k, c) → lookM L k = some c
  | [], i, k, c, _, h => by simp at h
  | p :: r, i, k, c, hr, h => by
    cases i with
    | zero =>
      simp at h
      subst h
      simp [lookM]
    | succ i =>
      simp at h
      have h1 := (List.pairwise_cons.1 hr).1 _ (List.mem_of_getElem? h)
      have h2 := look_at' (List.pairwise_cons.1 hr).2 h
      unfold lookM
      simp only at h1
      rw [if_neg (by omega)]
      exact h2
theorem ins_set {B : Bk} {c : Int} {k : Nat} {v v' : St} (hr : Rising B) (h : (insB B c)[k]? = some (c, v)) : (insB B c).set k (c, v') = putM B c v' := by
  unfold insB at h ⊢
  split
  · rename_i hs
    rw [if_pos hs] at h
    exact put_same h hr
  · rename_i hs
    rw [if_neg hs] at h
    have hn : lookM B c = none := by simpa using hs
    have hv : v = st0 := by
      have h1 := look_put_same c st0 B
      have hm := look_at' (rising_put c st0 hr) h
      rw [h1] at hm
      exact (Option.some.inj hm).symm
    subst hv
    exact put_at h hr hn
end Go.Proofs.Ytclhhegfffccgaa
