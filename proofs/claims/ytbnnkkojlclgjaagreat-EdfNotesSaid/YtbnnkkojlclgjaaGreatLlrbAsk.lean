/-
  A left-leaning tree of red and black nodes, in plain words: what is told of it: an entry, the least summary of all, of those up to a number, the first one of at most a value.
-/
import Derived.Test.YtbnnkkojlclgjaaGreatLlrbOk
namespace Go.Proofs.YtbnnkkojlclgjaaGreat
set_option linter.unusedVariables false

theorem lessH_le {a b : Ky} : (lessH a b = a ∧ lessK b a = false) ∨ (lessH a b = b ∧ lessK b a = true) := by
  unfold lessH
  by_cases h : a = b ∨ lessK a b = true
  · rw [if_pos h]
    refine .inl ⟨rfl, ?_⟩
    rcases h with rfl | h
    · exact lessK_irr a
    · exact lessK_asym h
  · rw [if_neg h]
    refine .inr ⟨rfl, ?_⟩
    cases e : lessK b a
    · have h2 : lessK a b = false := by
        cases e2 : lessK a b
        · rfl
        · exact absurd (.inr e2) h
      exact absurd (.inl (lessK_tri h2 e)) h
    · rfl
/-- the least of a row -/
def LeastH (s : Ky) (L : List Ky) : Prop := s ∈ L ∧ ∀ z ∈ L, lessK z s = false
theorem LeastH.unique {s t : Ky} {L : List Ky} (h : LeastH s L) (k : LeastH t L) : s = t := lessK_tri (k.2 s h.1) (h.2 t k.1)
theorem not_less_trans {a b c : Ky} (h : lessK b a = false) (k : lessK c b = false) : lessK c a = false := by
  cases e : lessK c a
  · rfl
  · cases e2 : lessK a b
    · rw [lessK_tri e2 h] at e; rw [e] at k; cases k
    · rw [lessK_trans e e2] at k; cases k
theorem LeastH.append {a b : Ky} {A B : List Ky} (h : LeastH a A) (k : LeastH b B) : LeastH (lessH a b) (A ++ B) := by
  rcases lessH_le (a := a) (b := b) with ⟨e, h2⟩ | ⟨e, h2⟩ <;> rw [e]
  · refine ⟨List.mem_append.2 (.inl h.1), fun z hz => ?_⟩
    rcases List.mem_append.1 hz with hz | hz
    · exact h.2 z hz
    · exact not_less_trans h2 (k.2 z hz)
  · refine ⟨List.mem_append.2 (.inr k.1), fun z hz => ?_⟩
    rcases List.mem_append.1 hz with hz | hz
    · exact not_less_trans (lessK_asym h2) (h.2 z hz)
    · exact k.2 z hz
theorem LeastH.one (a : Ky) : LeastH a [a] := ⟨.head _, fun z hz => by rw [List.mem_singleton.1 hz]; exact lessK_irr a⟩
def ownE (e : En) : Ky := ownK e.1 e.2
/-- a node's summary is the least of all below -/
theorem SumOk.least : ∀ {t : RB} {a : Nat} {k : Ky} {v : Int} {s : Ky} {c : Bool} {l r : RB}, SumOk t → t = .node a k v s c l r → LeastH s ((listT t).map ownE)
  | .nil, _, _, _, _, _, _, _, _, h => by cases h
  | .node a k v s c l r, _, _, _, _, _, _, _, h, e => by
    cases e
    obtain ⟨h1, h2, h3⟩ := h
    rw [h1]
    show LeastH (joinR r (joinL l (ownK k v))) ((listT l ++ (k, v) :: listT r).map ownE)
    rw [List.map_append, List.map_cons, show (ownE (k, v)) = ownK k v from rfl, List.append_cons]
    have hl : LeastH (joinL l (ownK k v)) ((listT l).map ownE ++ [ownK k v]) := by
      cases l with
      | nil => exact LeastH.one _
      | node b k2 v2 s2 c2 l2 r2 => exact (SumOk.least h2 rfl).append (.one _)
    cases r with
    | nil => simpa [listT, joinR] using hl
    | node b k2 v2 s2 c2 l2 r2 => exact hl.append (SumOk.least h3 rfl)
/-- the least of what was taken, and of more -/
def LeastO (o : Option Ky) (L : List Ky) : Prop := match o with
  | none => L = []
  | some s => LeastH s L
theorem LeastO.unique {o p : Option Ky} {L : List Ky} (h : LeastO o L) (k : LeastO p L) : o = p := by
  cases o with
  | none =>
    cases p with
    | none => rfl
    | some t =>
      have h : L = [] := h
      subst h
      have := k.1
      cases this
  | some s =>
    cases p with
    | none =>
      have k : L = [] := k
      subst k
      have := h.1
      cases this
    | some t => exact congrArg some (LeastH.unique h k)
def takeS (o : Option Ky) (a : Ky) : Option Ky := match o with
  | none => some a
  | some s => some (lessH s a)
theorem LeastO.take {o : Option Ky} {L M : List Ky} {a : Ky} (h : LeastO o L) (k : LeastH a M) : LeastO (takeS o a) (L ++ M) := by
  cases o with
  | none =>
    have h : L = [] := h
    subst h
    exact k
  | some s => exact h.append k
def takeL (o : Option Ky) (l : RB) : Option Ky := match l with
  | .nil => o
  | .node _ _ _ s _ _ _ => takeS o s
/-- those up to a number -/
def uptoT (num : Int) : RB → Option Ky → Option Ky
  | .nil, o => o
  | .node a k v s c l r, o => if num < k.1 then uptoT num l o else uptoT num r (takeS (takeL o l) (ownK k v))
def uptoL (num : Int) (L : List En) : List En := L.filter fun e => decide (e.1.1 ≤ num)
theorem upto_least (num : Int) : ∀ (t : RB) (o : Option Ky) (L : List Ky), SortE (listT t) → SumOk t → LeastO o L → LeastO (uptoT num t o) (L ++ (uptoL num (listT t)).map ownE)
  | .nil, o, L, _, _, h => by
    show LeastO o (L ++ [])
    rw [List.append_nil]; exact h
  | .node a k v s c l r, o, L, hs, hk, h => by
    have hm := sort_mid (A := listT l) (x := (k, v)) (B := listT r) hs
    show LeastO (if num < k.1 then _ else _) (L ++ (uptoL num (listT l ++ (k, v) :: listT r)).map ownE)
    unfold uptoL
    rw [List.filter_append]
    by_cases hlt : num < k.1
    · rw [if_pos hlt, List.filter_cons_of_neg (by simp; omega), show (listT r).filter (fun e => decide (e.1.1 ≤ num)) = [] from ?_, List.append_nil]
      · exact upto_least num l o L hm.2.2.1 hk.2.1 h
      · rw [List.filter_eq_nil_iff]
        intro e he
        have := hm.2.1 e he
        rw [lessK_iff] at this
        simp only [decide_eq_true_eq]
        dsimp only at this
        omega
    · rw [if_neg hlt, List.filter_cons_of_pos (by simp; omega), show (listT l).filter (fun e => decide (e.1.1 ≤ num)) = listT l from ?_]
      · have h1 : LeastO (takeL o l) (L ++ (listT l).map ownE) := by
          cases l with
          | nil => show LeastO o (L ++ []); rw [List.append_nil]; exact h
          | node b k2 v2 s2 c2 l2 r2 => exact h.take (SumOk.least hk.2.1 rfl)
        have h2 := upto_least num r _ _ hm.2.2.2 hk.2.2 (h1.take (.one (ownK k v)))
        have e : L ++ (listT l ++ (k, v) :: (listT r).filter fun e => decide (e.1.1 ≤ num)).map ownE = (L ++ (listT l).map ownE ++ [ownK k v]) ++ (uptoL num (listT r)).map ownE := by
          simp [uptoL, ownE]
        rw [e]
        exact h2
      · rw [List.filter_eq_self]
        intro e he
        have := hm.1 e he
        rw [lessK_iff] at this
        simp only [decide_eq_true_eq]
        dsimp only at this
        omega
/-- the node of a key -/
def findT (x : Ky) : RB → RB
  | .nil => .nil
  | .node a k v s c l r => if k = x then .node a k v s c l r else if lessK x k = true then findT x l else findT x r
theorem find_ok (x : Ky) : ∀ (t : RB), SortE (listT t) → (∃ a v s c l r, findT x t = .node a x v s c l r ∧ (x, v) ∈ listT t) ∨ (findT x t = .nil ∧ ∀ e ∈ listT t, e.1 ≠ x)
  | .nil, _ => .inr ⟨rfl, fun e he => by cases he⟩
  | .node a k v s c l r, hs => by
    have hm := sort_mid (A := listT l) (x := (k, v)) (B := listT r) hs
    unfold findT
    by_cases hk : k = x
    · subst hk
      rw [if_pos rfl]
      exact .inl ⟨a, v, s, c, l, r, rfl, by simp [listT]⟩
    · rw [if_neg hk]
      by_cases hlt : lessK x k = true
      · rw [if_pos hlt]
        rcases find_ok x l hm.2.2.1 with ⟨a', v', s', c', l', r', h1, h2⟩ | ⟨h1, h2⟩
        · exact .inl ⟨a', v', s', c', l', r', h1, by simp [listT, h2]⟩
        · refine .inr ⟨h1, fun e he => ?_⟩
          rcases List.mem_append.1 he with he | he
          · exact h2 e he
          · rcases List.mem_cons.1 he with rfl | he
            · exact hk
            · exact (lessK_ne (lessK_trans hlt (hm.2.1 e he))).symm
      · rw [if_neg hlt]
        have hlt2 : lessK k x = true := by
          cases e : lessK k x
          · exact absurd (lessK_tri e (by simpa using hlt)) hk
          · rfl
        rcases find_ok x r hm.2.2.2 with ⟨a', v', s', c', l', r', h1, h2⟩ | ⟨h1, h2⟩
        · exact .inl ⟨a', v', s', c', l', r', h1, by simp [listT, h2]⟩
        · refine .inr ⟨h1, fun e he => ?_⟩
          rcases List.mem_append.1 he with he | he
          · exact lessK_ne (lessK_trans (hm.1 e he) hlt2)
          · rcases List.mem_cons.1 he with rfl | he
            · exact hk
            · exact h2 e he
/-- the first one of at most a value -/
def withinT (v0 : Int) : RB → Option Ky
  | .nil => none
  | .node _ k v _ _ .nil r => if v ≤ v0 then some k else withinT v0 r
  | .node _ k v _ _ (.node b k2 v2 sl c2 l2 r2) r => if sl.1 ≤ v0 then withinT v0 (.node b k2 v2 sl c2 l2 r2) else if v ≤ v0 then some k else withinT v0 r
theorem least_value {s : Ky} {L : List Ky} (h : LeastH s L) (v0 : Int) : s.1 ≤ v0 ↔ ∃ z ∈ L, z.1 ≤ v0 := by
  constructor
  · exact fun hs => ⟨s, h.1, hs⟩
  · rintro ⟨z, hz, hv⟩
    have := h.2 z hz
    have : ¬ (z.1 < s.1 ∨ (z.1 = s.1 ∧ z.2 < s.2)) := fun hh => by rw [lessK_iff.2 hh] at this; cases this
    omega
theorem within_ok (v0 : Int) : ∀ (t : RB), SumOk t → withinT v0 t = ((listT t).find? fun e => decide (e.2 ≤ v0)).map (·.1)
  | .nil, _ => rfl
  | .node a k v s c .nil r, h => by
    show (if v ≤ v0 then some k else withinT v0 r) = ((((k, v) : En) :: listT r).find? fun e => decide (e.2 ≤ v0)).map (·.1)
    by_cases hv : v ≤ v0
    · rw [if_pos hv, List.find?_cons_of_pos (by simpa using hv)]; rfl
    · rw [if_neg hv, List.find?_cons_of_neg (by simpa using hv)]; exact within_ok v0 r h.2.2
  | .node a k v s c (.node b k2 v2 sl c2 l2 r2) r, h => by
    show (if sl.1 ≤ v0 then withinT v0 (.node b k2 v2 sl c2 l2 r2) else if v ≤ v0 then some k else withinT v0 r) = ((listT (.node b k2 v2 sl c2 l2 r2) ++ ((k, v) : En) :: listT r).find? fun e => decide (e.2 ≤ v0)).map (·.1)
    have hL := SumOk.least h.2.1 rfl
    have hv := least_value hL v0
    rw [List.find?_append]
    by_cases hs : sl.1 ≤ v0
    · rw [if_pos hs, within_ok v0 _ h.2.1]
      obtain ⟨z, hz, hzv⟩ := hv.1 hs
      obtain ⟨e, he, rfl⟩ := List.mem_map.1 hz
      cases hf : (listT (.node b k2 v2 sl c2 l2 r2)).find? fun e => decide (e.2 ≤ v0) with
      | none =>
        rw [List.find?_eq_none] at hf
        have := hf e he
        simp only [decide_eq_true_eq] at this
        exact absurd hzv this
      | some e => rfl
    · rw [if_neg hs]
      have hf : (listT (.node b k2 v2 sl c2 l2 r2)).find? (fun e => decide (e.2 ≤ v0)) = none := by
        rw [List.find?_eq_none]
        intro e he
        simp only [decide_eq_true_eq]
        exact fun hh => hs (hv.2 ⟨ownE e, List.mem_map.2 ⟨e, he, rfl⟩, hh⟩)
      rw [hf, Option.none_or]
      by_cases hv2 : v ≤ v0
      · rw [if_pos hv2, List.find?_cons_of_pos (by simpa using hv2)]; rfl
      · rw [if_neg hv2, List.find?_cons_of_neg (by simpa using hv2)]; exact within_ok v0 r h.2.2
end Go.Proofs.YtbnnkkojlclgjaaGreat
