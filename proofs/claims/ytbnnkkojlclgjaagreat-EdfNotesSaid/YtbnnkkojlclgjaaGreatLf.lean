/-
  Rows of leaves of the document's answer in memory: taken in part, laid one behind another.
-/
import Derived.Test.YtbnnkkojlclgjaaGreatEdfState
import Derived.Deep.AppendLies
import Derived.Deep.Upon
import Derived.Deep.AppendSrc
import Derived.ArgAppend
namespace Go.Proofs.YtbnnkkojlclgjaaGreat
set_option linter.unusedVariables false
open Go.RowKit Go.Maps

theorem info_leaf : (Tryz.prog.info? 68).map (fun i => (i.zero, i.size, i.bytes)) = some (some (.agg #[.int .i64 0, .int .u64 0, .int .u64 0]), 3, 24) := by kernel_rfl
def lfC (e : En) : List Value := [.int .i64 e.1.2, .int .u64 e.1.1, .int .u64 e.2]
def lfCells (L : List En) : List Value := L.flatMap lfC
theorem lfCells_cons (e : En) (L : List En) : lfCells (e :: L) = .int .i64 e.1.2 :: .int .u64 e.1.1 :: .int .u64 e.2 :: lfCells L := rfl
theorem lfCells_append (A B : List En) : lfCells (A ++ B) = lfCells A ++ lfCells B := by simp [lfCells]
theorem lfCells_length (L : List En) : (lfCells L).length = L.length * 3 := by
  induction L with
  | nil => rfl
  | cons e L ih => rw [lfCells_cons]; simp only [List.length_cons, ih]; omega
theorem lfCells_at : ∀ (L : List En) (i : Nat) (e : En), L[i]? = some e → (lfCells L)[i * 3]? = some (.int .i64 e.1.2) ∧ (lfCells L)[i * 3 + 1]? = some (.int .u64 e.1.1) ∧ (lfCells L)[i * 3 + 2]? = some (.int .u64 e.2)
  | [], i, e, h => by cases h
  | x :: L, 0, e, h => by
    cases h
    exact ⟨rfl, rfl, rfl⟩
  | x :: L, i + 1, e, h => by
    have := lfCells_at L i e h
    rw [lfCells_cons, show (i + 1) * 3 = i * 3 + 1 + 1 + 1 by omega]
    exact this
theorem lfCells_all {P : Nat → Value → Prop} {L : List En} (h : ∀ i e, L[i]? = some e → P (i * 3) (.int .i64 e.1.2) ∧ P (i * 3 + 1) (.int .u64 e.1.1) ∧ P (i * 3 + 2) (.int .u64 e.2)) : ∀ j u, (lfCells L)[j]? = some u → P j u := by
  intro j u hj
  have hlt : j < L.length * 3 := by
    have := (List.getElem?_eq_some_iff.1 hj).1
    rw [lfCells_length] at this; exact this
  obtain ⟨e, he⟩ : ∃ e, L[j / 3]? = some e := ⟨_, List.getElem?_eq_getElem (by omega)⟩
  obtain ⟨c0, c1, c2⟩ := lfCells_at L _ e he
  obtain ⟨p0, p1, p2⟩ := h _ e he
  rcases (by omega : j = j / 3 * 3 ∨ j = j / 3 * 3 + 1 ∨ j = j / 3 * 3 + 2) with e1 | e1 | e1
  · rw [e1] at hj ⊢; rw [c0] at hj; cases hj; exact p0
  · rw [e1] at hj ⊢; rw [c1] at hj; cases hj; exact p1
  · rw [e1] at hj ⊢; rw [c2] at hj; cases hj; exact p2
/-- leaves that may be read -/
def LfAt (w : World) (v : Value) (L : List En) : Prop :=
  L.length ≤ 1000000 ∧ ∃ a cap, v = .slice a L.length cap ∧ (L = [] ∨ ∃ b off, a = some ⟨b, off, none⟩ ∧ b < w.heap.size ∧ L.length ≤ cap ∧ ∀ (i : Nat) e, L[i]? = some e →
    w.cell? ⟨b, off + i * 3, none⟩ = some (.int .i64 e.1.2) ∧ w.cell? ⟨b, off + i * 3 + 1, none⟩ = some (.int .u64 e.1.1) ∧ w.cell? ⟨b, off + i * 3 + 2, none⟩ = some (.int .u64 e.2))
theorem LfAt.kept {w w' : World} {v : Value} {L : List En} (h : LfAt w v L) (hs : w.heap.size ≤ w'.heap.size) (hb : ∀ b, v.ownBlock = some b → L ≠ [] → w'.heap[b]? = w.heap[b]?) : LfAt w' v L := by
  obtain ⟨h2, a, cap, e, h3⟩ := h
  refine ⟨h2, a, cap, e, ?_⟩
  rcases h3 with h3 | ⟨b, off, e2, hbl, hcap, hc⟩
  · exact .inl h3
  · by_cases hn : L = []
    · exact .inl hn
    · subst e2; subst e
      refine .inr ⟨b, off, rfl, Nat.lt_of_lt_of_le hbl hs, hcap, fun i x hx => ?_⟩
      have hk := hb b rfl hn
      obtain ⟨c0, c1, c2⟩ := hc i x hx
      exact ⟨(World.cell?_of_block (w := w) (w' := w') (a := ⟨b, _, none⟩) hk).trans c0, (World.cell?_of_block (w := w) (w' := w') (a := ⟨b, _, none⟩) hk).trans c1, (World.cell?_of_block (w := w) (w' := w') (a := ⟨b, _, none⟩) hk).trans c2⟩
theorem LfAt.lt {w : World} {v : Value} {L : List En} (h : LfAt w v L) (hn : L ≠ []) : ∀ b, v.ownBlock = some b → b < w.heap.size := by
  obtain ⟨h2, a, cap, e, h3⟩ := h
  intro b hb
  rcases h3 with h3 | ⟨b', off, e2, hbl, _⟩
  · exact absurd h3 hn
  · subst e; subst e2; cases hb; exact hbl
theorem LfAt.later {w w' : World} {v : Value} {L : List En} (h : LfAt w v L) (hb : Below w.heap.size w w') : LfAt w' v L := h.kept hb.size fun b hv hn => hb.block b (h.lt hn b hv)
theorem LfAt.of_owns {w : World} {base : Nat} {v : Value} {L : List En} (h : w.ownsRow base 68 3 v L.length (lfCells L)) (hl : L.length ≤ 1000000) : LfAt w v L := by
  rcases h.2 with ⟨rfl, h0⟩ | ⟨g, cap, cur, rfl, h1, h2, h3, h4⟩
  · obtain rfl : L = [] := List.eq_nil_of_length_eq_zero h0
    exact ⟨hl, none, 0, rfl, .inl rfl⟩
  · refine ⟨hl, _, _, rfl, .inr ⟨g, 0, rfl, (Array.getElem?_eq_some_iff.1 h2).1, h3, fun i e he => ?_⟩⟩
    have hlt := (List.getElem?_eq_some_iff.1 he).1
    obtain ⟨c0, c1, c2⟩ := lfCells_at L i e he
    rw [Nat.zero_add, h.cellAt (i * 3) (by omega), h.cellAt (i * 3 + 1) (by omega), h.cellAt (i * 3 + 2) (by omega)]
    exact ⟨c0, c1, c2⟩
theorem LfAt.cells {w : World} {a : Option Addr} {cap : Nat} {L : List En} (h : LfAt w (.slice a L.length cap) L) (hne : L ≠ []) : ∃ ad, a = some ad ∧ L.length ≤ cap ∧ ∀ j u, (lfCells L)[j]? = some u → w.cell? (ad.add j) = some u := by
  obtain ⟨_, a', cap', e, h3⟩ := h
  cases e
  rcases h3 with h3 | ⟨b, off, rfl, hl, hcap, hc⟩
  · exact absurd h3 hne
  · refine ⟨_, rfl, hcap, lfCells_all fun i c hi => ?_⟩
    obtain ⟨c0, c1, c2⟩ := hc i c hi
    simp only [Addr.add_lit]
    exact ⟨c0, c1, c2⟩
theorem lf_cap {w : World} {a : Option Addr} {cap k : Nat} {L : List En} (h : LfAt w (.slice a L.length cap) L) (hk : k ≤ L.length) : k ≤ cap := by
  obtain ⟨_, a', cap', e, h3⟩ := h
  cases e
  rcases h3 with h3 | ⟨b, off, rfl, hl, hcap, hc⟩
  · subst h3; simp at hk; omega
  · omega
theorem lf_take {w : World} {a : Option Addr} {cap k : Nat} {L : List En} (h : LfAt w (.slice a L.length cap) L) (hk : k ≤ L.length) : LfAt w (.slice a k cap) (L.take k) := by
  obtain ⟨h2, a', cap', e, h3⟩ := h
  cases e
  refine ⟨by rw [List.length_take]; omega, _, _, by rw [List.length_take, Nat.min_eq_left hk], ?_⟩
  rcases h3 with h3 | ⟨b, off, rfl, hl, hcap, hc⟩
  · subst h3; exact .inl (by simp)
  · refine .inr ⟨b, off, rfl, hl, by rw [List.length_take]; omega, fun i c hi => ?_⟩
    rw [List.getElem?_take] at hi
    split at hi
    · exact hc i c hi
    · cases hi
theorem lf_drop {w : World} {a : Option Addr} {cap k : Nat} {L : List En} (h : LfAt w (.slice a L.length cap) L) (hk : k ≤ L.length) : LfAt w (.slice (if cap = k then a else Option.map (fun x => x.add (k * 3)) a) (L.length - k) (cap - k)) (L.drop k) := by
  obtain ⟨h2, a', cap', e, h3⟩ := h
  cases e
  refine ⟨by rw [List.length_drop]; omega, _, _, by rw [List.length_drop], ?_⟩
  rcases h3 with h3 | ⟨b, off, rfl, hl, hcap, hc⟩
  · subst h3; exact .inl (by simp)
  · by_cases hc0 : k = L.length
    · subst hc0; exact .inl (by simp)
    · refine .inr ⟨b, off + k * 3, ?_, hl, by rw [List.length_drop]; omega, fun i c hi => ?_⟩
      · rw [if_neg (by omega)]; simp [Addr.add_lit]
      · rw [List.getElem?_drop] at hi
        have := hc _ c hi
        rw [show off + k * 3 + i * 3 = off + (k + i) * 3 by omega]
        exact this
/-- all of a row, laid behind a row of the call's own -/
theorem lf_app (ty : TypeId) {A B : List En} {w : World} {v x : Value} {base : Nat} (h : LfAt w x B) (hown : w.ownsRow base 68 3 v A.length (lfCells A)) (hb : base ≤ w.heap.size) (hl : A.length + B.length ≤ 3000000) :
    ∃ v' w', (Builtin.append_ #[27, 27] ty #[v, x]).run Tryz.prog w = .ok v' w' ∧ w'.ownsRow base 68 3 v' (A ++ B).length (lfCells (A ++ B)) ∧ Below base w w' ∧ w.grownBy w' v.ownBlock := by
  obtain ⟨i0, hi0, hz0, hz1, hz2⟩ := info_parts info_leaf
  obtain ⟨a, cap, rfl⟩ : ∃ a cap, x = .slice a B.length cap := by obtain ⟨_, a, cap, e, _⟩ := h; exact ⟨a, cap, e⟩
  by_cases hne : B = []
  · subst hne
    have hsrc : Src Tryz.prog i0.size 27 (.slice a ([] : List En).length cap) 0 [] w := by
      cases a with
      | none => exact Src.ofNil w Tryz.underlying27 cap
      | some ad => exact Src.ofSlice w Tryz.underlying27 ad 0 cap [] (by simp) (fun j u hj => by simp at hj) (fun u hu => by simp at hu)
    rcases hown.2 with ⟨rfl, h0⟩ | ⟨g, c, cur, rfl, h1, h2, h3, h4⟩
    · refine ⟨_, w, run_append_nothing w _ _ ty _ i0 Tryz.underlying27 hi0 _ 0 0 (Nat.le_refl _) _ hsrc, ?_, Below.refl _ _, ⟨rfl, rfl, rfl, Nat.le_refl _, fun _ _ _ => rfl⟩⟩
      simpa [h0] using hown
    · refine ⟨_, w, run_append_nothing w _ _ ty _ i0 Tryz.underlying27 hi0 _ A.length c h3 _ hsrc, by simpa using hown, Below.refl _ _, ⟨rfl, rfl, rfl, Nat.le_refl _, fun _ _ _ => rfl⟩⟩
  · obtain ⟨ad, rfl, hcap, hc⟩ := h.cells hne
    obtain ⟨v', w', hr, ho, hg, _⟩ := run_append_own (P := Tryz.prog) (w := w) base 27 ty 68 i0 _ 3 24 Tryz.underlying27 hi0 hz0 hz1 hz2 rfl (by decide) v A.length _ hown ad B.length cap (lfCells B) (lfCells_length B) hc (by
        intro u hu
        obtain ⟨e, _, he⟩ := List.mem_flatMap.1 hu
        simp only [lfC, List.mem_cons, List.not_mem_nil, or_false] at he
        rcases he with rfl | rfl | rfl <;> rfl) (by unfold maxLen; omega) (by omega) hb
    exact ⟨v', w', hr, by simpa [lfCells_append] using ho, (Below.refl base w).grown hg hb fun k hk => (hown.lt k hk).1, hg⟩
theorem lf_lit {w : World} {B : Nat} {e : En} (h : Blk w B 68 #[.int .i64 e.1.2, .int .u64 e.1.1, .int .u64 e.2]) : LfAt w (.slice (some ⟨B, 0, none⟩) 1 1) [e] := by
  refine ⟨by simp, _, _, rfl, .inr ⟨B, 0, rfl, h.lt, by simp, fun i d hi => ?_⟩⟩
  cases i with
  | zero =>
    cases hi
    exact ⟨h.cell 0, h.cell 1, h.cell 2⟩
  | succ i => cases hi
/-- the plain law of the place -/
theorem ins_at {L : List En} {e : En} : ∀ {k : Nat}, (∀ (j : Nat) x, j < k → L[j]? = some x → lessK e.1 x.1 = false) → (∀ x, L[k]? = some x → lessK e.1 x.1 = true) → k ≤ L.length → insE L e = L.take k ++ e :: L.drop k := by
  induction L with
  | nil =>
    intro k _ _ hk
    have : k = 0 := by simpa using hk
    subst this; rfl
  | cons x L ih =>
    intro k h1 h2 hk
    cases k with
    | zero =>
      have := h2 x rfl
      unfold insE
      rw [if_pos this]; rfl
    | succ k =>
      have h0 := h1 0 x (by omega) rfl
      unfold insE
      rw [if_neg (by rw [h0]; simp)]
      rw [ih (fun j y hj hy => h1 (j + 1) y (by omega) hy) (fun y hy => h2 y hy) (by simpa using hk)]
      rfl
theorem drop_at {L : List En} (h : L.Pairwise fun a b => a.1.2 ≠ b.1.2) {i : Nat} {e : En} (he : L[i]? = some e) : dropI L e.1.2 = L.take i ++ L.drop (i + 1) := by
  induction L generalizing i with
  | nil => cases he
  | cons x L ih =>
    have hp := List.pairwise_cons.1 h
    cases i with
    | zero =>
      cases he
      unfold dropI
      rw [List.filter_cons_of_neg (by simp)]
      exact dropI_not fun y hy hh => hp.1 y hy hh.symm
    | succ i =>
      have hne : x.1.2 ≠ e.1.2 := hp.1 e (List.mem_of_getElem? he)
      unfold dropI
      rw [List.filter_cons_of_pos (by simpa using hne)]
      have := ih hp.2 he
      unfold dropI at this
      rw [this]; rfl
end Go.Proofs.YtbnnkkojlclgjaaGreat
