/-
  Two rows of leaves between a law's calls, and a block beside them that nobody changes. (Printed by wip/mkedfwhat.py.)
-/
import Derived.Test.YtbnnkkojlclgjaaGreatEdfNone
namespace Go.Proofs.YtbnnkkojlclgjaaGreat
set_option linter.unusedVariables false
open Go.RowKit Go.Maps
attribute [local go_sem ↓] Go.wp_at_zero Go.wp_at_succ
attribute [local go_sem] quietR quietAtR quietUponR midAt midUpon plain plainUpon

/-- two rows made since w0, and block B beside the second -/
def RB2 (w0 w : World) (r : Nat) (L : List En) (s : Nat) (N : List En) (B : Nat) (o : Obj) : Prop :=
  ∃ S T, RowX w r S L ∧ RowX w s T N ∧ (∀ b, S b → ¬ T b) ∧ (∀ b, S b ∨ T b → w0.heap.size ≤ b) ∧ Below w0.heap.size w0 w ∧ w.heap[B]? = some o ∧ ¬ T B
section
variable {w0 w w' : World} {r s B : Nat} {L N : List En} {o : Obj}
theorem RB2.below (h : RB2 w0 w r L s N B o) : Below w0.heap.size w0 w := by
  obtain ⟨S, T, h1, h2, h3, h4, h5, h6⟩ := h
  exact h5
theorem RB2.obj (h : RB2 w0 w r L s N B o) : w.heap[B]? = some o := by
  obtain ⟨S, T, h1, h2, h3, h4, h5, h6, h7⟩ := h
  exact h6
theorem RB2.later (h : RB2 w0 w r L s N B o) (hb : Below w.heap.size w w') : RB2 w0 w' r L s N B o := by
  obtain ⟨S, T, h1, h2, h3, h4, h5, h6, h7⟩ := h
  exact ⟨S, T, h1.later hb, h2.later hb, h3, h4, h5.trans (hb.mono h5.size), (hb.block B (Array.getElem?_eq_some_iff.1 h6).1).trans h6, h7⟩
theorem RB2.turn {S T : Nat → Prop} {M : List En} (h1 : RowX w r S L) (h2 : RowX w s T N) (h3 : ∀ b, S b → ¬ T b) (h4 : ∀ b, S b ∨ T b → w0.heap.size ≤ b) (h5 : Below w0.heap.size w0 w) (h6 : w.heap[B]? = some o) (h7 : ¬ T B) (ht : TurnE w s T M w') : RB2 w0 w' r L s M B o := by
  obtain ⟨T', k1, k2, k3⟩ := ht
  have hs := h5.size
  refine ⟨S, T', h1.fr k3 fun b hb ht => h3 b hb ht, k1, fun b hb ht => ?_, fun b hb => ?_, h5.trans (k3.below (fun b hb => h4 b (.inr hb)) hs), (k3.block B (Array.getElem?_eq_some_iff.1 h6).1 h7).trans h6, fun ht => ?_⟩
  · rcases k2 b ht with h | h
    · exact h3 b hb h
    · have := h1.lt b hb; omega
  · rcases hb with hb | hb
    · exact h4 b (.inl hb)
    · rcases k2 b hb with h | h
      · exact h4 b (.inr h)
      · omega
  · rcases k2 B ht with h | h
    · exact h7 h
    · have := (Array.getElem?_eq_some_iff.1 h6).1; omega
theorem RB2.put (h : RB2 w0 w r L s N B o) (i a b : Int) (hi : (Lit.int .i64 i).wf = true) (hfew : N.length < 900000) :
    Calls Tryz.prog 27 #[.pointer (some ⟨s, 0, none⟩), .int .i64 i, .int .u64 a, .int .u64 b] w fun e w' => e = .returned (.tuple #[]) ∧ RB2 w0 w' r L s (putI N i a b) B o := by
  obtain ⟨S, T, h1, h2, h3, h4, h5, h6, h7⟩ := h
  exact (rput_any s T N i a b w h2 hi hfew).mono fun e w' ⟨k1, k2⟩ => ⟨k1, RB2.turn h1 h2 h3 h4 h5 h6 h7 k2⟩
theorem RB2.drop (h : RB2 w0 w r L s N B o) (i : Int) (hi : (Lit.int .i64 i).wf = true) (hfew : N.length < 900000) :
    Calls Tryz.prog 26 #[.pointer (some ⟨s, 0, none⟩), .int .i64 i] w fun e w' => e = .returned (.bool (getIs N i)) ∧ RB2 w0 w' r L s (dropI N i) B o := by
  obtain ⟨S, T, h1, h2, h3, h4, h5, h6, h7⟩ := h
  exact (rdrop_any s T N i w h2 hi hfew).mono fun e w' ⟨k1, k2⟩ => ⟨k1, RB2.turn h1 h2 h3 h4 h5 h6 h7 k2⟩
theorem RB2.get (h : RB2 w0 w r L s N B o) (i : Int) (hi : (Lit.int .i64 i).wf = true) :
    Calls Tryz.prog 35 #[.pointer (some ⟨r, 0, none⟩), .int .i64 i] w fun e w' => e = .returned (.tuple #[.int .u64 (getA L i), .int .u64 (getB L i), .bool (getIs L i)]) ∧ RB2 w0 w' r L s N B o := by
  have h0 := h
  obtain ⟨S, T, h1, h2, h3, h4, h5, h6, h7⟩ := h
  exact (rget_any r S L i w h1 hi).mono fun e w' ⟨k1, k2⟩ => ⟨k1, h0.later k2⟩
theorem RB2.next (h : RB2 w0 w r L s N B o) (now : Int) :
    Calls Tryz.prog 33 #[.pointer (some ⟨r, 0, none⟩), .int .u64 now] w fun e w' => e = .returned (.tuple #[.int .i64 (nextId now L), .bool (nextIs now L)]) ∧ RB2 w0 w' r L s N B o := by
  have h0 := h
  obtain ⟨S, T, h1, h2, h3, h4, h5, h6, h7⟩ := h
  exact (rnext_any r S L now w h1).mono fun e w' ⟨k1, k2⟩ => ⟨k1, h0.later k2⟩
theorem RB2.next2 (h : RB2 w0 w r L s N B o) (now : Int) :
    Calls Tryz.prog 33 #[.pointer (some ⟨s, 0, none⟩), .int .u64 now] w fun e w' => e = .returned (.tuple #[.int .i64 (nextId now N), .bool (nextIs now N)]) ∧ RB2 w0 w' r L s N B o := by
  have h0 := h
  obtain ⟨S, T, h1, h2, h3, h4, h5, h6, h7⟩ := h
  exact (rnext_any s T N now w h2).mono fun e w' ⟨k1, k2⟩ => ⟨k1, h0.later k2⟩
theorem RB2.tick (h : RB2 w0 w r L s N B o) (hok : OkE L) :
    Calls Tryz.prog 38 #[.pointer (some ⟨r, 0, none⟩)] w fun e w' => e = .returned (.int .u64 (tickL L)) ∧ RB2 w0 w' r L s N B o ∧ Below w.heap.size w w' := by
  have h0 := h
  obtain ⟨S, T, h1, h2, h3, h4, h5, h6, h7⟩ := h
  exact (rtick_any r S L w h1 hok).mono fun e w' ⟨k1, k2⟩ => ⟨k1, h0.later k2, k2⟩
theorem RB2.tick2 (h : RB2 w0 w r L s N B o) (hok : OkE N) :
    Calls Tryz.prog 38 #[.pointer (some ⟨s, 0, none⟩)] w fun e w' => e = .returned (.int .u64 (tickL N)) ∧ RB2 w0 w' r L s N B o ∧ Below w.heap.size w w' := by
  have h0 := h
  obtain ⟨S, T, h1, h2, h3, h4, h5, h6, h7⟩ := h
  exact (rtick_any s T N w h2 hok).mono fun e w' ⟨k1, k2⟩ => ⟨k1, h0.later k2, k2⟩
theorem RB2.ids2 (h : RB2 w0 w r L s N B o) (hfew : N.length < 1000000) :
    Calls Tryz.prog 37 #[.pointer (some ⟨s, 0, none⟩)] w fun e w' => ∃ v, e = .returned v ∧ IdsAt w' v N ∧ RB2 w0 w' r L s N B o := by
  have h0 := h
  obtain ⟨S, T, h1, h2, h3, h4, h5, h6, h7⟩ := h
  exact (rids_any s T N w h2 hfew).mono fun e w' ⟨v, k1, k2, _, k3⟩ => ⟨v, k1, IdsAt.of_owns k2, h0.later k3⟩
/-- the second row, new, and the first one's ids -/
theorem RS.two (h : RS w0 w r L) : Calls Tryz.prog 4 #[] w fun e w' => ∃ s S T, e = .returned (.pointer (some ⟨s, 0, none⟩)) ∧ RowX w' r S L ∧ RowX w' s T [] ∧ (∀ b, S b → ¬ T b) ∧ (∀ b, S b ∨ T b → w0.heap.size ≤ b) ∧ Below w0.heap.size w0 w' := by
  obtain ⟨S, h1, h2, h3⟩ := h
  refine (rnew_any w).mono fun e w' ⟨s, T, k1, k2, k3, k4⟩ => ⟨s, S, T, k1, h1.later k3, k2, fun b hb ht => ?_, fun b hb => ?_, h3.trans (k3.mono h3.size)⟩
  · have := h1.lt b hb; have := k4 b ht; omega
  · rcases hb with hb | hb
    · exact h2 b hb
    · exact Nat.le_trans h3.size (k4 b hb)
/-- what ids of block B tell in every world that holds it -/
def Told (B : Nat) (o : Obj) (L : List En) : Prop := ∀ W : World, W.heap[B]? = some o → ∀ (i : Nat) e, L[i]? = some e → W.cell? ⟨B, i, none⟩ = some (.int .i64 e.1.2)
theorem RB2.ids {S T : Nat → Prop} (h1 : RowX w r S L) (h2 : RowX w s T N) (h3 : ∀ b, S b → ¬ T b) (h4 : ∀ b, S b ∨ T b → w0.heap.size ≤ b) (h5 : Below w0.heap.size w0 w) (hfew : L.length < 1000000) :
    Calls Tryz.prog 37 #[.pointer (some ⟨r, 0, none⟩)] w fun e w' => ∃ a cap B o, e = .returned (.slice a L.length cap) ∧ (L ≠ [] → a = some ⟨B, 0, none⟩ ∧ L.length ≤ cap) ∧ Told B o L ∧ RB2 w0 w' r L s N B o := by
  refine (rids_any r S L w h1 hfew).mono fun e w' ⟨v, k1, k2, _, k3⟩ => ?_
  rcases k2.2 with ⟨rfl, h0⟩ | ⟨g, cap, cur, rfl, q1, q2, q3, q4⟩
  · obtain rfl : L = [] := List.eq_nil_of_length_eq_zero h0
    have hr : S r := by obtain ⟨q, g, m, t, M, _, _, hS⟩ := h1; exact (hS r).2 (.inl rfl)
    have hlt := h1.lt r hr
    obtain ⟨o, ho⟩ : ∃ o, w.heap[r]? = some o := ⟨_, Array.getElem?_eq_getElem hlt⟩
    exact ⟨none, 0, r, o, k1, fun h => absurd rfl h, (fun W _ i e he => (by cases he)), S, T, h1.later k3, h2.later k3, h3, h4, h5.trans (k3.mono h5.size), (k3.block r hlt).trans ho, h3 r hr⟩
  · refine ⟨_, cap, g, _, k1, fun _ => ⟨rfl, q3⟩, fun W hW i e he => ?_, S, T, h1.later k3, h2.later k3, h3, h4, h5.trans (k3.mono h5.size), q2, fun ht => ?_⟩
    · have hc := k2.cellAt i (by have := (List.getElem?_eq_some_iff.1 he).1; omega)
      rw [World.cell?_of_block (w := w') (w' := W) (a := ⟨g, i, none⟩) (hW.trans q2.symm)]
      rw [hc]
      unfold idsV
      rw [List.getElem?_map, he]; rfl
    · have := h2.lt g ht; omega
end
theorem drop_put2 {L : List En} (i x y : Int) : dropI (putI L i x y) i = dropI L i := by
  have h := drop_put (L := dropI L i) (i := i) (fun z hz => (mem_drop.1 hz).2) x y
  have e : putI (dropI L i) i x y = putI L i x y := by
    unfold putI
    rw [dropI_not (L := dropI L i) (i := i) fun z hz => (mem_drop.1 hz).2]
  rw [e] at h
  exact h
theorem get_back {L : List En} (h : InvE L) {i : Int} (hg : getIs L i = true) : putI (dropI L i) i (getA L i) (getB L i) = L := by
  unfold getIs at hg
  cases he : getE L i with
  | none => rw [he] at hg; cases hg
  | some e =>
    have hs := getE_some he
    have hb := put_back h hs.1
    rw [hs.2] at hb
    unfold getA getB
    rw [he]
    exact hb
theorem get_not {L : List En} {i : Int} (hg : getIs L i = false) : dropI L i = L := by
  unfold getIs at hg
  cases he : getE L i with
  | none => exact dropI_not (getE_none.1 he)
  | some e => rw [he] at hg; cases hg
end Go.Proofs.YtbnnkkojlclgjaaGreat
