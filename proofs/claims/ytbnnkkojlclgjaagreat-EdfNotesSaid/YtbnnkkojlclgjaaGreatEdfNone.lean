/-
  Law 19: of those that are eligible none is due ahead of who is next. (Printed by wip/mkedfnone.py.)
-/
import Derived.Test.YtbnnkkojlclgjaaGreatEdfState
import Derived.Deep.CutRange
import Derived.Deep.DeepCutAuto
namespace Go.Proofs.YtbnnkkojlclgjaaGreat
set_option linter.unusedVariables false
open Go.RowKit Go.Maps
attribute [local go_sem ↓] Go.wp_at_zero Go.wp_at_succ
attribute [local go_sem] quietR quietAtR quietUponR midAt midUpon plain plainUpon

section
variable {w0 w w' : World} {r : Nat} {L : List En}
theorem RS.getB (h : RS w0 w r L) (i : Int) (hi : (Lit.int .i64 i).wf = true) :
    Calls Tryz.prog 35 #[.pointer (some ⟨r, 0, none⟩), .int .i64 i] w fun e w' => e = .returned (.tuple #[.int .u64 (getA L i), .int .u64 (getB L i), .bool (getIs L i)]) ∧ RS w0 w' r L ∧ Below w.heap.size w w' := by
  obtain ⟨S, h1, h2, h3⟩ := h
  exact (rget_any r S L i w h1 hi).mono fun e w' ⟨k1, k2⟩ => ⟨k1, RS.later ⟨S, h1, h2, h3⟩ k2, k2⟩
end
/-- ids in a row that may be read -/
def IdsAt (w : World) (v : Value) (L : List En) : Prop :=
  ∃ a cap, v = .slice a L.length cap ∧ (L = [] ∨ ∃ b, a = some ⟨b, 0, none⟩ ∧ b < w.heap.size ∧ L.length ≤ cap ∧ ∀ (i : Nat) e, L[i]? = some e → w.cell? ⟨b, i, none⟩ = some (.int .i64 e.1.2))
theorem IdsAt.later {w w' : World} {v : Value} {L : List En} (h : IdsAt w v L) (hb : Below w.heap.size w w') : IdsAt w' v L := by
  obtain ⟨a, cap, e, h3⟩ := h
  refine ⟨a, cap, e, ?_⟩
  rcases h3 with h3 | ⟨b, e2, hbl, hcap, hc⟩
  · exact .inl h3
  · exact .inr ⟨b, e2, Nat.lt_of_lt_of_le hbl hb.size, hcap, fun i x hx => (hb.cell (p := ⟨b, i, none⟩) hbl).trans (hc i x hx)⟩
theorem IdsAt.of_owns {w : World} {base : Nat} {v : Value} {L : List En} (h : w.ownsRow base 3 1 v L.length (idsV L)) : IdsAt w v L := by
  rcases h.2 with ⟨rfl, h0⟩ | ⟨g, cap, cur, rfl, h1, h2, h3, h4⟩
  · obtain rfl : L = [] := List.eq_nil_of_length_eq_zero h0
    exact ⟨none, 0, rfl, .inl rfl⟩
  · refine ⟨_, _, rfl, .inr ⟨g, rfl, (Array.getElem?_eq_some_iff.1 h2).1, h3, fun i x hx => ?_⟩⟩
    rw [h.cellAt i (by have := (List.getElem?_eq_some_iff.1 hx).1; omega)]
    unfold idsV
    rw [List.getElem?_map, hx]; rfl
theorem get_at {L : List En} (h : InvE L) {i : Nat} {e : En} (hx : L[i]? = some e) : getA L e.1.2 = e.1.1 ∧ getB L e.1.2 = e.2 ∧ getIs L e.1.2 = true := by
  have := getE_mem h.ids (List.mem_of_getElem? hx)
  unfold getA getB getIs
  rw [this]
  exact ⟨rfl, rfl, rfl⟩
theorem order_at {L : List En} (h : InvE L) {i : Nat} {x e : En} (hx : L[i]? = some x) (he : L[i + 1]? = some e) : x.1.1 < e.1.1 ∨ (x.1.1 = e.1.1 ∧ x.1.2 < e.1.2) := by
  obtain ⟨h1, e1⟩ := List.getElem?_eq_some_iff.1 hx
  obtain ⟨h2, e2⟩ := List.getElem?_eq_some_iff.1 he
  have := List.pairwise_iff_getElem.1 h.sort i (i + 1) h1 h2 (by omega)
  rw [e1, e2] at this
  exact lessK_iff.1 this
end Go.Proofs.YtbnnkkojlclgjaaGreat
