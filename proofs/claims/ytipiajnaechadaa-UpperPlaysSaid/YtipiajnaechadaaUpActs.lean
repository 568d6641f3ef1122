/-
  The acts of layer 21 (two numbers, two bools each) as a slice that came in.
-/
import Derived.Test.YtipiajnaechadaaActs
namespace Go.Proofs.Ytipiajnaechadaa
set_option linter.unusedVariables false
open Go.RowKit

abbrev UAct := Int × Int × Bool × Bool

def UActsAt (w : World) (a : Option Addr) (len : Nat) (z : List UAct) : Prop :=
  z.length = len ∧ (∀ q ∈ z, U q.1 ∧ U q.2.1) ∧
  (len = 0 ∨ ∃ b off, a = some ⟨b, off, none⟩ ∧ b < w.heap.size ∧ ∀ i q, z[i]? = some q →
    w.cell? ⟨b, off + i * 4, none⟩ = some (.int .u64 q.1) ∧ w.cell? ⟨b, off + i * 4 + 1, none⟩ = some (.int .u64 q.2.1) ∧ w.cell? ⟨b, off + i * 4 + 2, none⟩ = some (.bool q.2.2.1) ∧ w.cell? ⟨b, off + i * 4 + 3, none⟩ = some (.bool q.2.2.2))

theorem UActsAt.below {w w' : World} {a : Option Addr} {len : Nat} {z : List UAct} (h : UActsAt w a len z) (hb : Below w.heap.size w w') : UActsAt w' a len z := by
  obtain ⟨h1, h2, h3⟩ := h
  refine ⟨h1, h2, ?_⟩
  rcases h3 with h3 | ⟨b, off, e, hl, hc⟩
  · exact .inl h3
  · refine .inr ⟨b, off, e, Nat.lt_of_lt_of_le hl hb.size, fun i q hq => ?_⟩
    obtain ⟨c0, c1, c2, c3⟩ := hc i q hq
    exact ⟨(hb.cell (p := ⟨b, _, none⟩) hl).trans c0, (hb.cell (p := ⟨b, _, none⟩) hl).trans c1, (hb.cell (p := ⟨b, _, none⟩) hl).trans c2, (hb.cell (p := ⟨b, _, none⟩) hl).trans c3⟩

theorem uacts_of {w : World} {a : Option Addr} {len cap : Nat} {z : List (List Value)} (h : IsRows [some .u64, some .u64, none, none] w a len cap z) :
    len ≤ 9223372036854775807 ∧ ∃ l : List UAct, UActsAt w a len l := by
  obtain ⟨h1, h2, h3, h4, h5⟩ := h
  have h2' : cap ≤ 9223372036854775807 := by unfold maxLen at h2; exact h2
  refine ⟨Nat.le_trans h1 h2', ?_⟩
  obtain ⟨l, hl, hr⟩ := list_of (fun i (q : UAct) => z[i]? = some [.int .u64 q.1, .int .u64 q.2.1, .bool q.2.2.1, .bool q.2.2.2] ∧ U q.1 ∧ U q.2.1) len (fun i hi => by
    have hz : z[i]? = some (z[i]'(by omega)) := List.getElem?_eq_getElem (by omega)
    have hk := h4 _ (List.getElem_mem (l := z) (n := i) (by omega))
    generalize z[i]'(by omega) = row at hz hk
    match row, hk with
    | [v0, v1, v2, v3], ⟨⟨n0, e0, w0⟩, ⟨n1, e1, w1⟩, ⟨n2, e2⟩, ⟨n3, e3⟩, _⟩ =>
      subst e0; subst e1; subst e2; subst e3
      exact ⟨(n0, n1, n2, n3), hz, u64_wf w0, u64_wf w1⟩)
  refine ⟨l, hl, fun q hq => ?_, ?_⟩
  · obtain ⟨i, hi, rfl⟩ := List.mem_iff_getElem.1 hq
    exact (hr i _ (List.getElem?_eq_getElem hi)).2
  · rcases h5 with h5 | ⟨b, off, e, hb, hc⟩
    · exact .inl h5
    · refine .inr ⟨b, off, e, hb, fun i q hq => ?_⟩
      have hz := (hr i q hq).1
      exact ⟨hc i _ hz 0 _ rfl, hc i _ hz 1 _ rfl, hc i _ hz 2 _ rfl, hc i _ hz 3 _ rfl⟩

end Go.Proofs.Ytipiajnaechadaa
