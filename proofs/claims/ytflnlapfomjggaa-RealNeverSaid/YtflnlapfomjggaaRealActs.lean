/-
  The acts of layer 18 (two bytes, a tick, two lengths each) as a slice that came in.
-/
import Derived.Test.YtflnlapfomjggaaActs
namespace Go.Proofs.Ytflnlapfomjggaa
set_option linter.unusedVariables false
open Go.RowKit

/-- an act: kind, rule, ticks, length, next -/
abbrev RAct := Int × Int × Int × Int × Int
def RFit (q : RAct) : Prop := (0 ≤ q.1 ∧ q.1 ≤ 255) ∧ (0 ≤ q.2.1 ∧ q.2.1 ≤ 255) ∧ U q.2.2.1 ∧ (-9223372036854775808 ≤ q.2.2.2.1 ∧ q.2.2.2.1 ≤ 9223372036854775807) ∧ (-9223372036854775808 ≤ q.2.2.2.2 ∧ q.2.2.2.2 ≤ 9223372036854775807)

def RActsAt (w : World) (a : Option Addr) (len : Nat) (z : List RAct) : Prop :=
  z.length = len ∧ (∀ q ∈ z, RFit q) ∧
  (len = 0 ∨ ∃ b off, a = some ⟨b, off, none⟩ ∧ b < w.heap.size ∧ ∀ i q, z[i]? = some q →
    w.cell? ⟨b, off + i * 5, none⟩ = some (.int .u8 q.1) ∧ w.cell? ⟨b, off + i * 5 + 1, none⟩ = some (.int .u8 q.2.1) ∧ w.cell? ⟨b, off + i * 5 + 2, none⟩ = some (.int .u64 q.2.2.1) ∧ w.cell? ⟨b, off + i * 5 + 3, none⟩ = some (.int .i64 q.2.2.2.1) ∧ w.cell? ⟨b, off + i * 5 + 4, none⟩ = some (.int .i64 q.2.2.2.2))

theorem RActsAt.below {w w' : World} {a : Option Addr} {len : Nat} {z : List RAct} (h : RActsAt w a len z) (hb : Below w.heap.size w w') : RActsAt w' a len z := by
  obtain ⟨h1, h2, h3⟩ := h
  refine ⟨h1, h2, ?_⟩
  rcases h3 with h3 | ⟨b, off, e, hl, hc⟩
  · exact .inl h3
  · refine .inr ⟨b, off, e, Nat.lt_of_lt_of_le hl hb.size, fun i q hq => ?_⟩
    obtain ⟨c0, c1, c2, c3, c4⟩ := hc i q hq
    exact ⟨(hb.cell (p := ⟨b, _, none⟩) hl).trans c0, (hb.cell (p := ⟨b, _, none⟩) hl).trans c1, (hb.cell (p := ⟨b, _, none⟩) hl).trans c2, (hb.cell (p := ⟨b, _, none⟩) hl).trans c3, (hb.cell (p := ⟨b, _, none⟩) hl).trans c4⟩

theorem u8_wf {n : Int} (h : (Lit.int .u8 n).wf = true) : 0 ≤ n ∧ n ≤ 255 := by
  simp [Lit.wf, IntKind.min, IntKind.max, IntKind.signed, IntKind.bits] at h
  exact ⟨h.1, by omega⟩
theorem i64_wf {n : Int} (h : (Lit.int .i64 n).wf = true) : -9223372036854775808 ≤ n ∧ n ≤ 9223372036854775807 := by
  simp [Lit.wf, IntKind.min, IntKind.max, IntKind.signed, IntKind.bits] at h
  exact ⟨by omega, by omega⟩

set_option maxRecDepth 20000 in
theorem racts_of {w : World} {a : Option Addr} {len cap : Nat} {z : List (List Value)} (h : IsRows [some .u8, some .u8, some .u64, some .i64, some .i64] w a len cap z) :
    len ≤ 9223372036854775807 ∧ ∃ l : List RAct, RActsAt w a len l := by
  obtain ⟨h1, h2, h3, h4, h5⟩ := h
  have h2' : cap ≤ 9223372036854775807 := by unfold maxLen at h2; exact h2
  refine ⟨Nat.le_trans h1 h2', ?_⟩
  obtain ⟨l, hl, hr⟩ := list_of (fun i (q : RAct) => z[i]? = some [.int .u8 q.1, .int .u8 q.2.1, .int .u64 q.2.2.1, .int .i64 q.2.2.2.1, .int .i64 q.2.2.2.2] ∧ RFit q) len (fun i hi => by
    have hz : z[i]? = some (z[i]'(by omega)) := List.getElem?_eq_getElem (by omega)
    have hk := h4 _ (List.getElem_mem (l := z) (n := i) (by omega))
    generalize z[i]'(by omega) = row at hz hk
    rcases row with _ | ⟨v0, _ | ⟨v1, _ | ⟨v2, _ | ⟨v3, _ | ⟨v4, _ | ⟨v5, row⟩⟩⟩⟩⟩⟩
    · exact hk.elim
    · exact hk.2.elim
    · exact hk.2.2.elim
    · exact hk.2.2.2.elim
    · exact hk.2.2.2.2.elim
    · obtain ⟨⟨n0, e0, w0⟩, ⟨n1, e1, w1⟩, ⟨n2, e2, w2⟩, ⟨n3, e3, w3⟩, ⟨n4, e4, w4⟩, _⟩ := hk
      subst e0; subst e1; subst e2; subst e3; subst e4
      exact ⟨(n0, n1, n2, n3, n4), hz, u8_wf w0, u8_wf w1, u64_wf w2, i64_wf w3, i64_wf w4⟩
    · exact hk.2.2.2.2.2.elim)
  refine ⟨l, hl, fun q hq => ?_, ?_⟩
  · obtain ⟨i, hi, rfl⟩ := List.mem_iff_getElem.1 hq
    exact (hr i _ (List.getElem?_eq_getElem hi)).2
  · rcases h5 with h5 | ⟨b, off, e, hb, hc⟩
    · exact .inl h5
    · refine .inr ⟨b, off, e, hb, fun i q hq => ?_⟩
      have hz := (hr i q hq).1
      exact ⟨hc i _ hz 0 _ rfl, hc i _ hz 1 _ rfl, hc i _ hz 2 _ rfl, hc i _ hz 3 _ rfl, hc i _ hz 4 _ rfl⟩

end Go.Proofs.Ytflnlapfomjggaa
