/-
  The acts of layer 5 (four numbers each) as a slice that came in; the copies that they start.
-/
import Derived.Test.YtipiajnaechadaaStrs
import Derived.Test.YtipiajnaechadaaPure
namespace Go.Proofs.Ytipiajnaechadaa
set_option linter.unusedVariables false
open Go.RowKit

/-- an act: its start's tick and height, a tick and an amount that are asked -/
abbrev Act4 := Int × Int × Int × Int

def ActsAt (w : World) (a : Option Addr) (len : Nat) (z : List Act4) : Prop :=
  z.length = len ∧ (∀ q ∈ z, U q.1 ∧ U q.2.1 ∧ U q.2.2.1 ∧ U q.2.2.2) ∧
  (len = 0 ∨ ∃ b off, a = some ⟨b, off, none⟩ ∧ b < w.heap.size ∧ ∀ i q, z[i]? = some q →
    w.cell? ⟨b, off + i * 4, none⟩ = some (.int .u64 q.1) ∧ w.cell? ⟨b, off + i * 4 + 1, none⟩ = some (.int .u64 q.2.1) ∧ w.cell? ⟨b, off + i * 4 + 2, none⟩ = some (.int .u64 q.2.2.1) ∧ w.cell? ⟨b, off + i * 4 + 3, none⟩ = some (.int .u64 q.2.2.2))

theorem ActsAt.below {w w' : World} {a : Option Addr} {len : Nat} {z : List Act4} (h : ActsAt w a len z) (hb : Below w.heap.size w w') : ActsAt w' a len z := by
  obtain ⟨h1, h2, h3⟩ := h
  refine ⟨h1, h2, ?_⟩
  rcases h3 with h3 | ⟨b, off, e, hl, hc⟩
  · exact .inl h3
  · refine .inr ⟨b, off, e, Nat.lt_of_lt_of_le hl hb.size, fun i q hq => ?_⟩
    obtain ⟨c0, c1, c2, c3⟩ := hc i q hq
    exact ⟨(hb.cell (p := ⟨b, _, none⟩) hl).trans c0, (hb.cell (p := ⟨b, _, none⟩) hl).trans c1, (hb.cell (p := ⟨b, _, none⟩) hl).trans c2, (hb.cell (p := ⟨b, _, none⟩) hl).trans c3⟩

theorem u64_wf {n : Int} (h : (Lit.int .u64 n).wf = true) : U n := by
  simp [Lit.wf, IntKind.min, IntKind.max, IntKind.signed, IntKind.bits] at h
  exact ⟨h.1, by omega⟩

theorem acts_of {w : World} {a : Option Addr} {len cap : Nat} {z : List (List Value)} (h : IsRows [some .u64, some .u64, some .u64, some .u64] w a len cap z) :
    len ≤ 9223372036854775807 ∧ ∃ l : List Act4, ActsAt w a len l := by
  obtain ⟨h1, h2, h3, h4, h5⟩ := h
  have h2' : cap ≤ 9223372036854775807 := by unfold maxLen at h2; exact h2
  refine ⟨Nat.le_trans h1 h2', ?_⟩
  obtain ⟨l, hl, hr⟩ := list_of (fun i (q : Act4) => z[i]? = some [.int .u64 q.1, .int .u64 q.2.1, .int .u64 q.2.2.1, .int .u64 q.2.2.2] ∧ U q.1 ∧ U q.2.1 ∧ U q.2.2.1 ∧ U q.2.2.2) len (fun i hi => by
    have hz : z[i]? = some (z[i]'(by omega)) := List.getElem?_eq_getElem (by omega)
    have hk := h4 _ (List.getElem_mem (l := z) (n := i) (by omega))
    generalize z[i]'(by omega) = row at hz hk
    match row, hk with
    | [v0, v1, v2, v3], ⟨⟨n0, e0, w0⟩, ⟨n1, e1, w1⟩, ⟨n2, e2, w2⟩, ⟨n3, e3, w3⟩, _⟩ =>
      subst e0; subst e1; subst e2; subst e3
      exact ⟨(n0, n1, n2, n3), hz, u64_wf w0, u64_wf w1, u64_wf w2, u64_wf w3⟩)
  refine ⟨l, hl, fun q hq => ?_, ?_⟩
  · obtain ⟨i, hi, rfl⟩ := List.mem_iff_getElem.1 hq
    exact (hr i _ (List.getElem?_eq_getElem hi)).2
  · rcases h5 with h5 | ⟨b, off, e, hb, hc⟩
    · exact .inl h5
    · refine .inr ⟨b, off, e, hb, fun i q hq => ?_⟩
      have hz := (hr i q hq).1
      exact ⟨hc i _ hz 0 _ rfl, hc i _ hz 1 _ rfl, hc i _ hz 2 _ rfl, hc i _ hz 3 _ rfl⟩

/-- the copies that starts make: the last tick, all copies -/
def stp (s : Int × List (Int × Int)) (q : Act4) : Int × List (Int × Int) := (max (min q.1 9223372036854775808) s.1, s.2 ++ [(max (min q.1 9223372036854775808) s.1, min q.2.1 4611686018427387904)])
def runA (z : List Act4) : Int × List (Int × Int) := z.foldl stp (0, [])
theorem runA_snoc {z : List Act4} {k : Nat} {q : Act4} (h : z[k]? = some q) : runA (z.take (k + 1)) = stp (runA (z.take k)) q := by
  unfold runA
  rw [List.take_add_one, h]
  simp [List.foldl_append]
theorem runA_len (z : List Act4) : (runA z).2.length = z.length := by
  have : ∀ (z : List Act4) (s : Int × List (Int × Int)), (z.foldl stp s).2.length = s.2.length + z.length := by
    intro z
    induction z with
    | nil => intro s; rfl
    | cons q z ih => intro s; rw [List.foldl_cons, ih]; simp [stp]; omega
  have := this z (0, [])
  simpa [runA] using this

end Go.Proofs.Ytipiajnaechadaa
