/-
  A slice of structs that came in, whose fields are integers or bools: its elements' cells.
-/
import Derived.Test.YtclhhegfffccgaaGreatReg
import Derived.Deep.Slices
import Derived.Deep.Fields
import Derived.ChangeSame
import Derived.ChangeOld
import Derived.Lib.SmallJoins
namespace Go.Proofs.YtclhhegfffccgaaGreat
set_option linter.unusedVariables false
open Go.ChangeShapes Go.WideShapes Go.Deep

def KindsFit : List (Option IntKind) → List Value → Prop
  | [], [] => True
  | some k :: ks, v :: vs => (∃ n, v = .int k n ∧ (Lit.int k n).wf = true) ∧ KindsFit ks vs
  | none :: ks, v :: vs => (∃ b, v = .bool b) ∧ KindsFit ks vs
  | _, _ => False
def KindsOk (P : Program) : List Field → List (Option IntKind) → Prop
  | [], [] => True
  | f :: fs, some k :: ks => P.underlying f.type = some (.int k) ∧ KindsOk P fs ks
  | f :: fs, none :: ks => P.underlying f.type = some .bool ∧ KindsOk P fs ks
  | _, _ => False

/-- what is known of such a slice -/
def IsRows (ks : List (Option IntKind)) (w : World) (a : Option Addr) (len cap : Nat) (z : List (List Value)) : Prop :=
  len ≤ cap ∧ cap ≤ maxLen ∧ z.length = len ∧ (∀ row ∈ z, KindsFit ks row) ∧
  (len = 0 ∨ ∃ b off, a = some ⟨b, off, none⟩ ∧ b < w.heap.size ∧ ∀ i row, z[i]? = some row → ∀ j v, row[j]? = some v → w.cell? ⟨b, off + (i * ks.length + j), none⟩ = some v)

section
variable {H : Type} {enc : TypeId × Value → H} {P : Program} {w : World} {base : Nat} {spare : Nat → Bool} {held : Bool}

theorem open_slice_fields' {t e : TypeId} {fs : Array Field} {fuel : Nat} {cs : List Value} {x : DataW H × List MemPlace} (ht : P.underlying t = some (.slice e)) (he : P.underlying e = some (.struct fs))
    (hone : oneCellFields P fs = true) (hC : P.cellsOf e = fs.size) (h : DataW.trod enc P w base spare held fuel t cs = some x) :
    (cs = [.slice none 0 0]) ∨
    ∃ (a : Addr) (len cap m : Nat), cs = [.slice (some a) len cap] ∧ len ≤ cap ∧ cap ≤ maxLen ∧ len ≤ m ∧
      ∀ i, i < m → ∃ (ys : List (DataW H × List MemPlace)) (n : Nat), ys.length = fs.size ∧
        ∀ (j : Nat) (f : Field), fs[j]? = some f → ∃ (v : Value) (y : DataW H × List MemPlace), w.cell? (a.add (i * fs.size + j)) = some v ∧ ys[j]? = some y ∧ DataW.trod enc P w base spare held n f.type [v] = some y := by
  rcases open_slice ht h with h0 | ⟨a, len, cap, m, n, D, Pl, hcs, hb, hl, hm, hmm, hx, hi⟩
  · exact .inl h0.1
  · refine .inr ⟨a, len, cap, m, hcs, hl, hm, by rw [hmm]; split <;> omega, fun i him => ?_⟩
    obtain ⟨cs', hc, ht'⟩ := hi i him
    rw [hC] at hc
    obtain ⟨ys, n', hn', hy, hlen, hyl, hf⟩ := DataW.trod_struct he ht'
    obtain ⟨_, hcl, hat⟩ := World.cells?_some hc
    refine ⟨ys, n', hyl, fun j f hj => ?_⟩
    obtain ⟨ho, hk⟩ := hone_of hone j f hj
    have hjl : j < fs.size := (Array.getElem?_eq_some_iff.1 hj).1
    have hcell := hat j hjl
    have hv : cs'[j]? = some (cs'[j]'(by omega)) := List.getElem?_eq_getElem (by omega)
    have h1 := hf j f hj
    rw [ho, hk] at h1
    have hone' : (cs'.drop j).take 1 = [cs'[j]'(by omega)] := by
      rw [List.drop_eq_getElem_cons (by omega)]
      rfl
    rw [hone'] at h1
    have hys : ys[j]? = some (ys[j]'(by omega)) := List.getElem?_eq_getElem (by omega)
    refine ⟨_, _, ?_, hys, h1.trans hys⟩
    rw [← Go.Deep.add_add, hcell, hv]

theorem kinds_len : ∀ {fs : List Field} {ks : List (Option IntKind)}, KindsOk P fs ks → fs.length = ks.length
  | [], [], _ => rfl
  | _ :: _, some _ :: _, h => by simp [kinds_len h.2]
  | _ :: _, none :: _, h => by simp [kinds_len h.2]
  | [], _ :: _, h => by cases h
  | _ :: _, [], h => by cases h

theorem kinds_row : ∀ (fs : List Field) (ks : List (Option IntKind)) (g : Nat → Value → Prop), KindsOk P fs ks →
    (∀ (j : Nat) (f : Field), fs[j]? = some f → ∃ (v : Value) (y : DataW H × List MemPlace) (n : Nat), g j v ∧ DataW.trod enc P w base spare held n f.type [v] = some y) →
    ∃ row : List Value, KindsFit ks row ∧ ∀ j v, row[j]? = some v → g j v
  | [], [], g, _, _ => ⟨[], trivial, fun j v h => by simp at h⟩
  | f :: fs, some k :: ks, g, hk, h => by
    obtain ⟨v, y, n, hg, ht⟩ := h 0 f rfl
    obtain ⟨m, e1, _, hw⟩ := DataW.trod_int hk.1 ht
    obtain ⟨row, hf, hr⟩ := kinds_row fs ks (fun j => g (j + 1)) hk.2 (fun j f' hj => h (j + 1) f' (by simpa using hj))
    refine ⟨v :: row, ⟨⟨m, by simpa using e1, hw⟩, hf⟩, fun j u hj => ?_⟩
    cases j with
    | zero => simp at hj; subst hj; exact hg
    | succ j => exact hr j u (by simpa using hj)
  | f :: fs, none :: ks, g, hk, h => by
    obtain ⟨v, y, n, hg, ht⟩ := h 0 f rfl
    obtain ⟨m, e1, _⟩ := DataW.trod_bool hk.1 ht
    obtain ⟨row, hf, hr⟩ := kinds_row fs ks (fun j => g (j + 1)) hk.2 (fun j f' hj => h (j + 1) f' (by simpa using hj))
    refine ⟨v :: row, ⟨⟨m, by simpa using e1⟩, hf⟩, fun j u hj => ?_⟩
    cases j with
    | zero => simp at hj; subst hj; exact hg
    | succ j => exact hr j u (by simpa using hj)
  | [], _ :: _, _, hk, _ => by cases hk
  | _ :: _, [], _, hk, _ => by cases hk

theorem list_of {α : Type} [Inhabited α] (R : Nat → α → Prop) (n : Nat) (h : ∀ i, i < n → ∃ x, R i x) : ∃ z : List α, z.length = n ∧ ∀ i x, z[i]? = some x → R i x := by
  induction n with
  | zero => exact ⟨[], rfl, fun i x hx => by simp at hx⟩
  | succ n ih =>
    obtain ⟨z, hz, hr⟩ := ih fun i hi => h i (by omega)
    obtain ⟨x, hx⟩ := h n (by omega)
    refine ⟨z ++ [x], by simp [hz], fun i y hy => ?_⟩
    by_cases hi : i < n
    · exact hr i y (by rw [List.getElem?_append_left (by omega)] at hy; exact hy)
    · rw [List.getElem?_append_right (by omega)] at hy
      have : i - z.length = 0 := by
        have := (List.getElem?_eq_some_iff.1 hy).1
        simp at this; omega
      rw [this] at hy
      simp at hy
      subst hy
      obtain rfl : i = n := by omega
      exact hx

theorem rows_any {t e : TypeId} {fs : Array Field} (ks : List (Option IntKind)) {a : Option Addr} {len cap : Nat} {d : DataW H} {p : List MemPlace} (ht : P.underlying t = some (.slice e)) (he : P.underlying e = some (.struct fs))
    (hone : oneCellFields P fs = true) (hC : P.cellsOf e = fs.size) (hpos : fs.size ≠ 0) (hk : KindsOk P fs.toList ks) (h : DataW.Trod enc P w base spare held t (.slice a len cap) d p) : ∃ z, IsRows ks w a len cap z := by
  obtain ⟨fuel, hf⟩ := h
  have hsz : fs.size = ks.length := by have := kinds_len hk; simpa using this
  rcases open_slice_fields' ht he hone hC hf with hcs | ⟨x, l, c, m, hcs, hlc, hcm, hlm, hi⟩
  · simp [Value.cells] at hcs
    obtain ⟨rfl, rfl, rfl⟩ := hcs
    exact ⟨[], by omega, by unfold maxLen; omega, rfl, (by intro r hr; simp at hr), .inl rfl⟩
  · simp [Value.cells] at hcs
    obtain ⟨rfl, rfl, rfl⟩ := hcs
    obtain ⟨z, hz, hr⟩ := list_of (fun i row => KindsFit ks row ∧ ∀ j v, row[j]? = some v → w.cell? (x.add (i * ks.length + j)) = some v) len (fun i hil => by
      obtain ⟨ys, n, _, hy⟩ := hi i (by omega)
      rw [← hsz]
      refine kinds_row (H := H) (enc := enc) (P := P) (w := w) (base := base) (spare := spare) (held := held) fs.toList ks (fun j v => w.cell? (x.add (i * fs.size + j)) = some v) hk fun j f hj => ?_
      obtain ⟨v, y, h1, _, h3⟩ := hy j f (by simpa using hj)
      exact ⟨v, y, n, h1, h3⟩)
    refine ⟨z, hlc, hcm, hz, fun row hrow => ?_, ?_⟩
    · obtain ⟨i, hi, rfl⟩ := List.mem_iff_getElem.1 hrow
      exact (hr i _ (List.getElem?_eq_getElem hi)).1
    · by_cases h0 : len = 0
      · exact .inl h0
      · right
        obtain ⟨ys, n, _, hy⟩ := hi 0 (by omega)
        have hf0 : fs[0]? = some (fs[0]'(by omega)) := Array.getElem?_eq_getElem (by omega)
        obtain ⟨v, y, h1, _, _⟩ := hy 0 _ hf0
        have hx : x.add (0 * fs.size + 0) = x := by simp [Addr.add]
        rw [hx] at h1
        have hsp : x.spot = none := by
          unfold World.cell? at h1
          split at h1
          · split at h1
            · cases h1
            · rename_i hns; simpa using hns
          · cases h1
        have hlt : x.block < w.heap.size := World.block_lt_of_cell? w _ h1
        obtain ⟨b, off, sp⟩ := x
        simp only at hsp hlt
        subst hsp
        refine ⟨b, off, rfl, hlt, fun i row hrow j v hv => ?_⟩
        have := (hr i row hrow).2 j v hv
        rwa [Addr.add_lit] at this
end

end Go.Proofs.YtclhhegfffccgaaGreat
