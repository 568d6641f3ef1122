/-
  The plain laws of RealNever: heads in their order, what each pair of them has between; a row of heads in memory.
-/
import Derived.Test.YtflnlapfomjggaaRealOrder
import Derived.Test.YtflnlapfomjggaaRunKept
import Derived.Laws.AppendOwnNone
import Derived.WalkSmall
namespace Go.Proofs.Ytflnlapfomjggaa
set_option linter.unusedVariables false
open Go.RowKit

/-- a head that was sent: from when it could be, when it was due, its grains -/
abbrev Piece := Int × Int × Int
def Qs (ps : List Piece) (j : Nat) : Int := ((ps.take j).map fun p => p.2.2).sum
theorem Qs_zero (ps : List Piece) : Qs ps 0 = 0 := by simp [Qs]
theorem Qs_succ {ps : List Piece} {j : Nat} {p : Piece} (h : ps[j]? = some p) : Qs ps (j + 1) = Qs ps j + p.2.2 := by
  unfold Qs
  rw [List.take_add_one, h]
  simp [List.sum_append]
theorem Qs_app {ps : List Piece} {j : Nat} (p : Piece) (hj : j ≤ ps.length) : Qs (ps ++ [p]) j = Qs ps j := by
  unfold Qs
  rw [List.take_append_of_le_length hj]
theorem Qs_full {ps : List Piece} (p : Piece) : Qs (ps ++ [p]) (ps.length + 1) = Qs ps ps.length + p.2.2 := by
  have h : (ps ++ [p])[ps.length]? = some p := by simp
  rw [Qs_succ h, Qs_app p (Nat.le_refl _)]

/-- between any two heads there is at most what the curve has -/
def PP (F L R : Int) (ps : List Piece) : Prop := ∀ (i j : Nat) (p q : Piece), ps[i]? = some p → ps[j]? = some q → i ≤ j → ∀ e s, q.2.1 ≤ e → e ≤ 1099511627776 → 0 ≤ s → s ≤ e → (s < p.1 ∨ s = 0) → Qs ps (j + 1) - Qs ps i ≤ Proofs.Ytflnlapfomjggaa.cap (W F L R (e - s))
def PB (ps : List Piece) : Prop := ∀ p ∈ ps, (0 ≤ p.1 ∧ p.1 ≤ 9223372036854775808) ∧ (0 ≤ p.2.1 ∧ p.2.1 ≤ 9223372036854775808) ∧ 0 ≤ p.2.2 ∧ p.2.2 ≤ 384000
/-- whence each head came -/
def GG (F L R : Int) (A : List (Int × Int)) (got : Int) (ps : List Piece) : Prop := ∀ (i : Nat) (p : Piece), ps[i]? = some p →
  ∃ xp gp f Ap B, A = Ap ++ B ∧ (∀ a ∈ Ap, a.1 ≤ xp ∧ 0 ≤ a.2) ∧ Back (fun t => vE F L R Ap (max t xp)) xp gp p.1 ∧ f ≤ gp ∧ (xp, f) ∈ Ap ∧ 0 ≤ gp ∧ 0 ≤ xp ∧ got = gp + (Qs ps ps.length - Qs ps i)

theorem PP.nil (F L R : Int) : PP F L R [] := by intro i j p q h; simp at h
theorem PB.nil : PB [] := by intro p h; simp at h
theorem GG.nil (F L R : Int) (A : List (Int × Int)) (got : Int) : GG F L R A got [] := by intro i p h; simp at h
theorem GG.more {F L R got : Int} {A : List (Int × Int)} {ps : List Piece} (h : GG F L R A got ps) (C : List (Int × Int)) : GG F L R (A ++ C) got ps := by
  intro i p hp
  obtain ⟨xp, gp, f, Ap, B, h1, h2⟩ := h i p hp
  exact ⟨xp, gp, f, Ap, B ++ C, by rw [h1, List.append_assoc], h2⟩

theorem pair_law {F L R x xp gp f fr to_ due e s : Int} {A Ap B : List (Int × Int)} (h : MayC F L R) (hA : A = Ap ++ B) (hAp : ∀ a ∈ Ap, a.1 ≤ xp ∧ 0 ≤ a.2) (hAl : ∀ a ∈ A, a.1 ≤ x ∧ 0 ≤ a.2) (hk1 : Back (fun t => vE F L R Ap (max t xp)) xp gp fr) (hf : f ≤ gp) (hm : (xp, f) ∈ Ap)
    (hk2 : Back (fun t => vA F L R A (max t x)) x to_ due) (hd : due ≤ e) (he : e ≤ 1099511627776) (hs0 : 0 ≤ s) (hse : s ≤ e) (hc : s < fr ∨ s = 0) (hg0 : 0 ≤ gp) (hx0 : 0 ≤ xp) (hto : to_ ≤ 4611686018427387904) : to_ - gp ≤ Proofs.Ytflnlapfomjggaa.cap (W F L R (e - s)) := by
  by_cases hsx : xp ≤ s ∧ s < fr
  · subst hA
    exact kept_law h hAp hAl hk1 hk2 hsx.1 hsx.2 hd (by omega) hse hg0
  · have hsx2 : s ≤ xp := by omega
    obtain ⟨h1, h2⟩ := hk2.le (vA_max_mono h hAl) hd (by omega)
    rw [Int.max_eq_left (show x ≤ e by omega)] at h2
    have hmA : (xp, f) ∈ A := by rw [hA]; exact List.mem_append_left _ hm
    have hxp := hAl _ hmA
    simp only at hxp
    have h3 : vA F L R A e ≤ atK F L R e (xp, f) := minF_le _ _ _ _ hmA
    rw [atK_has hxp.2] at h3
    have h4 := W_mono h.f0 h.r0 (F := F) (L := L) (R := R) (show e - xp ≤ e - s by omega)
    have h5 := W_nonneg h.f0 h.r0 h.l0 (t := e - xp) (by omega)
    unfold hasK at h3
    simp only at h3
    generalize W F L R (e - xp) = p at *
    generalize W F L R (e - s) = q at *
    unfold cap at *; omega

theorem PP.snoc {F L R x got el du q : Int} {A : List (Int × Int)} {ps : List Piece} (h : MayC F L R) (hP : PP F L R ps) (hG : GG F L R A got ps) (hAl : ∀ a ∈ A, a.1 ≤ x ∧ 0 ≤ a.2) (hk1 : Back (fun t => vE F L R A (max t x)) x got el) (hk2 : Back (fun t => vA F L R A (max t x)) x (got + q) du)
    (f : Int) (hf : f ≤ got) (hm : (x, f) ∈ A) (hg0 : 0 ≤ got) (hx0 : 0 ≤ x) (hto : got + q ≤ 4611686018427387904) : PP F L R (ps ++ [(el, du, q)]) ∧ GG F L R A (got + q) (ps ++ [(el, du, q)]) := by
  have hlen : (ps ++ [(el, du, q)]).length = ps.length + 1 := by simp
  refine ⟨fun i j p r hi hj hij e s hd he hs0 hse hc => ?_, fun i p hi => ?_⟩
  · have hjl : j < ps.length + 1 := by have := (List.getElem?_eq_some_iff.1 hj).1; omega
    by_cases hjn : j = ps.length
    · subst hjn
      have hr : r = (el, du, q) := by simpa using hj.symm
      subst hr
      rw [Qs_full]
      by_cases hin : i = ps.length
      · subst hin
        have hp : p = (el, du, q) := by simpa using hi.symm
        subst hp
        rw [Qs_app _ (Nat.le_refl _)]
        have := pair_law (B := []) h (by simp) hAl hAl hk1 hf hm hk2 hd he hs0 hse hc hg0 hx0 hto
        simp only
        omega
      · rw [List.getElem?_append_left (by omega)] at hi
        obtain ⟨xp, gp, f', Ap, B, h1, h2, h3, h4, h5, h6, h7, h8⟩ := hG i p hi
        have := pair_law h h1 h2 hAl h3 h4 h5 hk2 hd he hs0 hse hc h6 h7 hto
        rw [Qs_app _ (by omega)]
        simp only
        omega
    · rw [List.getElem?_append_left (by omega)] at hi hj
      have := hP i j p r hi hj hij e s hd he hs0 hse hc
      rw [Qs_app _ (by omega), Qs_app _ (by omega)]
      exact this
  · have hil : i < ps.length + 1 := by have := (List.getElem?_eq_some_iff.1 hi).1; omega
    rw [hlen, Qs_full]
    by_cases hin : i = ps.length
    · subst hin
      have hp : p = (el, du, q) := by simpa using hi.symm
      subst hp
      exact ⟨x, got, f, A, [], by simp, hAl, hk1, hf, hm, hg0, hx0, by rw [Qs_app _ (Nat.le_refl _)]; simp only; omega⟩
    · rw [List.getElem?_append_left (by omega)] at hi
      obtain ⟨xp, gp, f', Ap, B, h1, h2, h3, h4, h5, h6, h7, h8⟩ := hG i p hi
      exact ⟨xp, gp, f', Ap, B, h1, h2, h3, h4, h5, h6, h7, by rw [Qs_app _ (by omega)]; simp only; omega⟩

/-- the cells of heads -/
def cellsP (K : List Piece) : List Value := K.flatMap fun k => [.int .u64 k.1, .int .u64 k.2.1, .int .u64 k.2.2]
theorem cellsP_length (K : List Piece) : (cellsP K).length = K.length * 3 := by
  induction K with
  | nil => rfl
  | cons k K ih => simp only [cellsP, List.flatMap_cons, List.length_append, List.length_cons, List.length_nil] at *; omega
theorem cellsP_append (K M : List Piece) : cellsP (K ++ M) = cellsP K ++ cellsP M := by simp [cellsP]
theorem cellsP_at : ∀ (K : List Piece) (j : Nat), (cellsP K)[j * 3]? = ((K[j]?).map fun k => Value.int .u64 k.1) ∧ (cellsP K)[j * 3 + 1]? = ((K[j]?).map fun k => Value.int .u64 k.2.1) ∧ (cellsP K)[j * 3 + 2]? = ((K[j]?).map fun k => Value.int .u64 k.2.2)
  | [], j => by simp [cellsP]
  | k :: K, 0 => by simp [cellsP]
  | k :: K, j + 1 => by
    have := cellsP_at K j
    simp only [cellsP, List.flatMap_cons, List.getElem?_cons_succ] at *
    rw [show (j + 1) * 3 = j * 3 + 3 by omega, List.getElem?_append_right (by simp), show j * 3 + 3 + 1 = j * 3 + 1 + 3 by omega, List.getElem?_append_right (by simp), show j * 3 + 3 + 2 = j * 3 + 2 + 3 by omega, List.getElem?_append_right (by simp)]
    simpa using this
def RowP (w : World) (base : Nat) (v : Value) (K : List Piece) : Prop := w.ownsRow base 69 3 v K.length (cellsP K)
theorem RowP.below {w w' : World} {base : Nat} {v : Value} {K : List Piece} (h : RowP w base v K) (hb : Below w.heap.size w w') : RowP w' base v K :=
  h.kept (Below.grownNone hb) (Classical.em _)
theorem RowP.keeps {w w' : World} {base g d : Nat} {v : Value} {K : List Piece} (h : RowP w base v K) (k : Keeps w w' g d) (hg : g < base) (hd : d < base) : RowP w' base v K := by
  obtain ⟨h1, h2 | ⟨b, cap, cur, h2, h3, h4, h5⟩⟩ := h
  · exact ⟨h1, .inl h2⟩
  · exact ⟨h1, .inr ⟨b, cap, cur, h2, h3, k.blk b _ cur h4 (by omega) (by omega), h5⟩⟩
theorem RowP.shape {w : World} {base : Nat} {v : Value} {K : List Piece} (h : RowP w base v K) : ∃ a c, v = .slice a K.length c := by
  obtain ⟨h1, ⟨h2, h0⟩ | ⟨g, cp, cur, h2, h3, h4⟩⟩ := h
  · exact ⟨none, 0, by rw [h2, h0]⟩
  · exact ⟨_, _, h2⟩
theorem RowP.open_ {w : World} {base : Nat} {v : Value} {K : List Piece} (h : RowP w base v K) (hK : K ≠ []) :
    ∃ b cap, v = .slice (some ⟨b, 0, none⟩) K.length cap ∧ base ≤ b ∧ b < w.heap.size ∧ K.length ≤ cap ∧
      ∀ j k, K[j]? = some k → w.cell? ⟨b, j * 3, none⟩ = some (.int .u64 k.1) ∧ w.cell? ⟨b, j * 3 + 1, none⟩ = some (.int .u64 k.2.1) ∧ w.cell? ⟨b, j * 3 + 2, none⟩ = some (.int .u64 k.2.2) := by
  have h' := h
  obtain ⟨hl, (⟨_, h0⟩ | ⟨b, cap, cur, hv, hb, hblk, hn, hc, hs, ht⟩)⟩ := h
  · exact absurd (List.length_eq_zero_iff.1 h0) hK
  · subst hv
    refine ⟨b, cap, rfl, hb, (Array.getElem?_eq_some_iff.1 hblk).1, hn, fun j k hj => ?_⟩
    have hjl : j < K.length := (List.getElem?_eq_some_iff.1 hj).1
    have h1 := h'.cellAt (j * 3) (by omega)
    have h2 := h'.cellAt (j * 3 + 1) (by omega)
    have h3 := h'.cellAt (j * 3 + 2) (by omega)
    obtain ⟨e1, e2, e3⟩ := cellsP_at K j
    rw [e1, hj] at h1
    rw [e2, hj] at h2
    rw [e3, hj] at h3
    exact ⟨h1, h2, h3⟩
/-- the row grows: the debt beside it is as it was -/
theorem DebtAt.row {w w' : World} {d r g base : Nat} {F L R x got el du : Int} {A : List (Int × Int)} {aw : Bool} {v : Value} {K : List Piece} (h : DebtAt w d r g F L R x A got aw el du) (hv : RowP w base v K) (hd : d < base) (hw : w.grownBy w' v.ownBlock) : DebtAt w' d r g F L R x A got aw el du := by
  have hg := h.glt; have hr := h.2.2
  obtain ⟨h1, ⟨h2, h0⟩ | ⟨b, cap, cur, h2, h3, h4, h5⟩⟩ := hv
  · subst h2
    exact h.below ⟨hw.os, hw.tape, hw.output, hw.size, fun k hk => hw.block k hk (by simp [Value.ownBlock])⟩
  · subst h2
    have hw' : w.grownBy w' (some b) := hw
    exact ⟨h.1.grown hw' (by simp; omega), h.2.1.far (show Blk w b _ cur from h4) (by decide) (by omega) (by omega) hw', hr⟩

end Go.Proofs.Ytflnlapfomjggaa
