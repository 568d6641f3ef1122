/-
  The counters: acts, and what telling them does.
-/
import Derived.Test.YtfnocnknmpmaaaaCountAwake
import Derived.Test.YtfnocnknmpmaaaaFlat
namespace Go.Proofs.Ytfnocnknmpmaaaa
set_option linter.unusedVariables false
open Go.RowKit

/-- an act: kind, rule, a packet's id, class, length, tick -/
structure CAct where
  k : Int
  r : Int
  i : Int
  c : Int
  n : Int
  t : Int
  deriving Inhabited
abbrev actV (a : CAct) : Value := .agg #[.int .u8 a.k, .int .u8 a.r, .int .u64 a.i, .int .i64 a.c, .int .i64 a.n, .int .u64 a.t]
def CFit (a : CAct) : Prop := (0 ≤ a.k ∧ a.k ≤ 255) ∧ (Lit.int .i64 a.c).wf = true ∧ (Lit.int .i64 a.n).wf = true

def CActsAt (w : World) (a : Option Addr) (len : Nat) (z : List CAct) : Prop :=
  z.length = len ∧ (∀ q ∈ z, CFit q) ∧
  (len = 0 ∨ ∃ b off, a = some ⟨b, off, none⟩ ∧ b < w.heap.size ∧ ∀ i q, z[i]? = some q →
    w.cell? ⟨b, off + i * 6, none⟩ = some (.int .u8 q.k) ∧ w.cell? ⟨b, off + i * 6 + 1, none⟩ = some (.int .u8 q.r) ∧ w.cell? ⟨b, off + i * 6 + 2, none⟩ = some (.int .u64 q.i) ∧ w.cell? ⟨b, off + i * 6 + 3, none⟩ = some (.int .i64 q.c) ∧ w.cell? ⟨b, off + i * 6 + 4, none⟩ = some (.int .i64 q.n) ∧ w.cell? ⟨b, off + i * 6 + 5, none⟩ = some (.int .u64 q.t))
theorem CActsAt.below {w w' : World} {a : Option Addr} {len : Nat} {z : List CAct} (h : CActsAt w a len z) (hb : Below w.heap.size w w') : CActsAt w' a len z := by
  obtain ⟨h1, h2, h3⟩ := h
  refine ⟨h1, h2, ?_⟩
  rcases h3 with h3 | ⟨b, off, e, hl, hc⟩
  · exact .inl h3
  · refine .inr ⟨b, off, e, Nat.lt_of_lt_of_le hl hb.size, fun i q hq => ?_⟩
    obtain ⟨c0, c1, c2, c3, c4, c5⟩ := hc i q hq
    exact ⟨(hb.cell (p := ⟨b, _, none⟩) hl).trans c0, (hb.cell (p := ⟨b, _, none⟩) hl).trans c1, (hb.cell (p := ⟨b, _, none⟩) hl).trans c2, (hb.cell (p := ⟨b, _, none⟩) hl).trans c3, (hb.cell (p := ⟨b, _, none⟩) hl).trans c4, (hb.cell (p := ⟨b, _, none⟩) hl).trans c5⟩
theorem u8_wf {n : Int} (h : (Lit.int .u8 n).wf = true) : 0 ≤ n ∧ n ≤ 255 := by
  simp [Lit.wf, IntKind.min, IntKind.max, IntKind.signed, IntKind.bits] at h
  exact ⟨h.1, by omega⟩

set_option maxRecDepth 20000 in
theorem cacts_of {w : World} {a : Option Addr} {len cap : Nat} {z : List (List Value)} (h : IsRows [some .u8, some .u8, some .u64, some .i64, some .i64, some .u64] w a len cap z) :
    len ≤ 9223372036854775807 ∧ ∃ l : List CAct, CActsAt w a len l := by
  obtain ⟨h1, h2, h3, h4, h5⟩ := h
  have h2' : cap ≤ 9223372036854775807 := by unfold maxLen at h2; exact h2
  refine ⟨Nat.le_trans h1 h2', ?_⟩
  obtain ⟨l, hl, hr⟩ := list_of (fun i (q : CAct) => z[i]? = some [.int .u8 q.k, .int .u8 q.r, .int .u64 q.i, .int .i64 q.c, .int .i64 q.n, .int .u64 q.t] ∧ CFit q) len (fun i hi => by
    have hz : z[i]? = some (z[i]'(by omega)) := List.getElem?_eq_getElem (by omega)
    have hk := h4 _ (List.getElem_mem (l := z) (n := i) (by omega))
    generalize z[i]'(by omega) = row at hz hk
    rcases row with _ | ⟨v0, _ | ⟨v1, _ | ⟨v2, _ | ⟨v3, _ | ⟨v4, _ | ⟨v5, _ | ⟨v6, row⟩⟩⟩⟩⟩⟩⟩
    · exact hk.elim
    · exact hk.2.elim
    · exact hk.2.2.elim
    · exact hk.2.2.2.elim
    · exact hk.2.2.2.2.elim
    · exact hk.2.2.2.2.2.elim
    · obtain ⟨⟨n0, e0, w0⟩, ⟨n1, e1, w1⟩, ⟨n2, e2, w2⟩, ⟨n3, e3, w3⟩, ⟨n4, e4, w4⟩, ⟨n5, e5, w5⟩, _⟩ := hk
      subst e0; subst e1; subst e2; subst e3; subst e4; subst e5
      exact ⟨⟨n0, n1, n2, n3, n4, n5⟩, hz, u8_wf w0, w3, w4⟩
    · exact hk.2.2.2.2.2.2.elim)
  refine ⟨l, hl, fun q hq => ?_, ?_⟩
  · obtain ⟨i, hi, rfl⟩ := List.mem_iff_getElem.1 hq
    exact (hr i _ (List.getElem?_eq_getElem hi)).2
  · rcases h5 with h5 | ⟨b, off, e, hb, hc⟩
    · exact .inl h5
    · refine .inr ⟨b, off, e, hb, fun i q hq => ?_⟩
      have hz := (hr i q hq).1
      exact ⟨hc i _ hz 0 _ rfl, hc i _ hz 1 _ rfl, hc i _ hz 2 _ rfl, hc i _ hz 3 _ rfl, hc i _ hz 4 _ rfl, hc i _ hz 5 _ rfl⟩

/-- of a class from 1 to 60, of at most 65535 bytes -/
def fitB (a : CAct) : Bool := decide (1 ≤ a.c ∧ a.c ≤ 60 ∧ 0 ≤ a.n ∧ a.n < 65536)
set_option maxRecDepth 100000 in
theorem fits_any (a : CAct) (w : World) :
    Calls Try.prog 26 #[actV a] w fun e w' => e = .returned (.bool (fitB a)) ∧ Below w.heap.size w w' := by
  by_cases h : 1 ≤ a.c ∧ a.c ≤ 60 ∧ 0 ≤ a.n ∧ a.n < 65536
  · obtain ⟨h1, h2, h3, h4⟩ := h
    have e : fitB a = true := by unfold fitB; exact decide_eq_true ⟨h1, h2, h3, h4⟩
    rw [e]
    clear e
    obtain ⟨k, r, i, c, n, t⟩ := a
    dsimp only at h1 h2 h3 h4 ⊢
    go_enter Try.func26, Try.ntmps26
    go_wp2
    all_goals go_ret
    all_goals exact ⟨rfl, by go_grown⟩
  · have e : fitB a = false := by unfold fitB; exact decide_eq_false h
    rw [e]
    clear e
    obtain ⟨k, r, i, c, n, t⟩ := a
    dsimp only at h ⊢
    have H := Lib.hid h
    clear h
    go_enter Try.func26, Try.ntmps26
    go_wp2
    all_goals go_ret
    all_goals first
      | exact ⟨rfl, by go_grown⟩
      | (refine ⟨?_, by go_grown⟩; exfalso; exact H.out ⟨by omega, by omega, by omega, by omega⟩)
      | (have h := H.out; refine ⟨?_, by go_grown⟩; simp; omega)

def tellA (B : Bk) (a : CAct) : Bk :=
  if a.k % 6 = 0 then tellB B a.c (cameL a.n) else if a.k % 6 = 1 then tellB B a.c refusedL else if a.k % 6 = 2 then tellB B a.c (chosenL a.n a.r) else if a.k % 6 = 3 then tellB B a.c (throughL a.n) else B

set_option maxRecDepth 100000 in
set_option maxHeartbeats 1000000 in
theorem ltell_any (g m : Nat) (B : Bk) (a : CAct) (w : World) (h : BookAt w g m B) (ha : CFit a) (hn : B.length < 1000000) :
    Calls Try.prog 27 #[.pointer (some ⟨g, 0, none⟩), actV a] w fun e w' => e = .returned (.tuple #[]) ∧ TellAt w g m (tellA B a) w' := by
  obtain ⟨⟨hk0, hk1⟩, hc, hw⟩ := ha
  have e : tellA B a = if a.k % 6 = 0 then tellB B a.c (cameL a.n) else if a.k % 6 = 1 then tellB B a.c refusedL else if a.k % 6 = 2 then tellB B a.c (chosenL a.n a.r) else if a.k % 6 = 3 then tellB B a.c (throughL a.n) else B := rfl
  generalize tellA B a = T at e ⊢
  have HE := Lib.hid e
  clear e
  obtain ⟨k, r, i, c, n, t⟩ := a
  dsimp only at hk0 hk1 hc hw HE ⊢
  have hg := World.grownBy_alloc w (.cells #[.int .u8 k, .int .u8 r, .int .u64 i, .int .i64 c, .int .i64 n, .int .u64 t] 40) none
  have H := Lib.hid (h.grown hg)
  have h0 : TellAt w g m B (w.alloc (.cells #[.int .u8 k, .int .u8 r, .int .u64 i, .int .i64 c, .int .i64 n, .int .u64 t] 40)) := ⟨h.grown hg, hg.os, hg.tape, hg.output, hg.size, fun k hk _ => hg.block k hk (by simp)⟩
  have H0 := Lib.hid h0
  have HG := Lib.hid hg
  clear h hg h0
  obtain ⟨q, hq⟩ : ∃ q, k % 6 = q := ⟨_, rfl⟩
  have hq1 : 0 ≤ q := by omega
  have hq2 : q < 6 := by omega
  rw [hq] at HE
  go_enter Try.func27, Try.ntmps27
  rcases (by omega : q = 0 ∨ q = 1 ∨ q = 2 ∨ q = 3 ∨ q = 4 ∨ q = 5) with rfl | rfl | rfl | rfl | rfl | rfl
  · go_wp2_with (go_at_call 13; refine (came_any g m B i c n t _ H.out hc hw hn).mono ?_; rintro e w' ⟨rfl, hT⟩)
    go_returns
    refine ⟨rfl, ?_⟩
    have e := HE.out
    simp at e
    rw [e]
    exact hT.of HG.out
  · go_wp2_with (go_at_call 15; refine (refused_any g m B c _ H.out hc hn).mono ?_; rintro e w' ⟨rfl, hT⟩)
    go_returns
    refine ⟨rfl, ?_⟩
    have e := HE.out
    simp at e
    rw [e]
    exact hT.of HG.out
  · go_wp2_with (go_at_call 18; refine (chosen_any g m B i c n t r _ H.out hc hw hn).mono ?_; rintro e w' ⟨rfl, hT⟩)
    go_returns
    refine ⟨rfl, ?_⟩
    have e := HE.out
    simp at e
    rw [e]
    exact hT.of HG.out
  · go_wp2_with (go_at_call 20; refine (through_any g m B i c n t _ H.out hc hw hn).mono ?_; rintro e w' ⟨rfl, hT⟩)
    go_returns
    refine ⟨rfl, ?_⟩
    have e := HE.out
    simp at e
    rw [e]
    exact hT.of HG.out
  · go_wp2
    go_returns
    refine ⟨rfl, ?_⟩
    have e := HE.out
    simp at e
    rw [e]
    exact H0.out
  · go_wp2
    go_returns
    refine ⟨rfl, ?_⟩
    have e := HE.out
    simp at e
    rw [e]
    exact H0.out

set_option maxRecDepth 100000 in
theorem long_any (a : Option Addr) (len cap : Nat) (w : World) (hl : len ≤ 9223372036854775807) :
    Calls Try.prog 25 #[.slice a len cap] w fun e w' => e = .returned (.bool (decide (200 < len))) ∧ w = w' := by
  by_cases h : 200 < len
  · have e : decide (200 < len) = true := decide_eq_true h
    rw [e]
    clear e
    go_enter Try.func25, Try.ntmps25
    go_wp2
    go_ret
    exact ⟨by simp; omega, rfl⟩
  · have e : decide (200 < len) = false := decide_eq_false h
    rw [e]
    clear e
    go_enter Try.func25, Try.ntmps25
    go_wp2
    go_ret
    exact ⟨by simp; omega, rfl⟩
end Go.Proofs.Ytfnocnknmpmaaaa
