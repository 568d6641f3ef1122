/-
  A row of leaves: acts, and what they do, in plain words; the laws in plain words.
-/
import Derived.Test.YtbnnkkojlclgjaaGreatEdfPlain
import Derived.Test.YtbnnkkojlclgjaaGreatFlat
import Derived.Test.YtbnnkkojlclgjaaGreatPure
namespace Go.Proofs.YtbnnkkojlclgjaaGreat
set_option linter.unusedVariables false
open Go.RowKit

/-- numbers and ids that fit -/
def OkE (L : List En) : Prop := ∀ e ∈ L, (Lit.int .u64 e.1.1).wf = true ∧ (Lit.int .i64 e.1.2).wf = true ∧ (Lit.int .u64 e.2).wf = true
theorem OkE.nil : OkE [] := fun e he => by cases he
theorem OkE.drop {L : List En} (h : OkE L) (i : Int) : OkE (dropI L i) := fun e he => h e (mem_drop.1 he).1
theorem OkE.put {L : List En} (h : OkE L) {i a b : Int} (hi : (Lit.int .i64 i).wf = true) (ha : (Lit.int .u64 a).wf = true) (hb : (Lit.int .u64 b).wf = true) : OkE (putI L i a b) := fun e he => by
  rcases mem_put.1 he with rfl | he
  · exact ⟨ha, hi, hb⟩
  · exact h e he.1
/-- an act: kind, Id, eligible, due -/
structure EAct where
  k : Int
  i : Int
  a : Int
  b : Int
  deriving Inhabited
def EFit (q : EAct) : Prop := (0 ≤ q.k ∧ q.k ≤ 255) ∧ (Lit.int .i64 q.i).wf = true ∧ (Lit.int .u64 q.a).wf = true ∧ (Lit.int .u64 q.b).wf = true
def EActsAt (w : World) (a : Option Addr) (len : Nat) (z : List EAct) : Prop :=
  z.length = len ∧ (∀ q ∈ z, EFit q) ∧
  (len = 0 ∨ ∃ b off, a = some ⟨b, off, none⟩ ∧ b < w.heap.size ∧ ∀ i q, z[i]? = some q →
    w.cell? ⟨b, off + i * 4, none⟩ = some (.int .u8 q.k) ∧ w.cell? ⟨b, off + i * 4 + 1, none⟩ = some (.int .i64 q.i) ∧ w.cell? ⟨b, off + i * 4 + 2, none⟩ = some (.int .u64 q.a) ∧ w.cell? ⟨b, off + i * 4 + 3, none⟩ = some (.int .u64 q.b))
theorem EActsAt.later {w w' : World} {a : Option Addr} {len : Nat} {z : List EAct} (h : EActsAt w a len z) (hb : Below w.heap.size w w') : EActsAt w' a len z := by
  obtain ⟨h1, h2, h3⟩ := h
  refine ⟨h1, h2, ?_⟩
  rcases h3 with h3 | ⟨b, off, e, hl, hc⟩
  · exact .inl h3
  · refine .inr ⟨b, off, e, Nat.lt_of_lt_of_le hl hb.size, fun i q hq => ?_⟩
    obtain ⟨c0, c1, c2, c3⟩ := hc i q hq
    exact ⟨(hb.cell (p := ⟨b, _, none⟩) hl).trans c0, (hb.cell (p := ⟨b, _, none⟩) hl).trans c1, (hb.cell (p := ⟨b, _, none⟩) hl).trans c2, (hb.cell (p := ⟨b, _, none⟩) hl).trans c3⟩
theorem u8_wf {n : Int} (h : (Lit.int .u8 n).wf = true) : 0 ≤ n ∧ n ≤ 255 := by
  simp [Lit.wf, IntKind.min, IntKind.max, IntKind.signed, IntKind.bits] at h
  exact ⟨h.1, by omega⟩

set_option maxRecDepth 20000 in
theorem eacts_of {w : World} {a : Option Addr} {len cap : Nat} {z : List (List Value)} (h : IsRows [some .u8, some .i64, some .u64, some .u64] w a len cap z) :
    len ≤ 9223372036854775807 ∧ ∃ l : List EAct, EActsAt w a len l := by
  obtain ⟨h1, h2, h3, h4, h5⟩ := h
  have h2' : cap ≤ 9223372036854775807 := by unfold maxLen at h2; exact h2
  refine ⟨Nat.le_trans h1 h2', ?_⟩
  obtain ⟨l, hl, hr⟩ := list_of (fun i (q : EAct) => z[i]? = some [.int .u8 q.k, .int .i64 q.i, .int .u64 q.a, .int .u64 q.b] ∧ EFit q) len (fun i hi => by
    have hz : z[i]? = some (z[i]'(by omega)) := List.getElem?_eq_getElem (by omega)
    have hk := h4 _ (List.getElem_mem (l := z) (n := i) (by omega))
    generalize z[i]'(by omega) = row at hz hk
    rcases row with _ | ⟨v0, _ | ⟨v1, _ | ⟨v2, _ | ⟨v3, _ | ⟨v4, row⟩⟩⟩⟩⟩
    · exact hk.elim
    · exact hk.2.elim
    · exact hk.2.2.elim
    · exact hk.2.2.2.elim
    · obtain ⟨⟨n0, e0, w0⟩, ⟨n1, e1, w1⟩, ⟨n2, e2, w2⟩, ⟨n3, e3, w3⟩, _⟩ := hk
      subst e0; subst e1; subst e2; subst e3
      exact ⟨⟨n0, n1, n2, n3⟩, hz, u8_wf w0, w1, w2, w3⟩
    · exact hk.2.2.2.2.elim)
  refine ⟨l, hl, fun q hq => ?_, ?_⟩
  · obtain ⟨i, hi, rfl⟩ := List.mem_iff_getElem.1 hq
    exact (hr i _ (List.getElem?_eq_getElem hi)).2
  · rcases h5 with h5 | ⟨b, off, e, hb, hc⟩
    · exact .inl h5
    · refine .inr ⟨b, off, e, hb, fun i q hq => ?_⟩
      have hz := (hr i q hq).1
      exact ⟨hc i _ hz 0 _ rfl, hc i _ hz 1 _ rfl, hc i _ hz 2 _ rfl, hc i _ hz 3 _ rfl⟩

theorem u64_range {n : Int} (h : (Lit.int .u64 n).wf = true) : 0 ≤ n ∧ n < 18446744073709551616 := by
  simp [Lit.wf, IntKind.min, IntKind.max, IntKind.signed, IntKind.bits] at h
  exact ⟨h.1, by omega⟩
/-- what acts leave: Put and Drop alone -/
def playE1 (L : List En) (q : EAct) : List En := if q.k.tmod 3 = 0 then putI L q.i q.a q.b else dropI L q.i
def playE (z : List EAct) : List En := z.foldl playE1 []
theorem playE_snoc {z : List EAct} {k : Nat} {q : EAct} (h : z[k]? = some q) : playE (z.take (k + 1)) = playE1 (playE (z.take k)) q := by
  unfold playE
  rw [List.take_add_one, h]
  simp [List.foldl_append]
theorem playE_inv (z : List EAct) : InvE (playE z) ∧ (playE z).length ≤ z.length := by
  have : ∀ (z : List EAct) (L : List En), InvE L → InvE (z.foldl playE1 L) ∧ (z.foldl playE1 L).length ≤ L.length + z.length := by
    intro z
    induction z with
    | nil => intro L h; exact ⟨h, by simp⟩
    | cons q z ih =>
      intro L h
      have h1 : InvE (playE1 L q) ∧ (playE1 L q).length ≤ L.length + 1 := by
        unfold playE1
        split
        · exact ⟨h.put _ _ _, put_le _ _ _ _⟩
        · exact ⟨h.drop _, by have := drop_le L q.i; omega⟩
      have := ih _ h1.1
      refine ⟨this.1, ?_⟩
      have := this.2
      simp only [List.foldl_cons, List.length_cons]; omega
  have := this z [] .nil
  exact ⟨this.1, by simpa [playE] using this.2⟩
theorem playE_ok {z : List EAct} (h : ∀ q ∈ z, EFit q) : OkE (playE z) := by
  have : ∀ (z : List EAct) (L : List En), (∀ q ∈ z, EFit q) → OkE L → OkE (z.foldl playE1 L) := by
    intro z
    induction z with
    | nil => intro L _ h; exact h
    | cons q z ih =>
      intro L hz h
      have hq := hz q (.head _)
      refine ih _ (fun x hx => hz x (.tail _ hx)) ?_
      unfold playE1
      split
      · exact h.put hq.2.1 hq.2.2.1 hq.2.2.2
      · exact h.drop _
  exact this z [] h OkE.nil

/-! ### The laws -/
def nextId (now : Int) (L : List En) : Int := match nextL now L with
  | none => 0
  | some h => h.2
def nextIs (now : Int) (L : List En) : Bool := (nextL now L).isSome
def getA (L : List En) (i : Int) : Int := match getE L i with
  | none => 0
  | some e => e.1.1
def getB (L : List En) (i : Int) : Int := match getE L i with
  | none => 0
  | some e => e.2
def getIs (L : List En) (i : Int) : Bool := (getE L i).isSome
theorem next_get {L : List En} (h : InvE L) {now : Int} (hi : nextIs now L = true) : getIs L (nextId now L) = true ∧ getA L (nextId now L) ≤ now ∧ ((getA L (nextId now L), nextId now L), getB L (nextId now L)) ∈ L ∧
    ∀ e ∈ L, e.1.1 ≤ now → ¬ (e.2 < getB L (nextId now L) ∨ (e.2 = getB L (nextId now L) ∧ e.1.2 < nextId now L)) := by
  unfold nextIs at hi
  cases hn : nextL now L with
  | none => rw [hn] at hi; cases hi
  | some k =>
    obtain ⟨⟨a, ha, hle⟩, hl⟩ := next_some hn
    have hg := getE_mem h.ids ha
    have e1 : nextId now L = k.2 := by unfold nextId; rw [hn]
    rw [e1]
    dsimp only at hg
    unfold getIs getA getB
    rw [hg]
    exact ⟨rfl, hle, ha, hl⟩
theorem next_not {L : List En} {now : Int} (hi : nextIs now L = false) : ∀ e ∈ L, now < e.1.1 := by
  intro e he
  have := next_none (now := now) (L := L) (by unfold nextIs at hi; simpa using hi) e he
  omega
/-- who is next later is due no later -/
theorem later_ok {L : List En} (h : InvE L) {now now2 : Int} (hle : now ≤ now2) (hi : nextIs now L = true) : nextIs now2 L = true ∧ getB L (nextId now2 L) ≤ getB L (nextId now L) := by
  obtain ⟨_, h1, h2, _⟩ := next_get h hi
  have h3 : nextIs now2 L = true := next_is (now := now2) h2 (by dsimp only; omega)
  refine ⟨h3, ?_⟩
  obtain ⟨_, _, _, h4⟩ := next_get h h3
  have := h4 _ h2 (by dsimp only; omega)
  dsimp only at this
  omega
theorem tick_next {L : List En} (h : InvE L) (hn : L ≠ []) : nextIs (tickL L) L = true := by
  cases L with
  | nil => exact absurd rfl hn
  | cons e L => exact next_is (e := e) (.head _) (Int.le_refl _)
theorem tick_before {L : List En} (h : InvE L) {t : Int} (ht : t < tickL L) : nextIs t L = false := by
  cases e : nextIs t L with
  | false => rfl
  | true =>
    obtain ⟨_, h1, h2, _⟩ := next_get h e
    have := tick_le h.sort _ h2
    dsimp only at this
    omega
/-- notes from the last one on, anew -/
theorem put_first {e : En} {L : List En} (h : InvE (e :: L)) (x y : Int) : putI (putI L e.1.2 x y) e.1.2 e.1.1 e.2 = e :: L := by
  have hp := List.pairwise_cons.1 h.ids
  have hs := List.pairwise_cons.1 h.sort
  have hL : InvE L := ⟨hs.2, hp.2⟩
  have hd : dropI L e.1.2 = L := dropI_not fun z hz hh => hp.1 z hz hh.symm
  have h1 : dropI (putI L e.1.2 x y) e.1.2 = L := by
    unfold putI
    rw [hd]
    have : ∀ (M : List En), (∀ z ∈ M, z.1.2 ≠ e.1.2) → dropI (insE M ((x, e.1.2), y)) e.1.2 = M := by
      intro M
      induction M with
      | nil => intro _; unfold insE dropI; rw [List.filter_cons_of_neg (by simp)]; rfl
      | cons z M ih =>
        intro hz
        have hz1 := hz z (.head _)
        have hz2 := fun q hq => hz q (.tail _ hq)
        unfold insE
        split
        · unfold dropI
          rw [List.filter_cons_of_neg (by simp)]
          exact dropI_not hz
        · unfold dropI
          rw [List.filter_cons_of_pos (by simpa using hz1)]
          have := ih hz2
          unfold dropI at this
          rw [this]
    exact this L fun z hz hh => hp.1 z hz hh.symm
  unfold putI at *
  rw [h1]
  cases L with
  | nil => rfl
  | cons z L =>
    unfold insE
    rw [if_pos (hs.1 z (.head _))]
theorem drop_put {L : List En} {i : Int} (h : ∀ z ∈ L, z.1.2 ≠ i) (x y : Int) : dropI (putI L i x y) i = L := by
  have hd : dropI L i = L := dropI_not h
  unfold putI
  rw [hd]
  clear hd
  induction L with
  | nil => unfold insE dropI; rw [List.filter_cons_of_neg (by simp)]; rfl
  | cons z M ih =>
    have hz1 := h z (.head _)
    have hz2 := fun q hq => h q (.tail _ hq)
    unfold insE
    split
    · unfold dropI
      rw [List.filter_cons_of_neg (by simp)]
      exact dropI_not h
    · unfold dropI
      rw [List.filter_cons_of_pos (by simpa using hz1)]
      have := ih hz2
      unfold dropI at this
      rw [this]
/-- what is dropped and noted again -/
theorem put_back {L : List En} (h : InvE L) {e : En} (he : e ∈ L) : putI (dropI L e.1.2) e.1.2 e.1.1 e.2 = L := by
  unfold putI
  have hdd : dropI (dropI L e.1.2) e.1.2 = dropI L e.1.2 := dropI_not fun z hz => (mem_drop.1 hz).2
  rw [hdd]
  induction L with
  | nil => cases he
  | cons z L ih =>
    have hp := List.pairwise_cons.1 h.ids
    have hs := List.pairwise_cons.1 h.sort
    rcases List.mem_cons.1 he with rfl | he
    · have hd : dropI (e :: L) e.1.2 = L := by
        unfold dropI
        rw [List.filter_cons_of_neg (by simp)]
        exact dropI_not fun x hx hh => hp.1 x hx hh.symm
      rw [hd]
      cases L with
      | nil => rfl
      | cons y L =>
        unfold insE
        rw [if_pos (hs.1 y (.head _))]
    · have hne : z.1.2 ≠ e.1.2 := hp.1 e he
      have hd : dropI (z :: L) e.1.2 = z :: dropI L e.1.2 := by
        unfold dropI
        rw [List.filter_cons_of_pos (by simpa using hne)]
      rw [hd]
      unfold insE
      rw [if_neg (by
        have := lessK_asym (hs.1 e he)
        show ¬ lessK e.1 z.1 = true
        rw [this]; simp)]
      rw [ih ⟨hs.2, hp.2⟩ he (dropI_not fun y hy => (mem_drop.1 hy).2)]
theorem nextId_wf {L : List En} (h : OkE L) (hi : InvE L) (now : Int) : (Lit.int .i64 (nextId now L)).wf = true := by
  cases e : nextIs now L with
  | true =>
    obtain ⟨_, _, h1, _⟩ := next_get hi e
    exact (h _ h1).2.1
  | false =>
    have : nextId now L = 0 := by
      unfold nextIs at e
      unfold nextId
      cases hn : nextL now L with
      | none => rfl
      | some k => rw [hn] at e; cases e
    rw [this]; decide
theorem nextIs_nil (now : Int) : nextIs now [] = false := rfl
end Go.Proofs.YtbnnkkojlclgjaaGreat
