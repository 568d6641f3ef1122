/-
  A book's box and its acts: what laws 17 ask of a book, with the curve that is asked in a box beside it.
-/
import Derived.Test.YthmhboagbeibdaaAdmKeptP
import Derived.Test.YthmhboagbeibdaaAdmPlayed
import Derived.Test.YthmhboagbeibdaaAdmAwake
import Derived.Test.YthmhboagbeibdaaAdmAll
namespace Go.Proofs.Ythmhboagbeibdaa
set_option linter.unusedVariables false
open Go.RowKit Go.Maps Go.Sort
attribute [local go_sem ↓] Go.wp_at_zero Go.wp_at_succ
attribute [local go_sem] quietR quietAtR quietUponR midAt midUpon
attribute [local irreducible] TStep HStep

theorem put_length_new {α : Type} {k : Int} {v : α} : ∀ {M : List (Int × α)}, lookM M k = none → (putM M k v).length = M.length + 1
  | [], _ => rfl
  | p :: r, h => by
    have hn := look_none.1 h
    have hp : p.1 ≠ k := hn p (.head _)
    have ih := put_length_new (v := v) (look_none.2 fun q hq => hn q (.tail _ hq))
    unfold putM
    split
    · simp
    · try simp only [hp, if_false]
      simp [ih]
theorem del_put {α : Type} {k : Int} {v : α} : ∀ {M : List (Int × α)}, lookM M k = none → delM (putM M k v) k = M
  | [], _ => by simp [putM, delM]
  | p :: r, h => by
    have hn := look_none.1 h
    have hp : p.1 ≠ k := hn p (.head _)
    have ih := del_put (v := v) (look_none.2 fun q hq => hn q (.tail _ hq))
    have hr : delM (p :: r) k = p :: r := delM_none k _ hn
    unfold putM
    split
    · rw [show delM ((k, v) :: p :: r) k = delM (p :: r) k by simp [delM], hr]
    · try simp only [hp, if_false]
      rw [show delM (p :: putM r k v) k = p :: delM (putM r k v) k by simp [delM, hp], ih]

/-- a book, a curve in a box, and all that was there before -/
structure AgAt (w W : World) (base g m bc : Nat) (r : Int) (L : List (Int × Cv)) (G : List Cv) (F L0 R0 : Int) : Prop where
  bk : ∃ vg, BkO W base g m r L G vg
  box : Blk W bc 25 #[.int .u64 F, .int .u64 L0, .int .u64 R0]
  below : Below w.heap.size w W
  lo : bc < base
  hb : w.heap.size ≤ base
theorem AgAt.later {w W W' : World} {base g m bc : Nat} {r : Int} {L : List (Int × Cv)} {G : List Cv} {F L0 R0 : Int} (h : AgAt w W base g m bc r L G F L0 R0) (hb : Below W.heap.size W W') : AgAt w W' base g m bc r L G F L0 R0 := by
  obtain ⟨⟨vg, h1⟩, h2, h3, h4, h5⟩ := h
  exact ⟨⟨vg, h1.later hb⟩, h2.below hb h2.lt, h3.trans (hb.mono h3.size), h4, h5⟩
theorem AgAt.act {w W W' : World} {base g m bc : Nat} {r : Int} {L L' : List (Int × Cv)} {G G' : List Cv} {vg' : Value} {F L0 R0 : Int} (h : AgAt w W base g m bc r L G F L0 R0) (h' : BkO W' base g m r L' G' vg') (hb : Below base W W') : AgAt w W' base g m bc r L' G' F L0 R0 :=
  ⟨⟨vg', h'⟩, h.box.below hb h.lo, h.below.trans (hb.mono h.hb), h.lo, h.hb⟩
theorem AgAt.cells {w W : World} {base g m bc : Nat} {r : Int} {L : List (Int × Cv)} {G : List Cv} {F L0 R0 : Int} (h : AgAt w W base g m bc r L G F L0 R0) : W.cell? ⟨bc, 0, none⟩ = some (.int .u64 F) ∧ W.cell? ⟨bc, 1, none⟩ = some (.int .u64 L0) ∧ W.cell? ⟨bc, 2, none⟩ = some (.int .u64 R0) :=
  ⟨h.box.cell 0, h.box.cell 1, h.box.cell 2⟩

variable {w W : World} {base g m bc : Nat} {r : Int} {L : List (Int × Cv)} {G : List Cv} {F L0 R0 : Int}
def AgAll (w : World) (base g m bc : Nat) (r : Int) (L : List (Int × Cv)) (G : List Cv) (F L0 R0 : Int) (n : Nat) (e : Ending) (W' : World) : Prop :=
  ∃ a cp, e = .returned (.slice a n cp) ∧ AgAt w W' base g m bc r L G F L0 R0
theorem ag_all {n : Nat} (h : AgAt w W base g m bc r L G F L0 R0) (hn : G.length + L.length = n) : Calls Try.prog 16 #[.pointer (some ⟨g, 0, none⟩)] W (AgAll w base g m bc r L G F L0 R0 n) := by
  obtain ⟨vg, hb⟩ := h.bk
  refine (all_any g m r L G vg W hb.bk).mono ?_
  rintro e W' ⟨v, rfl, ho, hb⟩
  obtain ⟨a, cp, rfl⟩ := owns_slice ho
  exact ⟨a, cp, by simp [← hn], h.later hb⟩
def AgIs (w : World) (base g m bc : Nat) (r : Int) (L : List (Int × Cv)) (G : List Cv) (F L0 R0 : Int) (v : Value) (e : Ending) (W' : World) : Prop :=
  e = .returned v ∧ AgAt w W' base g m bc r L G F L0 R0
theorem ag_fits {b : Bool} (h : AgAt w W base g m bc r L G F L0 R0) {x y z : Int} (hu : U x ∧ U y ∧ U z) (hv : fitsB (G ++ L.map (·.2)) (x, y, z) r = b) : Calls Try.prog 11 #[.pointer (some ⟨g, 0, none⟩), .agg #[.int .u64 x, .int .u64 y, .int .u64 z]] W (AgIs w base g m bc r L G F L0 R0 (.bool b)) := by
  obtain ⟨vg, hb⟩ := h.bk
  refine (fits_any x y z g m r L G vg W hu hb.bk).mono ?_
  rintro e W' ⟨rfl, hb⟩
  exact ⟨by rw [hv], h.later hb⟩
theorem ag_live (h : AgAt w W base g m bc r L G F L0 R0) {id : Int} (hid : (Lit.int .i64 id).wf = true) : Calls Try.prog 17 #[.pointer (some ⟨g, 0, none⟩), .int .i64 id] W (AgIs w base g m bc r L G F L0 R0 (.tuple #[cvV ((lookM L id).getD (0, 0, 0)), .bool (lookM L id).isSome])) := by
  obtain ⟨vg, hb⟩ := h.bk
  refine (live_any id g m r L G vg W hid hb.bk).mono ?_
  rintro e W' ⟨rfl, hb⟩
  exact ⟨rfl, h.later hb⟩
theorem ag_put {v : Int} {L' : List (Int × Cv)} (h : AgAt w W base g m bc r L G F L0 R0) {id x y z : Int} (hu : U x ∧ U y ∧ U z) (hid : (Lit.int .i64 id).wf = true) (hf : L.length + G.length < 100000) (hv : putC L G id (x, y, z) r = v) (hL : putBk L G id (x, y, z) r = L') : Calls Try.prog 10 #[.pointer (some ⟨g, 0, none⟩), .int .i64 id, .agg #[.int .u64 x, .int .u64 y, .int .u64 z]] W (AgIs w base g m bc r L' G F L0 R0 (.int .i64 v)) := by
  obtain ⟨vg, hb⟩ := h.bk
  refine (putO_any x y z id base g m r L G vg W hu hid hb hf).mono ?_
  rintro e W' ⟨rfl, hb, hbl, _⟩
  subst hv; subst hL
  exact ⟨rfl, h.act hb hbl⟩
theorem ag_drop {v : Bool} {L' : List (Int × Cv)} {G' : List Cv} (h : AgAt w W base g m bc r L G F L0 R0) {id : Int} {keep : Bool} (hid : (Lit.int .i64 id).wf = true) (hf : L.length + G.length < 100000) (hv : (lookM L id).isSome = v) (hL : delM L id = L') (hG : (if keep then G ++ (lookM L id).toList else G) = G') : Calls Try.prog 19 #[.pointer (some ⟨g, 0, none⟩), .int .i64 id, .bool keep] W (AgIs w base g m bc r L' G' F L0 R0 (.bool v)) := by
  obtain ⟨vg, hb⟩ := h.bk
  refine (drop_any id keep base g m r L G vg W hid hb hf).mono ?_
  rintro e W' ⟨rfl, ⟨vg', hb⟩, hbl, _⟩
  subst hv; subst hL; subst hG
  exact ⟨rfl, h.act hb hbl⟩
theorem ag_settle (h : AgAt w W base g m bc r L G F L0 R0) : Calls Try.prog 20 #[.pointer (some ⟨g, 0, none⟩)] W (AgIs w base g m bc r L [] F L0 R0 (.int .i64 G.length)) := by
  obtain ⟨vg, hb⟩ := h.bk
  refine (settleO_any base g m r L G vg W hb).mono ?_
  rintro e W' ⟨rfl, hb, hbl, _⟩
  exact ⟨rfl, h.act hb hbl⟩
theorem ag_may {b : Bool} (h : AgAt w W base g m bc r L G F L0 R0) {x y z : Int} (hy : 0 ≤ y) (hv : okC (x, y, z) = b) : Calls Try.prog 18 #[.agg #[.int .u64 x, .int .u64 y, .int .u64 z]] W (AgIs w base g m bc r L G F L0 R0 (.bool b)) := by
  refine (may_any x y z W hy).mono ?_
  rintro e W' ⟨rfl, hb⟩
  exact ⟨by rw [← hv]; rfl, h.later hb⟩
theorem put_cases (L : List (Int × Cv)) (G : List Cv) (id : Int) (c : Cv) (r : Int) :
    (okC c = false ∧ putC L G id c r = 30 ∧ putBk L G id c r = L) ∨ (okC c = true ∧ (lookM L id).isSome = true ∧ putC L G id c r = 80 ∧ putBk L G id c r = L) ∨
    (okC c = true ∧ lookM L id = none ∧ askB (G ++ L.map (·.2)) c r = false ∧ putC L G id c r = 170 ∧ putBk L G id c r = L) ∨
    (okC c = true ∧ lookM L id = none ∧ askB (G ++ L.map (·.2)) c r = true ∧ putC L G id c r = 0 ∧ c = (0, 0, 0) ∧ putBk L G id c r = L) ∨
    (okC c = true ∧ lookM L id = none ∧ askB (G ++ L.map (·.2)) c r = true ∧ putC L G id c r = 0 ∧ c ≠ (0, 0, 0) ∧ putBk L G id c r = putM L id c) := by
  by_cases h1 : okC c = false
  · have e : putC L G id c r = 30 := by unfold putC; rw [if_pos h1]
    exact .inl ⟨h1, e, by unfold putBk; rw [if_neg (by rw [e]; simp)]⟩
  · have h1' : okC c = true := by simpa using h1
    by_cases h2 : (lookM L id).isSome = true
    · have e : putC L G id c r = 80 := by unfold putC; rw [if_neg h1, if_pos h2]
      exact .inr (.inl ⟨h1', h2, e, by unfold putBk; rw [if_neg (by rw [e]; simp)]⟩)
    · have h2' : lookM L id = none := by simpa using h2
      by_cases h3 : askB (G ++ L.map (·.2)) c r = false
      · have e : putC L G id c r = 170 := by unfold putC; rw [if_neg h1, if_neg h2, if_pos h3]
        exact .inr (.inr (.inl ⟨h1', h2', h3, e, by unfold putBk; rw [if_neg (by rw [e]; simp)]⟩))
      · have e : putC L G id c r = 0 := by unfold putC; rw [if_neg h1, if_neg h2, if_neg h3]
        by_cases h4 : c = (0, 0, 0)
        · exact .inr (.inr (.inr (.inl ⟨h1', h2', by simpa using h3, e, h4, by unfold putBk; rw [if_neg (fun h => h.2 h4)]⟩)))
        · exact .inr (.inr (.inr (.inr ⟨h1', h2', by simpa using h3, e, h4, by unfold putBk; rw [if_pos ⟨e, h4⟩]⟩)))
end Go.Proofs.Ythmhboagbeibdaa
