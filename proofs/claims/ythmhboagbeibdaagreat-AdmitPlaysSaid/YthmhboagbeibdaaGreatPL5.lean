/- Lemmas of the claim, merged: AdmActs. No conditions beyond those that each states. -/
import Derived.Test.YthmhboagbeibdaaGreatPL3
import Derived.Test.YthmhboagbeibdaaGreatFlat
import Derived.Test.YthmhboagbeibdaaGreatCvApp
/-
  The book: acts, and what they do.
-/
namespace Go.Proofs.YthmhboagbeibdaaGreat
set_option linter.unusedVariables false
open Go.RowKit Go.Maps Go.Sort
attribute [local go_sem ↓] Go.wp_at_zero Go.wp_at_succ
attribute [local go_sem] quietR quietAtR quietUponR midAt midUpon
attribute [local irreducible] TStep HStep

/-- an act: kind, Id, curve, whether a ghost is kept -/
structure BAct where
  k : Int
  i : Int
  F : Int
  L : Int
  R : Int
  b : Bool
  deriving Inhabited
abbrev BAct.c (a : BAct) : Cv := (a.F, a.L, a.R)
def BFit (a : BAct) : Prop := (0 ≤ a.k ∧ a.k ≤ 255) ∧ (Lit.int .i64 a.i).wf = true ∧ U a.F ∧ U a.L ∧ U a.R
def BActsAt (w : World) (a : Option Addr) (len : Nat) (z : List BAct) : Prop :=
  z.length = len ∧ (∀ q ∈ z, BFit q) ∧
  (len = 0 ∨ ∃ b off, a = some ⟨b, off, none⟩ ∧ b < w.heap.size ∧ ∀ i q, z[i]? = some q →
    w.cell? ⟨b, off + i * 6, none⟩ = some (.int .u8 q.k) ∧ w.cell? ⟨b, off + i * 6 + 1, none⟩ = some (.int .i64 q.i) ∧ w.cell? ⟨b, off + i * 6 + 2, none⟩ = some (.int .u64 q.F) ∧ w.cell? ⟨b, off + i * 6 + 3, none⟩ = some (.int .u64 q.L) ∧ w.cell? ⟨b, off + i * 6 + 4, none⟩ = some (.int .u64 q.R) ∧ w.cell? ⟨b, off + i * 6 + 5, none⟩ = some (.bool q.b))
theorem BActsAt.later {w w' : World} {a : Option Addr} {len : Nat} {z : List BAct} (h : BActsAt w a len z) (hb : Below w.heap.size w w') : BActsAt w' a len z := by
  obtain ⟨h1, h2, h3⟩ := h
  refine ⟨h1, h2, ?_⟩
  rcases h3 with h3 | ⟨b, off, e, hl, hc⟩
  · exact .inl h3
  · refine .inr ⟨b, off, e, Nat.lt_of_lt_of_le hl hb.size, fun i q hq => ?_⟩
    obtain ⟨c0, c1, c2, c3, c4, c5⟩ := hc i q hq
    exact ⟨(hb.cell (p := ⟨b, _, none⟩) hl).trans c0, (hb.cell (p := ⟨b, _, none⟩) hl).trans c1, (hb.cell (p := ⟨b, _, none⟩) hl).trans c2, (hb.cell (p := ⟨b, _, none⟩) hl).trans c3, (hb.cell (p := ⟨b, _, none⟩) hl).trans c4, (hb.cell (p := ⟨b, _, none⟩) hl).trans c5⟩
theorem u8_wf {n : Int} (h : (Lit.int .u8 n).wf = true) : 0 ≤ n ∧ n ≤ 255 := by
  simp [Lit.wf, IntKind.min, IntKind.max, IntKind.signed, IntKind.bits] at h
  exact ⟨h.1, by omega⟩

set_option maxRecDepth 20000 in
theorem bacts_of {w : World} {a : Option Addr} {len cap : Nat} {z : List (List Value)} (h : IsRows [some .u8, some .i64, some .u64, some .u64, some .u64, none] w a len cap z) :
    len ≤ 9223372036854775807 ∧ ∃ l : List BAct, BActsAt w a len l := by
  obtain ⟨h1, h2, h3, h4, h5⟩ := h
  have h2' : cap ≤ 9223372036854775807 := by unfold maxLen at h2; exact h2
  refine ⟨Nat.le_trans h1 h2', ?_⟩
  obtain ⟨l, hl, hr⟩ := list_of (fun i (q : BAct) => z[i]? = some [.int .u8 q.k, .int .i64 q.i, .int .u64 q.F, .int .u64 q.L, .int .u64 q.R, .bool q.b] ∧ BFit q) len (fun i hi => by
    have hz : z[i]? = some (z[i]'(by omega)) := List.getElem?_eq_getElem (by omega)
    have hk := h4 _ (List.getElem_mem (l := z) (n := i) (by omega))
    generalize z[i]'(by omega) = row at hz hk
    rcases row with _ | ⟨v0, _ | ⟨v1, _ | ⟨v2, _ | ⟨v3, _ | ⟨v4, _ | ⟨v5, _ | ⟨v6, row⟩⟩⟩⟩⟩⟩⟩
    · exact hk.elim
    · exact hk.2.elim
    · exact hk.2.2.elim
    · exact hk.2.2.2.elim
    · exact hk.2.2.2.2.elim
    · exact hk.2.2.2.2.2.elim
    · obtain ⟨⟨n0, e0, w0⟩, ⟨n1, e1, w1⟩, ⟨n2, e2, w2⟩, ⟨n3, e3, w3⟩, ⟨n4, e4, w4⟩, ⟨b5, e5⟩, _⟩ := hk
      subst e0; subst e1; subst e2; subst e3; subst e4; subst e5
      exact ⟨⟨n0, n1, n2, n3, n4, b5⟩, hz, u8_wf w0, w1, u64_wf w2, u64_wf w3, u64_wf w4⟩
    · exact hk.2.2.2.2.2.2.elim)
  refine ⟨l, hl, fun q hq => ?_, ?_⟩
  · obtain ⟨i, hi, rfl⟩ := List.mem_iff_getElem.1 hq
    exact (hr i _ (List.getElem?_eq_getElem hi)).2
  · rcases h5 with h5 | ⟨b, off, e, hb, hc⟩
    · exact .inl h5
    · refine .inr ⟨b, off, e, hb, fun i q hq => ?_⟩
      have hz := (hr i q hq).1
      exact ⟨hc i _ hz 0 _ rfl, hc i _ hz 1 _ rfl, hc i _ hz 2 _ rfl, hc i _ hz 3 _ rfl, hc i _ hz 4 _ rfl, hc i _ hz 5 _ rfl⟩

/-- are acts more than are gone through? -/
theorem long_any (a : Option Addr) (len cap : Nat) (w : World) :
    Calls Tryz.prog 4 #[.slice a len cap] w fun e w' => e = .returned (.bool (decide (60 < len))) ∧ w' = w := by
  by_cases h : 60 < len
  · have e : decide (60 < len) = true := decide_eq_true h
    rw [e]
    clear e
    go_enter Tryz.func4, Tryz.ntmps4
    go_wp2
    go_ret
    exact ⟨by simp; omega, rfl⟩
  · have e : decide (60 < len) = false := decide_eq_false h
    rw [e]
    clear e
    go_enter Tryz.func4, Tryz.ntmps4
    go_wp2
    go_ret
    exact ⟨by simp; omega, rfl⟩

/-- a new book, its ghosts a row of its own -/
def MakeW (w : World) (r : Int) (e : Ending) (w' : World) : Prop :=
  ((¬ (1 ≤ r ∧ r ≤ 1048576) ∧ e = .returned (.tuple #[.pointer none, .int .i64 240])) ∨ ((1 ≤ r ∧ r ≤ 1048576) ∧ ∃ g m, e = .returned (.tuple #[.pointer (some ⟨g, 0, none⟩), .int .i64 0]) ∧ BkO w' w.heap.size g m r [] [] (.slice none 0 0))) ∧ Below w.heap.size w w'
theorem make_any (r : Int) (w : World) (hr : U r) : Calls Tryz.prog 5 #[.int .u64 r] w (MakeW w r) := by
  by_cases h1 : 1 ≤ r
  · have n1 : ¬ r < 1 := by omega
    by_cases h2 : r ≤ 1048576
    · have n2 : ¬ 1048576 < r := by omega
      have hmm := @run_makeMap Tryz.prog
      go_enter Tryz.func5, Tryz.ntmps5
      go_wp2_with fail
      go_ret2
      have hb := ((Below.refl w.heap.size w).alloc (Nat.le_refl _) (.map #[] 0)).alloc (by simp) (.cells #[.int .u64 r, .map (some w.heap.size), .slice none 0 0] 55)
      have hB := Blk.new (w.alloc (.map #[] 0)) 55 #[.int .u64 r, .map (some w.heap.size), .slice none 0 0]
      rw [World.size_alloc] at hB
      have hM : MapI Tryz.prog 3 (w.alloc (.map #[] 0)) w.heap.size [] := MapI.made w
      refine ⟨.inr ⟨⟨h1, h2⟩, w.heap.size + 1, w.heap.size, rfl, ⟨hB, hM.kept (World.grownBy_alloc _ _ none) (by simp), ⟨fun c hc => by simp at hc, by simp, none, 0, rfl, .inl rfl⟩, fun c hc => by simp at hc, fun p hp => by simp at hp, by simp, ⟨h1, h2⟩⟩, World.ownsRow_nil _ _ _ _, by omega, Nat.le_refl _⟩, hb⟩
    · have n2 : 1048576 < r := by omega
      go_enter Tryz.func5, Tryz.ntmps5
      go_wp2_with fail
      go_ret2
      exact ⟨.inl ⟨fun h => by omega, rfl⟩, Below.refl _ _⟩
  · have n1 : r < 1 := by omega
    go_enter Tryz.func5, Tryz.ntmps5
    go_wp2_with fail
    go_ret2
    exact ⟨.inl ⟨fun h => by omega, rfl⟩, Below.refl _ _⟩

/-- what an act does -/
noncomputable def stepP (r : Int) (s : List (Int × Cv) × List Cv) (a : BAct) : List (Int × Cv) × List Cv :=
  if a.k % 5 = 0 then (putBk s.1 s.2 a.i a.c r, s.2)
  else if a.k % 5 = 1 then (swapL s.1 s.2 a.i a.c a.b r, swapG s.1 s.2 a.i a.c a.b r)
  else if a.k % 5 = 2 then (delM s.1 a.i, if a.b then s.2 ++ (lookM s.1 a.i).toList else s.2)
  else if a.k % 5 = 3 then (s.1, []) else s
noncomputable def playP (r : Int) (z : List BAct) : List (Int × Cv) × List Cv := z.foldl (stepP r) ([], [])
theorem play_snoc {r : Int} {z : List BAct} {i : Nat} {q : BAct} (h : z[i]? = some q) : playP r (z.take (i + 1)) = stepP r (playP r (z.take i)) q := by
  unfold playP
  rw [List.take_add_one, h, List.foldl_append]
  rfl
theorem step_len (r : Int) (s : List (Int × Cv) × List Cv) (a : BAct) : (stepP r s a).1.length + (stepP r s a).2.length ≤ s.1.length + s.2.length + 2 := by
  have hd := del_length a.i s.1
  have hp := put_length a.i a.c s.1
  have hpd := put_length a.i a.c (delM s.1 a.i)
  have hsm := swapM_len s.1 a.i a.b
  have hlk : (lookM s.1 a.i).toList.length ≤ 1 := by cases lookM s.1 a.i <;> simp
  unfold stepP
  split
  · dsimp only; unfold putBk; split <;> omega
  · split
    · dsimp only
      unfold swapL swapG
      split
      · rw [List.length_append]; split <;> omega
      · omega
    · split
      · dsimp only
        split
        · rw [List.length_append]; omega
        · omega
      · split
        · simp; omega
        · omega
theorem play_len (r : Int) (z : List BAct) : (playP r z).1.length + (playP r z).2.length ≤ 2 * z.length := by
  have h : ∀ (z : List BAct) s, (z.foldl (stepP r) s).1.length + (z.foldl (stepP r) s).2.length ≤ s.1.length + s.2.length + 2 * z.length := by
    intro z
    induction z with
    | nil => intro s; simp
    | cons a z ih => intro s; have h1 := ih (stepP r s a); have h2 := step_len r s a; simp only [List.foldl_cons, List.length_cons]; omega
  have := h z ([], [])
  simpa [playP] using this
end Go.Proofs.YthmhboagbeibdaaGreat
