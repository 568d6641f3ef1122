/-
  A tree of classes, what is known of it between calls.
-/
import Derived.Test.YtclhhegfffccgaaHChange
namespace Go.Proofs.Ytclhhegfffccgaa
set_option linter.unusedVariables false
open Go.RowKit Go.Maps
attribute [local go_sem ↓] Go.wp_at_zero Go.wp_at_succ
attribute [local go_sem] quietR quietAtR quietUponR midAt midUpon

/-- numbers in memory -/
def IntAt (w : World) (v : Value) (ks : List Int) : Prop :=
  ks.length ≤ 1000000 ∧ ∃ a cap, v = .slice a ks.length cap ∧ (ks = [] ∨ ∃ b off, a = some ⟨b, off, none⟩ ∧ b < w.heap.size ∧ ks.length ≤ cap ∧ ∀ i k, ks[i]? = some k → w.cell? ⟨b, off + i, none⟩ = some (.int .i64 k))
theorem IntAt.later {w w' : World} {v : Value} {ks : List Int} (h : IntAt w v ks) (hb : Below w.heap.size w w') : IntAt w' v ks := by
  obtain ⟨hl, a, cap, e, h3⟩ := h
  refine ⟨hl, a, cap, e, ?_⟩
  rcases h3 with h3 | ⟨b, off, e2, hbl, hcap, hc⟩
  · exact .inl h3
  · exact .inr ⟨b, off, e2, Nat.lt_of_lt_of_le hbl hb.size, hcap, fun i k hi => (hb.cell (p := ⟨b, off + i, none⟩) hbl).trans (hc i k hi)⟩
theorem IntAt.of_owns {w : World} {base : Nat} {v : Value} {ks : List Int} (h : w.ownsRow base 3 1 v ks.length (ks.map (Value.int .i64))) (hl : ks.length ≤ 1000000) : IntAt w v ks := by
  rcases h.2 with ⟨rfl, h0⟩ | ⟨g, cap, cur, rfl, h1, h2, h3, h4⟩
  · obtain rfl : ks = [] := List.eq_nil_of_length_eq_zero h0
    exact ⟨hl, none, 0, rfl, .inl rfl⟩
  · refine ⟨hl, _, _, rfl, .inr ⟨g, 0, rfl, (Array.getElem?_eq_some_iff.1 h2).1, h3, fun i k hi => ?_⟩⟩
    rw [Nat.zero_add, h.cellAt i (by have := (List.getElem?_eq_some_iff.1 hi).1; omega), List.getElem?_map, hi]; rfl
theorem owns_slice {w : World} {base sz n : Nat} {e : TypeId} {v : Value} {xs : List Value} (h : w.ownsRow base e sz v n xs) : ∃ a cap, v = .slice a n cap := by
  rcases h.2 with ⟨rfl, rfl⟩ | ⟨g, c, cur, rfl, _⟩
  · exact ⟨none, 0, rfl⟩
  · exact ⟨_, _, rfl⟩
/-- rows of numbers that are the same -/
theorem same16_any (va vb : Value) (ks : List Int) (w : World) (ha : IntAt w va ks) (hb : IntAt w vb ks) :
    Calls Try.prog 30 #[va, vb] w fun e w' => e = .returned (.bool true) ∧ Below w.heap.size w w' := by
  obtain ⟨hl, a, cap, rfl, ha⟩ := ha
  obtain ⟨_, a2, cap2, rfl, hb⟩ := hb
  obtain ⟨n, hn⟩ : ∃ n, n = ks.length := ⟨_, rfl⟩
  rw [← hn] at hl ⊢
  have HN := Lib.hid hn; have HA := Lib.hid ha; have HB0 := Lib.hid hb
  clear hn ha hb
  go_enter Try.func30, Try.ntmps30
  go_wp2_with fail
  go_loopw [5] (fun vi W => ∃ k : Nat, vi = .int .i64 k ∧ k ≤ n ∧ Below w.heap.size w W) (fun vi _ => (n - Go.RowKit.intOf vi).toNat)
  case atStart => exact ⟨0, rfl, by omega, Below.refl _ _⟩
  case round =>
    obtain ⟨k, rfl, hk, hB⟩ := hrel
    have HB := Lib.hid hB
    by_cases hlt : k < n
    · obtain ⟨x, hx⟩ : ∃ x, ks[k]? = some x := ⟨_, List.getElem?_eq_getElem (by have := HN.out; omega)⟩
      rcases HA.out with h0 | ⟨g, off, rfl, hg, _, hc⟩
      · rw [h0] at hx; simp at hx
      rcases HB0.out with h0 | ⟨g2, off2, rfl, hg2, _, hc2⟩
      · rw [h0] at hx; simp at hx
      have c1 := (hB.cell (p := ⟨g, off + k, none⟩) hg).trans (hc k x hx)
      have c2 := (hB.cell (p := ⟨g2, off2 + k, none⟩) hg2).trans (hc2 k x hx)
      clear hB hx hc hc2
      go_wp2
      go_quiet (fail)
      go_wp2
      go_roundw
      case measure => (simp [Go.RowKit.intOf]; try omega)
      case rel => exact ⟨k + 1, by go_num, by omega, below_drewN HB.out _⟩
    · obtain rfl : k = n := by omega
      clear hB
      go_wp2
      go_ret
      exact ⟨rfl, HB.out⟩

theorem int_two {W : World} {B : Nat} {x y : Int} (h : Blk W B 3 #[.int .i64 x, .int .i64 y]) : IntAt W (.slice (some ⟨B, 0, none⟩) 2 2) [x, y] := by
  refine ⟨by simp, _, _, rfl, .inr ⟨B, 0, rfl, h.lt, by simp, fun i k hi => ?_⟩⟩
  rw [Nat.zero_add, h.cell]
  match i with
  | 0 => simp at hi; subst hi; rfl
  | 1 => simp at hi; subst hi; rfl
  | i + 2 => simp at hi
set_option linter.unusedVariables false
open Go.RowKit Go.Maps

structure TS (w W : World) (base g ma mu : Nat) (M : Mp) : Prop where
  tree : ∃ U, TreeX W base g ma mu U M
  lo : w.heap.size ≤ base
  below : Below w.heap.size w W
section
variable {w W W' : World} {base g ma mu : Nat} {M : Mp}
theorem TS.later (h : TS w W base g ma mu M) (hb : Below W.heap.size W W') : TS w W' base g ma mu M := by
  obtain ⟨⟨U, ht⟩, hl, hb0⟩ := h
  exact ⟨⟨U, ht.later hb⟩, hl, hb0.trans (hb.mono hb0.size)⟩
theorem TS.inv (h : TS w W base g ma mu M) : InvT M := by obtain ⟨⟨U, ht⟩, _⟩ := h; exact ht.inv
theorem TS.act (h : TS w W base g ma mu M) {U : List (Int × Value)} (ht : TreeX W base g ma mu U M) {r : Int × Mp} {e : Ending} (ha : ActW W base g ma mu U r e W') : e = .returned (.int .i64 r.1) ∧ TS w W' base g ma mu r.2 := by
  obtain ⟨U', he, ht', hfr, _⟩ := ha
  have hbs : base ≤ W.heap.size := Nat.le_trans ht.gb (Nat.le_of_lt ht.blk.lt)
  exact ⟨he, ⟨U', ht'⟩, h.lo, h.below.trans ((hfr.below (fun b hb => (ht.owned hb).1) hbs).mono h.lo)⟩
theorem TS.add (h : TS w W base g ma mu M) (s : Sp) (hw : WfSp s) : Calls Try.prog 27 #[.pointer (some ⟨g, 0, none⟩), spV s] W fun e W' => e = .returned (.int .i64 (addM M s).1) ∧ TS w W' base g ma mu (addM M s).2 := by
  obtain ⟨U, ht⟩ := h.tree
  exact (tadd_any s base g ma mu U M W hw ht).mono fun e W' ha => h.act ht ha
theorem TS.change (h : TS w W base g ma mu M) (s : Sp) (hw : WfSp s) : Calls Try.prog 29 #[.pointer (some ⟨g, 0, none⟩), spV s] W fun e W' => e = .returned (.int .i64 (changeM M s).1) ∧ TS w W' base g ma mu (changeM M s).2 := by
  obtain ⟨U, ht⟩ := h.tree
  exact (tchange_any s base g ma mu U M W hw ht).mono fun e W' ha => h.act ht ha
theorem TS.drop (h : TS w W base g ma mu M) (id : Int) (hid : (Lit.int .i64 id).wf = true) : Calls Try.prog 28 #[.pointer (some ⟨g, 0, none⟩), .int .i64 id] W fun e W' => e = .returned (.int .i64 (dropM M id).1) ∧ TS w W' base g ma mu (dropM M id).2 := by
  obtain ⟨U, ht⟩ := h.tree
  exact (tdrop_any id base g ma mu U M W hid ht).mono fun e W' ha => h.act ht ha
theorem TS.get (h : TS w W base g ma mu M) (id : Int) (hid : (Lit.int .i64 id).wf = true) : Calls Try.prog 25 #[.pointer (some ⟨g, 0, none⟩), .int .i64 id] W (GetW W M id) := by
  obtain ⟨U, ht⟩ := h.tree
  exact tget_any id base g ma mu U M W hid ht
theorem TS.len (h : TS w W base g ma mu M) : Calls Try.prog 22 #[.pointer (some ⟨g, 0, none⟩)] W fun e w' => e = .returned (.int .i64 M.length) ∧ Below W.heap.size W w' := by
  obtain ⟨U, ht⟩ := h.tree
  exact tlen_any base g ma mu U M W ht
theorem TS.ids (h : TS w W base g ma mu M) : Calls Try.prog 23 #[.pointer (some ⟨g, 0, none⟩)] W (IdsW W (M.map (·.1))) := by
  obtain ⟨U, ht⟩ := h.tree
  exact tids_any base g ma mu U M W ht
theorem TS.under (h : TS w W base g ma mu M) (id : Int) (hid : (Lit.int .i64 id).wf = true) : Calls Try.prog 24 #[.pointer (some ⟨g, 0, none⟩), .int .i64 id] W (IdsW W (kids M id)) := by
  obtain ⟨U, ht⟩ := h.tree
  exact tunder_any id base g ma mu U M W hid ht
theorem TS.path (h : TS w W base g ma mu M) (id : Int) (hid : (Lit.int .i64 id).wf = true) : Calls Try.prog 26 #[.pointer (some ⟨g, 0, none⟩), .int .i64 id] W (IdsW W (pathM M id)) := by
  obtain ⟨U, ht⟩ := h.tree
  exact tpath_any id base g ma mu U M W hid ht
end
def TnewS (w : World) (e : Ending) (w' : World) : Prop := ∃ g ma mu, e = .returned (.pointer (some ⟨g, 0, none⟩)) ∧ TS w w' w.heap.size g ma mu []
theorem tnewS (w : World) : Calls Try.prog 50 #[] w (TnewS w) :=
  (tnew_any w).mono fun e w' ⟨g, ma, mu, he, ht, hb⟩ => ⟨g, ma, mu, he, ⟨[], ht⟩, Nat.le_refl _, hb⟩
end Go.Proofs.Ytclhhegfffccgaa
