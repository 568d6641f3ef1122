/-
  The law's words: rows of numbers that are the same; what the document's book holds.
-/
import Derived.Test.YtclhhegfffccgaaCbGet
import Derived.Test.YtclhhegfffccgaaCbIds
import Derived.Test.YtclhhegfffccgaaCountIds
namespace Go.Proofs.Ytclhhegfffccgaa
set_option linter.unusedVariables false
open Go.RowKit Go.Maps
attribute [local go_sem ↓] Go.wp_at_zero Go.wp_at_succ
attribute [local go_sem] quietR quietAtR quietUponR midAt midUpon

/-- numbers in memory -/
def IntAt (w : World) (v : Value) (ks : List Int) : Prop :=
  ks.length ≤ 1000000 ∧ ∃ a cap, v = .slice a ks.length cap ∧ (ks = [] ∨ ∃ b off, a = some ⟨b, off, none⟩ ∧ b < w.heap.size ∧ ks.length ≤ cap ∧ ∀ i k, ks[i]? = some k → w.cell? ⟨b, off + i, none⟩ = some (.int .i64 k))
theorem IntAt.later {w w' : World} {v : Value} {ks : List Int} (h : IntAt w v ks) (hb : Below w.heap.size w w') : IntAt w' v ks := by
  obtain ⟨hl, a, cap, e, h3⟩ := h
  refine ⟨hl, a, cap, e, ?_⟩
  rcases h3 with h3 | ⟨b, off, e2, hbl, hcap, hc⟩
  · exact .inl h3
  · exact .inr ⟨b, off, e2, Nat.lt_of_lt_of_le hbl hb.size, hcap, fun i k hi => (hb.cell (p := ⟨b, off + i, none⟩) hbl).trans (hc i k hi)⟩
theorem IntAt.of_owns {w : World} {base : Nat} {v : Value} {ks : List Int} (h : w.ownsRow base 3 1 v ks.length (ks.map (Value.int .i64))) (hl : ks.length ≤ 1000000) : IntAt w v ks := by
  rcases h.2 with ⟨rfl, h0⟩ | ⟨g, cap, cur, rfl, h1, h2, h3, h4⟩
  · obtain rfl : ks = [] := List.eq_nil_of_length_eq_zero h0
    exact ⟨hl, none, 0, rfl, .inl rfl⟩
  · refine ⟨hl, _, _, rfl, .inr ⟨g, 0, rfl, (Array.getElem?_eq_some_iff.1 h2).1, h3, fun i k hi => ?_⟩⟩
    rw [Nat.zero_add, h.cellAt i (by have := (List.getElem?_eq_some_iff.1 hi).1; omega), List.getElem?_map, hi]; rfl
theorem owns_slice {w : World} {base sz n : Nat} {e : TypeId} {v : Value} {xs : List Value} (h : w.ownsRow base e sz v n xs) : ∃ a cap, v = .slice a n cap := by
  rcases h.2 with ⟨rfl, rfl⟩ | ⟨g, c, cur, rfl, _⟩
  · exact ⟨none, 0, rfl⟩
  · exact ⟨_, _, rfl⟩
/-- a block that may be written -/
def ThereAt (W : World) (a : Option Addr) (t : TypeId) (B n : Nat) : Prop := n = 0 ∨ ∃ g cur, a = some ⟨g, 0, none⟩ ∧ B ≤ g ∧ Blk W g t cur ∧ n ≤ cur.size
theorem ThereAt.later {W W' : World} {a : Option Addr} {t : TypeId} {B n : Nat} (h : ThereAt W a t B n) (hb : Below W.heap.size W W') : ThereAt W' a t B n := by
  rcases h with h | ⟨g, cur, e, h1, h2, h3⟩
  · exact .inl h
  · exact .inr ⟨g, cur, e, h1, h2.below hb h2.lt, h3⟩
theorem ThereAt.of {W : World} {base n sz : Nat} {t : TypeId} {a : Option Addr} {cp : Nat} {xs : List Value} (h : W.ownsRow base t sz (.slice a n cp) n xs) : ThereAt W a t base (n * sz) := by
  rcases h.2 with ⟨e, h0⟩ | ⟨g, c, cur, e, h1, h2, h3, h4, h5, _⟩
  · left
    simp only [Value.slice.injEq] at e
    rw [e.2.1]; simp
  · simp only [Value.slice.injEq] at e
    refine .inr ⟨g, cur, e.1, h1, h2, ?_⟩
    rw [h5]
    exact Nat.mul_le_mul_right _ h3
theorem ThereAt.set {W : World} {g : Nat} {t : TypeId} {B n o : Nat} {v : Value} (h : ThereAt W (some ⟨g, 0, none⟩) t B n) : ThereAt (W.setCell ⟨g, o, none⟩ v) (some ⟨g, 0, none⟩) t B n := by
  rcases h with h | ⟨g', cur', e, h1, h2, h3⟩
  · exact .inl h
  · cases e
    exact .inr ⟨_, _, rfl, h1, h2.set_ o v, by simpa using h3⟩

/-- rows of numbers that are the same -/
theorem same16_any (va vb : Value) (ks : List Int) (w : World) (ha : IntAt w va ks) (hb : IntAt w vb ks) :
    Calls Try.prog 30 #[va, vb] w fun e w' => e = .returned (.bool true) ∧ Below w.heap.size w w' := by
  obtain ⟨hl, a, cap, rfl, ha⟩ := ha
  obtain ⟨_, a2, cap2, rfl, hb⟩ := hb
  obtain ⟨n, hn⟩ : ∃ n, n = ks.length := ⟨_, rfl⟩
  rw [← hn] at hl ⊢
  have HN := Lib.hid hn; have HA := Lib.hid ha; have HB0 := Lib.hid hb
  clear hn ha hb
  go_enter Try.func30, Try.ntmps30
  go_wp2_with fail
  go_loopw [5] (fun vi W => ∃ k : Nat, vi = .int .i64 k ∧ k ≤ n ∧ Below w.heap.size w W) (fun vi _ => (n - Go.RowKit.intOf vi).toNat)
  case atStart => exact ⟨0, rfl, by omega, Below.refl _ _⟩
  case round =>
    obtain ⟨k, rfl, hk, hB⟩ := hrel
    have HB := Lib.hid hB
    by_cases hlt : k < n
    · obtain ⟨x, hx⟩ : ∃ x, ks[k]? = some x := ⟨_, List.getElem?_eq_getElem (by have := HN.out; omega)⟩
      rcases HA.out with h0 | ⟨g, off, rfl, hg, _, hc⟩
      · rw [h0] at hx; simp at hx
      rcases HB0.out with h0 | ⟨g2, off2, rfl, hg2, _, hc2⟩
      · rw [h0] at hx; simp at hx
      have c1 := (hB.cell (p := ⟨g, off + k, none⟩) hg).trans (hc k x hx)
      have c2 := (hB.cell (p := ⟨g2, off2 + k, none⟩) hg2).trans (hc2 k x hx)
      clear hB hx hc hc2
      go_wp2
      go_quiet (fail)
      go_wp2
      go_roundw
      case measure => (simp [Go.RowKit.intOf]; try omega)
      case rel => exact ⟨k + 1, by go_num, by omega, below_drewN HB.out _⟩
    · obtain rfl : k = n := by omega
      clear hB
      go_wp2
      go_ret
      exact ⟨rfl, HB.out⟩

theorem idsB_head {B : Bk} (hh : Head0 B) : idsB B = (B.drop 1).map (·.1) := by
  obtain ⟨s0, R, rfl, h⟩ := hh
  unfold idsB
  simp only [List.map_cons, List.drop_succ_cons, List.drop_zero]
  rw [List.filter_cons_of_neg (by simp)]
  refine List.filter_eq_self.2 fun x hx => ?_
  obtain ⟨q, hq, rfl⟩ := List.mem_map.1 hx
  have := h q hq
  simp
  omega
theorem getB_at {B : Bk} {k : Nat} {q : Int} {s : St} (hr : Rising B) (h : B[k]? = some (q, s)) : getB B q = s := by unfold getB; rw [look_at' hr h]; rfl
/-- the Ids may be -/
def WfB (B : Bk) : Prop := ∀ q ∈ B, (Lit.int .i64 q.1).wf = true
theorem wfB_new : WfB [(0, st0)] := by intro q hq; simp only [List.mem_singleton] at hq; subst hq; decide
theorem WfB.tell0 {B : Bk} (h : WfB B) {c : Int} (hc : (Lit.int .i64 c).wf = true) (L : List Stp) : WfB (tell0 B c L) := by
  intro q hq
  rcases putM_mem hq with rfl | hq
  · exact hc
  · exact h q hq
theorem WfB.tell {B : Bk} (h : WfB B) {c : Int} (hc : (Lit.int .i64 c).wf = true) (L : List Stp) : WfB (tellB B c L) := by
  unfold tellB
  split
  · exact h.tell0 (by decide) L
  · exact (h.tell0 (by decide) L).tell0 hc L
theorem WfB.drop {B : Bk} (h : WfB B) (c : Int) : WfB (dropB B c) := by
  unfold dropB
  split
  · exact h
  · intro q hq
    exact h.tell (by decide) _ q (List.mem_filter.1 hq).1
end Go.Proofs.Ytclhhegfffccgaa
