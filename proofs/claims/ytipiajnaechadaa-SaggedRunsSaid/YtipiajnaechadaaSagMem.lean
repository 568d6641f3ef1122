/-
  A sagging run in memory: its block and the row of its copies; slices.Clone of such a row.
-/
import Derived.Test.YtipiajnaechadaaSagPlain
import Derived.Test.YtipiajnaechadaaHas
import Derived.OwnWalk
import Derived.Laws.OwnMore
import Derived.Lib.SliceRun
import Derived.Lib.Hide
namespace Go.Proofs.Ytipiajnaechadaa
set_option linter.unusedVariables false
open Go.RowKit

theorem info_start : (Try.prog.info? 94).map (fun i => (i.zero, i.size, i.bytes)) = some (some (.agg #[.int .u64 0, .int .u64 0]), 2, 16) := by kernel_rfl

/-- the cells of copies -/
def cellsOf (K : List (Int × Int)) : List Value := K.flatMap fun k => [.int .u64 k.1, .int .u64 k.2]
theorem cellsOf_length (K : List (Int × Int)) : (cellsOf K).length = K.length * 2 := by
  induction K with
  | nil => rfl
  | cons k K ih => simp only [cellsOf, List.flatMap_cons, List.length_append, List.length_cons, List.length_nil] at *; omega
theorem cellsOf_append (K M : List (Int × Int)) : cellsOf (K ++ M) = cellsOf K ++ cellsOf M := by simp [cellsOf]
theorem cellsOf_one (K : List (Int × Int)) : ∀ u ∈ cellsOf K, u.oneCell' = true := by
  intro u hu
  obtain ⟨k, _, hk⟩ := List.mem_flatMap.1 hu
  simp only [List.mem_cons, List.not_mem_nil, or_false] at hk
  rcases hk with rfl | rfl <;> rfl
theorem cellsOf_x : ∀ (K : List (Int × Int)) (j : Nat), (cellsOf K)[j * 2]? = (K[j]?).map fun k => .int .u64 k.1
  | [], j => by simp [cellsOf]
  | k :: K, 0 => by simp [cellsOf]
  | k :: K, j + 1 => by
    have := cellsOf_x K j
    simp only [cellsOf, List.flatMap_cons, List.getElem?_cons_succ] at *
    rw [show (j + 1) * 2 = j * 2 + 2 by omega, List.getElem?_append_right (by simp)]
    simpa using this
theorem cellsOf_y : ∀ (K : List (Int × Int)) (j : Nat), (cellsOf K)[j * 2 + 1]? = (K[j]?).map fun k => .int .u64 k.2
  | [], j => by simp [cellsOf]
  | k :: K, 0 => by simp [cellsOf]
  | k :: K, j + 1 => by
    have := cellsOf_y K j
    simp only [cellsOf, List.flatMap_cons, List.getElem?_cons_succ] at *
    rw [show (j + 1) * 2 + 1 = j * 2 + 1 + 2 by omega, List.getElem?_append_right (by simp)]
    simpa using this
theorem cellsOf_take : ∀ (K : List (Int × Int)) (n : Nat), (cellsOf K).take (n * 2) = cellsOf (K.take n)
  | [], n => by simp [cellsOf]
  | k :: K, 0 => by simp [cellsOf]
  | k :: K, n + 1 => by
    have := cellsOf_take K n
    simp only [cellsOf, List.flatMap_cons, List.take_succ_cons] at *
    rw [show (n + 1) * 2 = n * 2 + 2 by omega]
    simpa using this

/-- v holds the copies K, in memory from block base on -/
def RowK (w : World) (base : Nat) (v : Value) (K : List (Int × Int)) : Prop := w.ownsRow base 94 2 v K.length (cellsOf K)

theorem Below.grownNone {w w' : World} (h : Below w.heap.size w w') : w.grownBy w' none := ⟨h.os, h.tape, h.output, h.size, fun k hk _ => h.block k hk⟩
theorem RowK.below {w w' : World} {base : Nat} {v : Value} {K : List (Int × Int)} (h : RowK w base v K) (hb : Below w.heap.size w w') : RowK w' base v K :=
  h.kept (Below.grownNone hb) (by cases hv : v.ownBlock <;> simp)

/-- the row is shorter: out = out[:n] -/
theorem RowK.take {w : World} {base g n cap : Nat} {K : List (Int × Int)} (h : RowK w base (.slice (some ⟨g, 0, none⟩) n cap) K) (m : Nat) (hm : m ≤ K.length) :
    RowK w base (.slice (some ⟨g, 0, none⟩) m cap) (K.take m) := by
  obtain ⟨hl, (⟨h1, _⟩ | ⟨g', cap', cur, hv, hb, hblk, hn, hc, hs, ht⟩)⟩ := h
  · cases h1
  · cases hv
    refine ⟨by rw [cellsOf_length], .inr ⟨g, cap, cur, by rw [List.length_take, Nat.min_eq_left hm], hb, hblk, by rw [List.length_take]; omega, hc, hs, ?_⟩⟩
    rw [List.length_take, Nat.min_eq_left hm, ← cellsOf_take, ← ht, List.take_take, Nat.min_eq_left (Nat.mul_le_mul_right 2 hm)]

set_option maxRecDepth 20000 in
set_option maxHeartbeats 1000000 in
theorem clone_starts (v : Value) (base : Nat) (K : List (Int × Int)) (w : World) (hown : RowK w base v K) (hn : K.length ≤ 1000000) :
    Calls Try.prog 51 #[v] w fun e w' => ∃ v', e = .returned v' ∧ RowK w' w.heap.size v' K ∧ Below w.heap.size w w' := by
  obtain ⟨i0, hi, hz0, hz1, hz2⟩ := info_parts info_start
  obtain ⟨hlen, (⟨rfl, hK⟩ | ⟨g, cap, cur, rfl, hbg, hblk, hnc, hcm, hsz, htk⟩)⟩ := hown
  · have hK' : K = [] := List.length_eq_zero_iff.1 hK
    subst hK'
    have hq : ∀ (w : World) (a : Option Addr) (n c n' c' : Nat), (binOp .eql 89 (.slice a n c) (.slice none n' c')).run Try.prog w = .ok (.bool a.isNone) w := fun w a n c n' c' => Lib.run_eql_slice_nil w _ _ a n c n' c' Try.underlying89
    go_enter Try.func51, Try.ntmps51
    go_wp2
    go_ret
    exact ⟨_, rfl, World.ownsRow_nil _ _ _ _, Below.refl _ _⟩
  · have hq : ∀ (w : World) (a : Option Addr) (n c n' c' : Nat), (binOp .eql 89 (.slice a n c) (.slice none n' c')).run Try.prog w = .ok (.bool a.isNone) w := fun w a n c n' c' => Lib.run_eql_slice_nil w _ _ a n c n' c' Try.underlying89
    have hc := Lib.hid hblk
    have ht := Lib.hid htk
    clear hblk htk
    go_enter Try.func51, Try.ntmps51
    go_wp2_with (at_builtin; refine wpList_append_own _ rfl _ _ 89 rfl w.heap.size 94 i0 (.agg #[.int .u64 0, .int .u64 0]) 2 16 Try.underlying89 hi hz0 hz1 hz2 rfl (by decide) _ _ _ rfl (World.ownsRow_made w #[] 0 (Nat.le_refl _) (Nat.zero_le _) rfl) ⟨g, 0, none⟩ K.length cap (cellsOf K) rfl ?qc1 ?qc2 ?qc3 ?qc4 ?qc5 ?qc6 ?_)
    case qc1 => exact cellsOf_length K
    case qc2 =>
      intro j u hj
      have hj2 : cur[j]? = some u := by
        rw [← ht.out] at hj
        have h1 := (List.getElem?_eq_some_iff.1 hj).1
        rw [List.length_take] at h1
        rw [List.getElem?_take_of_lt (by omega)] at hj
        simpa using hj
      rw [Addr.add_lit]
      refine Lib.cell?_alloc_some _ ?_
      rw [cell_of_row w g _ cur _ _ hc.out, Nat.zero_add]
      exact hj2
    case qc3 => exact cellsOf_one K
    case qc4 => unfold maxLen; omega
    case qc5 => omega
    case qc6 => simp
    intro v' w1 hown1 hgrow hnil
    go_wp2
    go_ret
    refine ⟨v', rfl, by simpa [RowK] using hown1, ?_⟩
    exact ((Below.refl _ w).alloc (Nat.le_refl _) _).grown hgrow (by simp) (by intro k hk; simp [Value.ownBlock] at hk; omega)

end Go.Proofs.Ytipiajnaechadaa
