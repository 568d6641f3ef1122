/-
  The walk of the law UpperInner.
-/
import Derived.Test.YtmmodhhheojkfaaInner
import Derived.Laws.AppendOwnNone
import Derived.WalkSmall
namespace Go.Proofs.Ytmmodhhheojkfaa.Inner
open Go.RowKit

theorem u64_info : (Try.prog.info? 22).map (fun i => (i.zero, i.size, i.bytes)) = some (some (.int .u64 0), 1, 8) := by kernel_rfl

def IsRow (k : IntKind) (w : World) (a : Option Addr) (len cap : Nat) (zs : List Int) : Prop :=
  (a = none ∧ len = 0 ∧ cap = 0 ∧ zs = []) ∨
  ∃ x, a = some x ∧ len ≤ cap ∧ cap ≤ maxLen ∧ zs.length = cap ∧ (∀ i, i < zs.length → w.cell? (x.add i) = some (.int k (zs.getD i 0))) ∧ ∀ n ∈ zs, (Lit.int k n).wf = true

theorem own_slice {w : World} {base : Nat} {e : TypeId} {size : Nat} {v : Value} {n : Nat} {xs : List Value} (h : w.ownsRow base e size v n xs) :
    ∃ a c, v = .slice a n c := by
  rcases h.2 with ⟨rfl, rfl⟩ | ⟨g, cap, cur, rfl, _⟩
  · exact ⟨_, _, rfl⟩
  · exact ⟨_, _, rfl⟩

theorem own_some {w : World} {base : Nat} {e : TypeId} {size : Nat} {v : Value} {n : Nat} {xs : List Value} (h : w.ownsRow base e size v n xs) (hn : 1 ≤ n) :
    ∃ g c, v = .slice (some ⟨g, 0, none⟩) n c ∧ base ≤ g := by
  rcases h.2 with ⟨_, rfl⟩ | ⟨g, cap, cur, rfl, hb, _⟩
  · omega
  · exact ⟨g, cap, rfl, hb⟩

theorem law_long (o : Int) (a : Option Addr) (len cap : Nat) (w : World) (h : 100 < len) (hb : len ≤ 9223372036854775807) :
    Calls Try.prog 3 #[.int .u64 o, .slice a len cap] w fun e w' => e = .returned (.bool true) ∧ Below w.heap.size w w' := by
  go_enter Try.func3, Try.ntmps3
  go_wp2
  go_ret
  exact ⟨rfl, Below.refl _ _⟩

theorem law_nil (o : Int) (cap : Nat) (w : World) (ho : o ≤ 18446744073709551615) :
    Calls Try.prog 3 #[.int .u64 o, .slice none 0 0] w fun e w' => e = .returned (.bool true) ∧ Below w.heap.size w w' := by
  obtain ⟨i0, hi, hz0, hz1, hz2⟩ := info_parts u64_info
  go_enter Try.func3, Try.ntmps3
  go_wp2_with (first
    | (go_at_call 15; refine (inner_none _ _ _ _).mono ?_; rintro e w' ⟨rfl, rfl⟩)
    | (go_at_call 16; refine (ref_none _ _ _ _ ho).mono ?_; rintro e w' ⟨rfl, rfl⟩))
  refine wp_loop_rounds 1 ?_
  rw [rounds_succ]
  go_wp2
  go_ret
  exact ⟨rfl, (Below.refl _ _).alloc (Nat.le_refl _) _⟩

theorem law_zero (o : Int) (x : Addr) (cap : Nat) (w : World) (ho : o ≤ 18446744073709551615) :
    Calls Try.prog 3 #[.int .u64 o, .slice (some x) 0 cap] w fun e w' => e = .returned (.bool true) ∧ Below w.heap.size w w' := by
  obtain ⟨i0, hi, hz0, hz1, hz2⟩ := info_parts u64_info
  go_enter Try.func3, Try.ntmps3
  go_wp2_with (first
    | (at_builtin; refine wpList_append_own _ rfl (.tmp 10) (.tmp 11) 23 rfl w.heap.size 22 i0 (.int .u64 0) 1 8 Try.underlying23 hi hz0 hz1 hz2 rfl (by decide) _ 0 [] rfl (World.ownsRow_lit w #[] 0 (Nat.le_refl _) (by decide) rfl) x 0 cap [] rfl rfl (by intro j u h; simp at h) (by intro u h; simp at h) (by decide) (by decide) (by simp) ?_; intro v' w1 hown hgrow _; obtain ⟨a', c', rfl⟩ := own_slice hown; clear hown)
    | (go_at_call 15; refine (inner_none _ _ _ _).mono ?_; rintro e w' ⟨rfl, rfl⟩)
    | (go_at_call 16; refine (ref_none _ _ _ _ ho).mono ?_; rintro e w' ⟨rfl, rfl⟩))
  refine wp_loop_rounds 1 ?_
  rw [rounds_succ]
  go_wp2
  go_ret
  exact ⟨rfl, ((Below.refl _ _).alloc (Nat.le_refl _) _).grown hgrow (by simp) (by intro k hk; cases hk; exact Nat.le_refl _)⟩

theorem ints_one (k : IntKind) (l : List Int) : ∀ u ∈ l.map (Value.int k), u.oneCell' = true := by
  intro u hu
  obtain ⟨_, _, rfl⟩ := List.mem_map.1 hu
  rfl

theorem cells_add {w : World} {b off : Nat} {k : IntKind} {zs : List Int} {m : Nat} (hm : m ≤ zs.length)
    (hc : ∀ j, j < zs.length → w.cell? ⟨b, off + j, none⟩ = some (.int k (zs.getD j 0))) :
    ∀ j u, ((zs.take m).map (Value.int k))[j]? = some u → w.cell? ((⟨b, off, none⟩ : Addr).add j) = some u := by
  intro j u h
  rw [List.getElem?_map, List.getElem?_take] at h
  split at h
  · rename_i hj
    rw [List.getElem?_eq_getElem (by omega)] at h
    simp at h
    subst h
    have := hc j (by omega)
    rw [Go.WideShapes.add_plain]
    simpa [List.getD, List.getElem?_eq_getElem (show j < zs.length by omega)] using this
  · simp at h

theorem own_cells {w : World} {base g : Nat} {e : TypeId} {k : IntKind} {n c : Nat} {zs : List Int} (h : w.ownsRow base e 1 (.slice (some ⟨g, 0, none⟩) n c) n (List.take n (List.map (Value.int k) zs))) (hz : n ≤ zs.length) :
    ∀ j, j < n → w.cell? ⟨g, 0 + j, none⟩ = some (.int k (zs.getD j 0)) := by
  intro j hj
  rw [Nat.zero_add, h.cellAt j (by omega), List.getElem?_take, if_pos hj, List.getElem?_map, List.getElem?_eq_getElem (by omega)]
  simp [List.getD, List.getElem?_eq_getElem (show j < zs.length by omega)]

set_option maxRecDepth 100000 in
theorem law_some (o : Int) (b off len cap : Nat) (zs : List Int) (w : World) (h1 : 1 ≤ len) (h100 : len ≤ 100) (hz : len ≤ zs.length) (hb : b < w.heap.size)
    (hc : ∀ j, j < zs.length → w.cell? ⟨b, off + j, none⟩ = some (.int .u64 (zs.getD j 0))) :
    Calls Try.prog 3 #[.int .u64 o, .slice (some ⟨b, off, none⟩) len cap] w fun e w' => e = .returned (.bool true) ∧ Below w.heap.size w w' := by
  obtain ⟨i0, hi, hz0, hz1, hz2⟩ := info_parts u64_info
  have HC := Lib.hid hc
  clear hc
  have hbel : Below w.heap.size w (w.alloc (.cells #[] 22)) := (Below.refl _ _).alloc (Nat.le_refl _) _
  go_enter Try.func3, Try.ntmps3
  go_wp2_with (first
    | (at_builtin
       refine wpList_append_own _ rfl (.tmp 10) (.tmp 11) 23 rfl w.heap.size 22 i0 (.int .u64 0) 1 8 Try.underlying23 hi hz0 hz1 hz2 rfl (by decide) _ 0 [] rfl (World.ownsRow_lit w #[] 0 (Nat.le_refl _) (by decide) rfl) ⟨b, off, none⟩ len cap ((zs.take len).map (Value.int .u64)) rfl (by simp; omega) (cells_add hz (fun j hj => (hbel.cell (p := ⟨b, off + j, none⟩) hb).trans (HC.out j hj))) (ints_one _ _) (by unfold maxLen; omega) (by omega) (by simp) ?_
       intro v' w1 hown hgrow _
       simp only [Nat.zero_add, List.nil_append, List.map_take] at hown
       obtain ⟨g, c', rfl, hg⟩ := own_some hown h1
       have hbel1 : Below w.heap.size w w1 := hbel.grown hgrow (by simp) (by intro k hk; cases hk; exact Nat.le_refl _)
       have HG := Lib.hid (own_cells hown hz)
       have HC1 := Lib.hid (fun j hj => (hbel1.cell (p := ⟨b, off + j, none⟩) hb).trans (HC.out j hj))
       clear hown hgrow)
    | (go_at_call 15; refine (inner_some _ _ _ _ _ zs _ h1 (by omega) HG.out).mono ?_; rintro e w' ⟨rfl, rfl⟩)
    | (go_at_call 16; refine (ref_some _ _ _ _ _ zs _ h1 (by omega) (fun j hj => HC1.out j (by omega))).mono ?_; rintro e w' ⟨rfl, rfl⟩))
  go_loopw [6] (fun i wr => ∃ k n : Nat, k ≤ len ∧ i = .int .i64 k ∧ wr = w1.drewN n) (fun i _ => len - (intOf i).toNat)
  case atStart => exact ⟨0, 0, by omega, rfl, rfl⟩
  case round =>
    obtain ⟨k, n, hk, rfl, rfl⟩ := hrel
    by_cases hlt : k < len
    · have hc1 := HG.out k hlt
      have hc2 := HC1.out k (by omega)
      rw [Nat.zero_add] at hc1
      have hk1 : (k : Int) < (len : Int) := by omega
      go_wp2
      go_quiet (fail)
      go_wp2
      go_roundw
      case rel => exact ⟨k + 1, _, by omega, by go_num, rfl⟩
      case measure => simp [intOf]; omega
    · go_wp2
      go_ret
      exact ⟨rfl, below_drewN hbel1 n⟩

end Go.Proofs.Ytmmodhhheojkfaa.Inner
