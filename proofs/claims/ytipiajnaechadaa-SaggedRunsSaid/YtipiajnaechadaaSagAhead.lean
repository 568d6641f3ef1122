/-
  When the line of a sagging run has so much: last, Ahead. (last_ahead is printed from XSagLast by wip/mkahead.py.)
-/
import Derived.Test.YtipiajnaechadaaSagLast
namespace Go.Proofs.Ytipiajnaechadaa
set_option linter.unusedVariables false
open Go.RowKit

theorem ahead1_any (c : Nat) (R m : Int) (w : World) (h : MayC 0 0 R) (hm : U m) (hc : c < w.heap.size) (cc : w.cell? ⟨c, 0, none⟩ = some (.int .u64 R)) :
    Calls Try.prog 79 #[.int .u64 m, .pointer (some ⟨c, 0, none⟩)] w fun e w' => e = .returned (.int .u64 (reachC 0 0 R m)) ∧ Below w.heap.size w w' := by
  have hR : U R := ⟨h.r0, by have := h.r1; omega⟩
  have h0 : U 0 := ⟨by omega, by omega⟩
  go_enter Try.func79, Try.ntmps79
  go_wp2_with (go_at_call 76; refine (reach_any 0 0 R m _ h0 h0 hR (by omega) hm).mono ?_; rintro e w1 ⟨rfl, hb1⟩)
  go_ret
  exact ⟨rfl, hb1⟩

set_option maxRecDepth 20000 in
set_option maxHeartbeats 1000000 in
theorem last_ahead (g c : Nat) (F L R n x y : Int) (K : List (Int × Int)) (w : World) (hM : MayC 0 0 R) (hy : U y) (hx : U x) (hn : n ≠ 0) (hK0 : K ≠ []) (hbig : K.length ≤ 1000000)
    (hK : ∀ k ∈ K, 0 ≤ k.1 ∧ k.1 ≤ 9223372036854775808 ∧ U k.2) (hs : SagAt w g F L R n x K) (hc : c < w.heap.size) (cc : w.cell? ⟨c, 0, none⟩ = some (.int .u64 R)) :
    Calls Try.prog 74 #[.pointer (some ⟨g, 0, none⟩), .int .u64 y, .func (.func 79) #[] #[.pointer (some ⟨c, 0, none⟩)]] w fun e w' =>
      e = .returned (.int .u64 (lastAt (reachC 0 0 R) y K x)) ∧ Below w.heap.size w w' := by
  obtain ⟨v, hb, hrow⟩ := hs
  obtain ⟨b, cp, rfl, hgb, hbw, hcap, hcells⟩ := hrow.open_ hK0
  have hg := hb.lt
  have c4 := hb.cell 4; have c5 := hb.cell 5; have c6 := hb.cell 6
  have HB := Lib.hid hb; have HR := Lib.hid hcells; have HK := Lib.hid hK
  clear hb hrow hcells hK
  simp only [List.getElem?_toArray, List.getElem?_cons_zero, List.getElem?_cons_succ] at c4 c5 c6
  by_cases hy1 : 4611686018427387904 < y
  · have hl : lastAt (reachC 0 0 R) y K x = 9223372036854775808 := by unfold lastAt; rw [if_pos hy1]
    rw [hl]
    go_enter Try.func74, Try.ntmps74
    go_wp2_with (go_at_call 67; refine (snone_no _ _ _ hn c4).mono ?_; rintro e w' ⟨rfl, rfl⟩)
    go_ret
    exact ⟨rfl, Below.refl _ _⟩
  have hl : lastAt (reachC 0 0 R) y K x = lastL (reachC 0 0 R) y K x := by unfold lastAt; rw [if_neg hy1]
  rw [hl]
  have hy2 : y ≤ 4611686018427387904 := by omega
  go_enter Try.func74, Try.ntmps74
  go_wp2_with (go_at_call 67; refine (snone_no _ _ _ hn c4).mono ?_; rintro e w' ⟨rfl, rfl⟩)
  go_loopw [34, 7] (fun i o W => ∃ (k : Nat) (a : Int), k ≤ K.length ∧ i = .int .i64 k ∧ o = .int .u64 a ∧ lastL (reachC 0 0 R) y (K.drop k) a = lastL (reachC 0 0 R) y K x ∧ Below w.heap.size w W) (fun i _ _ => K.length - (intOf i).toNat)
  case atStart => exact ⟨0, x, by omega, rfl, rfl, by simp, Below.refl _ _⟩
  case round =>
    obtain ⟨k, a, hk, rfl, rfl, hla, hbW⟩ := hrel
    clear c4 c5 c6
    by_cases hlt : k < K.length
    · have hp : K[k]? = some K[k] := List.getElem?_eq_getElem hlt
      have hpm := HK.out _ (List.getElem_mem hlt)
      generalize K[k] = p at hp hpm
      obtain ⟨d0, d1⟩ := HR.out k p hp
      have e0 := (hbW.cell (p := ⟨b, k * 2, none⟩) hbw).trans d0
      have e1 := (hbW.cell (p := ⟨b, k * 2 + 1, none⟩) hbw).trans d1
      clear d0 d1
      have hld := lastL_drop (needs := reachC 0 0 R) (y := y) (a := a) hp
      rw [hla] at hld
      have hLD := Lib.hid hld
      clear hld hla
      have hcW : c < wr.heap.size := Nat.lt_of_lt_of_le hc hbW.size
      have hgW : g < wr.heap.size := Nat.lt_of_lt_of_le hg hbW.size
      have hal := (Below.refl wr.heap.size wr).alloc (Nat.le_refl _) (.cells #[.int .u64 p.1, .int .u64 p.2] 94)
      have nb := Blk.new wr 94 #[.int .u64 p.1, .int .u64 p.2]
      have nl := nb.lt
      have ccW := (hal.cell (p := ⟨c, 0, none⟩) hcW).trans ((hbW.cell (p := ⟨c, 0, none⟩) hc).trans cc)
      have hB := (HB.out.below hbW hg).below hal hgW
      have HF := Lib.hid (And.intro ccW (And.intro hB nb))
      have hcW1 := Nat.lt_of_lt_of_le hcW hal.size
      clear ccW hB nb
      have wd : IntKind.u64.wrap (9223372036854775808 - p.1) = 9223372036854775808 - p.1 := wrap_u (by unfold U; omega)
      have hrU := reachC_U hM (U_less (a := y) (b := p.2)).1 (show less y p.2 ≤ 4611686018427387904 by unfold less cap; omega)
      generalize hnn : reachC 0 0 R (less y p.2) = m at *
      go_wp2_with (first
        | (go_at_call 88; refine (minus_any _ _ _ hy hpm.2.2).mono ?_; rintro e w' ⟨rfl, rfl⟩)
        | (go_at_call 79; refine (ahead1_any c R _ _ hM U_less hcW1 HF.out.1).mono ?_; rintro e w2 ⟨rfl, hb2⟩; have n0 := (hb2.cell (p := ⟨wr.heap.size, 0, none⟩) nl).trans (HF.out.2.2.cell 0); simp only [List.getElem?_toArray, List.getElem?_cons_zero, List.getElem?_cons_succ] at n0))
      all_goals have hbW2 : Below w.heap.size w w2 := (hbW.trans (hal.mono hbW.size)).trans (hb2.mono (Nat.le_trans hbW.size hal.size))
      · go_ret
        have h1 := hLD.out
        rw [if_pos (by omega)] at h1
        exact ⟨ret_int h1.symm, hbW2⟩
      all_goals
        have h1 := hLD.out
        rw [if_neg (by omega)] at h1
        have hwm : p.1 + m < 18446744073709551616 → IntKind.u64.wrap (p.1 + m) = p.1 + m := fun h => wrap_u (by unfold U at *; omega)
        have hwm2 := hwm (by omega)
        simp only [hwm2] at *
        go_roundw
        case rel => exact ⟨k + 1, max a (p.1 + m), by omega, by go_num, val_int (by omega), h1.symm, hbW2⟩
        case measure => simp [intOf]; omega
    · obtain rfl : k = K.length := by omega
      go_wp2
      go_ret
      have hla' : lastL (reachC 0 0 R) y (K.drop K.length) a = a := by rw [List.drop_length]; rfl
      exact ⟨ret_int (by rw [← hla, hla']), hbW⟩


theorem sahead_any (g : Nat) (F L R n x y : Int) (K : List (Int × Int)) (w : World) (hM : MayC 0 0 R) (hy : U y) (hx : U x) (hn : n ≠ 0) (hK0 : K ≠ []) (hbig : K.length ≤ 1000000)
    (hK : ∀ k ∈ K, 0 ≤ k.1 ∧ k.1 ≤ 9223372036854775808 ∧ U k.2) (hs : SagAt w g F L R n x K) :
    Calls Try.prog 63 #[.pointer (some ⟨g, 0, none⟩), .int .u64 y] w fun e w' =>
      e = .returned (.int .u64 (lastAt (reachC 0 0 R) y K x)) ∧ Below w.heap.size w w' := by
  have hal := (Below.refl w.heap.size w).alloc (Nat.le_refl _) (.cells #[.int .u64 R] 22)
  have hs1 := hs.below hal
  have c2 : w.cell? ⟨g, 2, none⟩ = some (.int .u64 R) := by obtain ⟨v, hb, _⟩ := hs; exact hb.cell 2
  have hg : g < w.heap.size := by obtain ⟨v, hb, _⟩ := hs; exact hb.lt
  have nb := Blk.new w 22 #[.int .u64 R]
  have nl := nb.lt
  have cc := nb.cell 0
  simp only [List.getElem?_toArray, List.getElem?_cons_zero, List.getElem?_cons_succ] at cc
  have H := Lib.hid (And.intro hs1 (And.intro nl cc))
  clear hs hs1 nb
  go_enter Try.func63, Try.ntmps63
  go_wp2_with (go_at_call 74; refine (last_ahead g w.heap.size F L R n x y K _ hM hy hx hn hK0 hbig hK H.out.1 H.out.2.1 H.out.2.2).mono ?_; rintro e w1 ⟨rfl, hb1⟩)
  go_ret
  exact ⟨rfl, hal.trans (hb1.mono hal.size)⟩

end Go.Proofs.Ytipiajnaechadaa
