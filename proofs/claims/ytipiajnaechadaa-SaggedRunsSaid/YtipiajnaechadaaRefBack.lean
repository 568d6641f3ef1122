/-
  The document's copies: what they have, stopped; when they have so much, found by halves.
-/
import Derived.Test.YtipiajnaechadaaRefAsk
namespace Go.Proofs.Ytipiajnaechadaa
set_option linter.unusedVariables false
open Go.RowKit

section
variable {w : World} {c base : Nat} {F L R x : Int} {A : List (Int × Int)}
theorem copies_at0 (h : CopiesAt w c base F L R []) (t : Int) :
    Calls Try.prog 59 #[.pointer (some ⟨c, 0, none⟩), .int .u64 t] w fun e w' => e = .returned (.int .u64 0) ∧ w = w' := by
  obtain ⟨vx, vy, hB, hrx, hry⟩ := h
  obtain ⟨ax, cx, rfl⟩ := hrx.shape
  have c3 := hB.cell 3
  simp only [List.getElem?_toArray, List.getElem?_cons_zero, List.getElem?_cons_succ] at c3
  clear hB hrx hry
  go_enter Try.func59, Try.ntmps59
  go_wp2
  go_ret
  exact ⟨rfl, rfl⟩
theorem copies_reach0 (h : CopiesAt w c base F L R []) (y : Int) :
    Calls Try.prog 61 #[.pointer (some ⟨c, 0, none⟩), .int .u64 y] w fun e w' => e = .returned (.int .u64 (nevB y)) ∧ w = w' := by
  obtain ⟨vx, vy, hB, hrx, hry⟩ := h
  obtain ⟨ax, cx, rfl⟩ := hrx.shape
  have c3 := hB.cell 3
  simp only [List.getElem?_toArray, List.getElem?_cons_zero, List.getElem?_cons_succ] at c3
  clear hB hrx hry
  by_cases hy : y = 0
  · subst hy
    go_enter Try.func61, Try.ntmps61
    go_wp2
    go_ret
    exact ⟨rfl, rfl⟩
  · have h0 : (y == 0) = false := by simpa using hy
    have e1 : nevB y = 9223372036854775808 := if_neg hy
    rw [e1]
    go_enter Try.func61, Try.ntmps61
    go_wp2
    go_ret
    exact ⟨rfl, rfl⟩

theorem drewN_below (w : World) (n : Nat) : Below w.heap.size w (w.drewN n) := below_drewN (Below.refl _ _) n
set_option maxHeartbeats 1000000 in
theorem copies_at (h : CopiesAt w c base F L R A) (hM : MayC F L R) (hN : Nums x A) (hA : A ≠ []) (t : Int) (ht : U t) :
    Calls Try.prog 59 #[.pointer (some ⟨c, 0, none⟩), .int .u64 t] w fun e w' => e = .returned (.int .u64 (vA F L R A (max t x))) ∧ Below w.heap.size w w' := by
  obtain ⟨a, B, hAB⟩ : ∃ a B, A = a :: B := by cases A with | nil => exact absurd rfl hA | cons a B => exact ⟨a, B, rfl⟩
  have hl0 : ((A.length : Int) == 0) = false := by rw [hAB]; simp; omega
  have hx0 := hN.x0; have hx1 := hN.x1
  obtain ⟨T, hT⟩ : ∃ T, (if t < x then x else t) = T := ⟨_, rfl⟩
  have hT2 : max t x = T := by rw [← hT]; split <;> omega
  have hxT : x ≤ T := by omega
  have hUT : U T := by unfold U at *; omega
  have hlast := hN.last
  have hfew := hN.few
  have hv : vA F L R A (max t x) = cap (leastW F L R T (hasK F L R a T) B) := by
    rw [hT2, hAB]; exact vA_leastW (fun k hk => (hN.num k (by rw [hAB]; exact hk)).2.2.1)
  have ha : 0 ≤ leastW F L R T (hasK F L R a T) B ∧ leastW F L R T (hasK F L R a T) B < 340282366920938463463374607431768211456 := by
    have hb : ∀ q ∈ A, 0 ≤ hasK F L R q T ∧ hasK F L R q T < 340282366920938463463374607431768211456 := fun q hq => by
      have hq2 := hN.num q hq
      exact hasK_bd hM hq2.1 (by omega) hUT ⟨hq2.2.2.1, hq2.2.2.2⟩
    have h1 := leastW_nonneg (F := F) (L := L) (R := R) (t := T) B (hasK F L R a T) (hb a (by rw [hAB]; simp)).1 (fun q hq => (hb q (by rw [hAB]; exact List.mem_cons_of_mem _ hq)).1)
    exact ⟨h1.1, Int.lt_of_le_of_lt h1.2 (hb a (by rw [hAB]; simp)).2⟩
  rw [hv]
  have hw : ∀ n, Calls Try.prog 73 #[.pointer (some ⟨c, 0, none⟩), .int .u64 T] (w.drewN n) fun e w' => e = .returned (wv (leastW F L R T (hasK F L R a T) B)) ∧ Below w.heap.size w w' := fun n =>
    (copies_wide (h.below (drewN_below w n)) hM hN a B hAB T hUT hxT).mono fun e w' ⟨he, hb⟩ => ⟨he, (drewN_below w n).trans hb⟩
  have hcl := copies_last h hfew
  rw [hlast] at hcl
  generalize leastW F L R T (hasK F L R a T) B = m at *
  obtain ⟨vx, vy, hB, hrx, hry⟩ := h
  obtain ⟨ax, cx, hvx⟩ := hrx.shape
  rw [List.length_map] at hvx
  subst hvx
  have c3 := hB.cell 3
  simp only [List.getElem?_toArray, List.getElem?_cons_zero, List.getElem?_cons_succ] at c3
  have HW := Lib.hid hw; have HCL := Lib.hid hcl
  clear hB hrx hry hM hN hA hAB hT2 hlast hv hw hcl
  go_enter Try.func59, Try.ntmps59
  go_wp2_with (first
    | (go_at_call 54; refine HCL.out.mono ?_; rintro e w1 ⟨rfl, n, rfl⟩)
    | (go_at_call 73; refine (HW.out _).mono ?_; rintro e w2 ⟨rfl, hb2⟩)
    | (go_at_call 72; refine (ref_stop m _ ha.1 ha.2).mono ?_; rintro e w3 ⟨rfl, hb3⟩))
  go_ret
  exact ⟨rfl, hb2.trans (hb3.mono hb2.size)⟩

set_option maxRecDepth 20000 in
set_option maxHeartbeats 2000000 in
theorem copies_reach (h : CopiesAt w c base F L R A) (hM : MayC F L R) (hN : Nums x A) (hA : A ≠ []) (y : Int) (hy : U y) :
    Calls Try.prog 61 #[.pointer (some ⟨c, 0, none⟩), .int .u64 y] w (Ans (fun t => vA F L R A (max t x)) x y w) := by
  have hl0 : ((A.length : Int) == 0) = false := by
    have := List.length_pos_iff.2 hA
    simp; omega
  have hx0 := hN.x0; have hx1 := hN.x1
  have hmono : ∀ t u, x ≤ t → t ≤ u → vA F L R A (max t x) ≤ vA F L R A (max u x) := vA_max_mono hM hN.low
  have hat := fun (W : World) (hb : Below w.heap.size w W) (t : Int) (ht : U t) => copies_at (h.below hb) hM hN hA t ht
  have hcl := copies_last h hN.few
  rw [hN.last] at hcl
  obtain ⟨vx, vy, hB, hrx, hry⟩ := h
  obtain ⟨ax, cx, hvx⟩ := hrx.shape
  rw [List.length_map] at hvx
  subst hvx
  have c3 := hB.cell 3
  simp only [List.getElem?_toArray, List.getElem?_cons_zero, List.getElem?_cons_succ] at c3
  have HAT := Lib.hid hat; have HM := Lib.hid hmono; have HCL := Lib.hid hcl; have HB := Lib.hid hB
  have HC : Hid (∀ W, Below w.heap.size w W → Calls Try.prog 54 #[.pointer (some ⟨c, 0, none⟩)] W fun e w' => e = .returned (.int .u64 x) ∧ Below w.heap.size w w') := Lib.hid fun W hb => by
    have := copies_last (A := A) ⟨_, vy, hB.below hb hB.lt, hrx.below hb, hry.below hb⟩ hN.few
    rw [hN.last] at this
    exact this.mono fun e w' ⟨he, n, hn⟩ => ⟨he, by rw [hn]; exact below_drewN hb n⟩
  clear hM hN hA hmono hat hcl hB hrx hry HCL
  have hU1 : U 9223372036854775807 := ⟨by decide, by decide⟩
  have hy0 := hy.1; have hy1 := hy.2
  obtain ⟨v, hv⟩ : ∃ v : Int → Int, (fun t => vA F L R A (max t x)) = v := ⟨_, rfl⟩
  have hvt : ∀ t, vA F L R A (max t x) = v t := fun t => by rw [← hv]
  have HVT := Lib.hid hvt
  have HMV : Hid (∀ t u, x ≤ t → t ≤ u → v t ≤ v u) := Lib.hid fun t u h1 h2 => by rw [← hvt t, ← hvt u]; exact HM.out t u h1 h2
  rw [hv]
  obtain ⟨e0, he0⟩ : ∃ e, v 9223372036854775807 = e := ⟨_, rfl⟩
  have HE := Lib.hid he0
  clear hvt hv he0 HM
  go_enter Try.func61, Try.ntmps61
  go_wp2_with (first
    | (go_at_call 59; refine (HAT.out _ (Below.refl _ _) 9223372036854775807 hU1).mono ?_; rintro e w1 ⟨rfl, hb1⟩; rw [HVT.out, HE.out]; clear c3)
    | (go_at_call 54; refine (HC.out _ hb1).mono ?_; rintro e w2 ⟨rfl, hb2⟩))
  · go_ret
    refine ⟨9223372036854775808, rfl, Back.of hx1 (Int.le_refl _) ⟨fun _ hlt => ?_, fun hh => by omega⟩, by omega, by omega, hb1⟩
    rw [HE.out]; assumption
  · have hge : y ≤ e0 := by omega
    by_cases hxn : x = 9223372036854775808
    · subst hxn
      go_loopw [5, 6] (fun lo hi W => lo = .int .u64 9223372036854775808 ∧ hi = .int .u64 9223372036854775807 ∧ Below w.heap.size w W) (fun _ _ _ => 0)
      case atStart => exact ⟨rfl, rfl, hb2⟩
      case round =>
        obtain ⟨rfl, rfl, hbw⟩ := hrel
        go_wp2
        go_ret
        exact ⟨9223372036854775808, rfl, Back.of (Int.le_refl _) (Int.le_refl _) ⟨fun _ hlt => by omega, fun hh => by omega⟩, by omega, by omega, hbw⟩
    · go_loopw [5, 6] (fun lo hi W => ∃ l h : Int, lo = .int .u64 l ∧ hi = .int .u64 h ∧ x ≤ l ∧ l ≤ h ∧ h ≤ 9223372036854775807 ∧ y ≤ v h ∧ (x < l → v (l - 1) < y) ∧ Below w.heap.size w W) (fun lo hi _ => (intOf hi - intOf lo).toNat)
      case atStart => exact ⟨x, 9223372036854775807, rfl, rfl, Int.le_refl _, by omega, Int.le_refl _, by rw [HE.out]; exact hge, fun h => by omega, hb2⟩
      case round =>
        obtain ⟨l, h, rfl, rfl, hxl, hlh, hh, hyh, hlo, hbw⟩ := hrel
        have HLO := Lib.hid hlo; have HYH := Lib.hid hyh; have HBW := Lib.hid hbw
        clear hlo hyh hbw hb1 hb2
        by_cases hlt : l < h
        · obtain ⟨q, hq⟩ : ∃ q, (h - l) / 2 = q := ⟨_, rfl⟩
          have hq0 : 0 ≤ q := by omega
          have hql : l + q < h := by omega
          have eq1 : IntKind.u64.wrap ((h - l).tdiv 2) = q := by rw [Int.tdiv_eq_ediv_of_nonneg (by omega), hq]; exact wrap_u ⟨hq0, by omega⟩
          obtain ⟨m, hm⟩ : ∃ m, l + q = m := ⟨_, rfl⟩
          have hum : U m := ⟨by omega, by omega⟩
          obtain ⟨vm, hvm⟩ : ∃ vm, v m = vm := ⟨_, rfl⟩
          have HVM := Lib.hid hvm
          have hml : l ≤ m := by omega
          have hmh : m < h := by omega
          clear hvm hq
          by_cases hc : y ≤ vm
          · go_wp2_with (go_at_call 59; refine (HAT.out _ HBW.out m hum).mono ?_; rintro e w3 ⟨rfl, hb3⟩; rw [HVT.out, HVM.out])
            go_roundw
            case rel => exact ⟨l, m, rfl, by go_num, hxl, hml, by omega, by rw [HVM.out]; exact hc, HLO.out, HBW.out.trans (hb3.mono HBW.out.size)⟩
            case measure => simp [intOf]; omega
          · have hc2 : decide (y ≤ vm) = false := by simpa using hc
            go_wp2_with (go_at_call 59; refine (HAT.out _ HBW.out m hum).mono ?_; rintro e w3 ⟨rfl, hb3⟩; rw [HVT.out, HVM.out])
            go_roundw
            case rel => exact ⟨m + 1, h, by go_num, rfl, by omega, by omega, hh, HYH.out, fun _ => by rw [show m + 1 - 1 = m by omega, HVM.out]; omega, HBW.out.trans (hb3.mono HBW.out.size)⟩
            case measure => simp [intOf]; omega
        · obtain rfl : l = h := by omega
          go_wp2
          go_ret
          exact ⟨l, rfl, Back.of hx1 (by omega) ⟨fun hh2 => by omega, fun _ => ⟨hxl, HYH.out, HLO.out⟩⟩, by omega, by omega, HBW.out⟩
end

end Go.Proofs.Ytipiajnaechadaa
