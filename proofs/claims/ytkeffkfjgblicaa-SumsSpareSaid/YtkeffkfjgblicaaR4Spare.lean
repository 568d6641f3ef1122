/-
  The document's spare: bit by bit: ref04.Spare.
-/
import Derived.Test.YtkeffkfjgblicaaR4Late
namespace Go.Proofs.Ytkeffkfjgblicaa
set_option linter.unusedVariables false
open Go.RowKit

set_option maxRecDepth 100000 in
set_option maxHeartbeats 4000000 in
theorem r4spare_any (v : Value) (l : List Cv) (r : Int) (w : World) (h : CvAt w v l) (hr : U r) (hl : l.length < 1000000) :
    Calls Try.prog 22 #[v, .int .u64 r] w (SpareW w l r) := by
  have hk := r4kept_any v l r w h hr
  obtain ⟨a, cap0, rfl⟩ : ∃ a cap, v = .slice a l.length cap := by obtain ⟨_, _, a, cap, e, _⟩ := h; exact ⟨a, cap, e⟩
  have H := Lib.hid h
  clear h
  go_enter Try.func22, Try.ntmps22
  by_cases hK : Keep l r
  · rw [decide_eq_true hK] at hk
    go_wp2_with fail
    refine hk.mono ?_
    clear hk
    rintro e w1 ⟨rfl, hb1⟩
    have HB1 := Lib.hid hb1; have HK := Lib.hid hK
    clear hb1 hK
    go_wp2_with fail
    go_loopw [6, 7] (fun v6 v7 W => ∃ (n b : Int) (e : Nat), v6 = .int .u64 n ∧ v7 = .int .u64 b ∧ e ≤ 21 ∧ b = ((2 ^ e / 2 : Nat) : Int) ∧ 0 ≤ n ∧ n ≤ 1048576 ∧ Keep (l ++ [(0, 0, n)]) r ∧ (1048576 < n + (2 ^ e : Nat) ∨ ¬ Keep (l ++ [(0, 0, n + (2 ^ e : Nat))]) r) ∧ Below w.heap.size w W) (fun _ v7 _ => (Go.RowKit.intOf v7).toNat)
    case atStart => exact ⟨0, 1048576, 21, rfl, rfl, Nat.le_refl _, rfl, Int.le_refl _, by decide, keep_straight0.2 HK.out, .inl (by decide), HB1.out⟩
    case round =>
      obtain ⟨n, b, e, rfl, rfl, he, hb, hn0, hn1, hkn, htop, hbr⟩ := hrel
      have HKN := Lib.hid hkn; have HTOP := Lib.hid htop; have HBR := Lib.hid hbr
      clear hkn htop hbr
      cases e with
      | zero =>
        obtain rfl : b = 0 := by simpa using hb
        have hI : IsSpare l r n := ⟨hn0, hn1, HKN.out, HTOP.out.imp (fun h => by simp at h; omega) (fun h => by simpa using h)⟩
        have HI := Lib.hid hI
        clear hI HTOP HKN hb
        go_wp2_with fail
        go_ret2
        exact ⟨.inl ⟨n, rfl, HK.out, HI.out⟩, HBR.out⟩
      | succ e =>
        have hpow : (2 ^ (e + 1) : Nat) = 2 * 2 ^ e := by rw [Nat.pow_succ, Nat.mul_comm]
        have hle : (2 ^ e : Nat) ≤ 2 ^ 20 := Nat.pow_le_pow_right (by decide) (by omega)
        have hpos : 0 < (2 ^ e : Nat) := Nat.pow_pos (by decide)
        obtain ⟨P, hP⟩ : ∃ P, (2 ^ e : Nat) = P := ⟨_, rfl⟩
        rw [hpow, hP] at HTOP
        rw [hpow, hP, Nat.mul_div_cancel_left P (by decide)] at hb
        rw [hP] at hle hpos
        have hb0 : 0 < b := by omega
        have hbm : b ≤ 1048576 := by omega
        have hb2 : b.tdiv 2 = ((P / 2 : Nat) : Int) := by rw [Int.tdiv_eq_ediv_of_nonneg (by omega), hb]; omega
        have hlow : (b.tdiv 2).toNat < b.toNat := by rw [hb2]; omega
        have HP := Lib.hid hP; have HBB := Lib.hid hb; have HB2 := Lib.hid hb2
        clear hP hb hb2 hpow hle hpos
        by_cases hover : 1048576 < n + b
        · go_wp2_with fail
          go_roundw
          case measure => (simp [Go.RowKit.intOf]; try omega)
          case rel => exact ⟨n, _, e, rfl, rfl, by omega, by (have hbb := HBB.out; rw [HP.out]; omega), hn0, hn1, HKN.out, .inl (by rw [HP.out, ← HBB.out]; exact hover), HBR.out⟩
        · obtain ⟨v1, w4, r1, v2, w5, r2, hcv2, hb5⟩ := app_two 22 22 (c := (0, 0, n + b)) (H.out.later HBR.out) ⟨⟨by simp, by simp⟩, ⟨by simp, by simp⟩, ⟨by simp; omega, by simp; omega⟩⟩ hl
          have hk2 := r4kept_any _ _ r w5 hcv2 hr
          have HB5 := Lib.hid (HBR.out.trans (hb5.mono HBR.out.size))
          clear hcv2 hb5
          go_wp2_with (at_builtin; first | (refine wpList_append_runW rfl _ _ _ rfl _ _ _ rfl rfl r1 ?_; clear r1) | (refine wpList_append_runW rfl _ _ _ rfl _ _ _ rfl rfl r2 ?_; clear r2))
          refine hk2.mono ?_
          clear hk2
          rintro e' w6 ⟨rfl, hb6⟩
          have HB6 := Lib.hid (HB5.out.trans (hb6.mono HB5.out.size))
          clear hb6
          by_cases hkk : Keep (l ++ [(0, 0, n + b)]) r
          · have hd : decide (Keep (l ++ [(0, 0, n + b)]) r) = true := decide_eq_true hkk
            have HKK := Lib.hid hkk
            simp only [hd]
            clear hkk hd
            go_wp2_with fail
            go_roundw
            case measure => (simp [Go.RowKit.intOf]; try omega)
            case rel => exact ⟨n + b, _, e, rfl, rfl, by omega, by (have hbb := HBB.out; rw [HP.out]; omega), by omega, by omega, HKK.out, by rw [HP.out]; have h := HTOP.out; have hbb := HBB.out; rw [show n + b + (P : Int) = n + ((2 * P : Nat) : Int) by omega]; exact h, HB6.out⟩
          · have hd : decide (Keep (l ++ [(0, 0, n + b)]) r) = false := decide_eq_false hkk
            have HKK := Lib.hid hkk
            simp only [hd]
            clear hkk hd
            go_wp2_with fail
            go_roundw
            case measure => (simp [Go.RowKit.intOf]; try omega)
            case rel => exact ⟨n, _, e, rfl, rfl, by omega, by (have hbb := HBB.out; rw [HP.out]; omega), hn0, hn1, HKN.out, .inr (by rw [HP.out, ← HBB.out]; exact HKK.out), HB6.out⟩
  · rw [decide_eq_false hK] at hk
    go_wp2_with fail
    refine hk.mono ?_
    clear hk
    rintro e w1 ⟨rfl, hb1⟩
    have HB1 := Lib.hid hb1
    clear hb1
    go_wp2_with fail
    go_ret2
    exact ⟨.inr ⟨rfl, hK⟩, HB1.out⟩
end Go.Proofs.Ytkeffkfjgblicaa
