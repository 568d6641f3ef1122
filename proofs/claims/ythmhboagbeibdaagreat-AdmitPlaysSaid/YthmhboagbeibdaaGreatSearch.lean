/-
  sort.Search, by any closure that leaves all that lay, up to 2^63 - 1 places.
-/
import Derived.Test.YthmhboagbeibdaaGreatReg
import Derived.Test.YthmhboagbeibdaaGreatPure
import Derived.Lib.SmallJoins
namespace Go.Proofs.YthmhboagbeibdaaGreat
set_option linter.unusedVariables false
open Go.RowKit

theorem wrap_half {i j : Nat} (h1 : i ≤ j) (h2 : j ≤ 9223372036854775807) : wrap64 (IntKind.u64.wrap (wrap64 ((i : Int) + (j : Int))) / 2) = (((i + j) / 2 : Nat) : Int) := by
  simp only [wrap64, IntKind.wrap, IntKind.bits, IntKind.signed]
  simp
  omega

theorem search_any (g : Nat) (cb : Array Value) (n : Nat) (p : Nat → Bool) (w : World) (eg : ∀ args w, (callFunc g args).run Tryz.prog w = .ok (.enter g args) w) (hn : n ≤ 9223372036854775807)
    (hf : ∀ (W : World) (i : Nat), Below w.heap.size w W → i < n → Calls Tryz.prog g (#[.int .i64 i] ++ cb) W fun e w' => e = .returned (.bool (p i)) ∧ Below W.heap.size W w')
    (hmono : ∀ a b, a ≤ b → b < n → p a = true → p b = true) :
    Calls Tryz.prog 55 #[.int .i64 n, .func (.func g) #[] cb] w fun e w' => ∃ m : Nat, e = .returned (.int .i64 m) ∧ m ≤ n ∧ (∀ i, i < m → p i = false) ∧ (∀ i, m ≤ i → i < n → p i = true) ∧ Below w.heap.size w w' := by
  have HF := Lib.hid hf; have HM := Lib.hid hmono
  clear hf hmono
  go_enter Tryz.func55, Tryz.ntmps55
  go_wp2_with fail
  go_loopw [5, 6] (fun iv jv W => ∃ i j : Nat, i ≤ j ∧ j ≤ n ∧ iv = .int .i64 i ∧ jv = .int .i64 j ∧ Below w.heap.size w W ∧ (∀ x, x < i → p x = false) ∧ (∀ x, j ≤ x → x < n → p x = true)) (fun iv jv _ => (intOf jv).toNat - (intOf iv).toNat)
  case atStart => exact ⟨0, n, by omega, by omega, rfl, rfl, by go_grown, fun x hx => by omega, fun x h1 h2 => by omega⟩
  case round =>
    obtain ⟨i, j, hij, hj, rfl, rfl, hb, h1, h2⟩ := hrel
    have HB := Lib.hid hb; have H1 := Lib.hid h1; have H2 := Lib.hid h2
    clear hb h1 h2
    by_cases hlt : i < j
    · have hltz : (i : Int) < (j : Int) := by omega
      have hw := wrap_half (i := i) (j := j) (by omega) (by omega)
      have HW := Lib.hid hw
      clear hw
      go_wp2_with fail
      rw [HW.out]
      refine (HF.out wr ((i + j) / 2) HB.out (by omega)).mono ?_
      rintro e w1 ⟨rfl, hb1⟩
      have HB1 := Lib.hid (HB.out.trans (hb1.mono HB.out.size))
      clear hb1
      cases hp : p ((i + j) / 2)
      · have HP := Lib.hid hp
        clear hp
        go_wp2_with fail
        go_roundw
        case measure => simp [intOf]; omega
        case rel =>
          refine ⟨(i + j) / 2 + 1, j, by omega, hj, by go_num, rfl, HB1.out, fun x hx => ?_, H2.out⟩
          cases hq : p x
          · rfl
          · have := HM.out x ((i + j) / 2) (by omega) (by omega) hq
            rw [HP.out] at this; cases this
      · have HP := Lib.hid hp
        clear hp
        go_wp2_with fail
        go_roundw
        case measure => simp [intOf]; omega
        case rel =>
          exact ⟨i, (i + j) / 2, by omega, by omega, rfl, rfl, HB1.out, H1.out, fun x h1 h2 => HM.out _ x h1 h2 HP.out⟩
    · obtain rfl : i = j := by omega
      go_wp2_with fail
      go_ret
      exact ⟨i, rfl, hj, H1.out, H2.out, HB.out⟩

end Go.Proofs.YthmhboagbeibdaaGreat
