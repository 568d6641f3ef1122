/-
  distributarylaw18.awake: the chapter's example.
-/
import Derived.Test.YtflnlapfomjggaaRealUse
namespace Go.Proofs.Ytflnlapfomjggaa
set_option linter.unusedVariables false
open Go.RowKit

theorem may4 : MayC 0 0 256 := ⟨by omega, by omega, by omega, by omega, by omega, by omega, fun h => by omega⟩
theorem ten_low4 : ∀ a ∈ [((10 : Int), (0 : Int))], a.1 ≤ (10 : Int) ∧ 0 ≤ a.2 := by
  intro a ha
  obtain rfl : a = (10, 0) := by simpa using ha
  exact ⟨by decide, by decide⟩
theorem mayB4 : mayB 0 0 256 = true := by kernel_rfl

set_option maxRecDepth 100000 in
set_option maxHeartbeats 2000000 in
theorem real_awake (w : World) :
    Calls Try.prog 36 #[] w fun e w' => e = .returned (.bool true) ∧ Below w.heap.size w w' := by
  go_enter Try.func36, Try.ntmps36
  go_wp2_with fail
  refine (real_new 0 0 256 w (by decide) (by decide) (by decide) mayB4).mono ?_
  rintro e w1 ⟨d, r, g, rfl, hg, hd, hb⟩
  have HD := Lib.hid hd
  clear hd
  go_wp2_with fail
  refine (dawake HD.out).mono ?_
  rintro e w' ⟨rfl, rfl⟩
  go_wp2_with fail
  refine (ddue_no HD.out).mono ?_
  rintro e w' ⟨rfl, rfl⟩
  go_wp2_with fail
  refine (dwake HD.out 10 5 10 (u_small (by decide) (by decide)) (by decide) (by decide) (by decide) (by decide)).mono ?_
  rintro e w2 ⟨rfl, el, du, hd, ⟨hk1, _, _, hk2, _, _⟩, hfr⟩
  rw [show ([] : List (Int × Int)) ++ [(10, 0)] = [(10, 0)] from rfl] at hd hk1 hk2
  obtain rfl : el = 10 := hk1.is (vE_max_mono may4 ten_low4) (by decide) (by decide) (by decide) (.inl (by decide))
  obtain rfl : du = 15 := hk2.is (vA_max_mono may4 ten_low4) (by decide) (by decide) (by decide) (.inr (by decide))
  have HE := Lib.hid hd
  have hb2 := hb.trans (hfr.low _ hg)
  clear HD hb hd hk1 hk2 hfr
  go_wp2_with fail
  refine (delig HE.out).mono ?_
  rintro e w' ⟨rfl, rfl⟩
  go_wp2_with fail
  refine (ddue HE.out).mono ?_
  rintro e w' ⟨rfl, rfl⟩
  go_wp2_with fail
  refine (dserve_real HE.out (by decide) (by decide) (by decide) 5 3).mono ?_
  rintro e w3 ⟨rfl, el, du, hd, ⟨hk1, _, _, hk2, _, _⟩, hfr⟩
  rw [show dueY 0 5 = 1280 from by decide, show decide ((1 : Int) ≤ 3) = true from by decide] at hd
  obtain rfl : el = 15 := hk1.is (vE_max_mono may4 ten_low4) (by decide) (by decide) (by decide) (.inr (by decide))
  obtain rfl : du = 18 := hk2.is (vA_max_mono may4 ten_low4) (by decide) (by decide) (by decide) (.inr (by decide))
  have HD := Lib.hid hd
  have hb3 := hb2.trans (hfr.low _ hg)
  clear HE hb2 hd hk1 hk2 hfr
  go_wp2_with fail
  refine (delig HD.out).mono ?_
  rintro e w' ⟨rfl, rfl⟩
  go_wp2_with fail
  refine (ddue HD.out).mono ?_
  rintro e w' ⟨rfl, rfl⟩
  go_wp2_with fail
  refine (dserve_share HD.out (by decide) (by decide) (by decide) 2 (by decide) 3 2).mono ?_
  rintro e w4 ⟨rfl, du, hd, hk2, _, _, hfr⟩
  rw [show decide ((1 : Int) ≤ 2) = true from by decide] at hd
  obtain rfl : du = 17 := hk2.is (vA_max_mono may4 ten_low4) (by decide) (by decide) (by decide) (.inr (by decide))
  have HE := Lib.hid hd
  have hb4 := hb3.trans (hfr.low _ hg)
  clear HD hb3 hd hk2 hfr
  go_wp2_with fail
  refine (delig HE.out).mono ?_
  rintro e w' ⟨rfl, rfl⟩
  go_wp2_with fail
  refine (ddue HE.out).mono ?_
  rintro e w' ⟨rfl, rfl⟩
  go_wp2_with fail
  refine (dserve_real HE.out (by decide) (by decide) (by decide) 2 0).mono ?_
  rintro e w5 ⟨rfl, el, du, hd, _, hfr⟩
  rw [show dueY 1280 2 = 1792 from by decide, show decide ((1 : Int) ≤ 0) = false from by decide] at hd
  have HD := Lib.hid hd
  have hb5 := hb4.trans (hfr.low _ hg)
  clear HE hb4 hd hfr
  go_wp2_with fail
  refine (dawake HD.out).mono ?_
  rintro e w' ⟨rfl, rfl⟩
  go_wp2_with fail
  refine (dgot HD.out).mono ?_
  rintro e w' ⟨rfl, rfl⟩
  go_wp2_with fail
  have hc := dowes HD.out (by decide) 20 (u_small (by decide) (by decide))
  rw [show vA 0 0 256 ([(10, 0)] : List (Int × Int)) (max 20 10) = 2560 from by decide] at hc
  refine hc.mono ?_
  rintro e w6 ⟨rfl, hb6⟩
  go_wp2
  go_ret
  exact ⟨rfl, hb5.trans (hb6.mono hb5.size)⟩

end Go.Proofs.Ytflnlapfomjggaa
