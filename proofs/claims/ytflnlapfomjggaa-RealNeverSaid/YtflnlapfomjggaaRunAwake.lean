/-
  distributarylaw07.awake: the chapter's examples.
-/
import Derived.Test.YtflnlapfomjggaaRunStarted
namespace Go.Proofs.Ytflnlapfomjggaa
set_option linter.unusedVariables false
open Go.RowKit

theorem may1 : MayC 1 10 4 := ⟨by omega, by omega, by omega, by omega, by omega, by omega, fun h => by omega⟩
theorem may2 : MayC 4 10 1 := ⟨by omega, by omega, by omega, by omega, by omega, by omega, fun h => by omega⟩
theorem zero_low : ∀ a ∈ [((0 : Int), (0 : Int))], a.1 ≤ (0 : Int) ∧ 0 ≤ a.2 := by intro a ha; obtain rfl : a = (0, 0) := by simpa using ha
                                                                                   exact ⟨by decide, by decide⟩

set_option maxRecDepth 100000 in
set_option maxHeartbeats 2000000 in
theorem awake_any (w : World) :
    Calls Try.prog 15 #[] w fun e w' => e = .returned (.bool true) ∧ Below w.heap.size w w' := by
  go_enter Try.func15, Try.ntmps15
  go_wp2_with fail
  refine (run_new 1 10 4 w (by decide) (by decide) (by decide) (by decide)).mono ?_
  rintro e w1 ⟨r, g, rfl, hg, hs, hb⟩
  go_wp2_with fail
  refine (run_new 4 10 1 w1 (by decide) (by decide) (by decide) (by decide)).mono ?_
  rintro e w2 ⟨r2, g2, rfl, hg2, ht, hb2⟩
  have hgg : g ≠ g2 := by have := hs.lt; omega
  have hgw2 : w.heap.size ≤ g2 := Nat.le_trans hb.size hg2
  have HS := Lib.hid (hs.below hb2); have HT := Lib.hid ht
  have hbb := hb.trans (hb2.mono hb.size)
  clear hs ht hb hb2
  go_wp2_with fail
  refine (run_new_no 1 0 0 w2 (by decide) (by decide)).mono ?_
  rintro e w3 ⟨rfl, hb2⟩
  have HS3 := Lib.hid (HS.out.below hb2); have HT3 := Lib.hid (HT.out.below hb2)
  have hb := hbb.trans (hb2.mono hbb.size)
  clear HS HT hbb hb2
  go_wp2_with fail
  refine (run_reach0 HS3.out 1).mono ?_
  rintro e w4 ⟨rfl, hb2⟩
  rw [show nev 1 = 9223372036854775808 from by decide]
  have HS := Lib.hid (HS3.out.below hb2); have HT := Lib.hid (HT3.out.below hb2)
  have hbb := hb.trans (hb2.mono hb.size)
  clear HS3 HT3 hb hb2
  go_wp2_with fail
  refine (run_reach0 HS.out 0).mono ?_
  rintro e w5 ⟨rfl, hb2⟩
  rw [show nev 0 = 0 from by decide]
  have HS3 := Lib.hid (HS.out.below hb2); have HT3 := Lib.hid (HT.out.below hb2)
  have hb := hbb.trans (hb2.mono hbb.size)
  clear HS HT hbb hb2
  go_wp2_with fail
  refine (run_start HS3.out 0 0 0 0 (u_small (by decide) (by decide)) (u_small (by decide) (by decide)) (by decide) (by decide) (by decide)).mono ?_
  rintro e w6 ⟨rfl, hs, hw⟩
  have HT := Lib.hid (HT3.out.stay HS3.out hgg hw)
  rw [show ([] : List (Int × Int)) ++ [(0, 0)] = [(0, 0)] from rfl] at hs
  have HS := Lib.hid hs
  have hbb := hb.grown hw hb.size (fun j hj => by injection hj with hj; omega)
  clear HS3 HT3 hb hs hw
  go_wp2_with fail
  refine (run_start HT.out 0 0 0 0 (u_small (by decide) (by decide)) (u_small (by decide) (by decide)) (by decide) (by decide) (by decide)).mono ?_
  rintro e w7 ⟨rfl, ht, hw⟩
  have HS3 := Lib.hid (HS.out.stay HT.out (Ne.symm hgg) hw)
  rw [show ([] : List (Int × Int)) ++ [(0, 0)] = [(0, 0)] from rfl] at ht
  have HT3 := Lib.hid ht
  have hb := hbb.grown hw hbb.size (fun j hj => by injection hj with hj; omega)
  clear HS HT hbb ht hw
  go_wp2_with fail
  refine (run_reach HS3.out (by decide) 18 (u_small (by decide) (by decide))).mono ?_
  rintro e w8 ⟨n, rfl, hk, hn0, hn1, hb2⟩
  obtain rfl : n = 12 := hk.is (vA_max_mono may1 zero_low) (by decide) (by decide) (by decide) (.inr (by decide))
  clear hk hn0 hn1
  have HS := Lib.hid (HS3.out.below hb2); have HT := Lib.hid (HT3.out.below hb2)
  have hbb := hb.trans (hb2.mono hb.size)
  clear HS3 HT3 hb hb2
  go_wp2_with fail
  refine (run_elig HS.out (by decide) 18 (u_small (by decide) (by decide))).mono ?_
  rintro e w9 ⟨n, rfl, hk, hn0, hn1, hb2⟩
  obtain rfl : n = 5 := hk.is (vE_max_mono may1 zero_low) (by decide) (by decide) (by decide) (.inr (by decide))
  clear hk hn0 hn1
  have HS3 := Lib.hid (HS.out.below hb2); have HT3 := Lib.hid (HT.out.below hb2)
  have hb := hbb.trans (hb2.mono hbb.size)
  clear HS HT hbb hb2
  go_wp2_with fail
  have hc := run_at HS3.out (by decide) 12 (u_small (by decide) (by decide))
  rw [show vA 1 10 4 ([(0, 0)] : List (Int × Int)) (max 12 0) = 18 from by decide] at hc
  refine hc.mono ?_
  rintro e w10 ⟨rfl, hb2⟩
  clear hc
  have HS := Lib.hid (HS3.out.below hb2); have HT := Lib.hid (HT3.out.below hb2)
  have hbb := hb.trans (hb2.mono hb.size)
  clear HS3 HT3 hb hb2
  go_wp2_with fail
  have hc := run_ahead HS.out (by decide) 4 (u_small (by decide) (by decide))
  rw [show vE 1 10 4 ([(0, 0)] : List (Int × Int)) (max 4 0) = 16 from by decide] at hc
  refine hc.mono ?_
  rintro e w11 ⟨rfl, hb2⟩
  clear hc
  have HS3 := Lib.hid (HS.out.below hb2); have HT3 := Lib.hid (HT.out.below hb2)
  have hb := hbb.trans (hb2.mono hbb.size)
  clear HS HT hbb hb2
  go_wp2_with fail
  refine (run_reach HT3.out (by decide) 18 (u_small (by decide) (by decide))).mono ?_
  rintro e w12 ⟨n, rfl, hk, hn0, hn1, hb2⟩
  obtain rfl : n = 5 := hk.is (vA_max_mono may2 zero_low) (by decide) (by decide) (by decide) (.inr (by decide))
  clear hk hn0 hn1
  have HS := Lib.hid (HS3.out.below hb2); have HT := Lib.hid (HT3.out.below hb2)
  have hbb := hb.trans (hb2.mono hb.size)
  clear HS3 HT3 hb hb2
  go_wp2_with fail
  refine (run_elig HT.out (by decide) 18 (u_small (by decide) (by decide))).mono ?_
  rintro e w13 ⟨n, rfl, hk, hn0, hn1, hb2⟩
  obtain rfl : n = 5 := hk.is (vE_max_mono may2 zero_low) (by decide) (by decide) (by decide) (.inr (by decide))
  clear hk hn0 hn1
  have HS3 := Lib.hid (HS.out.below hb2); have HT3 := Lib.hid (HT.out.below hb2)
  have hb := hbb.trans (hb2.mono hbb.size)
  clear HS HT hbb hb2
  go_wp2_with fail
  have hc := run_ahead HT3.out (by decide) 4 (u_small (by decide) (by decide))
  rw [show vE 4 10 1 ([(0, 0)] : List (Int × Int)) (max 4 0) = 16 from by decide] at hc
  refine hc.mono ?_
  rintro e w14 ⟨rfl, hb2⟩
  clear hc
  have HS := Lib.hid (HS3.out.below hb2); have HT := Lib.hid (HT3.out.below hb2)
  have hbb := hb.trans (hb2.mono hb.size)
  clear HS3 HT3 hb hb2
  go_wp2_with fail
  refine (run_many HS.out (by decide)).mono ?_
  rintro e w' ⟨rfl, rfl⟩
  simp only [List.length_cons, List.length_nil]
  go_wp2_with fail
  refine (run_curve HS.out).mono ?_
  rintro e w16 ⟨rfl, hb2⟩
  have HS3 := Lib.hid (HS.out.below hb2); have HT3 := Lib.hid (HT.out.below hb2)
  have hb := hbb.trans (hb2.mono hbb.size)
  clear HS HT hbb hb2
  have hf : ∀ w : World, (Instr.field 24 (.agg #[.int .u64 1, .int .u64 10, .int .u64 4]) 2).run Try.prog w = .ok (.int .u64 4) w := fun _ => by kernel_rfl
  go_wp2
  go_ret
  exact ⟨rfl, hb⟩

end Go.Proofs.Ytflnlapfomjggaa
