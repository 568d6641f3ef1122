/-
  distributarylaw21.awake: the chapter's examples.
-/
import Derived.Test.YtflnlapfomjggaaUpRun
import Derived.Test.YtflnlapfomjggaaUpInn
import Derived.Test.YtflnlapfomjggaaRunAwake
namespace Go.Proofs.Ytflnlapfomjggaa
set_option linter.unusedVariables false
open Go.RowKit

theorem may3 : MayC 0 0 256 := ⟨by omega, by omega, by omega, by omega, by omega, by omega, fun h => by omega⟩
theorem ten_low : ∀ a ∈ [((10 : Int), (0 : Int))], a.1 ≤ (10 : Int) ∧ 0 ≤ a.2 := by
  intro a ha
  obtain rfl : a = (10, 0) := by simpa using ha
  exact ⟨by decide, by decide⟩
theorem mayB3 : mayB 0 0 256 = true := by kernel_rfl
theorem two_cells {w : World} {b t : Nat} {p q : Int} (h : Blk w b t #[.int .u64 p, .int .u64 q]) : ∀ j, j < 2 → w.cell? ⟨b, 0 + j, none⟩ = some (.int .u64 (([p, q] : List Int).getD j 0)) := by
  intro j hj
  have c0 := h.cell 0; have c1 := h.cell 1
  simp only [List.getElem?_toArray, List.getElem?_cons_zero, List.getElem?_cons_succ] at c0 c1
  match j, hj with
  | 0, _ => exact c0
  | 1, _ => exact c1

theorem inner_two {w : World} {b t : Nat} {o p q m : Int} (h : Blk w b t #[.int .u64 p, .int .u64 q]) (hm : max o (min p q) = m) :
    Calls Try.prog 35 #[.int .u64 o, .slice (some ⟨b, 0, none⟩) 2 2] w fun e w' => e = .returned (.int .u64 m) ∧ w = w' :=
  (inner_some o b 0 2 2 [p, q] w (by decide) (by decide) (two_cells h)).mono fun e w' ⟨he, hw⟩ => ⟨by rw [he, ← hm]; rfl, hw⟩

set_option maxRecDepth 100000 in
set_option maxHeartbeats 2000000 in
theorem up_awake (w : World) :
    Calls Try.prog 28 #[] w fun e w' => e = .returned (.bool true) ∧ Below w.heap.size w w' := by
  go_enter Try.func28, Try.ntmps28
  go_wp2_with fail
  refine (lnew_some 0 0 256 w (by decide) (by decide) (by decide) (by omega) mayB3).mono ?_
  rintro e w1 ⟨l, r, g, rfl, hg, hs, hb⟩
  have HS := Lib.hid hs
  clear hs
  go_wp2_with fail
  refine (lnew_free 0 0 0 w1 (by decide) (.inl ⟨rfl, rfl, rfl⟩)).mono ?_
  rintro e w2 ⟨l2, rfl, hl2, hf, hb2⟩
  have HS2 := Lib.hid (HS.out.below hb2); have HF := Lib.hid hf
  have hbb := hb.trans (hb2.mono hb.size)
  clear HS hb hb2 hf
  go_wp2_with fail
  refine (lfit_free 5 HF.out).mono ?_
  rintro e w3 ⟨rfl, hb2⟩
  have HS := Lib.hid (HS2.out.below hb2)
  have hb := hbb.trans (hb2.mono hbb.size)
  clear HS2 hbb hb2 HF
  go_wp2_with fail
  refine (lwake HS.out 10 0 10 0 (u_small (by decide) (by decide)) (u_small (by decide) (by decide)) (by decide) (by decide) (by decide)).mono ?_
  rintro e w4 ⟨rfl, hs, hw⟩
  rw [show ([] : List (Int × Int)) ++ [(10, 0)] = [(10, 0)] from rfl] at hs
  have HS2 := Lib.hid hs
  have hbb := hb.grown hw hb.size (fun j hj => by injection hj with hj; omega)
  clear HS hb hs hw
  go_wp2_with fail
  refine (lfit HS2.out (by decide) 0 (u_small (by decide) (by decide))).mono ?_
  rintro e w5 ⟨n, rfl, hk, hn0, hn1, hb2⟩
  obtain rfl : n = 10 := hk.is (vA_max_mono may3 ten_low) (by decide) (by decide) (by decide) (.inl (by decide))
  clear hk hn0 hn1
  have HS := Lib.hid (HS2.out.below hb2)
  have hb := hbb.trans (hb2.mono hbb.size)
  clear HS2 hbb hb2
  go_wp2_with fail
  refine (lfit HS.out (by decide) 1024 (u_small (by decide) (by decide))).mono ?_
  rintro e w6 ⟨n, rfl, hk, hn0, hn1, hb2⟩
  obtain rfl : n = 14 := hk.is (vA_max_mono may3 ten_low) (by decide) (by decide) (by decide) (.inr (by decide))
  clear hk hn0 hn1
  have HS2 := Lib.hid (HS.out.below hb2)
  have hbb := hb.trans (hb2.mono hb.size)
  clear HS hb hb2
  go_wp2_with fail
  refine (lmost HS2.out (by decide) 12 512 (u_small (by decide) (by decide)) (by decide)).mono ?_
  rintro e w7 ⟨rfl, hb2⟩
  have hb := hbb.trans (hb2.mono hbb.size)
  clear HS2 hbb hb2
  go_wp2_with fail
  have hin := inner_two (o := 7) (m := 7) (Blk.new w7 22 #[.int .u64 3, .int .u64 9]) (by decide)
  have hb8 := hb.alloc hb.size (.cells #[.int .u64 3, .int .u64 9] 22)
  refine hin.mono ?_
  rintro e w8 ⟨rfl, rfl⟩
  clear hin
  generalize w7.alloc (.cells #[.int .u64 3, .int .u64 9] 22) = w8 at *
  go_wp2_with fail
  have hin := inner_two (o := 2) (m := 3) (Blk.new w8 22 #[.int .u64 3, .int .u64 9]) (by decide)
  have hb9 := hb8.alloc hb8.size (.cells #[.int .u64 3, .int .u64 9] 22)
  refine hin.mono ?_
  rintro e w9 ⟨rfl, rfl⟩
  clear hin
  generalize w8.alloc (.cells #[.int .u64 3, .int .u64 9] 22) = w9 at *
  go_wp2_with fail
  refine (inner_none 2 _ 0 _).mono ?_
  rintro e w10 ⟨rfl, rfl⟩
  go_wp2
  go_ret
  exact ⟨rfl, hb9⟩

end Go.Proofs.Ytflnlapfomjggaa
