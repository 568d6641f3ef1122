/-
  Are curves late at a tick: sums.late.
-/
import Derived.Test.YthmhboagbeibdaaGreatSumsAt
namespace Go.Proofs.YthmhboagbeibdaaGreat
set_option linter.unusedVariables false
open Go.RowKit

theorem slate_any (v : Value) (l : List Cv) (r t : Int) (w : World) (h : CvAt w v l) (hr : U r) (ht : U t) :
    Calls Tryz.prog 54 #[v, .int .u64 r, .int .u64 t] w fun e w' => e = .returned (.bool (decide (Lt l r t))) ∧ Below w.heap.size w w' := by
  have hb := vS_bd h.1.nn ht.1 ht.2
  have hl := h.2.1
  have hU := U_hi (n := vS l t) hb.1 (by omega)
  have hat := fun W (hW : Below w.heap.size w W) => sat_any v l t W (h.later hW) ht
  have hmul := fun W => mul_any r t W hr ht
  have hp0 := Int.mul_nonneg hr.1 ht.1
  have hcmp := fun W => cmp_any (hiW (vS l t)) (loW (vS l t)) (hiW (r * t)) (loW (r * t)) W (U_lo _) (U_lo _)
  simp only [num_words] at hcmp
  have hres : (decide (0 < cmpI (vS l t) (r * t))) = decide (Lt l r t) := by
    unfold Lt cmpI
    by_cases c : r * t < vS l t
    · rw [if_neg (by omega), if_neg (by omega)]; simp [c]
    · by_cases c2 : vS l t < r * t
      · rw [if_pos c2]; simp [c]
      · rw [if_neg c2, if_pos (by omega)]; simp [c]
  rw [← hres]
  generalize cmpI (vS l t) (r * t) = z at hcmp ⊢
  generalize hiW (vS l t) = x0 at hat hcmp
  generalize loW (vS l t) = y0 at hat hcmp
  generalize hiW (r * t) = x1 at hmul hcmp
  generalize loW (r * t) = y1 at hmul hcmp
  have HAT := Lib.hid hat; have HM := Lib.hid hmul; have HC := Lib.hid hcmp
  clear hat hmul hcmp hres hb hU hp0 h
  go_enter Tryz.func54, Tryz.ntmps54
  go_wp2_with fail
  refine (HAT.out _ (Below.refl _ w)).mono ?_
  rintro e w1 ⟨rfl, hb1⟩
  have H1 := Lib.hid hb1
  clear hb1
  go_wp2_with fail
  refine (HM.out _).mono ?_
  rintro e w2 ⟨rfl, hb2⟩
  have H2 := Lib.hid (H1.out.trans (hb2.mono H1.out.size))
  clear hb2
  go_wp2_with fail
  refine (HC.out _).mono ?_
  rintro e w3 ⟨rfl, hb3⟩
  have H3 := Lib.hid (H2.out.trans (hb3.mono H2.out.size))
  clear hb3
  go_wp2_with fail
  go_ret
  exact ⟨rfl, H3.out⟩

end Go.Proofs.YthmhboagbeibdaaGreat
