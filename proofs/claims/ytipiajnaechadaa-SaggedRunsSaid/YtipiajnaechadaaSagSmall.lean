/-
  The small questions of a sagging run that has copies: Last, Starts, Kept.
-/
import Derived.Test.YtipiajnaechadaaSagLeast
namespace Go.Proofs.Ytipiajnaechadaa
set_option linter.unusedVariables false
open Go.RowKit

theorem slast_any (g : Nat) (F L R n x : Int) (K : List (Int × Int)) (w : World) (hn : n ≠ 0) (hs : SagAt w g F L R n x K) :
    Calls Try.prog 52 #[.pointer (some ⟨g, 0, none⟩)] w fun e w' => e = .returned (.tuple #[.int .u64 x, .bool true]) ∧ w = w' := by
  obtain ⟨v, hb, _⟩ := hs
  have c4 := hb.cell 4; have c5 := hb.cell 5
  simp only [List.getElem?_toArray, List.getElem?_cons_zero, List.getElem?_cons_succ] at c4 c5
  go_enter Try.func52, Try.ntmps52
  go_wp2_with (go_at_call 67; refine (snone_no _ _ _ hn c4).mono ?_; rintro e w' ⟨rfl, rfl⟩)
  go_ret2
  exact ⟨rfl, rfl⟩

theorem sstarts_any (g : Nat) (F L R n x : Int) (K : List (Int × Int)) (w : World) (hn : n ≠ 0) (hs : SagAt w g F L R n x K) :
    Calls Try.prog 55 #[.pointer (some ⟨g, 0, none⟩)] w fun e w' => e = .returned (.int .i64 n) ∧ w = w' := by
  obtain ⟨v, hb, _⟩ := hs
  have c4 := hb.cell 4
  simp only [List.getElem?_toArray, List.getElem?_cons_zero, List.getElem?_cons_succ] at c4
  go_enter Try.func55, Try.ntmps55
  go_wp2_with (go_at_call 67; refine (snone_no _ _ _ hn c4).mono ?_; rintro e w' ⟨rfl, rfl⟩)
  go_ret
  exact ⟨rfl, rfl⟩

theorem skept_any (g : Nat) (F L R n x : Int) (K : List (Int × Int)) (w : World) (hn : n ≠ 0) (hK : K ≠ []) (hs : SagAt w g F L R n x K) :
    Calls Try.prog 56 #[.pointer (some ⟨g, 0, none⟩)] w fun e w' => e = .returned (.int .i64 K.length) ∧ w = w' := by
  obtain ⟨v, hb, hr⟩ := hs
  obtain ⟨b, cp, rfl, _⟩ := hr.open_ hK
  have c4 := hb.cell 4; have c6 := hb.cell 6
  simp only [List.getElem?_toArray, List.getElem?_cons_zero, List.getElem?_cons_succ] at c4 c6
  clear hr
  go_enter Try.func56, Try.ntmps56
  go_wp2_with (go_at_call 67; refine (snone_no _ _ _ hn c4).mono ?_; rintro e w' ⟨rfl, rfl⟩)
  go_ret
  exact ⟨rfl, rfl⟩

end Go.Proofs.Ytipiajnaechadaa
