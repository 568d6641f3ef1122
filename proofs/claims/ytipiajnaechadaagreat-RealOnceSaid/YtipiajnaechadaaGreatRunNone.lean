/-
  The contracts of a run that nobody made: a nil one, or a zero one.
-/
import Derived.Test.YtipiajnaechadaaGreatSagNone
namespace Go.Proofs.YtipiajnaechadaaGreat
set_option linter.unusedVariables false
open Go.RowKit

/-- p leads to a run that nobody made -/
def RNone (w : World) (p : Option Addr) : Prop := p = none ∨ ∃ g, p = some ⟨g, 0, none⟩ ∧ Blk w g 70 #[.int .u64 0, .int .u64 0, .int .u64 0, .nilIface]

theorem RNone.below {w w' : World} {p : Option Addr} (h : RNone w p) (hb : Below w.heap.size w w') : RNone w' p := by
  rcases h with rfl | ⟨g, rfl, hg⟩
  · exact .inl rfl
  · exact .inr ⟨g, rfl, hg.below hb hg.lt⟩

abbrev nilSags : Value := .iface 75 (.agg #[.pointer none])

theorem of_none' (p : Option Addr) (w : World) (h : RNone w p) :
    Calls Tryz.prog 37 #[.pointer p] w fun e w' => e = .returned nilSags ∧ w = w' := by
  rcases h with rfl | ⟨g, rfl, hg⟩
  · go_enter Tryz.func37, Tryz.ntmps37
    go_wp2
    go_ret
    exact ⟨rfl, rfl⟩
  · have c3 := hg.cell 3
    simp only [List.getElem?_toArray, List.getElem?_cons_zero, List.getElem?_cons_succ] at c3
    go_enter Tryz.func37, Tryz.ntmps37
    go_wp2
    all_goals go_ret
    all_goals exact ⟨rfl, rfl⟩

theorem seligible_nil (y : Int) (w : World) :
    Calls Tryz.prog 123 #[.agg #[.pointer none], .int .u64 y] w fun e w' => e = .returned (.int .u64 (nev y)) ∧ Below w.heap.size w w' := by
  go_enter Tryz.func123, Tryz.ntmps123
  go_wp2_with (go_at_call 125; refine (sahead_none _ _ _ (.inl rfl) (fun g h => by cases h)).mono ?_; rintro e w1 ⟨rfl, hb1⟩)
  go_ret
  exact ⟨rfl, ((Below.refl _ _).alloc (Nat.le_refl _) _).trans (hb1.mono (by simp))⟩

theorem rreach_none (p : Option Addr) (y : Int) (w : World) (h : RNone w p) :
    Calls Tryz.prog 41 #[.pointer p, .int .u64 y] w fun e w' => e = .returned (.int .u64 (nev y)) ∧ Below w.heap.size w w' := by
  go_enter Tryz.func41, Tryz.ntmps41
  go_wp2_with (first
    | (go_at_call 37; refine (of_none' _ _ h).mono ?_; rintro e w' ⟨rfl, rfl⟩)
    | (go_at_call 101; refine (sreach_none _ _ _ (.inl rfl)).mono ?_; rintro e w1 ⟨rfl, hb1⟩))
  go_ret
  exact ⟨rfl, hb1⟩

theorem rat_none (p : Option Addr) (t : Int) (w : World) (h : RNone w p) :
    Calls Tryz.prog 48 #[.pointer p, .int .u64 t] w fun e w' => e = .returned (.int .u64 0) ∧ Below w.heap.size w w' := by
  go_enter Tryz.func48, Tryz.ntmps48
  go_wp2_with (first
    | (go_at_call 37; refine (of_none' _ _ h).mono ?_; rintro e w' ⟨rfl, rfl⟩)
    | (go_at_call 98; refine (sat_none _ _ _ (.inl rfl)).mono ?_; rintro e w1 ⟨rfl, hb1⟩))
  go_ret
  exact ⟨rfl, hb1⟩

theorem religible_none (p : Option Addr) (y : Int) (w : World) (h : RNone w p) :
    Calls Tryz.prog 39 #[.pointer p, .int .u64 y] w fun e w' => e = .returned (.int .u64 (nev y)) ∧ Below w.heap.size w w' := by
  go_enter Tryz.func39, Tryz.ntmps39
  go_wp2_with (first
    | (go_at_call 37; refine (of_none' _ _ h).mono ?_; rintro e w' ⟨rfl, rfl⟩)
    | (go_at_call 123; refine (seligible_nil _ _).mono ?_; rintro e w1 ⟨rfl, hb1⟩))
  go_ret
  exact ⟨rfl, hb1⟩

theorem rstart_none (p : Option Addr) (x y : Int) (w : World) (h : RNone w p) :
    Calls Tryz.prog 19 #[.pointer p, .int .u64 x, .int .u64 y] w fun e w' => e = .returned (.tuple #[]) ∧ w = w' := by
  go_enter Tryz.func19, Tryz.ntmps19
  go_wp2_with (first
    | (go_at_call 37; refine (of_none' _ _ h).mono ?_; rintro e w' ⟨rfl, rfl⟩)
    | (go_at_call 102; refine (sstart_nil _ _ _).mono ?_; rintro e w' ⟨rfl, rfl⟩))
  go_returns
  exact ⟨rfl, rfl⟩

theorem rcopy_nil (w : World) :
    Calls Tryz.prog 34 #[.pointer none] w fun e w' => e = .returned (.pointer none) ∧ w = w' := by
  go_enter Tryz.func34, Tryz.ntmps34
  go_wp2
  go_ret
  exact ⟨rfl, rfl⟩

end Go.Proofs.YtipiajnaechadaaGreat
