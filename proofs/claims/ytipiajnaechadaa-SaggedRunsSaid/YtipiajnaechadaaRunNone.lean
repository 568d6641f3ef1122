/-
  The contracts of a run that nobody made: a nil one, or a zero one.
-/
import Derived.Test.YtipiajnaechadaaSagNone
namespace Go.Proofs.Ytipiajnaechadaa
set_option linter.unusedVariables false
open Go.RowKit

/-- p leads to a run that nobody made -/
def RNone (w : World) (p : Option Addr) : Prop := p = none ∨ ∃ g, p = some ⟨g, 0, none⟩ ∧ Blk w g 65 #[.int .u64 0, .int .u64 0, .int .u64 0, .nilIface]

theorem RNone.below {w w' : World} {p : Option Addr} (h : RNone w p) (hb : Below w.heap.size w w') : RNone w' p := by
  rcases h with rfl | ⟨g, rfl, hg⟩
  · exact .inl rfl
  · exact .inr ⟨g, rfl, hg.below hb hg.lt⟩

abbrev nilSags : Value := .iface 67 (.agg #[.pointer none])

theorem of_none' (p : Option Addr) (w : World) (h : RNone w p) :
    Calls Try.prog 44 #[.pointer p] w fun e w' => e = .returned nilSags ∧ w = w' := by
  rcases h with rfl | ⟨g, rfl, hg⟩
  · go_enter Try.func44, Try.ntmps44
    go_wp2
    go_ret
    exact ⟨rfl, rfl⟩
  · have c3 := hg.cell 3
    simp only [List.getElem?_toArray, List.getElem?_cons_zero, List.getElem?_cons_succ] at c3
    go_enter Try.func44, Try.ntmps44
    go_wp2
    all_goals go_ret
    all_goals exact ⟨rfl, rfl⟩

theorem sahead_nil (t : Int) (w : World) :
    Calls Try.prog 131 #[.agg #[.pointer none], .int .u64 t] w fun e w' => e = .returned (.int .u64 0) ∧ Below w.heap.size w w' := by
  have hn : NoneAt (w.alloc (.cells #[.pointer none] 67)) none := .inl rfl
  go_enter Try.func131, Try.ntmps131
  go_wp2_with (go_at_call 62; refine (sline_none _ _ _ (.inl rfl)).mono ?_; rintro e w1 ⟨rfl, hb1⟩)
  go_ret
  exact ⟨rfl, ((Below.refl _ _).alloc (Nat.le_refl _) _).trans (hb1.mono (by simp))⟩

theorem seligible_nil (y : Int) (w : World) :
    Calls Try.prog 132 #[.agg #[.pointer none], .int .u64 y] w fun e w' => e = .returned (.int .u64 (nev y)) ∧ Below w.heap.size w w' := by
  go_enter Try.func132, Try.ntmps132
  go_wp2_with (go_at_call 63; refine (sahead_none _ _ _ (.inl rfl) (fun g h => by cases h)).mono ?_; rintro e w1 ⟨rfl, hb1⟩)
  go_ret
  exact ⟨rfl, ((Below.refl _ _).alloc (Nat.le_refl _) _).trans (hb1.mono (by simp))⟩

theorem rreach_none (p : Option Addr) (y : Int) (w : World) (h : RNone w p) :
    Calls Try.prog 38 #[.pointer p, .int .u64 y] w fun e w' => e = .returned (.int .u64 (nev y)) ∧ Below w.heap.size w w' := by
  go_enter Try.func38, Try.ntmps38
  go_wp2_with (first
    | (go_at_call 44; refine (of_none' _ _ h).mono ?_; rintro e w' ⟨rfl, rfl⟩)
    | (go_at_call 60; refine (sreach_none _ _ _ (.inl rfl)).mono ?_; rintro e w1 ⟨rfl, hb1⟩))
  go_ret
  exact ⟨rfl, hb1⟩

theorem rat_none (p : Option Addr) (t : Int) (w : World) (h : RNone w p) :
    Calls Try.prog 36 #[.pointer p, .int .u64 t] w fun e w' => e = .returned (.int .u64 0) ∧ Below w.heap.size w w' := by
  go_enter Try.func36, Try.ntmps36
  go_wp2_with (first
    | (go_at_call 44; refine (of_none' _ _ h).mono ?_; rintro e w' ⟨rfl, rfl⟩)
    | (go_at_call 58; refine (sat_none _ _ _ (.inl rfl)).mono ?_; rintro e w1 ⟨rfl, hb1⟩))
  go_ret
  exact ⟨rfl, hb1⟩

theorem rahead_none (p : Option Addr) (t : Int) (w : World) (h : RNone w p) :
    Calls Try.prog 40 #[.pointer p, .int .u64 t] w fun e w' => e = .returned (.int .u64 0) ∧ Below w.heap.size w w' := by
  go_enter Try.func40, Try.ntmps40
  go_wp2_with (first
    | (go_at_call 44; refine (of_none' _ _ h).mono ?_; rintro e w' ⟨rfl, rfl⟩)
    | (go_at_call 131; refine (sahead_nil _ _).mono ?_; rintro e w1 ⟨rfl, hb1⟩))
  go_ret
  exact ⟨rfl, hb1⟩

theorem religible_none (p : Option Addr) (y : Int) (w : World) (h : RNone w p) :
    Calls Try.prog 42 #[.pointer p, .int .u64 y] w fun e w' => e = .returned (.int .u64 (nev y)) ∧ Below w.heap.size w w' := by
  go_enter Try.func42, Try.ntmps42
  go_wp2_with (first
    | (go_at_call 44; refine (of_none' _ _ h).mono ?_; rintro e w' ⟨rfl, rfl⟩)
    | (go_at_call 132; refine (seligible_nil _ _).mono ?_; rintro e w1 ⟨rfl, hb1⟩))
  go_ret
  exact ⟨rfl, hb1⟩

theorem rlast_none (p : Option Addr) (w : World) (h : RNone w p) :
    Calls Try.prog 31 #[.pointer p] w fun e w' => e = .returned (.tuple #[.int .u64 0, .bool false]) ∧ w = w' := by
  go_enter Try.func31, Try.ntmps31
  go_wp2_with (first
    | (go_at_call 44; refine (of_none' _ _ h).mono ?_; rintro e w' ⟨rfl, rfl⟩)
    | (go_at_call 52; refine (slast_none _ _ (.inl rfl)).mono ?_; rintro e w' ⟨rfl, rfl⟩))
  go_ret2
  exact ⟨rfl, rfl⟩

theorem rmany_none (p : Option Addr) (w : World) (h : RNone w p) :
    Calls Try.prog 34 #[.pointer p] w fun e w' => e = .returned (.int .i64 0) ∧ w = w' := by
  go_enter Try.func34, Try.ntmps34
  go_wp2_with (first
    | (go_at_call 44; refine (of_none' _ _ h).mono ?_; rintro e w' ⟨rfl, rfl⟩)
    | (go_at_call 55; refine (sstarts_none _ _ (.inl rfl)).mono ?_; rintro e w' ⟨rfl, rfl⟩))
  go_ret
  exact ⟨rfl, rfl⟩

theorem rstart_none (p : Option Addr) (x y : Int) (w : World) (h : RNone w p) :
    Calls Try.prog 10 #[.pointer p, .int .u64 x, .int .u64 y] w fun e w' => e = .returned (.tuple #[]) ∧ w = w' := by
  go_enter Try.func10, Try.ntmps10
  go_wp2_with (first
    | (go_at_call 44; refine (of_none' _ _ h).mono ?_; rintro e w' ⟨rfl, rfl⟩)
    | (go_at_call 26; refine (sstart_nil _ _ _).mono ?_; rintro e w' ⟨rfl, rfl⟩))
  go_returns
  exact ⟨rfl, rfl⟩

theorem rcurve_none (p : Option Addr) (w : World) (h : RNone w p) :
    Calls Try.prog 33 #[.pointer p] w fun e w' => e = .returned (.agg #[.int .u64 0, .int .u64 0, .int .u64 0]) ∧ Below w.heap.size w w' := by
  rcases h with rfl | ⟨g, rfl, hg⟩
  · go_enter Try.func33, Try.ntmps33
    go_wp2
    go_returns
    exact ⟨rfl, by go_grown⟩
  · have c0 := hg.cell 0; have c1 := hg.cell 1; have c2 := hg.cell 2
    have hlt := hg.lt
    simp only [List.getElem?_toArray, List.getElem?_cons_zero, List.getElem?_cons_succ] at c0 c1 c2
    go_enter Try.func33, Try.ntmps33
    go_wp2
    go_returns
    exact ⟨rfl, by go_grown⟩

theorem rcopy_nil (w : World) :
    Calls Try.prog 8 #[.pointer none] w fun e w' => e = .returned (.pointer none) ∧ w = w' := by
  go_enter Try.func8, Try.ntmps8
  go_wp2
  go_ret
  exact ⟨rfl, rfl⟩

end Go.Proofs.Ytipiajnaechadaa
