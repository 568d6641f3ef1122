/-
  The contracts of a sagging run without copies: a nil one, or one of which none started.
-/
import Derived.Test.YtipiajnaechadaaReg
namespace Go.Proofs.Ytipiajnaechadaa
set_option linter.unusedVariables false
open Go.RowKit

/-- when a run without copies has y -/
def nev (y : Int) : Int := if y = 0 then 0 else 9223372036854775808

/-- p leads to a run without copies -/
def NoneAt (w : World) (p : Option Addr) : Prop := p = none ∨ ∃ g, p = some ⟨g, 0, none⟩ ∧ g < w.heap.size ∧ w.cell? ⟨g, 4, none⟩ = some (.int .i64 0)

theorem NoneAt.below {w w' : World} {p : Option Addr} (h : NoneAt w p) (hb : Below w.heap.size w w') : NoneAt w' p := by
  rcases h with rfl | ⟨g, rfl, hg, hc⟩
  · exact .inl rfl
  · exact .inr ⟨g, rfl, Nat.lt_of_lt_of_le hg hb.size, (hb.cell (p := ⟨g, 4, none⟩) hg).trans hc⟩

theorem snone_yes (p : Option Addr) (w : World) (h : NoneAt w p) :
    Calls Try.prog 67 #[.pointer p] w fun e w' => e = .returned (.bool true) ∧ w = w' := by
  rcases h with rfl | ⟨g, rfl, hg, hc⟩
  · go_enter Try.func67, Try.ntmps67
    go_wp2
    go_ret
    exact ⟨rfl, rfl⟩
  · go_enter Try.func67, Try.ntmps67
    go_wp2
    go_ret
    exact ⟨rfl, rfl⟩

theorem slast_none (p : Option Addr) (w : World) (h : NoneAt w p) :
    Calls Try.prog 52 #[.pointer p] w fun e w' => e = .returned (.tuple #[.int .u64 0, .bool false]) ∧ w = w' := by
  go_enter Try.func52, Try.ntmps52
  go_wp2_with (go_at_call 67; refine (snone_yes _ _ h).mono ?_; rintro e w' ⟨rfl, rfl⟩)
  go_ret2
  exact ⟨rfl, rfl⟩

theorem sstarts_none (p : Option Addr) (w : World) (h : NoneAt w p) :
    Calls Try.prog 55 #[.pointer p] w fun e w' => e = .returned (.int .i64 0) ∧ w = w' := by
  go_enter Try.func55, Try.ntmps55
  go_wp2_with (go_at_call 67; refine (snone_yes _ _ h).mono ?_; rintro e w' ⟨rfl, rfl⟩)
  go_ret
  exact ⟨rfl, rfl⟩

theorem slastof_none (p : Option Addr) (y : Int) (f : Value) (w : World) (h : NoneAt w p) :
    Calls Try.prog 74 #[.pointer p, .int .u64 y, f] w fun e w' => e = .returned (.int .u64 (nev y)) ∧ w = w' := by
  by_cases hy : y = 0
  · subst hy
    go_enter Try.func74, Try.ntmps74
    go_wp2_with (go_at_call 67; refine (snone_yes _ _ h).mono ?_; rintro e w' ⟨rfl, rfl⟩)
    go_ret
    exact ⟨rfl, rfl⟩
  · have hy0 : (y == 0) = false := by simpa using hy
    have E := Lib.hid (show nev y = 9223372036854775808 by unfold nev; rw [if_neg hy])
    clear hy
    go_enter Try.func74, Try.ntmps74
    go_wp2_with (go_at_call 67; refine (snone_yes _ _ h).mono ?_; rintro e w' ⟨rfl, rfl⟩)
    go_ret
    exact ⟨ret_int E.out.symm, rfl⟩

theorem sreach_none (p : Option Addr) (y : Int) (w : World) (h : NoneAt w p) :
    Calls Try.prog 60 #[.pointer p, .int .u64 y] w fun e w' => e = .returned (.int .u64 (nev y)) ∧ Below w.heap.size w w' := by
  have h1 := h.below ((Below.refl _ w).alloc (Nat.le_refl _) (.cells #[.pointer p] 47))
  go_enter Try.func60, Try.ntmps60
  go_wp2_with (go_at_call 74; refine (slastof_none _ _ _ _ h1).mono ?_; rintro e w' ⟨rfl, rfl⟩)
  go_ret
  exact ⟨rfl, by go_grown⟩

theorem sahead_none (p : Option Addr) (y : Int) (w : World) (h : NoneAt w p) (hr : ∀ g, p = some ⟨g, 0, none⟩ → ∃ R, w.cell? ⟨g, 2, none⟩ = some (.int .u64 R)) :
    Calls Try.prog 63 #[.pointer p, .int .u64 y] w fun e w' => e = .returned (.int .u64 (nev y)) ∧ Below w.heap.size w w' := by
  have hb0 : Below w.heap.size w (w.alloc (.cells #[.int .u64 0] 22)) := (Below.refl _ w).alloc (Nat.le_refl _) _
  rcases h with rfl | ⟨g, rfl, hg, hc⟩
  · clear hr
    go_enter Try.func63, Try.ntmps63
    go_wp2_with (go_at_call 74; refine (slastof_none _ _ _ _ (.inl rfl)).mono ?_; rintro e w' ⟨rfl, rfl⟩)
    go_ret
    exact ⟨rfl, by go_grown⟩
  · obtain ⟨R, hR⟩ := hr g rfl
    clear hr
    have hN : NoneAt (w.alloc (.cells #[.int .u64 R] 22)) (some ⟨g, 0, none⟩) := NoneAt.below (.inr ⟨g, rfl, hg, hc⟩) ((Below.refl _ w).alloc (Nat.le_refl _) _)
    go_enter Try.func63, Try.ntmps63
    go_wp2_with (go_at_call 74; refine (slastof_none _ _ _ _ hN).mono ?_; rintro e w' ⟨rfl, rfl⟩)
    go_ret
    exact ⟨rfl, by go_grown⟩

theorem sleast_none (p : Option Addr) (t : Int) (f : Value) (w : World) (h : NoneAt w p) :
    Calls Try.prog 69 #[.pointer p, .int .u64 t, f] w fun e w' => e = .returned (.int .u64 0) ∧ w = w' := by
  go_enter Try.func69, Try.ntmps69
  go_wp2_with (go_at_call 67; refine (snone_yes _ _ h).mono ?_; rintro e w' ⟨rfl, rfl⟩)
  go_ret
  exact ⟨rfl, rfl⟩

theorem sat_none (p : Option Addr) (t : Int) (w : World) (h : NoneAt w p) :
    Calls Try.prog 58 #[.pointer p, .int .u64 t] w fun e w' => e = .returned (.int .u64 0) ∧ Below w.heap.size w w' := by
  have h1 := h.below ((Below.refl _ w).alloc (Nat.le_refl _) (.cells #[.pointer p] 47))
  go_enter Try.func58, Try.ntmps58
  go_wp2_with (go_at_call 69; refine (sleast_none _ _ _ _ h1).mono ?_; rintro e w' ⟨rfl, rfl⟩)
  go_ret
  exact ⟨rfl, by go_grown⟩

theorem sline_none (p : Option Addr) (t : Int) (w : World) (h : NoneAt w p) :
    Calls Try.prog 62 #[.pointer p, .int .u64 t] w fun e w' => e = .returned (.int .u64 0) ∧ Below w.heap.size w w' := by
  have h1 := h.below ((Below.refl _ w).alloc (Nat.le_refl _) (.cells #[.pointer p] 47))
  go_enter Try.func62, Try.ntmps62
  go_wp2_with (go_at_call 69; refine (sleast_none _ _ _ _ h1).mono ?_; rintro e w' ⟨rfl, rfl⟩)
  go_ret
  exact ⟨rfl, by go_grown⟩

theorem sstart_nil (x y : Int) (w : World) :
    Calls Try.prog 26 #[.pointer none, .int .u64 x, .int .u64 y] w fun e w' => e = .returned (.tuple #[]) ∧ w = w' := by
  go_enter Try.func26, Try.ntmps26
  go_wp2
  go_step3
  go_wp2
  rw [Exit.noGoto_ret]
  go_returns
  exact ⟨rfl, rfl⟩

theorem sstart_unmade (g : Nat) (x y : Int) (w : World) (hc : w.cell? ⟨g, 3, none⟩ = some (.bool false)) :
    Calls Try.prog 26 #[.pointer (some ⟨g, 0, none⟩), .int .u64 x, .int .u64 y] w fun e w' => e = .returned (.tuple #[]) ∧ w = w' := by
  go_enter Try.func26, Try.ntmps26
  go_wp2
  go_step3
  go_wp2
  rw [Exit.noGoto_ret]
  go_returns
  exact ⟨rfl, rfl⟩

theorem scopy_nil (w : World) :
    Calls Try.prog 24 #[.pointer none] w fun e w' => e = .returned (.pointer none) ∧ w = w' := by
  go_enter Try.func24, Try.ntmps24
  go_wp2
  go_ret
  exact ⟨rfl, rfl⟩

theorem skept_none (p : Option Addr) (w : World) (h : NoneAt w p) :
    Calls Try.prog 56 #[.pointer p] w fun e w' => e = .returned (.int .i64 0) ∧ w = w' := by
  go_enter Try.func56, Try.ntmps56
  go_wp2_with (go_at_call 67; refine (snone_yes _ _ h).mono ?_; rintro e w' ⟨rfl, rfl⟩)
  go_ret
  exact ⟨rfl, rfl⟩

end Go.Proofs.Ytipiajnaechadaa
