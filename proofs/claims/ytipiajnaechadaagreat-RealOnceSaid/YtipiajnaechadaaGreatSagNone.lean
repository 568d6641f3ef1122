/-
  The contracts of a sagging run without copies: a nil one, or one of which none started.
-/
import Derived.Test.YtipiajnaechadaaGreatReg
namespace Go.Proofs.YtipiajnaechadaaGreat
set_option linter.unusedVariables false
open Go.RowKit

/-- when a run without copies has y -/
def nev (y : Int) : Int := if y = 0 then 0 else 9223372036854775808

/-- p leads to a run without copies -/
def NoneAt (w : World) (p : Option Addr) : Prop := p = none ∨ ∃ g, p = some ⟨g, 0, none⟩ ∧ g < w.heap.size ∧ w.cell? ⟨g, 4, none⟩ = some (.int .i64 0)

theorem NoneAt.below {w w' : World} {p : Option Addr} (h : NoneAt w p) (hb : Below w.heap.size w w') : NoneAt w' p := by
  rcases h with rfl | ⟨g, rfl, hg, hc⟩
  · exact .inl rfl
  · exact .inr ⟨g, rfl, Nat.lt_of_lt_of_le hg hb.size, (hb.cell (p := ⟨g, 4, none⟩) hg).trans hc⟩

theorem snone_yes (p : Option Addr) (w : World) (h : NoneAt w p) :
    Calls Tryz.prog 114 #[.pointer p] w fun e w' => e = .returned (.bool true) ∧ w = w' := by
  rcases h with rfl | ⟨g, rfl, hg, hc⟩
  · go_enter Tryz.func114, Tryz.ntmps114
    go_wp2
    go_ret
    exact ⟨rfl, rfl⟩
  · go_enter Tryz.func114, Tryz.ntmps114
    go_wp2
    go_ret
    exact ⟨rfl, rfl⟩

theorem slastof_none (p : Option Addr) (y : Int) (f : Value) (w : World) (h : NoneAt w p) :
    Calls Tryz.prog 107 #[.pointer p, .int .u64 y, f] w fun e w' => e = .returned (.int .u64 (nev y)) ∧ w = w' := by
  by_cases hy : y = 0
  · subst hy
    go_enter Tryz.func107, Tryz.ntmps107
    go_wp2_with (go_at_call 114; refine (snone_yes _ _ h).mono ?_; rintro e w' ⟨rfl, rfl⟩)
    go_ret
    exact ⟨rfl, rfl⟩
  · have hy0 : (y == 0) = false := by simpa using hy
    have E := Lib.hid (show nev y = 9223372036854775808 by unfold nev; rw [if_neg hy])
    clear hy
    go_enter Tryz.func107, Tryz.ntmps107
    go_wp2_with (go_at_call 114; refine (snone_yes _ _ h).mono ?_; rintro e w' ⟨rfl, rfl⟩)
    go_ret
    exact ⟨ret_int E.out.symm, rfl⟩

theorem sreach_none (p : Option Addr) (y : Int) (w : World) (h : NoneAt w p) :
    Calls Tryz.prog 101 #[.pointer p, .int .u64 y] w fun e w' => e = .returned (.int .u64 (nev y)) ∧ Below w.heap.size w w' := by
  have h1 := h.below ((Below.refl _ w).alloc (Nat.le_refl _) (.cells #[.pointer p] 71))
  go_enter Tryz.func101, Tryz.ntmps101
  go_wp2_with (go_at_call 107; refine (slastof_none _ _ _ _ h1).mono ?_; rintro e w' ⟨rfl, rfl⟩)
  go_ret
  exact ⟨rfl, by go_grown⟩

theorem sahead_none (p : Option Addr) (y : Int) (w : World) (h : NoneAt w p) (hr : ∀ g, p = some ⟨g, 0, none⟩ → ∃ R, w.cell? ⟨g, 2, none⟩ = some (.int .u64 R)) :
    Calls Tryz.prog 125 #[.pointer p, .int .u64 y] w fun e w' => e = .returned (.int .u64 (nev y)) ∧ Below w.heap.size w w' := by
  have hb0 : Below w.heap.size w (w.alloc (.cells #[.int .u64 0] 22)) := (Below.refl _ w).alloc (Nat.le_refl _) _
  rcases h with rfl | ⟨g, rfl, hg, hc⟩
  · clear hr
    go_enter Tryz.func125, Tryz.ntmps125
    go_wp2_with (go_at_call 107; refine (slastof_none _ _ _ _ (.inl rfl)).mono ?_; rintro e w' ⟨rfl, rfl⟩)
    go_ret
    exact ⟨rfl, by go_grown⟩
  · obtain ⟨R, hR⟩ := hr g rfl
    clear hr
    have hN : NoneAt (w.alloc (.cells #[.int .u64 R] 22)) (some ⟨g, 0, none⟩) := NoneAt.below (.inr ⟨g, rfl, hg, hc⟩) ((Below.refl _ w).alloc (Nat.le_refl _) _)
    go_enter Tryz.func125, Tryz.ntmps125
    go_wp2_with (go_at_call 107; refine (slastof_none _ _ _ _ hN).mono ?_; rintro e w' ⟨rfl, rfl⟩)
    go_ret
    exact ⟨rfl, by go_grown⟩

theorem sleast_none (p : Option Addr) (t : Int) (f : Value) (w : World) (h : NoneAt w p) :
    Calls Tryz.prog 104 #[.pointer p, .int .u64 t, f] w fun e w' => e = .returned (.int .u64 0) ∧ w = w' := by
  go_enter Tryz.func104, Tryz.ntmps104
  go_wp2_with (go_at_call 114; refine (snone_yes _ _ h).mono ?_; rintro e w' ⟨rfl, rfl⟩)
  go_ret
  exact ⟨rfl, rfl⟩

theorem sat_none (p : Option Addr) (t : Int) (w : World) (h : NoneAt w p) :
    Calls Tryz.prog 98 #[.pointer p, .int .u64 t] w fun e w' => e = .returned (.int .u64 0) ∧ Below w.heap.size w w' := by
  have h1 := h.below ((Below.refl _ w).alloc (Nat.le_refl _) (.cells #[.pointer p] 71))
  go_enter Tryz.func98, Tryz.ntmps98
  go_wp2_with (go_at_call 104; refine (sleast_none _ _ _ _ h1).mono ?_; rintro e w' ⟨rfl, rfl⟩)
  go_ret
  exact ⟨rfl, by go_grown⟩

theorem sstart_nil (x y : Int) (w : World) :
    Calls Tryz.prog 102 #[.pointer none, .int .u64 x, .int .u64 y] w fun e w' => e = .returned (.tuple #[]) ∧ w = w' := by
  go_enter Tryz.func102, Tryz.ntmps102
  go_wp2
  go_step3
  go_wp2
  rw [Exit.noGoto_ret]
  go_returns
  exact ⟨rfl, rfl⟩

theorem sstart_unmade (g : Nat) (x y : Int) (w : World) (hc : w.cell? ⟨g, 3, none⟩ = some (.bool false)) :
    Calls Tryz.prog 102 #[.pointer (some ⟨g, 0, none⟩), .int .u64 x, .int .u64 y] w fun e w' => e = .returned (.tuple #[]) ∧ w = w' := by
  go_enter Tryz.func102, Tryz.ntmps102
  go_wp2
  go_step3
  go_wp2
  rw [Exit.noGoto_ret]
  go_returns
  exact ⟨rfl, rfl⟩

theorem scopy_nil (w : World) :
    Calls Tryz.prog 126 #[.pointer none] w fun e w' => e = .returned (.pointer none) ∧ w = w' := by
  go_enter Tryz.func126, Tryz.ntmps126
  go_wp2
  go_ret
  exact ⟨rfl, rfl⟩


end Go.Proofs.YtipiajnaechadaaGreat
