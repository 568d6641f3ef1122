/-
  A tree of classes: how deep a class under a parent would stand; the path of a class.
-/
import Derived.Test.YtclhhegfffccgaaGreatHIds
import Derived.ScopeJumps
import Derived.WalkMore
namespace Go.Proofs.YtclhhegfffccgaaGreat
set_option linter.unusedVariables false
open Go.RowKit Go.Maps Go.Sort Go.Shelf
attribute [local go_sem ↓] Go.wp_at_zero Go.wp_at_succ
attribute [local go_sem] quietR quietAtR quietUponR midAt midUpon

theorem depth_cases {M : Mp} (h : InvT M) {pa : Int} (h0 : pa ≠ 0) : (lookM M pa = none ∧ depthM M pa = 0) ∨ ∃ c, lookM M pa = some c ∧ 1 ≤ c.2 ∧ c.2 ≤ 8 ∧ ((c.1.lf = true ∧ depthM M pa = 0) ∨ (c.1.lf = false ∧ 8 ≤ c.2 ∧ depthM M pa = 0) ∨ (c.1.lf = false ∧ ¬ 8 ≤ c.2 ∧ depthM M pa = c.2 + 1)) := by
  cases e : lookM M pa with
  | none => left; exact ⟨rfl, by unfold depthM; rw [if_neg h0, e]⟩
  | some c =>
    right
    have o := h.ok _ _ e
    refine ⟨c, rfl, o.d1, o.d8, ?_⟩
    have hd : depthM M pa = if c.1.lf = true ∨ 8 ≤ c.2 then 0 else c.2 + 1 := by unfold depthM; rw [if_neg h0, e]
    rw [hd]
    cases hl : c.1.lf
    · by_cases h8 : 8 ≤ c.2
      · exact .inr (.inl ⟨rfl, h8, by simp [h8]⟩)
      · exact .inr (.inr ⟨rfl, h8, by simp [h8]⟩)
    · exact .inl ⟨rfl, by simp⟩
set_option maxRecDepth 100000 in
set_option maxHeartbeats 4000000 in
theorem tdepth_any (pa : Int) (base g ma mu : Nat) (U : List (Int × Value)) (M : Mp) (w : World) (hid : (Lit.int .i64 pa).wf = true) (h : TreeX w base g ma mu U M) :
    Calls Tryz.prog 28 #[.pointer (some ⟨g, 0, none⟩), .int .i64 pa] w fun e w' => e = .returned (.int .i64 (depthM M pa)) ∧ Below w.heap.size w w' := by
  by_cases h0 : pa = 0
  · subst h0
    have hd : depthM M 0 = 1 := by unfold depthM; simp
    have HD := Lib.hid hd
    clear h hd
    go_enter Tryz.func28, Tryz.ntmps28
    go_wp2_with fail
    go_ret
    exact ⟨by rw [HD.out]; rfl, Below.refl _ _⟩
  · have hlook := h.look hid
    have y0 := h.blk.cell 0
    simp only [List.getElem?_toArray, List.getElem?_cons_zero, List.getElem?_cons_succ] at y0
    have hcs := depth_cases h.inv h0
    clear h
    have h0b : (pa == 0) = false := by simpa using h0
    rcases hcs with ⟨e, hd⟩ | ⟨c, e, hd1, hd8, hcs⟩
    · rw [e] at hlook
      unfold clV clC cl0 sp0 at hlook
      dsimp only [Option.getD, Option.isSome] at hlook
      have HD := Lib.hid hd
      clear hd e
      go_enter Tryz.func28, Tryz.ntmps28
      go_wp2_with fail
      go_ret
      exact ⟨by rw [HD.out]; rfl, by go_grown⟩
    · rw [e] at hlook
      obtain ⟨⟨i1, i2, i3, ⟨F1, L1, R1⟩, ⟨F2, L2, R2⟩, ⟨F3, L3, R3⟩, i4, i5⟩, d⟩ := c
      unfold clV clC at hlook
      dsimp only [Option.getD, Option.isSome] at hlook hcs hd1 hd8
      clear e
      rcases hcs with ⟨rfl, hd⟩ | ⟨rfl, h8, hd⟩ | ⟨rfl, h8, hd⟩
      all_goals
        have HD := Lib.hid hd
        clear hd
        go_enter Tryz.func28, Tryz.ntmps28
        go_wp2_with fail
        go_ret
        exact ⟨by rw [HD.out]; first | rfl | simp, by go_grown⟩
end Go.Proofs.YtclhhegfffccgaaGreat
