/-
  Specs of classes: their shape, in plain words. (Printed by wip/mkhspec.py.)
-/
import Derived.Test.YtclhhegfffccgaaGreatBelow
import Derived.BigQuiet
namespace Go.Proofs.YtclhhegfffccgaaGreat
set_option linter.unusedVariables false
open Go.RowKit
attribute [local go_sem ↓] Go.wp_at_zero Go.wp_at_succ
attribute [local go_sem] quietR quietAtR quietUponR midAt midUpon

/-- a class's spec -/
structure Sp where
  id : Int
  pa : Int
  lf : Bool
  r : Cv
  s : Cv
  u : Cv
  pk : Int
  by_ : Int
def spC (s : Sp) : Array Value := #[.int .i64 s.id, .int .i64 s.pa, .bool s.lf, .int .u64 s.r.1, .int .u64 s.r.2.1, .int .u64 s.r.2.2, .int .u64 s.s.1, .int .u64 s.s.2.1, .int .u64 s.s.2.2, .int .u64 s.u.1, .int .u64 s.u.2.1, .int .u64 s.u.2.2, .int .i64 s.pk, .int .i64 s.by_]
def spV (s : Sp) : Value := .agg (spC s)
def UC (c : Cv) : Prop := U c.1 ∧ U c.2.1 ∧ U c.2.2
def WfSp (s : Sp) : Prop := ((Lit.int .i64 s.id).wf = true ∧ (Lit.int .i64 s.pa).wf = true ∧ (Lit.int .i64 s.pk).wf = true ∧ (Lit.int .i64 s.by_).wf = true) ∧ UC s.r ∧ UC s.s ∧ UC s.u
def noneB (c : Cv) : Bool := decide (c = (0, 0, 0))
def inB (n a b : Int) : Bool := decide (a ≤ n) && decide (n ≤ b)
def namedB (s : Sp) : Bool := inB s.id 1 65535 && inB s.pa 0 65535 && (s.id != s.pa)
def curvesB (s : Sp) : Bool := okC s.r && okC s.s && okC s.u
def kindB (s : Sp) : Int := if s.lf = false then 4 else if noneB s.r = false then (if noneB s.s = false then 3 else 1) else (if noneB s.s = false then 2 else 0)
def shapedB (s : Sp) : Bool := if s.lf then (!(noneB s.r && noneB s.s)) && inB s.pk 1 4096 && inB s.by_ 1 16777216 else noneB s.r && !noneB s.s && (s.pk == 0) && (s.by_ == 0)
def goesB (c : Cv) : Bool := noneB c || decide (0 < c.2.2)
def sharedB (s : Sp) : Bool := goesB s.s && goesB s.u && (noneB s.u || !noneB s.s)
noncomputable def underB (s : Sp) : Bool := noneB s.r || noneB s.u || decide (BelowP s.r s.u)
noncomputable def mayS (s : Sp) : Bool := namedB s && curvesB s && shapedB s && sharedB s && underB s

/-- a value in a box of its own -/
def BxAt (w W : World) (t : TypeId) (cs : Array Value) : Prop := Blk W w.heap.size t cs ∧ Below w.heap.size w W
theorem BxAt.new (w : World) (t : TypeId) (cs : Array Value) : BxAt w (w.alloc (.cells cs t)) t cs := ⟨Blk.new w t cs, (Below.refl w.heap.size w).alloc (Nat.le_refl _) _⟩
theorem BxAt.step {w W W' : World} {t : TypeId} {cs : Array Value} (h : BxAt w W t cs) (hb : Below W.heap.size W W') : BxAt w W' t cs := ⟨h.1.below hb h.1.lt, h.2.trans (hb.mono h.2.size)⟩

theorem cnone_any (F L R : Int) (w : World) :
    Calls Tryz.prog 70 #[.agg #[.int .u64 F, .int .u64 L, .int .u64 R]] w fun e w' => e = .returned (.bool (noneB (F, L, R))) ∧ Below w.heap.size w w' := by
  unfold noneB
  by_cases h1 : F = 0
  · by_cases h2 : L = 0
    · by_cases h3 : R = 0
      · subst h1 h2 h3
        go_enter Tryz.func70, Tryz.ntmps70
        go_wp2
        go_ret
        exact ⟨rfl, by go_grown⟩
      · go_enter Tryz.func70, Tryz.ntmps70
        go_wp2
        go_ret
        exact ⟨by simp [h3], by go_grown⟩
    · go_enter Tryz.func70, Tryz.ntmps70
      go_wp2
      go_ret
      exact ⟨by simp [h2], by go_grown⟩
  · go_enter Tryz.func70, Tryz.ntmps70
    go_wp2
    go_ret
    exact ⟨by simp [h1], by go_grown⟩
theorem in_any (n a b : Int) (w : World) :
    Calls Tryz.prog 67 #[.int .i64 n, .int .i64 a, .int .i64 b] w fun e w' => e = .returned (.bool (inB n a b)) ∧ w = w' := by
  by_cases h1 : a ≤ n
  · by_cases h2 : n ≤ b
    · have E := Lib.hid (show inB n a b = true by simp [inB, h1, h2])
      go_enter Tryz.func67, Tryz.ntmps67
      go_wp2
      go_ret
      exact ⟨by rw [E.out]; rfl, rfl⟩
    · have E := Lib.hid (show inB n a b = false by simp [inB, h1, h2])
      go_enter Tryz.func67, Tryz.ntmps67
      go_wp2
      go_ret
      exact ⟨by rw [E.out]; rfl, rfl⟩
  · have E := Lib.hid (show inB n a b = false by simp [inB, h1])
    go_enter Tryz.func67, Tryz.ntmps67
    go_wp2
    go_ret
    exact ⟨by rw [E.out]; rfl, rfl⟩

theorem goes_any (F L R : Int) (w : World) :
    Calls Tryz.prog 71 #[.agg #[.int .u64 F, .int .u64 L, .int .u64 R]] w fun e w' => e = .returned (.bool (goesB (F, L, R))) ∧ Below w.heap.size w w' := by
  have hc := fun w => cnone_any F L R w
  unfold goesB
  generalize noneB (F, L, R) = b at hc ⊢
  dsimp only
  have H := Lib.hid (BxAt.new w 34 #[.int .u64 F, .int .u64 L, .int .u64 R])
  have k0 := H.out.1.cell 0; have k1 := H.out.1.cell 1; have k2 := H.out.1.cell 2; simp only [List.getElem?_toArray, List.getElem?_cons_zero, List.getElem?_cons_succ] at k0 k1 k2
  cases b
  · by_cases h : 0 < R
    · go_enter Tryz.func71, Tryz.ntmps71
      go_wp2_with (go_at_call 70; (with_reducible refine (hc _).mono ?_); rintro e W1 ⟨rfl, hb⟩; have H2 := Lib.hid (BxAt.step H.out hb); clear H hb; clear k0 k1 k2; have H := Lib.hid H2.out; clear H2; have k0 := H.out.1.cell 0; have k1 := H.out.1.cell 1; have k2 := H.out.1.cell 2; simp only [List.getElem?_toArray, List.getElem?_cons_zero, List.getElem?_cons_succ] at k0 k1 k2)
      go_ret
      exact ⟨by simp [h], H.out.2⟩
    · go_enter Tryz.func71, Tryz.ntmps71
      go_wp2_with (go_at_call 70; (with_reducible refine (hc _).mono ?_); rintro e W1 ⟨rfl, hb⟩; have H2 := Lib.hid (BxAt.step H.out hb); clear H hb; clear k0 k1 k2; have H := Lib.hid H2.out; clear H2; have k0 := H.out.1.cell 0; have k1 := H.out.1.cell 1; have k2 := H.out.1.cell 2; simp only [List.getElem?_toArray, List.getElem?_cons_zero, List.getElem?_cons_succ] at k0 k1 k2)
      go_ret
      exact ⟨by simp [h], H.out.2⟩
  · go_enter Tryz.func71, Tryz.ntmps71
    go_wp2_with (go_at_call 70; (with_reducible refine (hc _).mono ?_); rintro e W1 ⟨rfl, hb⟩; have H2 := Lib.hid (BxAt.step H.out hb); clear H hb; clear k0 k1 k2; have H := Lib.hid H2.out; clear H2; have k0 := H.out.1.cell 0; have k1 := H.out.1.cell 1; have k2 := H.out.1.cell 2; simp only [List.getElem?_toArray, List.getElem?_cons_zero, List.getElem?_cons_succ] at k0 k1 k2)
    go_ret
    exact ⟨by simp, H.out.2⟩
end Go.Proofs.YtclhhegfffccgaaGreat
