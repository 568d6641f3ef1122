/- Lemmas of the claim, merged: Curve, Reach, Curves, Has, SagMem, SagNone, SagLeast, SagStart. No conditions beyond those that each states. -/
import Derived.Test.YtbnnkkojlclgjaaGreatEN1
import Derived.Test.YtbnnkkojlclgjaaGreatRegA
import Derived.OwnWalk
import Derived.Laws.OwnMore
import Derived.Lib.SliceRun
import Derived.Lib.Hide
import Derived.Test.YtbnnkkojlclgjaaGreatReg
import Derived.Test.YtbnnkkojlclgjaaGreatRegM
import Derived.Deep.AppendLies
import Derived.Deep.RegionHeld3
import Derived.Deep.DrawnRows
import Derived.Deep.RegionWith
import Derived.Deep.DeepCutAuto
/-
  The contracts of layer 3: what a curve has at a tick, and when it has so much.
-/
namespace Go.Proofs.YtbnnkkojlclgjaaGreat
set_option linter.unusedVariables false
open Go.RowKit Go.Shelf
attribute [local go_sem] Oper.semAt_some

theorem wide_depth {p : Prop} : Fence.wide.depth.isSome = true → p := fun h => by simp [Fence.wide] at h

theorem pieces_any (F L R : Int) (w : World) :
    Calls Tryz.prog 162 #[.agg #[.int .u64 F, .int .u64 L, .int .u64 R]] w fun e w' => e = .returned (.func (.func 165) #[] #[.pointer (some ⟨w.heap.size, 0, none⟩)]) ∧ w.alloc (.cells #[.int .u64 F, .int .u64 L, .int .u64 R] 31) = w' := by
  go_enter Tryz.func162, Tryz.ntmps162
  go_wp2
  go_ret
  exact ⟨rfl, rfl⟩

/-- a piece: two words -/
abbrev Pc := { x : Int × Int // U x.1 ∧ U x.2 }
theorem U_most : U 18446744073709551615 := ⟨by decide, by decide⟩
def piecesOf (F L R : Int) (hF : U F) (hL : U L) (hR : U R) : List Pc :=
  if 0 < L then [⟨(F, L), hF, hL⟩, ⟨(R, 18446744073709551615), hR, U_most⟩] else [⟨(R, 18446744073709551615), hR, U_most⟩]
/-- a block stays whole -/
def Stays (B : Nat) (W W' : World) : Prop := W'.heap[B]? = W.heap[B]?

theorem pieces_stops (n : Nat) (F L R : Int) (hF : U F) (hL' : U L) (hR : U R) (B : Nat) (w : World) (hB : B < w.heap.size)
    (c0 : w.cell? ⟨B, 0, none⟩ = some (.int .u64 F)) (c1 : w.cell? ⟨B, 1, none⟩ = some (.int .u64 L)) (c2 : w.cell? ⟨B, 2, none⟩ = some (.int .u64 R)) :
    SeqStopsK Fence.wide n Tryz.prog 165 #[.pointer (some ⟨B, 0, none⟩)] (fun x : Pc => #[.agg #[.int .u64 x.1.1, .int .u64 x.1.2]]) (Stays B)
      (fun xs => xs = piecesOf F L R hF hL' hR) (fun pre => pre = [⟨(F, L), hF, hL'⟩] ∧ 0 < L ∨ pre = piecesOf F L R hF hL' hR) 2 w := fun l J Jx W hW _ _ hY h0 => by
  have d0 : W.cell? ⟨B, 0, none⟩ = some (.int .u64 F) := (hW.cell (p := ⟨B, 0, none⟩) (by exact hB)).trans c0
  have d1 : W.cell? ⟨B, 1, none⟩ = some (.int .u64 L) := (hW.cell (p := ⟨B, 1, none⟩) (by exact hB)).trans c1
  have d2 : W.cell? ⟨B, 2, none⟩ = some (.int .u64 R) := (hW.cell (p := ⟨B, 2, none⟩) (by exact hB)).trans c2
  clear c0 c1 c2
  refine callsIn_of_wp Tryz.func165 rfl trivial ?_ rfl
  simp only [Tryz.ntmps165, List.size_toArray, List.length_cons, List.length_nil, Nat.reduceAdd, Nat.reduceSub, Array.replicate_succ, Array.replicate_zero, List.push_toArray, List.append_toArray, List.nil_append, List.cons_append]
  by_cases hL : 0 < L
  · have hp : piecesOf F L R hF hL' hR = [⟨(F, L), hF, hL'⟩, ⟨(R, 18446744073709551615), hR, U_most⟩] := by simp [piecesOf, hL]
    have HP := Lib.hid hp; clear hp
    obtain ⟨f1, t1, a1, b1, hy1, hR1⟩ := hY [] ⟨(F, L), hF, hL'⟩ W h0 (by simp)
    dsimp only at hy1
    gi_wp2
    refine ⟨wide_depth, hR1.mono ?_⟩
    rintro e W1 (⟨rfl, hJ1, hk1⟩ | ⟨rfl, hx1⟩)
    · have k2 : W1.cell? ⟨B, 2, none⟩ = some (.int .u64 R) := (World.cell?_of_block (w := W) (w' := W1) (a := ⟨B, 2, none⟩) hk1).trans d2
      obtain ⟨f2, t2, a2, b2, hy2, hR2⟩ := hY [⟨(F, L), hF, hL'⟩] ⟨(R, 18446744073709551615), hR, U_most⟩ W1 hJ1 (by simp)
      dsimp only at hy2
      gi_wp2
      refine ⟨wide_depth, hR2.mono ?_⟩
      rintro e W2 (⟨rfl, hJ2, _⟩ | ⟨rfl, hx2⟩)
      · gi_wp2
        go_end0
        exact ⟨⟨_, rfl⟩, .inl ⟨_, HP.out.symm, hJ2⟩⟩
      · gi_wp2
        go_end0
        exact ⟨⟨_, rfl⟩, .inr ⟨_, .inr HP.out.symm, hx2⟩⟩
    · gi_wp2
      refine bodyPost_ret (results_none rfl _ _ _) rfl ?_
      exact ⟨⟨_, rfl⟩, .inr ⟨_, .inl ⟨rfl, hL⟩, hx1⟩⟩
  · have hp : piecesOf F L R hF hL' hR = [⟨(R, 18446744073709551615), hR, U_most⟩] := by simp [piecesOf, hL]
    have HP := Lib.hid hp; clear hp
    obtain ⟨f2, t2, a2, b2, hy2, hR2⟩ := hY [] ⟨(R, 18446744073709551615), hR, U_most⟩ W h0 (by simp)
    dsimp only at hy2
    gi_wp2
    refine ⟨fun _ h => (by cases h), ?_⟩
    gi_wp2
    refine ⟨wide_depth, hR2.mono ?_⟩
    rintro e W2 (⟨rfl, hJ2, _⟩ | ⟨rfl, hx2⟩)
    · gi_wp2
      go_end0
      exact ⟨⟨_, rfl⟩, .inl ⟨_, HP.out.symm, hJ2⟩⟩
    · gi_wp2
      go_end0
      exact ⟨⟨_, rfl⟩, .inr ⟨_, .inr HP.out.symm, hx2⟩⟩

/-- what curve.At's loop has behind some pieces: the sum, and the ticks that are left -/
def stepC (p : Int × Int) (x : Pc) : Int × Int := (cap (p.1 + cap (x.1.1 * min p.2 x.1.2)), p.2 - min p.2 x.1.2)
def acc (t : Int) (l : List Pc) : Int × Int := l.foldl stepC (0, t)
theorem acc_snoc (t : Int) (l : List Pc) (x : Pc) : acc t (l ++ [x]) = stepC (acc t l) x := by simp [acc]
theorem U_min {a b : Int} (ha : U a) (hb : U b) : U (min a b) := by unfold U at *; omega
theorem U_step {p : Int × Int} {x : Pc} (h1 : U p.1) (h2 : U p.2) : U (stepC p x).1 ∧ U (stepC p x).2 := by
  have h3 := U_min h2 x.2.2
  have h4 := Int.mul_nonneg x.2.1.1 h3.1
  have h5 := cap_nonneg h4
  refine ⟨U_cap ?_, ?_⟩
  · have := h1.1; omega
  · have := h2.1; have := h2.2; have := x.2.2.1; unfold U stepC; simp only; omega
theorem U_acc {t : Int} (ht : U t) (l : List Pc) : U (acc t l).1 ∧ U (acc t l).2 := by
  unfold acc
  suffices h : ∀ (l : List Pc) (p : Int × Int), U p.1 → U p.2 → U (l.foldl stepC p).1 ∧ U (l.foldl stepC p).2 from h l _ (show U 0 from ⟨by decide, by decide⟩) ht
  intro l
  induction l with
  | nil => intro p h1 h2; exact ⟨h1, h2⟩
  | cons x l ih => intro p h1 h2; exact ih _ (U_step h1 h2).1 (U_step h1 h2).2

theorem keeps_of_below {W W' : World} (h : Below W.heap.size W W') : KeepsOthers W W' :=
  ⟨h.size, fun k _ hk _ => (h.block k (Array.getElem?_eq_some_iff.1 hk).1).trans hk⟩
theorem stays_own {β : Type} {B n₀ : Nat} {w₀ : World} (hB : B < n₀) : OwnFrom n₀ (fun (_ : β) W => Stays B w₀ W ∧ n₀ ≤ W.heap.size) :=
  fun _ _ _ _ hs hg hr => ⟨(hg.block B (by omega) (fun e => by have := (hr B e.symm).1; omega)).trans hs.1, Nat.le_trans hs.2 hg.size⟩

end Go.Proofs.YtbnnkkojlclgjaaGreat
/-
  The contract of curve.Reach: the loop over the pieces.
-/
namespace Go.Proofs.YtbnnkkojlclgjaaGreat
set_option linter.unusedVariables false
open Go.RowKit Go.Shelf
attribute [local go_sem] Oper.semAt_some

/-- what curve.Reach's loop tells, from a tick on, of what is still to be reached -/
def reachL (n y : Int) : List Pc → Option Int
  | [] => none
  | x :: l => if y ≤ cap (x.1.1 * x.1.2) then some (if y = 0 then n else IntKind.u64.wrap (n + cap (ceil y x.1.1))) else reachL (IntKind.u64.wrap (n + x.1.2)) (y - cap (x.1.1 * x.1.2)) l

theorem reachL_stop {n y : Int} {x : Pc} {l : List Pc} (h : y ≤ cap (x.1.1 * x.1.2)) (h0 : y ≠ 0) : reachL n y (x :: l) = some (IntKind.u64.wrap (n + cap (ceil y x.1.1))) := by
  rw [reachL, if_pos h, if_neg h0]
theorem reachL_zero {n : Int} {x : Pc} {l : List Pc} : reachL n 0 (x :: l) = some n := by
  rw [reachL, if_pos (cap_nonneg (Int.mul_nonneg x.2.1.1 x.2.2.1)), if_pos rfl]
theorem reachL_go {n y : Int} {x : Pc} {l : List Pc} (h : cap (x.1.1 * x.1.2) < y) : reachL n y (x :: l) = reachL (IntKind.u64.wrap (n + x.1.2)) (y - cap (x.1.1 * x.1.2)) l := by
  rw [reachL, if_neg (by omega)]

theorem U_wrap (x : Int) : U (IntKind.u64.wrap x) := by rw [IntKind.wrap_u64]; unfold U; omega

theorem _root_.Go.Boxed.below' {X Y : World} {B : Nat} {t : TypeId} {v : Value} (h : Boxed X B t v) (hb : Below X.heap.size X Y) : Boxed Y B t v := (hb.block B h.lt).trans h

theorem box_kept {X Y : World} {n₀ B : Nat} {row : Option Nat} {t : TypeId} {v : Value} (h : Boxed X B t v) (hg : X.grownBy Y row) (hr : ∀ r, row = some r → n₀ ≤ r ∧ ∃ o : Obj, X.heap[r]? = some o ∧ o.isCells = false) : Boxed Y B t v :=
  h.kept hg (fun e => by obtain ⟨o, ho, hc⟩ := (hr B e.symm).2; rw [show X.heap[B]? = _ from h] at ho; cases ho; cases hc)

theorem reach_over (F L R y : Int) (w : World) (hy : 4611686018427387904 < y) :
    Calls Tryz.prog 155 #[.agg #[.int .u64 F, .int .u64 L, .int .u64 R], .int .u64 y] w fun e w' => e = .returned (.int .u64 9223372036854775808) ∧ Below w.heap.size w w' := by
  go_enter Tryz.func155, Tryz.ntmps155
  go_wp2
  go_returns
  exact ⟨rfl, by go_grown⟩

theorem reach_loop (F L R y : Int) (w : World) (hF : U F) (hL : U L) (hR : U R) (hy0 : 0 ≤ y) (hy : y ≤ 4611686018427387904) :
    Calls Tryz.prog 155 #[.agg #[.int .u64 F, .int .u64 L, .int .u64 R], .int .u64 y] w fun e w' => e = .returned (.int .u64 ((reachL 0 y (piecesOf F L R hF hL hR)).getD 9223372036854775808)) ∧ Below w.heap.size w w' := by
  have uy : U y := by unfold U; omega
  refine (callsIn_wide (n := 9)).1 ?_
  refine callsIn_of_wp_marks Tryz.func155 rfl trivial ?_ rfl
  simp only [Tryz.ntmps155, List.size_toArray, List.length_cons, List.length_nil, Nat.reduceAdd, Nat.reduceSub, Array.replicate_succ, Array.replicate_zero, List.push_toArray, List.append_toArray, List.nil_append, List.cons_append]
  gi_wp2_with (refine ⟨trivial, ?_⟩; gi_at_call 162; refine (callsIn_wide.2 (pieces_any F L R _)).mono ?_; rintro e w' ⟨rfl, rfl⟩)
  obtain ⟨W0, hW0⟩ : ∃ W0, (((((w.alloc (.cells #[.int .u64 F, .int .u64 L, .int .u64 R] 31)).alloc (.cells #[.int .u64 y] 23)).alloc (.cells #[.int .u64 0] 23)).alloc (.cells #[.int .u64 0] 23)).alloc (.cells #[.int .u64 F, .int .u64 L, .int .u64 R] 31)) = W0 := ⟨_, rfl⟩
  have bY : Boxed W0 (w.heap.size + 1) 23 (.int .u64 y) := by
    rw [← hW0]; have h := (((Boxed.new (w.alloc (.cells #[.int .u64 F, .int .u64 L, .int .u64 R] 31)) 23 (.int .u64 y)).alloc (.cells #[.int .u64 0] 23)).alloc (.cells #[.int .u64 0] 23)).alloc (.cells #[.int .u64 F, .int .u64 L, .int .u64 R] 31); simpa using h
  have bO : Boxed W0 (w.heap.size + 1 + 1) 23 (.int .u64 0) := by
    rw [← hW0]; have h := ((Boxed.new ((w.alloc (.cells #[.int .u64 F, .int .u64 L, .int .u64 R] 31)).alloc (.cells #[.int .u64 y] 23)) 23 (.int .u64 0)).alloc (.cells #[.int .u64 0] 23)).alloc (.cells #[.int .u64 F, .int .u64 L, .int .u64 R] 31); simpa using h
  have bN : Boxed W0 (w.heap.size + 1 + 1 + 1) 23 (.int .u64 0) := by
    rw [← hW0]; have h := (Boxed.new (((w.alloc (.cells #[.int .u64 F, .int .u64 L, .int .u64 R] 31)).alloc (.cells #[.int .u64 y] 23)).alloc (.cells #[.int .u64 0] 23)) 23 (.int .u64 0)).alloc (.cells #[.int .u64 F, .int .u64 L, .int .u64 R] 31); simpa using h
  have bC : Blk W0 (w.heap.size + 1 + 1 + 1 + 1) 31 #[.int .u64 F, .int .u64 L, .int .u64 R] := by
    rw [← hW0]; have h := Blk.new ((((w.alloc (.cells #[.int .u64 F, .int .u64 L, .int .u64 R] 31)).alloc (.cells #[.int .u64 y] 23)).alloc (.cells #[.int .u64 0] 23)).alloc (.cells #[.int .u64 0] 23)) 31 #[.int .u64 F, .int .u64 L, .int .u64 R]; simpa using h
  have hB0 : Below w.heap.size w W0 := by rw [← hW0]; go_grown
  have hsz : W0.heap.size = w.heap.size + 5 := by rw [← hW0]; simp
  rw [hW0]
  clear hW0
  have hdf : decide (4611686018427387904 < y) = false := by simp; omega
  rw [hdf]
  refine wpIn_rangeFunc_ownH rfl (by omega) (gf := 165) (lb := #[.pointer (some ⟨w.heap.size + 1 + 1 + 1 + 1, 0, none⟩)]) rfl trivial (enters_of Tryz.func165 (by kernel_rfl) rfl)
    (pieces_stops _ F L R hF hL hR (w.heap.size + 1 + 1 + 1 + 1) W0 (by omega) (bC.cell 0) (bC.cell 1) (bC.cell 2)) (fun h k => k.trans h)
    (fun W l o o' hl h _ _ => World.putObj_heap_other (by omega)) (Below.refl _ _) (fun _ => rfl)
    (fun pre W => (∃ n z, U n ∧ U z ∧ Boxed W (w.heap.size + 1) 23 (.int .u64 z) ∧ Boxed W (w.heap.size + 1 + 1 + 1) 23 (.int .u64 n) ∧ ∀ rest, reachL 0 y (pre ++ rest) = reachL n z rest) ∧
      Boxed W (w.heap.size + 1 + 1) 23 (.int .u64 0) ∧ Below w.heap.size w W ∧ w.heap.size + 5 ≤ W.heap.size)
    (fun c pre W => c = .ret ∧ (∃ v, Boxed W (w.heap.size + 1 + 1) 23 (.int .u64 v) ∧ ∀ rest, reachL 0 y (pre ++ rest) = some v) ∧ Below w.heap.size w W)
    (fun pre X Y row hs hg hr => by
      obtain ⟨⟨n, z, h1, h2, h3, h4, h5⟩, h6, h7, h8⟩ := hs
      exact ⟨⟨n, z, h1, h2, box_kept h3 hg hr, box_kept h4 hg hr, h5⟩, box_kept h6 hg hr, h7.grown hg h7.size (fun k e => by have := (hr k e).1; omega), Nat.le_trans h8 hg.size⟩)
    (fun c pre X Y row hs hg hr => by
      obtain ⟨h1, ⟨v, h2, h3⟩, h4⟩ := hs
      exact ⟨h1, ⟨v, box_kept h2 hg hr, h3⟩, h4.grown hg h4.size (fun k e => by have := (hr k e).1; omega)⟩)
    ⟨⟨0, y, ⟨by decide, by decide⟩, uy, bY, bN, fun _ => rfl⟩, bO, hB0, by omega⟩
    (fun x a' W => ∃ Bx, w.heap.size + 1 + 1 + 1 + 1 < Bx ∧ Blk W Bx 217 #[.int .u64 x.1.1, .int .u64 x.1.2] ∧ a' = { tmps := #[.agg #[.int .u64 F, .int .u64 L, .int .u64 R], .int .u64 y, .pointer (some ⟨w.heap.size, 0, none⟩),
      .pointer (some ⟨w.heap.size + 1, 0, none⟩), .pointer (some ⟨w.heap.size + 1 + 1, 0, none⟩), .pointer (some ⟨w.heap.size + 1 + 1 + 1, 0, none⟩), .pointer (some ⟨Bx, 0, none⟩), undef, undef, undef,
      .int .u64 y, .bool false, .agg #[.int .u64 F, .int .u64 L, .int .u64 R], .func (.func 165) #[] #[.pointer (some ⟨w.heap.size + 1 + 1 + 1 + 1, 0, none⟩)], .agg #[.int .u64 x.1.1, .int .u64 x.1.2],
      undef, undef, undef, undef, undef, undef, undef, undef, undef, undef, undef, undef, undef, undef, undef, undef, undef, undef, undef, undef, undef, undef, undef, undef, undef, undef, undef, undef], defers := [] })
    (fun x a' _ X Y row hs hg hr => by obtain ⟨Bx, h1, h2, h3⟩ := hs; exact ⟨Bx, h1, h2.grown hg (fun e => by obtain ⟨o, ho, hc⟩ := (hr _ e.symm).2; rw [show X.heap[Bx]? = _ from h2] at ho; cases ho; cases hc), h3⟩)
    ?assign ?body ?done ?stop
  case assign =>
    rintro l pre x W K ⟨⟨n, z, h1, h2, h3, h4, h5⟩, h6, h7, h8⟩ hK
    have H5 := Lib.hid h5; clear h5
    gi_wp2
    exact hK _ _ ((KeepsOthers.alloc _ _).from _) (Below.heap_alloc _ _ _ (by omega)) ⟨⟨n, z, h1, h2, h3.alloc _, h4.alloc _, H5.out⟩, h6.alloc _, h7.alloc h7.size _, by simp; omega⟩ ⟨W.heap.size, by omega, Blk.new W _ _, rfl⟩
  case body =>
    rintro l pre x a' W hl ⟨r, hr⟩ ⟨⟨n, z, un, uz, bZ, bA, h5⟩, bR, hB1, hW5⟩ ⟨Bx, hBx, bX, rfl⟩ hlt
    have H5 := Lib.hid h5; clear h5
    have cZ := bZ.cell; have fZ := bZ.frozen
    have cA := bA.cell; have fA := bA.frozen
    have cR := bR.cell; have fR := bR.frozen
    have c0 : W.cell? ⟨Bx, 0, none⟩ = some (.int .u64 x.1.1) := bX.cell 0
    have c1 : W.cell? ⟨Bx, 1, none⟩ = some (.int .u64 x.1.2) := bX.cell 1
    have hsl := Lib.hid bX.lt
    obtain ⟨⟨a, b⟩, ua, ub⟩ := x
    simp only at c0 c1 ua ub
    have zc := cap_nonneg (Int.mul_nonneg ua.1 ub.1)
    by_cases h1 : z ≤ cap (a * b)
    · by_cases h0 : z = 0
      · subst h0
        gi_wp2_with (refine ⟨trivial, ?_⟩; gi_at_call 137; refine (CallsIn.inRound l (callsIn_wide.2 (times_any _ _ _ ua ub))).mono ?_; rintro e W1 ⟨rfl, hb1⟩; obtain ⟨hc1, hf1⟩ := bcell hb1; have q1 := bZ.lt; have q2 := bA.lt; have q3 := bR.lt; have q4 := hsl.out)
        refine ⟨((keeps_of_below hb1).trans (KeepsOthers.setCell _ _ _)).from _, rfl, ⟨n, (bR.below' hb1).set _, fun rest => ?_⟩, (hB1.trans (hb1.mono hB1.size)).setCell (by simp; omega) _⟩
        rw [List.append_assoc, H5.out]
        exact reachL_zero
      · have hz0 : (z == 0) = false := by simp; omega
        have hcap := cap_le_self (a * b)
        have ha1 : 1 ≤ a := by
          by_cases h : a < 1
          · have ha0 : a = 0 := by have := ua.1; omega
            rw [ha0, Int.zero_mul] at h1; have := uz.1; simp [cap] at h1; omega
          · omega
        clear hcap
        gi_wp2_with (first
          | (refine ⟨trivial, ?_⟩; gi_at_call 137; refine (CallsIn.inRound l (callsIn_wide.2 (times_any _ _ _ ua ub))).mono ?_; rintro e W1 ⟨rfl, hb1⟩; obtain ⟨hc1, hf1⟩ := bcell hb1; have q1 := bZ.lt; have q2 := bA.lt; have q3 := bR.lt; have q4 := hsl.out)
          | (refine ⟨trivial, ?_⟩; gi_at_call 136; refine (CallsIn.inRound l (callsIn_wide.2 (up_word _ _ _ uz ha1 ua))).mono ?_; rintro e W2 ⟨rfl, hb2⟩; have hb2 : Below W1.heap.size W1 W2 := hb2; obtain ⟨hc2, hf2⟩ := bcell hb2; have q5 : w.heap.size + 1 + 1 + 1 < W1.heap.size := Nat.lt_of_lt_of_le q2 hb1.size; have q6 : w.heap.size + 1 + 1 < W1.heap.size := Nat.lt_of_lt_of_le q3 hb1.size))
        refine ⟨(((keeps_of_below hb1).trans (keeps_of_below hb2)).trans (KeepsOthers.setCell _ _ _)).from _, rfl, ⟨_, ((bR.below' hb1).below' hb2).set _, fun rest => ?_⟩, ((hB1.trans (hb1.mono hB1.size)).trans (hb2.mono (Nat.le_trans hB1.size hb1.size))).setCell (by simp; omega) _⟩
        rw [List.append_assoc, H5.out]
        exact reachL_stop h1 h0
    · have h1' : cap (a * b) < z := by omega
      have hw : IntKind.u64.wrap (z - cap (a * b)) = z - cap (a * b) := wrap_u (by unfold U at *; omega)
      have uz' : U (z - cap (a * b)) := by unfold U at *; omega
      clear h1
      gi_wp2_with (refine ⟨trivial, ?_⟩; gi_at_call 137; refine (CallsIn.inRound l (callsIn_wide.2 (times_any _ _ _ ua ub))).mono ?_; rintro e W1 ⟨rfl, hb1⟩; obtain ⟨hc1, hf1⟩ := bcell hb1; have q1 := bZ.lt; have q2 := bA.lt; have q3 := bR.lt; have q4 := hsl.out)
      refine ⟨(((keeps_of_below hb1).trans (KeepsOthers.setCell _ _ _)).trans (KeepsOthers.setCell _ _ _)).from _, ?_, ⟨IntKind.u64.wrap (n + b), z - cap (a * b), U_wrap _, uz', ?_, ?_, fun rest => ?_⟩, ?_, ?_, ?_⟩
      · exact (Below.heap_setCell _ _ _ _ (by simp)).trans ((Below.heap_setCell _ _ _ _ (by simp; omega)).trans (hb1.block _ (by omega)))
      · have h2 := ((bZ.below' hb1).set (.int .u64 (z - cap (a * b)))).other (B' := w.heap.size + 1 + 1 + 1) (by omega) (.int .u64 (IntKind.u64.wrap (n + b)))
        exact h2
      · have h2 := ((bA.below' hb1).other (B' := w.heap.size + 1) (by omega) (.int .u64 (z - cap (a * b)))).set (.int .u64 (IntKind.u64.wrap (n + b)))
        exact h2
      · rw [List.append_assoc, H5.out]
        exact reachL_go h1'
      · have h2 := ((bR.below' hb1).other (B' := w.heap.size + 1) (by omega) (.int .u64 (z - cap (a * b)))).other (B' := w.heap.size + 1 + 1 + 1) (by omega) (.int .u64 (IntKind.u64.wrap (n + b)))
        exact h2
      · exact ((hB1.trans (hb1.mono hB1.size)).setCell (by simp) _).setCell (by simp; omega) _
      · have := hb1.size
        simp only [World.size_setCell]
        omega
  case done =>
    rintro D xs W hD rfl ⟨⟨n, z, un, uz, bZ, bA, h5⟩, bR, hB1, hW5⟩ hK
    have hr : reachL 0 y (piecesOf F L R hF hL hR) = none := by have := h5 []; rwa [List.append_nil] at this
    have HR := Lib.hid hr
    clear h5 hr
    have cR := bR.cell; have fR := bR.frozen
    gi_wp2
    have bR' := bR.set (.int .u64 9223372036854775808)
    have hK' : (W.setCell ⟨w.heap.size + 1 + 1, 0, none⟩ (.int .u64 9223372036854775808)).heap[D]? = some (.deferred (some [])) := (KeepsOthers.setCell W _ _).same D _ hK rfl
    refine ⟨by simp, .inl ⟨_, _, rfl, run_takeDeferred hK', ?_⟩⟩
    have cV := cell_kept bR'.cell (grownBy_putObj' _ D (.deferred none)) (fun r e => by cases e; exact ⟨_, hK', rfl⟩)
    exact ⟨_, by simp [results, Tryz.results155, go_sem, cV]; rfl, (by rw [HR.out]; rfl), (hB1.setCell (by simp; omega) _).trans (belowK_b (w := w) (Nat.le_refl _) _ D _ _ (by omega) hK' rfl rfl)⟩
  case stop =>
    rintro D c pre W hD hSp ⟨rfl, ⟨v, bV, hv⟩, hB1⟩ hK
    have hr : reachL 0 y (piecesOf F L R hF hL hR) = some v := by
      rcases hSp with ⟨rfl, hL0⟩ | rfl
      · have := hv [⟨(R, 18446744073709551615), hR, U_most⟩]
        rw [show piecesOf F L R hF hL hR = [⟨(F, L), hF, hL⟩] ++ [⟨(R, 18446744073709551615), hR, U_most⟩] by simp [piecesOf, hL0]]
        exact this
      · have := hv []; rwa [List.append_nil] at this
    have HR := Lib.hid hr
    clear hv hr hSp
    gi_wp2
    refine ⟨by simp, .inl ⟨_, _, rfl, run_takeDeferred hK, ?_⟩⟩
    have cV := cell_kept bV.cell (grownBy_putObj' _ D (.deferred none)) (fun r e => by cases e; exact ⟨_, hK, rfl⟩)
    exact ⟨_, by simp [results, Tryz.results155, go_sem, cV]; rfl, (by rw [HR.out]; rfl), hB1.trans (belowK_b (w := w) (Nat.le_refl _) W D _ _ (by omega) hK rfl rfl)⟩

end Go.Proofs.YtbnnkkojlclgjaaGreat
/-
  The contracts of layer 3 in plain arithmetic: May, Bent, At, Reach.
-/
namespace Go.Proofs.YtbnnkkojlclgjaaGreat
set_option linter.unusedVariables false
open Go.RowKit

theorem cap_cap {x y : Int} (hx : 0 ≤ x) (hy : 0 ≤ y) : cap (cap x + cap y) = cap (x + y) := by unfold cap; omega
theorem acc_W {F L R t : Int} (hF : U F) (hL : U L) (hR : U R) (ht : U t) : (acc t (piecesOf F L R hF hL hR)).1 = cap (W F L R t) := by
  have h1 := ht.1; have h2 := ht.2; have h3 := hL.1
  unfold acc piecesOf
  by_cases h : 0 < L
  · rw [if_pos h]
    simp only [List.foldl_cons, List.foldl_nil, stepC, Int.zero_add]
    rw [show min (t - min t L) 18446744073709551615 = t - min t L by omega]
    have a1 := Int.mul_nonneg hF.1 (show 0 ≤ min t L by omega)
    have a2 := Int.mul_nonneg hR.1 (show 0 ≤ t - min t L by omega)
    unfold W cap
    omega
  · rw [if_neg h]
    have hL0 : L = 0 := by omega
    subst hL0
    simp only [List.foldl_cons, List.foldl_nil, stepC, Int.zero_add]
    rw [show min t 18446744073709551615 = t by omega]
    have e : W F 0 R t = R * t := by unfold W; rw [Int.min_eq_right h1, Int.mul_zero, Int.zero_add, Int.sub_zero]
    rw [e]
    unfold cap
    omega

theorem reach_eq {F L R y : Int} (hF : U F) (hL : U L) (hR : U R) (hL1 : L ≤ 1099511627776) (hy0 : 0 ≤ y) (hy : y ≤ 4611686018427387904) :
    (reachL 0 y (piecesOf F L R hF hL hR)).getD 9223372036854775808 = reachC F L R y := by
  have h3 := hL.1
  have wr : ∀ n z c : Int, 0 ≤ n → n ≤ 1099511627776 → 0 ≤ cap (ceil z c) → IntKind.u64.wrap (n + cap (ceil z c)) = n + cap (ceil z c) := fun n z c h1 h2 h4 => wrap_u (by have := cap_le (ceil z c); unfold U; omega)
  have cn : ∀ z c : Int, 0 ≤ z → 0 ≤ c → (z ≤ cap (c * 18446744073709551615) ∨ ∃ l, 0 ≤ l ∧ z ≤ cap (c * l)) → z ≠ 0 → 0 ≤ cap (ceil z c) := fun z c h1 h2 h4 h5 => by
    refine cap_nonneg ?_
    by_cases hc : 1 ≤ c
    · exact ceil_nonneg hc h1
    · have : c = 0 := by omega
      subst this
      rcases h4 with h4 | ⟨l, _, h4⟩ <;> (rw [Int.zero_mul] at h4; unfold cap at h4; omega)
  have hno : ¬ 4611686018427387904 < y := by omega
  unfold reachC piecesOf
  rw [if_neg hno]
  by_cases h : 0 < L
  · simp only [h, if_true, true_and]
    rw [reachL]
    by_cases c1 : y ≤ cap (F * L)
    · rw [if_pos c1, if_pos c1]
      by_cases y0 : y = 0
      · rw [if_pos y0, if_pos y0]; rfl
      · rw [if_neg y0, if_neg y0, wr 0 _ _ (by omega) (by omega) (cn _ _ hy0 hF.1 (.inr ⟨L, h3, c1⟩) y0), Int.zero_add]; rfl
    · rw [if_neg c1, if_neg c1]
      have hz : 0 ≤ y - cap (F * L) := by omega
      rw [show IntKind.u64.wrap (0 + L) = L by rw [Int.zero_add]; exact wrap_u hL, reachL]
      by_cases c2 : y - cap (F * L) ≤ cap (R * 18446744073709551615)
      · have hz0 : ¬ y - cap (F * L) = 0 := by omega
        rw [if_pos c2, if_pos c2, if_neg hz0, if_neg hz0, wr _ _ _ h3 hL1 (cn _ _ hz hR.1 (.inl c2) (by omega))]; rfl
      · rw [if_neg c2, if_neg c2]; rfl
  · have hL0 : L = 0 := by omega
    subst hL0
    simp only [h, if_false, false_and]
    rw [reachL]
    by_cases c2 : y ≤ cap (R * 18446744073709551615)
    · rw [if_pos c2, if_pos c2]
      by_cases y0 : y = 0
      · rw [if_pos y0, if_pos y0]; rfl
      · rw [if_neg y0, if_neg y0, wr 0 _ _ (by omega) (by omega) (cn _ _ hy0 hR.1 (.inl c2) y0)]; rfl
    · rw [if_neg c2, if_neg c2]; rfl

theorem reach_any (F L R y : Int) (w : World) (hF : U F) (hL : U L) (hR : U R) (hL1 : L ≤ 1099511627776) (hy : U y) :
    Calls Tryz.prog 155 #[.agg #[.int .u64 F, .int .u64 L, .int .u64 R], .int .u64 y] w fun e w' => e = .returned (.int .u64 (reachC F L R y)) ∧ Below w.heap.size w w' := by
  by_cases h : 4611686018427387904 < y
  · rw [reachC_over h]; exact reach_over F L R y w h
  · have h1 := reach_loop F L R y w hF hL hR hy.1 (by omega)
    rwa [reach_eq hF hL hR hL1 hy.1 (by omega)] at h1

/-- may a curve be? is it bent? -/
def mayB (F L R : Int) : Bool := decide (F ≤ 1048576) && decide (R ≤ 1048576) && decide (L ≤ 1099511627776) && (if L = 0 then decide (F = 0) else decide (F ≠ R))
theorem mayB_spec {F L R : Int} (hF : 0 ≤ F) (hL : 0 ≤ L) (hR : 0 ≤ R) (h : mayB F L R = true) : MayC F L R := by
  unfold mayB at h
  simp only [Bool.and_eq_true, decide_eq_true_eq] at h
  obtain ⟨⟨⟨h1, h2⟩, h3⟩, h4⟩ := h
  exact ⟨hF, h1, hR, h2, hL, h3, fun h0 => by simpa [h0] using h4⟩

theorem may_any (F L R : Int) (w : World) (hL : 0 ≤ L) :
    Calls Tryz.prog 16 #[.agg #[.int .u64 F, .int .u64 L, .int .u64 R]] w fun e w' => e = .returned (.bool (mayB F L R)) ∧ Below w.heap.size w w' := by
  by_cases h1 : F ≤ 1048576
  · by_cases h2 : R ≤ 1048576
    · by_cases h3 : L ≤ 1099511627776
      · by_cases h4 : L = 0
        · subst h4
          have e : mayB F 0 R = decide (F = 0) := by simp [mayB, h1, h2]
          have E := Lib.hid e; clear e
          by_cases h5 : F = 0
          · subst h5
            go_enter Tryz.func16, Tryz.ntmps16
            go_wp2
            go_ret
            exact ⟨by rw [E.out]; rfl, by go_grown⟩
          · have h5b : (F == 0) = false := by simpa using h5
            go_enter Tryz.func16, Tryz.ntmps16
            go_wp2
            go_ret
            exact ⟨by rw [E.out]; simp [h5], by go_grown⟩
        · have h4b : (L == 0) = false := by simpa using h4
          have e : mayB F L R = decide (F ≠ R) := by simp [mayB, h1, h2, h3, h4]
          have E := Lib.hid e; clear e
          by_cases h5 : F = R
          · subst h5
            have h5b : (F != F) = false := by simp
            go_enter Tryz.func16, Tryz.ntmps16
            go_wp2
            go_ret
            exact ⟨by rw [E.out]; simp, by go_grown⟩
          · have h5b : (F != R) = true := by simpa using h5
            go_enter Tryz.func16, Tryz.ntmps16
            go_wp2
            go_ret
            exact ⟨by rw [E.out]; simp [h5], by go_grown⟩
      · have E := Lib.hid (show mayB F L R = false by simp [mayB, h3])
        go_enter Tryz.func16, Tryz.ntmps16
        go_wp2
        go_ret
        exact ⟨by rw [E.out]; rfl, by go_grown⟩
    · have E := Lib.hid (show mayB F L R = false by simp [mayB, h2])
      go_enter Tryz.func16, Tryz.ntmps16
      go_wp2
      go_ret
      exact ⟨by rw [E.out]; rfl, by go_grown⟩
  · have E := Lib.hid (show mayB F L R = false by simp [mayB, h1])
    go_enter Tryz.func16, Tryz.ntmps16
    go_wp2
    go_ret
    exact ⟨by rw [E.out]; rfl, by go_grown⟩

theorem bent_any (F L R : Int) (w : World) :
    Calls Tryz.prog 75 #[.agg #[.int .u64 F, .int .u64 L, .int .u64 R]] w fun e w' => e = .returned (.bool (decide (R < F))) ∧ Below w.heap.size w w' := by
  go_enter Tryz.func75, Tryz.ntmps75
  go_wp2
  go_ret
  exact ⟨rfl, by go_grown⟩

end Go.Proofs.YtbnnkkojlclgjaaGreat
/-
  The contracts of a sagging run's has and line: what a copy has at a tick, and its line, without an end.
-/
namespace Go.Proofs.YtbnnkkojlclgjaaGreat
set_option linter.unusedVariables false
open Go.RowKit
attribute [local go_sem] quietR quietAtR quietUponR plain plainUpon

theorem mul_bd {a t A T : Int} (ha : 0 ≤ a) (hA : a ≤ A) (ht : 0 ≤ t) (hT : t ≤ T) : 0 ≤ a * t ∧ a * t ≤ A * T :=
  ⟨Int.mul_nonneg ha ht, Int.mul_le_mul hA hT ht (Int.le_trans ha hA)⟩

theorem line_any (g : Nat) (F L R x y t : Int) (w : World) (hR : U R) (hR1 : R ≤ 1048576) (hx : 0 ≤ x) (hxt : x ≤ t) (ht : U t) (hy : U y) (hg : g < w.heap.size) (c2 : w.cell? ⟨g, 2, none⟩ = some (.int .u64 R)) :
    Calls Tryz.prog 159 #[.pointer (some ⟨g, 0, none⟩), .agg #[.int .u64 x, .int .u64 y], .int .u64 t] w fun e w' =>
      e = .returned (.agg #[.int .u64 (hiW (R * (t - x) + y)), .int .u64 (loW (R * (t - x) + y))]) ∧ Below w.heap.size w w' := by
  have wd : IntKind.u64.wrap (t - x) = t - x := wrap_u (by unfold U at *; omega)
  have ud : U (t - x) := by unfold U at *; omega
  have mb := mul_bd hR.1 hR1 ud.1 ud.2
  have nm : num (hiW (R * (t - x))) (loW (R * (t - x))) + num 0 y = R * (t - x) + y := by rw [num_words]; simp [num]
  have h1 := U_hi (n := R * (t - x)) mb.1 (by omega)
  have h2 := U_lo (R * (t - x))
  have hs : num (hiW (R * (t - x))) (loW (R * (t - x))) + num 0 y < 340282366920938463463374607431768211456 := by rw [nm]; unfold U at hy; omega
  have NM := Lib.hid nm
  have U0 : U (0 : Int) := ⟨by decide, by decide⟩
  clear nm mb
  go_enter Tryz.func159, Tryz.ntmps159
  go_wp2
  obtain ⟨W0, hW0⟩ : ∃ W0, (w.alloc (.cells #[.int .u64 x, .int .u64 y] 210)).alloc (.cells #[.int .u64 0, .int .u64 0] 153) = W0 := ⟨_, rfl⟩
  have bX : Blk W0 w.heap.size 210 #[.int .u64 x, .int .u64 y] := by rw [← hW0]; exact (Blk.new w _ _).alloc _
  have bO : Blk W0 (w.heap.size + 1) 153 #[.int .u64 0, .int .u64 0] := by rw [← hW0]; have h := Blk.new (w.alloc (.cells #[.int .u64 x, .int .u64 y] 210)) 153 #[.int .u64 0, .int .u64 0]; simpa using h
  have hb0 : Below w.heap.size w W0 := by rw [← hW0]; go_grown
  have c2' := (hb0.cell (p := ⟨g, 2, none⟩) hg).trans c2
  have hg' : g < W0.heap.size := Nat.lt_of_lt_of_le hg hb0.size
  rw [hW0]
  clear hW0
  have o2 := fun e => (over_cell (w := W0) (e := e) (o := 2) hg').trans c2'
  have ox := fun e => (over_cell (w := W0) (e := e) (o := 0) bX.lt).trans (bX.cell 0)
  have oy := fun e => (over_cell (w := W0) (e := e) (o := 1) bX.lt).trans (bX.cell 1)
  simp only [List.getElem?_toArray, List.getElem?_cons_zero, List.getElem?_cons_succ] at ox oy
  refine wp_region_alloc (w := W0) 17 _ _ 7 (.cells #[.int .u64 0, .int .u64 0] 153) (by kernel_rfl) rfl rfl rfl (fun _ _ => by kernel_rfl) (by kernel_rfl) ?_
  simp only [List.take_succ_cons, List.take_zero, List.drop_succ_cons, List.drop_zero]
  repeat (refine wpQuietR_step (fun K hK => ?_); go_simp; first | (refine hK _ ?_; clear hK K) | (apply Exists.intro; refine ⟨fun _ => ?_, hK _ ?_⟩; (first | (go_at_call 141; exact mul_any _ _ _ hR ud) | (go_at_call 163; exact plus_any _ _ _ _ _ h1 h2 U0 hy hs)); clear hK K))

  refine wpQuietR_nil ?_
  intro B W1 hB hb1 hO
  have bN : Blk W1 B 153 #[.int .u64 0, .int .u64 0] := hO
  have n0 := bN.cell 0; have n1 := bN.cell 1; have f0 := bN.frozen 0; have f1 := bN.frozen 1
  simp only [List.getElem?_toArray, List.getElem?_cons_zero, List.getElem?_cons_succ] at n0 n1
  go_simp
  rw [NM.out]
  have bN2 := (bN.set_ 0 (.int .u64 (hiW (R * (t - x) + y)))).set_ 1 (.int .u64 (loW (R * (t - x) + y)))
  have hb2 : Below W0.heap.size W0 ((W1.setCell ⟨B, 0, none⟩ (.int .u64 (hiW (R * (t - x) + y)))).setCell ⟨B, 1, none⟩ (.int .u64 (loW (R * (t - x) + y)))) := (hb1.setCell hB _).setCell hB _
  refine ⟨hb2, ?_⟩
  obtain ⟨W2, hW2⟩ : ∃ W2, (W1.setCell ⟨B, 0, none⟩ (.int .u64 (hiW (R * (t - x) + y)))).setCell ⟨B, 1, none⟩ (.int .u64 (loW (R * (t - x) + y))) = W2 := ⟨_, rfl⟩
  rw [hW2] at bN2 hb2 ⊢
  clear hW2 n0 n1 f0 f1 o2 ox oy bN
  have m0 := bN2.cell 0; have m1 := bN2.cell 1
  simp at m0 m1
  have bO2 := bO.below hb2 bO.lt
  have p0 := bO2.cell 0; have p1 := bO2.cell 1; have g0 := bO2.frozen 0; have g1 := bO2.frozen 1
  simp only [List.getElem?_toArray, List.getElem?_cons_zero, List.getElem?_cons_succ] at p0 p1
  generalize hhi : hiW (R * (t - x) + y) = hi at *
  generalize hlo : loW (R * (t - x) + y) = lo at *
  have HHI := Lib.hid hhi; have HLO := Lib.hid hlo; clear hhi hlo
  go_wp2
  have r0 := ((bO2.set_ 0 (.int .u64 hi)).set_ 1 (.int .u64 lo)).cell 0
  have r1 := ((bO2.set_ 0 (.int .u64 hi)).set_ 1 (.int .u64 lo)).cell 1
  simp at r0 r1
  refine bodyPost_ret (v := .agg #[.int .u64 hi, .int .u64 lo]) (by simp [results, Tryz.results159, go_sem, r0, r1]) rfl ⟨by rw [HHI.out, HLO.out], ?_⟩
  exact (((hb0.trans (hb2.mono hb0.size)).setCell (by simp) _).setCell (by simp) _)


theorem has_any (g : Nat) (F L R x y t n : Int) (w : World) (hF : U F) (hF1 : F ≤ 1048576) (hR : U R) (hR1 : R ≤ 1048576) (hL : U L) (hx : 0 ≤ x) (hxt : x ≤ t) (ht : U t) (hy : U y) (hn : n = min (t - x) L) (hg : g < w.heap.size)
    (c0 : w.cell? ⟨g, 0, none⟩ = some (.int .u64 F)) (c1 : w.cell? ⟨g, 1, none⟩ = some (.int .u64 L)) (c2 : w.cell? ⟨g, 2, none⟩ = some (.int .u64 R)) :
    Calls Tryz.prog 157 #[.pointer (some ⟨g, 0, none⟩), .agg #[.int .u64 x, .int .u64 y], .int .u64 t] w fun e w' =>
      e = .returned (.agg #[.int .u64 (hiW (F * n + R * (t - x - n) + y)), .int .u64 (loW (F * n + R * (t - x - n) + y))]) ∧ Below w.heap.size w w' := by
  have wd : IntKind.u64.wrap (t - x) = t - x := wrap_u (by unfold U at *; omega)
  have wn : IntKind.u64.wrap (t - x - n) = t - x - n := wrap_u (by unfold U at *; omega)
  have un : U n := by unfold U at *; omega
  have ud : U (t - x - n) := by unfold U at *; omega
  have mb := mul_bd hF.1 hF1 un.1 un.2
  have mc := mul_bd hR.1 hR1 ud.1 ud.2
  have h1 := U_hi (n := F * n) mb.1 (by omega)
  have h2 := U_lo (F * n)
  have h3 := U_hi (n := R * (t - x - n)) mc.1 (by omega)
  have h4 := U_lo (R * (t - x - n))
  have nm : num (hiW (F * n)) (loW (F * n)) + num (hiW (R * (t - x - n))) (loW (R * (t - x - n))) = F * n + R * (t - x - n) := by rw [num_words, num_words]
  have hs1 : num (hiW (F * n)) (loW (F * n)) + num (hiW (R * (t - x - n))) (loW (R * (t - x - n))) < 340282366920938463463374607431768211456 := by rw [nm]; omega
  have h5 := U_hi (n := F * n + R * (t - x - n)) (by omega) (by omega)
  have h6 := U_lo (F * n + R * (t - x - n))
  have nm2 : num (hiW (F * n + R * (t - x - n))) (loW (F * n + R * (t - x - n))) + num 0 y = F * n + R * (t - x - n) + y := by rw [num_words]; simp [num]
  have hs2 : num (hiW (F * n + R * (t - x - n))) (loW (F * n + R * (t - x - n))) + num 0 y < 340282366920938463463374607431768211456 := by rw [nm2]; unfold U at hy; omega
  have NM := Lib.hid nm; have NM2 := Lib.hid nm2
  have U0 : U (0 : Int) := ⟨by decide, by decide⟩
  clear nm nm2 mb mc
  have hn' : (if L < t - x then L else t - x) = n := by rw [hn]; omega
  clear hn
  go_enter Tryz.func157, Tryz.ntmps157
  go_wp2
  obtain ⟨W0, hW0⟩ : ∃ W0, (w.alloc (.cells #[.int .u64 x, .int .u64 y] 210)).alloc (.cells #[.int .u64 0, .int .u64 0] 153) = W0 := ⟨_, rfl⟩
  have bX : Blk W0 w.heap.size 210 #[.int .u64 x, .int .u64 y] := by rw [← hW0]; exact (Blk.new w _ _).alloc _
  have bO : Blk W0 (w.heap.size + 1) 153 #[.int .u64 0, .int .u64 0] := by rw [← hW0]; have h := Blk.new (w.alloc (.cells #[.int .u64 x, .int .u64 y] 210)) 153 #[.int .u64 0, .int .u64 0]; simpa using h
  have hb0 : Below w.heap.size w W0 := by rw [← hW0]; go_grown
  have c0' := (hb0.cell (p := ⟨g, 0, none⟩) hg).trans c0
  have c1' := (hb0.cell (p := ⟨g, 1, none⟩) hg).trans c1
  have c2' := (hb0.cell (p := ⟨g, 2, none⟩) hg).trans c2
  have hg' : g < W0.heap.size := Nat.lt_of_lt_of_le hg hb0.size
  rw [hW0]
  clear hW0 c0 c1 c2
  have ex := bX.cell 0; have ey := bX.cell 1
  simp only [List.getElem?_toArray, List.getElem?_cons_zero, List.getElem?_cons_succ] at ex ey
  go_quiet (fail)
  go_wp2
  clear ex ey hn'
  obtain ⟨W1, hW1⟩ : ∃ W1, W0.drewN nq = W1 := ⟨_, rfl⟩
  have bX1 : Blk W1 w.heap.size 210 #[.int .u64 x, .int .u64 y] := by rw [← hW1]; exact bX.drewN _
  have bO1 : Blk W1 (w.heap.size + 1) 153 #[.int .u64 0, .int .u64 0] := by rw [← hW1]; exact bO.drewN _
  have hb1 : Below w.heap.size w W1 := by rw [← hW1]; exact below_drewN hb0 _
  have hg1 : g < W1.heap.size := by rw [← hW1]; exact hg'
  have d0 : W1.cell? ⟨g, 0, none⟩ = some (.int .u64 F) := by rw [← hW1]; exact c0'
  have d2 : W1.cell? ⟨g, 2, none⟩ = some (.int .u64 R) := by rw [← hW1]; exact c2'
  rw [hW1]
  clear hW1 c0' c1' c2' bX bO hb0 hg' W0
  have o0 := fun e => (over_cell (w := W1) (e := e) (o := 0) hg1).trans d0
  have o2 := fun e => (over_cell (w := W1) (e := e) (o := 2) hg1).trans d2
  have ox := fun e => (over_cell (w := W1) (e := e) (o := 0) bX1.lt).trans (bX1.cell 0)
  simp only [List.getElem?_toArray, List.getElem?_cons_zero, List.getElem?_cons_succ] at ox
  clear d0 d2
  refine wp_region_alloc (w := W1) 23 _ _ 8 (.cells #[.int .u64 0, .int .u64 0] 153) (by kernel_rfl) rfl rfl rfl (fun _ _ => by kernel_rfl) (by kernel_rfl) ?_
  simp only [List.take_succ_cons, List.take_zero, List.drop_succ_cons, List.drop_zero]
  repeat (refine wpQuietR_step (fun K hK => ?_); go_simp; first | (refine hK _ ?_; clear hK K) | (apply Exists.intro; refine ⟨fun _ => ?_, hK _ ?_⟩; (first | (go_at_call 141; first | exact mul_any _ _ _ hF un | exact mul_any _ _ _ hR ud) | (go_at_call 163; exact plus_any _ _ _ _ _ h1 h2 h3 h4 hs1)); clear hK K))
  refine wpQuietR_nil ?_
  intro B W2 hB hb2 hO
  have bN : Blk W2 B 153 #[.int .u64 0, .int .u64 0] := hO
  have n0 := bN.cell 0; have n1 := bN.cell 1; have f0 := bN.frozen 0; have f1 := bN.frozen 1
  simp only [List.getElem?_toArray, List.getElem?_cons_zero, List.getElem?_cons_succ] at n0 n1
  go_simp
  rw [NM.out]
  have bN2 := (bN.set_ 0 (.int .u64 (hiW (F * n + R * (t - x - n))))).set_ 1 (.int .u64 (loW (F * n + R * (t - x - n))))
  have hb3 : Below W1.heap.size W1 ((W2.setCell ⟨B, 0, none⟩ (.int .u64 (hiW (F * n + R * (t - x - n))))).setCell ⟨B, 1, none⟩ (.int .u64 (loW (F * n + R * (t - x - n))))) := (hb2.setCell hB _).setCell hB _
  refine ⟨hb3, ?_⟩
  obtain ⟨W3, hW3⟩ : ∃ W3, (W2.setCell ⟨B, 0, none⟩ (.int .u64 (hiW (F * n + R * (t - x - n))))).setCell ⟨B, 1, none⟩ (.int .u64 (loW (F * n + R * (t - x - n)))) = W3 := ⟨_, rfl⟩
  rw [hW3] at bN2 hb3 ⊢
  clear hW3 n0 n1 f0 f1 o0 o2 ox bN
  have hBne : ¬ B = w.heap.size + 1 := by have := bO1.lt; omega
  have hBne' : ¬ w.heap.size + 1 = B := by have := bO1.lt; omega
  have m0 := bN2.cell 0; have m1 := bN2.cell 1; have f0 := bN2.frozen 0; have f1 := bN2.frozen 1
  simp at m0 m1
  have bX3 := bX1.below hb3 bX1.lt
  have bO3 := bO1.below hb3 bO1.lt
  have y0 := bX3.cell 1
  simp only [List.getElem?_toArray, List.getElem?_cons_zero, List.getElem?_cons_succ] at y0
  have hBlt := bN2.lt
  have hblt := bO3.lt
  generalize hiW (F * n + R * (t - x - n)) = hi at *
  generalize loW (F * n + R * (t - x - n)) = lo at *
  go_wp2_with (go_at_call 163; refine (plus_any _ _ _ _ _ h5 h6 U0 hy hs2).mono ?_; rintro e W4 ⟨rfl, hb4⟩; have bN4 := bN2.below hb4 hBlt; have bO4 := bO3.below hb4 hblt; have k0 := bN4.cell 0; have k1 := bN4.cell 1; have j0 := bN4.frozen 0; have j1 := bN4.frozen 1; have q0 := bO4.cell 0; have q1 := bO4.cell 1; have i0 := bO4.frozen 0; have i1 := bO4.frozen 1; simp only [List.getElem?_toArray, List.getElem?_cons_zero, List.getElem?_cons_succ, List.setIfInBounds_toArray, List.set_cons_zero, List.set_cons_succ] at k0 k1 q0 q1)
  rw [NM2.out]
  have bO5 := ((bO4.far (p := ⟨B, 0, none⟩) hBne' (.int .u64 (hiW (F * n + R * (t - x - n) + y)))).far (p := ⟨B, 1, none⟩) hBne' (.int .u64 (loW (F * n + R * (t - x - n) + y))))
  have bO6 := (bO5.set_ 0 (.int .u64 (hiW (F * n + R * (t - x - n) + y)))).set_ 1 (.int .u64 (loW (F * n + R * (t - x - n) + y)))
  have r0 := bO6.cell 0
  have r1 := bO6.cell 1
  simp at r0 r1
  refine bodyPost_ret (v := .agg #[.int .u64 (hiW (F * n + R * (t - x - n) + y)), .int .u64 (loW (F * n + R * (t - x - n) + y))]) (by simp [results, Tryz.results157, go_sem, r0, r1]) rfl ⟨rfl, ?_⟩
  have hb5 : Below w.heap.size w W4 := hb1.trans ((hb3.mono hb1.size).trans (hb4.mono (Nat.le_trans hb1.size hb3.size)))
  exact (((hb5.setCell (by simp; have := hb1.size; omega) _).setCell (by simp; have := hb1.size; omega) _).setCell (by simp) _).setCell (by simp) _

end Go.Proofs.YtbnnkkojlclgjaaGreat
/-
  A sagging run in memory: its block and the row of its copies; slices.Clone of such a row.
-/
namespace Go.Proofs.YtbnnkkojlclgjaaGreat
set_option linter.unusedVariables false
open Go.RowKit

theorem info_start : (Tryz.prog.info? 210).map (fun i => (i.zero, i.size, i.bytes)) = some (some (.agg #[.int .u64 0, .int .u64 0]), 2, 16) := by kernel_rfl

/-- the cells of copies -/
def cellsOf (K : List (Int × Int)) : List Value := K.flatMap fun k => [.int .u64 k.1, .int .u64 k.2]
theorem cellsOf_length (K : List (Int × Int)) : (cellsOf K).length = K.length * 2 := by
  induction K with
  | nil => rfl
  | cons k K ih => simp only [cellsOf, List.flatMap_cons, List.length_append, List.length_cons, List.length_nil] at *; omega
theorem cellsOf_append (K M : List (Int × Int)) : cellsOf (K ++ M) = cellsOf K ++ cellsOf M := by simp [cellsOf]
theorem cellsOf_one (K : List (Int × Int)) : ∀ u ∈ cellsOf K, u.oneCell' = true := by
  intro u hu
  obtain ⟨k, _, hk⟩ := List.mem_flatMap.1 hu
  simp only [List.mem_cons, List.not_mem_nil, or_false] at hk
  rcases hk with rfl | rfl <;> rfl
theorem cellsOf_x : ∀ (K : List (Int × Int)) (j : Nat), (cellsOf K)[j * 2]? = (K[j]?).map fun k => .int .u64 k.1
  | [], j => by simp [cellsOf]
  | k :: K, 0 => by simp [cellsOf]
  | k :: K, j + 1 => by
    have := cellsOf_x K j
    simp only [cellsOf, List.flatMap_cons, List.getElem?_cons_succ] at *
    rw [show (j + 1) * 2 = j * 2 + 2 by omega, List.getElem?_append_right (by simp)]
    simpa using this
theorem cellsOf_y : ∀ (K : List (Int × Int)) (j : Nat), (cellsOf K)[j * 2 + 1]? = (K[j]?).map fun k => .int .u64 k.2
  | [], j => by simp [cellsOf]
  | k :: K, 0 => by simp [cellsOf]
  | k :: K, j + 1 => by
    have := cellsOf_y K j
    simp only [cellsOf, List.flatMap_cons, List.getElem?_cons_succ] at *
    rw [show (j + 1) * 2 + 1 = j * 2 + 1 + 2 by omega, List.getElem?_append_right (by simp)]
    simpa using this
theorem cellsOf_take : ∀ (K : List (Int × Int)) (n : Nat), (cellsOf K).take (n * 2) = cellsOf (K.take n)
  | [], n => by simp [cellsOf]
  | k :: K, 0 => by simp [cellsOf]
  | k :: K, n + 1 => by
    have := cellsOf_take K n
    simp only [cellsOf, List.flatMap_cons, List.take_succ_cons] at *
    rw [show (n + 1) * 2 = n * 2 + 2 by omega]
    simpa using this

/-- v holds the copies K, in memory from block base on -/
def RowK (w : World) (base : Nat) (v : Value) (K : List (Int × Int)) : Prop := w.ownsRow base 210 2 v K.length (cellsOf K)

theorem Below.grownNone {w w' : World} (h : Below w.heap.size w w') : w.grownBy w' none := ⟨h.os, h.tape, h.output, h.size, fun k hk _ => h.block k hk⟩
theorem RowK.below {w w' : World} {base : Nat} {v : Value} {K : List (Int × Int)} (h : RowK w base v K) (hb : Below w.heap.size w w') : RowK w' base v K :=
  h.kept (Below.grownNone hb) (by cases hv : v.ownBlock <;> simp)

/-- the row is shorter: out = out[:n] -/
theorem RowK.take {w : World} {base g n cap : Nat} {K : List (Int × Int)} (h : RowK w base (.slice (some ⟨g, 0, none⟩) n cap) K) (m : Nat) (hm : m ≤ K.length) :
    RowK w base (.slice (some ⟨g, 0, none⟩) m cap) (K.take m) := by
  obtain ⟨hl, (⟨h1, _⟩ | ⟨g', cap', cur, hv, hb, hblk, hn, hc, hs, ht⟩)⟩ := h
  · cases h1
  · cases hv
    refine ⟨by rw [cellsOf_length], .inr ⟨g, cap, cur, by rw [List.length_take, Nat.min_eq_left hm], hb, hblk, by rw [List.length_take]; omega, hc, hs, ?_⟩⟩
    rw [List.length_take, Nat.min_eq_left hm, ← cellsOf_take, ← ht, List.take_take, Nat.min_eq_left (Nat.mul_le_mul_right 2 hm)]

set_option maxRecDepth 20000 in
set_option maxHeartbeats 1000000 in
theorem clone_starts (v : Value) (base : Nat) (K : List (Int × Int)) (w : World) (hown : RowK w base v K) (hn : K.length ≤ 1000000) :
    Calls Tryz.prog 156 #[v] w fun e w' => ∃ v', e = .returned v' ∧ RowK w' w.heap.size v' K ∧ Below w.heap.size w w' := by
  obtain ⟨i0, hi, hz0, hz1, hz2⟩ := info_parts info_start
  obtain ⟨hlen, (⟨rfl, hK⟩ | ⟨g, cap, cur, rfl, hbg, hblk, hnc, hcm, hsz, htk⟩)⟩ := hown
  · have hK' : K = [] := List.length_eq_zero_iff.1 hK
    subst hK'
    have hq : ∀ (w : World) (a : Option Addr) (n c n' c' : Nat), (binOp .eql 136 (.slice a n c) (.slice none n' c')).run Tryz.prog w = .ok (.bool a.isNone) w := fun w a n c n' c' => Lib.run_eql_slice_nil w _ _ a n c n' c' Tryz.underlying136
    go_enter Tryz.func156, Tryz.ntmps156
    go_wp2
    go_ret
    exact ⟨_, rfl, World.ownsRow_nil _ _ _ _, Below.refl _ _⟩
  · have hq : ∀ (w : World) (a : Option Addr) (n c n' c' : Nat), (binOp .eql 136 (.slice a n c) (.slice none n' c')).run Tryz.prog w = .ok (.bool a.isNone) w := fun w a n c n' c' => Lib.run_eql_slice_nil w _ _ a n c n' c' Tryz.underlying136
    have hc := Lib.hid hblk
    have ht := Lib.hid htk
    clear hblk htk
    go_enter Tryz.func156, Tryz.ntmps156
    go_wp2_with (at_builtin; refine wpList_append_own _ rfl _ _ 136 rfl w.heap.size 210 i0 (.agg #[.int .u64 0, .int .u64 0]) 2 16 Tryz.underlying136 hi hz0 hz1 hz2 rfl (by decide) _ _ _ rfl (World.ownsRow_made w #[] 0 (Nat.le_refl _) (Nat.zero_le _) rfl) ⟨g, 0, none⟩ K.length cap (cellsOf K) rfl ?qc1 ?qc2 ?qc3 ?qc4 ?qc5 ?qc6 ?_)
    case qc1 => exact cellsOf_length K
    case qc2 =>
      intro j u hj
      have hj2 : cur[j]? = some u := by
        rw [← ht.out] at hj
        have h1 := (List.getElem?_eq_some_iff.1 hj).1
        rw [List.length_take] at h1
        rw [List.getElem?_take_of_lt (by omega)] at hj
        simpa using hj
      rw [Addr.add_lit]
      refine Lib.cell?_alloc_some _ ?_
      rw [cell_of_row w g _ cur _ _ hc.out, Nat.zero_add]
      exact hj2
    case qc3 => exact cellsOf_one K
    case qc4 => unfold maxLen; omega
    case qc5 => omega
    case qc6 => simp
    intro v' w1 hown1 hgrow hnil
    go_wp2
    go_ret
    refine ⟨v', rfl, by simpa [RowK] using hown1, ?_⟩
    exact ((Below.refl _ w).alloc (Nat.le_refl _) _).grown hgrow (by simp) (by intro k hk; simp [Value.ownBlock] at hk; omega)

end Go.Proofs.YtbnnkkojlclgjaaGreat
/-
  The contracts of a sagging run without copies: a nil one, or one of which none started.
-/
namespace Go.Proofs.YtbnnkkojlclgjaaGreat
set_option linter.unusedVariables false
open Go.RowKit

/-- when a run without copies has y -/
def nev (y : Int) : Int := if y = 0 then 0 else 9223372036854775808

/-- p leads to a run without copies -/
def NoneAt (w : World) (p : Option Addr) : Prop := p = none ∨ ∃ g, p = some ⟨g, 0, none⟩ ∧ g < w.heap.size ∧ w.cell? ⟨g, 4, none⟩ = some (.int .i64 0)

theorem NoneAt.below {w w' : World} {p : Option Addr} (h : NoneAt w p) (hb : Below w.heap.size w w') : NoneAt w' p := by
  rcases h with rfl | ⟨g, rfl, hg, hc⟩
  · exact .inl rfl
  · exact .inr ⟨g, rfl, Nat.lt_of_lt_of_le hg hb.size, (hb.cell (p := ⟨g, 4, none⟩) hg).trans hc⟩

theorem snone_yes (p : Option Addr) (w : World) (h : NoneAt w p) :
    Calls Tryz.prog 160 #[.pointer p] w fun e w' => e = .returned (.bool true) ∧ w = w' := by
  rcases h with rfl | ⟨g, rfl, hg, hc⟩
  · go_enter Tryz.func160, Tryz.ntmps160
    go_wp2
    go_ret
    exact ⟨rfl, rfl⟩
  · go_enter Tryz.func160, Tryz.ntmps160
    go_wp2
    go_ret
    exact ⟨rfl, rfl⟩

theorem slastof_none (p : Option Addr) (y : Int) (f : Value) (w : World) (h : NoneAt w p) :
    Calls Tryz.prog 153 #[.pointer p, .int .u64 y, f] w fun e w' => e = .returned (.int .u64 (nev y)) ∧ w = w' := by
  by_cases hy : y = 0
  · subst hy
    go_enter Tryz.func153, Tryz.ntmps153
    go_wp2_with (go_at_call 160; refine (snone_yes _ _ h).mono ?_; rintro e w' ⟨rfl, rfl⟩)
    go_ret
    exact ⟨rfl, rfl⟩
  · have hy0 : (y == 0) = false := by simpa using hy
    have E := Lib.hid (show nev y = 9223372036854775808 by unfold nev; rw [if_neg hy])
    clear hy
    go_enter Tryz.func153, Tryz.ntmps153
    go_wp2_with (go_at_call 160; refine (snone_yes _ _ h).mono ?_; rintro e w' ⟨rfl, rfl⟩)
    go_ret
    exact ⟨ret_int E.out.symm, rfl⟩

theorem sreach_none (p : Option Addr) (y : Int) (w : World) (h : NoneAt w p) :
    Calls Tryz.prog 150 #[.pointer p, .int .u64 y] w fun e w' => e = .returned (.int .u64 (nev y)) ∧ Below w.heap.size w w' := by
  have h1 := h.below ((Below.refl _ w).alloc (Nat.le_refl _) (.cells #[.pointer p] 97))
  go_enter Tryz.func150, Tryz.ntmps150
  go_wp2_with (go_at_call 153; refine (slastof_none _ _ _ _ h1).mono ?_; rintro e w' ⟨rfl, rfl⟩)
  go_ret
  exact ⟨rfl, by go_grown⟩

theorem sahead_none (p : Option Addr) (y : Int) (w : World) (h : NoneAt w p) (hr : ∀ g, p = some ⟨g, 0, none⟩ → ∃ R, w.cell? ⟨g, 2, none⟩ = some (.int .u64 R)) :
    Calls Tryz.prog 171 #[.pointer p, .int .u64 y] w fun e w' => e = .returned (.int .u64 (nev y)) ∧ Below w.heap.size w w' := by
  have hb0 : Below w.heap.size w (w.alloc (.cells #[.int .u64 0] 23)) := (Below.refl _ w).alloc (Nat.le_refl _) _
  rcases h with rfl | ⟨g, rfl, hg, hc⟩
  · clear hr
    go_enter Tryz.func171, Tryz.ntmps171
    go_wp2_with (go_at_call 153; refine (slastof_none _ _ _ _ (.inl rfl)).mono ?_; rintro e w' ⟨rfl, rfl⟩)
    go_ret
    exact ⟨rfl, by go_grown⟩
  · obtain ⟨R, hR⟩ := hr g rfl
    clear hr
    have hN : NoneAt (w.alloc (.cells #[.int .u64 R] 23)) (some ⟨g, 0, none⟩) := NoneAt.below (.inr ⟨g, rfl, hg, hc⟩) ((Below.refl _ w).alloc (Nat.le_refl _) _)
    go_enter Tryz.func171, Tryz.ntmps171
    go_wp2_with (go_at_call 153; refine (slastof_none _ _ _ _ hN).mono ?_; rintro e w' ⟨rfl, rfl⟩)
    go_ret
    exact ⟨rfl, by go_grown⟩

theorem sstart_nil (x y : Int) (w : World) :
    Calls Tryz.prog 151 #[.pointer none, .int .u64 x, .int .u64 y] w fun e w' => e = .returned (.tuple #[]) ∧ w = w' := by
  go_enter Tryz.func151, Tryz.ntmps151
  go_wp2
  go_step3
  go_wp2
  rw [Exit.noGoto_ret]
  go_returns
  exact ⟨rfl, rfl⟩

theorem sstart_unmade (g : Nat) (x y : Int) (w : World) (hc : w.cell? ⟨g, 3, none⟩ = some (.bool false)) :
    Calls Tryz.prog 151 #[.pointer (some ⟨g, 0, none⟩), .int .u64 x, .int .u64 y] w fun e w' => e = .returned (.tuple #[]) ∧ w = w' := by
  go_enter Tryz.func151, Tryz.ntmps151
  go_wp2
  go_step3
  go_wp2
  rw [Exit.noGoto_ret]
  go_returns
  exact ⟨rfl, rfl⟩

end Go.Proofs.YtbnnkkojlclgjaaGreat
/-
  What a sagging run has: least, At.
-/
namespace Go.Proofs.YtbnnkkojlclgjaaGreat
set_option linter.unusedVariables false
open Go.RowKit

/-- a sagging run in memory: n copies started, the last one at x, K are kept -/
def SagAt (w : World) (g : Nat) (F L R n x : Int) (K : List (Int × Int)) : Prop :=
  ∃ v, Blk w g 138 #[.int .u64 F, .int .u64 L, .int .u64 R, .bool true, .int .i64 n, .int .u64 x, v] ∧ RowK w (g + 1) v K

theorem SagAt.below {w w' : World} {g : Nat} {F L R n x : Int} {K : List (Int × Int)} (h : SagAt w g F L R n x K) (hb : Below w.heap.size w w') : SagAt w' g F L R n x K := by
  obtain ⟨v, h1, h2⟩ := h
  exact ⟨v, h1.below hb h1.lt, h2.below hb⟩

/-- where copies are kept the row's block is known -/
theorem RowK.open_ {w : World} {base : Nat} {v : Value} {K : List (Int × Int)} (h : RowK w base v K) (hK : K ≠ []) :
    ∃ b cap, v = .slice (some ⟨b, 0, none⟩) K.length cap ∧ base ≤ b ∧ b < w.heap.size ∧ K.length ≤ cap ∧
      ∀ j k, K[j]? = some k → w.cell? ⟨b, j * 2, none⟩ = some (.int .u64 k.1) ∧ w.cell? ⟨b, j * 2 + 1, none⟩ = some (.int .u64 k.2) := by
  have h' := h
  obtain ⟨hl, (⟨_, h0⟩ | ⟨b, cap, cur, hv, hb, hblk, hn, hc, hs, ht⟩)⟩ := h
  · exact absurd (List.length_eq_zero_iff.1 h0) hK
  · subst hv
    refine ⟨b, cap, rfl, hb, (Array.getElem?_eq_some_iff.1 hblk).1, hn, fun j k hj => ?_⟩
    have hjl : j < K.length := (List.getElem?_eq_some_iff.1 hj).1
    have h1 := h'.cellAt (j * 2) (by omega)
    have h2 := h'.cellAt (j * 2 + 1) (by omega)
    rw [cellsOf_x, hj] at h1
    rw [cellsOf_y, hj] at h2
    exact ⟨h1, h2⟩

theorem snone_no (g : Nat) (n : Int) (w : World) (hn : n ≠ 0) (hc : w.cell? ⟨g, 4, none⟩ = some (.int .i64 n)) :
    Calls Tryz.prog 160 #[.pointer (some ⟨g, 0, none⟩)] w fun e w' => e = .returned (.bool false) ∧ w = w' := by
  have h0 : (n == 0) = false := by simpa using hn
  go_enter Tryz.func160, Tryz.ntmps160
  go_wp2
  go_ret
  exact ⟨rfl, rfl⟩

theorem minF_take (g : Int × Int → Int) (m : Int) (K : List (Int × Int)) (k : Nat) (p : Int × Int) (h : K[k]? = some p) : minF g m (K.take (k + 1)) = min (minF g m (K.take k)) (g p) := by
  rw [List.take_add_one, h]
  simp [minF, List.foldl_append]

end Go.Proofs.YtbnnkkojlclgjaaGreat
/-
  sagged.Start: one more copy starts.
-/
namespace Go.Proofs.YtbnnkkojlclgjaaGreat
set_option linter.unusedVariables false
open Go.RowKit
attribute [local go_sem ↓] Go.wp_at_zero Go.wp_at_succ
attribute [local go_sem] quietR quietAtR quietUponR midAt midUpon

/-- ahead of the loop: n + 1 copies started, the last one at x -/
def S0 (w W : World) (g : Nat) (F L R n X : Int) (v : Value) (K : List (Int × Int)) : Prop :=
  Blk W g 138 #[.int .u64 F, .int .u64 L, .int .u64 R, .bool true, .int .i64 (n + 1), .int .u64 X, v] ∧ RowK W (g + 1) v K ∧ w.grownBy W (some g)

/-- behind the copies' list was made -/
def S1 (W W' : World) (X Y : Int) (K : List (Int × Int)) (s50 s51 s52 : Value) : Prop :=
  ∃ b cp, s50 = .slice (some ⟨b, 0, none⟩) (K.length + 1) cp ∧ s51 = .int .i64 ((K.length + 1 : Nat) : Int) ∧ s52 = .int .i64 0 ∧ RowK W' W.heap.size s50 (K ++ [(X, Y)]) ∧ Below W.heap.size W W'

theorem RowK.low {w : World} {b b' : Nat} {v : Value} {K : List (Int × Int)} (h : RowK w b v K) (hb : b' ≤ b) : RowK w b' v K := by
  obtain ⟨h1, h2 | ⟨g, cp, cur, h2, h3, h4⟩⟩ := h
  · exact ⟨h1, .inl h2⟩
  · exact ⟨h1, .inr ⟨g, cp, cur, h2, by omega, h4⟩⟩

theorem RowK.shape {w : World} {base : Nat} {v : Value} {K : List (Int × Int)} (h : RowK w base v K) : ∃ a c, v = .slice a K.length c := by
  obtain ⟨h1, ⟨h2, h0⟩ | ⟨g, cp, cur, h2, h3, h4⟩⟩ := h
  · exact ⟨none, 0, by rw [h2, h0]⟩
  · exact ⟨_, _, h2⟩
theorem fold_mem {F L R s : Int} : ∀ (l out : List (Int × Int)), ∀ q ∈ l.foldl (push1 F L R s) out, q ∈ out ∨ q ∈ l
  | [], out, q, h => .inl h
  | k :: l, out, q, h => by
    rcases fold_mem l _ q h with h | h
    · rcases push1_mem h with h | rfl
      · exact .inl h
      · exact .inr (by simp)
    · exact .inr (by simp [h])
theorem push1_len {F L R s : Int} (out : List (Int × Int)) (k : Int × Int) : (push1 F L R s out k).length ≤ out.length + 1 := by
  obtain ⟨m, hm, he, _, _⟩ := popN_spec (fun o => decide (hasK F L R k s ≤ hasK F L R o s)) out out.length
  have hl : (out.take m).length ≤ out.length := by simp; omega
  unfold push1
  simp only [he]
  split
  · split
    · omega
    · rw [List.length_append]; simp only [List.length_singleton]; omega
  · rw [List.length_append]; simp only [List.length_singleton]; omega
theorem fold_len {F L R s : Int} : ∀ (l out : List (Int × Int)), (l.foldl (push1 F L R s) out).length ≤ out.length + l.length
  | [], out => by simp
  | k :: l, out => by
    have h1 := fold_len (F := F) (L := L) (R := R) (s := s) l (push1 F L R s out k)
    have h2 := push1_len (F := F) (L := L) (R := R) (s := s) out k
    simp only [List.foldl_cons, List.length_cons]; omega
theorem fold_next {F L R s : Int} {M : List (Int × Int)} {j : Nat} {p : Int × Int} (h : M[j]? = some p) : (M.take (j + 1)).foldl (push1 F L R s) [] = push1 F L R s ((M.take j).foldl (push1 F L R s) []) p := by
  rw [List.take_add_one, h]
  simp [List.foldl_append]

theorem hask_any (g : Nat) (F L R x y s : Int) (w : World) (h : MayC F L R) (hx : 0 ≤ x) (hxs : x ≤ s) (hs : U s) (hy : U y) (hg : g < w.heap.size)
    (c0 : w.cell? ⟨g, 0, none⟩ = some (.int .u64 F)) (c1 : w.cell? ⟨g, 1, none⟩ = some (.int .u64 L)) (c2 : w.cell? ⟨g, 2, none⟩ = some (.int .u64 R)) :
    Calls Tryz.prog 157 #[.pointer (some ⟨g, 0, none⟩), .agg #[.int .u64 x, .int .u64 y], .int .u64 s] w fun e w' =>
      e = .returned (.agg #[.int .u64 (hiW (hasK F L R (x, y) s)), .int .u64 (loW (hasK F L R (x, y) s))]) ∧ Below w.heap.size w w' := by
  have hf : U F := ⟨h.f0, by have := h.f1; omega⟩
  have hr : U R := ⟨h.r0, by have := h.r1; omega⟩
  have hl : U L := ⟨h.l0, by have := h.l1; omega⟩
  have e : hasK F L R (x, y) s = F * min (s - x) L + R * (s - x - min (s - x) L) + y := by unfold hasK W; simp only; omega
  rw [e]
  exact has_any g F L R x y s _ w hf h.f1 hr h.r1 hl hx hxs hs hy rfl hg c0 c1 c2
theorem linek_any (g : Nat) (F L R x y s : Int) (w : World) (h : MayC F L R) (hx : 0 ≤ x) (hxs : x ≤ s) (hs : U s) (hy : U y) (hg : g < w.heap.size)
    (c2 : w.cell? ⟨g, 2, none⟩ = some (.int .u64 R)) :
    Calls Tryz.prog 159 #[.pointer (some ⟨g, 0, none⟩), .agg #[.int .u64 x, .int .u64 y], .int .u64 s] w fun e w' =>
      e = .returned (.agg #[.int .u64 (hiW (lineK R (x, y) s)), .int .u64 (loW (lineK R (x, y) s))]) ∧ Below w.heap.size w w' := by
  have hr : U R := ⟨h.r0, by have := h.r1; omega⟩
  have e : lineK R (x, y) s = R * (s - x) + y := by unfold lineK; simp only; omega
  rw [e]
  exact line_any g F L R x y s w hr h.r1 hx hxs hs hy hg c2
theorem cmpk_any (x y c : Int) (w : World) (h : cmpI x y = c) :
    Calls Tryz.prog 158 #[.agg #[.int .u64 (hiW x), .int .u64 (loW x)], .agg #[.int .u64 (hiW y), .int .u64 (loW y)]] w fun e w' => e = .returned (.int .i64 c) ∧ Below w.heap.size w w' := by
  have := cmp_any (hiW x) (loW x) (hiW y) (loW y) w (U_lo x) (U_lo y)
  rw [num_words, num_words, h] at this
  exact this

theorem World.grownBy_setCell (w : World) (p : Addr) (u : Value) : w.grownBy (w.setCell p u) (some p.block) :=
  ⟨rfl, rfl, rfl, by simp [World.setCell], fun k hk hne => Below.heap_setCell w p u k (by simpa using hne)⟩
theorem popN_pop {v : Int × Int → Bool} {l : List (Int × Int)} {m : Nat} {q : Int × Int} (hq : l[m]? = some q) (hv : v q = true) : popN v l (m + 1) = popN v l m := by
  rw [popN, hq]; simp [hv]
theorem popN_stay {v : Int × Int → Bool} {l : List (Int × Int)} {m : Nat} {q : Int × Int} (hq : l[m]? = some q) (hv : v q = false) : popN v l (m + 1) = l.take (m + 1) := by
  rw [popN, hq]; simp [hv]
theorem last_take {l : List (Int × Int)} {m : Nat} {q : Int × Int} (hq : l[m]? = some q) : (l.take (m + 1)).getLast? = some q := by
  rw [List.take_add_one, hq]; simp
theorem push1_none {F L R s : Int} {out : List (Int × Int)} {k : Int × Int} (hp : popN (fun o => decide (hasK F L R k s ≤ hasK F L R o s)) out 0 = popN (fun o => decide (hasK F L R k s ≤ hasK F L R o s)) out out.length) : push1 F L R s out k = [k] := by
  unfold push1
  rw [← hp]
  simp [popN]
theorem push1_top {F L R s : Int} {out : List (Int × Int)} {k q : Int × Int} {m : Nat} (hq : out[m]? = some q) (hp : popN (fun o => decide (hasK F L R k s ≤ hasK F L R o s)) out (m + 1) = popN (fun o => decide (hasK F L R k s ≤ hasK F L R o s)) out out.length)
    (hv : hasK F L R q s < hasK F L R k s) : push1 F L R s out k = if lineK R q s ≤ lineK R k s then out.take (m + 1) else out.take (m + 1) ++ [k] := by
  unfold push1
  rw [← hp, popN_stay hq (by simp; omega)]
  simp only [last_take hq]
theorem RowK.append {w2 : World} {base b c : Nat} {K : List (Int × Int)} {x y : Int} (h : w2.ownsRow base 210 2 (.slice (some ⟨b, 0, none⟩) (K.length + 1) c) (K.length + 1) (cellsOf K ++ [.int .u64 x, .int .u64 y])) :
    RowK w2 base (.slice (some ⟨b, 0, none⟩) (K.length + 1) c) (K ++ [(x, y)]) := by
  rw [RowK, cellsOf_append, List.length_append]
  exact h

set_option maxRecDepth 100000 in
set_option maxHeartbeats 2000000 in
theorem sstart_any (g : Nat) (F L R n x y t X Y : Int) (K : List (Int × Int)) (w : World) (hX : X = max (min t 9223372036854775808) x) (hY : Y = min y 4611686018427387904) (hx : U x) (ht : U t) (hy : U y) (hn0 : 0 ≤ n) (hn : n ≤ 1000000) (hbig : K.length ≤ 900000)
    (hC : SagC F L R) (hK : ∀ k ∈ K, 0 ≤ k.1 ∧ k.1 ≤ x ∧ U k.2) (hs : SagAt w g F L R n x K) :
    Calls Tryz.prog 151 #[.pointer (some ⟨g, 0, none⟩), .int .u64 t, .int .u64 y] w fun e w' =>
      e = .returned (.tuple #[]) ∧ SagAt w' g F L R (n + 1) X (startK F L R X K (X, Y)) ∧ w.grownBy w' (some g) := by
  obtain ⟨v, hb, hrow⟩ := hs
  have hg := hb.lt
  have c3 := hb.cell 3; have c4 := hb.cell 4; have c5 := hb.cell 5
  have z5 := hb.frozen 5; have z4 := hb.frozen 4
  have hUX : U X := by unfold U at *; omega
  have hUY : U Y := by unfold U at *; omega
  have H0 : Hid (∀ W, W = (w.setCell ⟨g, 5, none⟩ (.int .u64 X)).setCell ⟨g, 4, none⟩ (.int .i64 (n + 1)) → S0 w W g F L R n X v K) := by
    refine Lib.hid fun W hW => ?_
    subst hW
    have h1 := World.grownBy_setCell w ⟨g, 5, none⟩ (.int .u64 X)
    have h2 := World.grownBy_setCell (w.setCell ⟨g, 5, none⟩ (.int .u64 X)) ⟨g, 4, none⟩ (.int .i64 (n + 1))
    have hne : v.ownBlock = none ∨ v.ownBlock ≠ some g := by
      rcases hv : v.ownBlock with _ | k
      · exact .inl rfl
      · refine .inr fun he => ?_
        have := (hrow.lt k hv).1
        injection he with he
        omega
    refine ⟨?_, (hrow.kept h1 hne).kept h2 hne, ⟨h2.os.trans h1.os, h2.tape.trans h1.tape, h2.output.trans h1.output, Nat.le_trans h1.size h2.size, fun k hk hk2 => (h2.block k (Nat.lt_of_lt_of_le hk h1.size) hk2).trans (h1.block k hk hk2)⟩⟩
    have h3 := (hb.set_ 5 (.int .u64 X)).set_ 4 (.int .i64 (n + 1))
    simpa using h3
  have HM := Lib.hid (show ∀ k ∈ K ++ [(X, Y)], 0 ≤ k.1 ∧ k.1 ≤ X ∧ U k.2 from fun k hk => by
    rcases List.mem_append.1 hk with h | h
    · have := hK k h; exact ⟨this.1, by omega, this.2.2⟩
    · obtain rfl : k = (X, Y) := by simpa using h
      exact ⟨hUX.1, Int.le_refl _, hUY⟩)
  clear hK
  have HX := Lib.hid hX; have HY := Lib.hid hY
  clear hb hrow hX hY
  simp only [List.getElem?_toArray, List.getElem?_cons_zero, List.getElem?_cons_succ] at c3 c4 c5
  go_enter Tryz.func151, Tryz.ntmps151
  go_step3
  go_upto_region 1 with fail
  go_cut [20] (fun _ wx => wx = w.setCell ⟨g, 5, none⟩ (.int .u64 X))
  case first =>
    go_wp2
    all_goals (go_meet; have h := HX.out; congr 1; exact val_int (by omega))
  case rest =>
    subst hcut
    go_upto_region 4 with fail
    refine wp_gen (fun W => S0 w W g F L R n X v K) (H0.out _ rfl) ?_
    clear H0
    intro W hS
    obtain ⟨hB, hR, hgr⟩ := hS
    have hgW := hB.lt
    have d4 := hB.cell 6; have d3 := hB.cell 5
    simp only [List.getElem?_toArray, List.getElem?_cons_zero, List.getElem?_cons_succ] at d4 d3
    have HB := Lib.hid hB; have HR := Lib.hid hR; have HG := Lib.hid hgr
    clear hB hR hgr c3 c4 c5 z4 z5
    go_step3
    go_upto_region 4 with fail
    go_cut [50, 51, 52] (fun s50 s51 s52 wx => S1 W wx X Y K s50 s51 s52)
    case first =>
      have hRW := HR.out
      have dd4 := fun e => (over_cell (w := W) (e := e) (o := 6) hgW).trans d4
      have dd3 := fun e => (over_cell (w := W) (e := e) (o := 5) hgW).trans d3
      refine wp_region_mid (w := W) 13 2 [4, 12] [(52, .int .i64 0)] [(4, fun u W' => RowK W' W.heap.size u K), (12, fun u W' => ∃ b, u = .slice (some ⟨b, 0, none⟩) 1 1 ∧ W.heap.size ≤ b ∧ Blk W' b 210 #[.int .u64 X, .int .u64 Y])] rfl (by kernel_rfl) (by kernel_rfl) (by kernel_rfl) (by kernel_rfl) (fun _ _ _ _ _ h => h) ⟨?st1, ?st2, trivial⟩ ?_
      case st1 => exact fun v W1 W2 h hb => h.below hb
      case st2 => exact fun v W1 W2 ⟨b, h1, h2, h3⟩ hb => ⟨b, h1, h2, h3.below hb h3.lt⟩
      intro L hL
      have HL := Lib.hid hL
      clear hL
      simp only [List.take_succ_cons, List.take_zero, putL]
      repeat (first | refine wpHead_skip (by decide) ?_ | (refine wpHead_step (by decide) (fun K hK => ?_); go_simp; first | (refine hK _ ?_; clear hK K) | (apply Exists.intro; refine ⟨fun _ => ?_, hK _ ?_⟩; (fail); clear hK K)))
      refine wpHead_nil (HL.out _ ⟨?_, ?_, trivial⟩ ?_)
      · intro vs W1 hb1 hf
        clear hf HL
        change midAt _ _ (Act.put (Act.put _ (some 41) (vs 4)) (some 49) (vs 12)) _ _
        go_simp
        exact (clone_starts v (g + 1) K W1 (hRW.below hb1) (by omega)).mono fun e W2 ⟨v', he, hr, hb⟩ => ⟨v', he, hb, hr.low hb1.size⟩
      · intro vs W1 hb1 hf
        clear hf HL
        change midAt _ _ (Act.put (Act.put _ (some 41) (vs 4)) (some 49) (vs 12)) _ _
        go_simp
        refine ⟨(Below.refl _ _).alloc (Nat.le_refl _) _, hb1.size, ?_⟩
        have hYv := HY.out
        rw [show (if 4611686018427387904 < y then (4611686018427387904 : Int) else y) = Y by omega]
        exact Blk.new _ _ _
      · intro vs W1 hb1 hf
        obtain ⟨hf1, ⟨b1, hf2, hbb, hf3⟩, hff⟩ := hf
        clear hff
        clear HL
        change wpList _ _ _ _ (Act.put (Act.put _ (some 41) (vs 4)) (some 49) (vs 12)) _
        generalize vs 4 = v1 at *
        rw [hf2]
        clear hf2
        simp only [List.drop_succ_cons, List.drop_zero, List.take_succ_cons, List.take_zero]
        obtain ⟨i0, hi0, hz0, hz1, hz2⟩ := info_parts info_start
        have H3 := Lib.hid hf3
        clear hf3
        go_wp2_with (at_builtin; refine wpList_append_lies _ rfl _ _ 136 rfl W.heap.size 210 i0 (.agg #[.int .u64 0, .int .u64 0]) 2 16 Tryz.underlying136 hi0 hz0 hz1 hz2 rfl (by decide) v1 K.length (cellsOf K) rfl hf1 ⟨b1, 0, none⟩ 1 1 [.int .u64 X, .int .u64 Y] rfl rfl (World.news_of_block H3.out) (by simp [Value.oneCell']) (by decide) (by unfold maxLen; omega) (by omega) hb1.size _ rfl ?_; intro b2 cp2 W2 hown2 hgr2 hat2 hlt2)
        all_goals
          go_meet
          refine ⟨b2, cp2, rfl, by go_num, rfl, ?_, hb1.grown hgr2 hb1.size fun k hk => (hf1.lt k hk).1⟩
          rw [RowK, cellsOf_append, List.length_append]
          exact hown2
    case rest =>
      obtain ⟨b, cp, rfl, rfl, rfl, hL, hbL⟩ := hcut
      obtain ⟨b', cp', hv', hbb, hbw, hcap, hcells⟩ := hL.open_ (by simp)
      obtain ⟨rfl, rfl⟩ : b = b' ∧ cp = cp' := by injection hv' with h1 h2 h3; injection h1 with h1; injection h1 with h1; exact ⟨h1, h3⟩
      clear hv' d3 d4
      have HL := Lib.hid hL; have HC := Lib.hid hcells
      clear hL hcells
      go_wp2
      go_loopw [6, 52] (fun o i Wr => ∃ j : Nat, j ≤ K.length + 1 ∧ i = .int .i64 j ∧ RowK Wr wc.heap.size o (((K ++ [(X, Y)]).take j).foldl (push1 F L R X) []) ∧ Below wc.heap.size wc Wr) (fun _ i _ => K.length + 1 - (intOf i).toNat)
      case atStart => exact ⟨0, by omega, rfl, World.ownsRow_nil _ _ _ _, Below.refl _ _⟩
      case round =>
        obtain ⟨j, hj, rfl, hrow, hbr⟩ := hrel
        obtain ⟨wo, hwo⟩ : ∃ wo : World, wo = wr := ⟨_, rfl⟩
        subst hwo
        by_cases hlt : j < K.length + 1
        · obtain ⟨⟨px, py⟩, hp⟩ : ∃ p, (K ++ [(X, Y)])[j]? = some p := ⟨_, List.getElem?_eq_getElem (by simp; omega)⟩
          have hpm := HM.out _ (List.mem_of_getElem? hp)
          have hout := fold_mem (F := F) (L := L) (R := R) (s := X) ((K ++ [(X, Y)]).take j) []
          have hlen := fold_len (F := F) (L := L) (R := R) (s := X) ((K ++ [(X, Y)]).take j) []
          have hnext := fold_next (F := F) (L := L) (R := R) (s := X) hp
          generalize ((K ++ [(X, Y)]).take j).foldl (push1 F L R X) [] = out at hrow hout hlen hnext
          have hlen2 : out.length ≤ 1000000 := by simp at hlen; omega
          have hom : ∀ q ∈ out, 0 ≤ q.1 ∧ q.1 ≤ X ∧ U q.2 := fun q hq => HM.out q (by rcases hout q hq with h | h; simp at h; exact List.mem_of_mem_take h)
          obtain ⟨e0, e1⟩ := HC.out j _ hp
          have f0 := (hbr.cell (p := ⟨b, j * 2, none⟩) hbw).trans e0
          have f1 := (hbr.cell (p := ⟨b, j * 2 + 1, none⟩) hbw).trans e1
          clear e0 e1
          obtain ⟨oa, oc, rfl⟩ := hrow.shape
          have HW := Lib.hid hrow
          have HN := Lib.hid hnext; have HO := Lib.hid hom
          clear hrow hnext hom hout hlen hp
          go_wp2
          have nb := Blk.new wo 210 #[.int .u64 px, .int .u64 py]
          have hal := (Below.refl wo.heap.size wo).alloc (Nat.le_refl _) (.cells #[.int .u64 px, .int .u64 py] 210)
          generalize hW1 : wo.alloc (.cells #[.int .u64 px, .int .u64 py] 210) = W1 at *
          have NB := Lib.hid nb
          clear hW1 nb f0 f1
          go_loopw [6, 9] (fun o nn Wr => ∃ (m : Nat) (a : Option Addr) (c : Nat), m ≤ out.length ∧ nn = .int .i64 m ∧ o = .slice a m c ∧ RowK Wr wc.heap.size o (out.take m) ∧ popN (fun o => decide (hasK F L R (px, py) X ≤ hasK F L R o X)) out m = popN (fun o => decide (hasK F L R (px, py) X ≤ hasK F L R o X)) out out.length ∧ Below W1.heap.size W1 Wr) (fun _ nn _ => (intOf nn).toNat)
          case atStart => exact ⟨out.length, oa, oc, Nat.le_refl _, rfl, rfl, by rw [List.take_length]; exact HW.out.below hal, rfl, Below.refl _ _⟩
          case round =>
            obtain ⟨m, a, c, hm, rfl, rfl, hrow2, hpop, hb2⟩ := hrel
            have hB2 := (((HB.out.below hbL hgW).below hbr (HB.out.below hbL hgW).lt).below hal ((HB.out.below hbL hgW).below hbr (HB.out.below hbL hgW).lt).lt)
            have hB3 := hB2.below hb2 hB2.lt
            have hP := NB.out.below hb2 NB.out.lt
            have og0 := fun e => (over_cell (w := wr) (e := e) (o := 0) hB3.lt).trans (hB3.cell 0)
            have og1 := fun e => (over_cell (w := wr) (e := e) (o := 1) hB3.lt).trans (hB3.cell 1)
            have og2 := fun e => (over_cell (w := wr) (e := e) (o := 2) hB3.lt).trans (hB3.cell 2)
            have og5 := fun e => (over_cell (w := wr) (e := e) (o := 5) hB3.lt).trans (hB3.cell 5)
            have op0 := fun e => (over_cell (w := wr) (e := e) (o := 0) hP.lt).trans (hP.cell 0)
            have op1 := fun e => (over_cell (w := wr) (e := e) (o := 1) hP.lt).trans (hP.cell 1)
            have ogl := fun e => Nat.lt_of_lt_of_le hB3.lt (over_below wr e).size
            simp only [List.getElem?_toArray, List.getElem?_cons_zero, List.getElem?_cons_succ] at og0 og1 og2 og5 op0 op1
            have OG := Lib.hid (fun e => And.intro (og0 e) (And.intro (og1 e) (And.intro (og2 e) (ogl e))))
            clear og0 og1 og2 ogl
            have HP := Lib.hid hpop; have HR2 := Lib.hid hrow2; have HB3 := Lib.hid hB3; have HPB := Lib.hid hP
            clear hpop hrow2 hB2 hB3 hP
            by_cases h0 : m = 0
            · subst h0
              have hg0 : decide ((0 : Int) > 0) = false := by decide
              go_wp2
              refine wp_region_over (by kernel_rfl) (by kernel_rfl) ?_
              repeat (first | go_big_quiet_skip | (go_big_quiet_want; go_big_quiet_op; go_big_quiet_on))
              refine wpQuiet_nil ?_
              rintro W2 ⟨e, he⟩
              have hb22 := over_below wr e
              rw [← he] at hb22
              clear he og5 op0 op1
              go_wp2
              refine wp_region_over (by kernel_rfl) (by kernel_rfl) ?_
              repeat (first | go_big_quiet_skip | (go_big_quiet_want; go_big_quiet_op; go_big_quiet_on))
              refine wpQuiet_nil ?_
              rintro W3 ⟨e, he⟩
              have hb33 := over_below W2 e
              rw [← he] at hb33
              clear he
              have hP5 := (HPB.out.below hb22 HPB.out.lt).below hb33 (HPB.out.below hb22 HPB.out.lt).lt
              have p0 := hP5.cell 0; have p1 := hP5.cell 1
              have hlW : wo.heap.size < W3.heap.size := hP5.lt
              simp only [List.getElem?_toArray, List.getElem?_cons_zero, List.getElem?_cons_succ] at p0 p1
              have hnew := HN.out
              rw [push1_none HP.out] at hnew
              have HNew := Lib.hid hnew
              have hr6 : W3.ownsRow wc.heap.size 210 2 (.slice a 0 c) 0 (cellsOf []) := (HR2.out.below hb22).below hb33
              have hbW2 : Below wc.heap.size wc W2 := ((hbr.trans (hal.mono hbr.size)).trans (hb2.mono (Nat.le_trans hbr.size hal.size))).trans (hb22.mono (Nat.le_trans hbr.size (Nat.le_trans hal.size hb2.size)))
              have hbW3 : Below wc.heap.size wc W3 := hbW2.trans (hb33.mono hbW2.size)
              have HR6 := Lib.hid hr6
              clear hnew hP5 hr6
              obtain ⟨i0, hi0, hz0, hz1, hz2⟩ := info_parts info_start
              go_wp2_with (at_builtin; refine wpList_append_lies _ rfl _ _ 136 rfl wc.heap.size 210 i0 (.agg #[.int .u64 0, .int .u64 0]) 2 16 Tryz.underlying136 hi0 hz0 hz1 hz2 rfl (by decide) _ 0 (cellsOf ([])) rfl (HR6.out.alloc _) ⟨W3.heap.size, 0, none⟩ 1 1 [.int .u64 px, .int .u64 py] rfl rfl (World.news_of_block (heap_alloc_new W3 _)) (by simp [Value.oneCell']) (by decide) (by unfold maxLen; omega) (by omega) (Nat.le_trans hbW3.size (by simp)) _ rfl ?_; intro b4 cp4 W4 hown4 hgr4 hat4 hlt4)
              have hlast : RowK W4 wc.heap.size (.slice (some ⟨b4, 0, none⟩) (0 + 1) cp4) [(px, py)] := hown4
              have hbW4 : Below wc.heap.size wc W4 := (hbW3.alloc hbW3.size _).grown hgr4 (by simp; have := hbW3.size; omega) (fun k hk => (HR6.out.lt k hk).1)
              go_roundw
              case rel => (repeat apply Exists.intro); exact ⟨⟨j + 1, by omega, by go_num, by rw [HNew.out]; exact hlast, hbW4⟩, rfl⟩
              case measure => simp [intOf]; omega
            · obtain ⟨m, rfl⟩ : ∃ m', m = m' + 1 := ⟨m - 1, by omega⟩
              clear h0
              obtain ⟨⟨qx, qy⟩, hq⟩ : ∃ q, out[m]? = some q := ⟨_, List.getElem?_eq_getElem (by omega)⟩
              have hqm := HO.out _ (List.mem_of_getElem? hq)
              have hqt : (out.take (m + 1))[m]? = some (qx, qy) := by rw [List.getElem?_take_of_lt (by omega)]; exact hq
              obtain ⟨b3, cp3, hv3, hbb3, hbw3, hcap3, hcells3⟩ := HR2.out.open_ (by intro h; rw [h] at hqt; simp at hqt)
              obtain ⟨rfl, rfl⟩ : a = some ⟨b3, 0, none⟩ ∧ c = cp3 := by injection hv3 with h1 h2 h3; exact ⟨h1, h3⟩
              obtain ⟨e0, e1⟩ := hcells3 m _ hqt
              have oq0 := fun e => (over_cell (w := wr) (e := e) (o := m * 2) hbw3).trans e0
              have oq1 := fun e => (over_cell (w := wr) (e := e) (o := m * 2 + 1) hbw3).trans e1
              have HQ := Lib.hid hq
              have hmc : (m : Int) ≤ (c : Int) := by have := hcap3; rw [List.length_take] at this; omega
              have hne : out.take (m + 1) ≠ [] := by intro h; rw [h] at hqt; simp at hqt
              have HNE := Lib.hid hne
              clear hne
              clear hv3 hcells3 hq hqt e0 e1
              rw [Int.natCast_succ]
              have hm0 : (0 : Int) ≤ (m : Int) := Int.natCast_nonneg _
              have hm1 : (m : Int) < (m : Int) + 1 := by omega
              have hm2 : (0 : Int) < (m : Int) + 1 := by omega
              have tst : ∃ c1, cmpI (hasK F L R (qx, qy) X) (hasK F L R (px, py) X) = c1 ∧ ((hasK F L R (px, py) X ≤ hasK F L R (qx, qy) X ∧ 0 ≤ c1) ∨ (hasK F L R (qx, qy) X < hasK F L R (px, py) X ∧ decide (0 ≤ c1) = false)) := by
                refine ⟨_, rfl, ?_⟩
                by_cases h : hasK F L R (qx, qy) X < hasK F L R (px, py) X
                · exact .inr ⟨h, by rw [cmpI_lt h]; decide⟩
                · exact .inl ⟨by omega, by unfold cmpI; rw [if_neg h]; split <;> omega⟩
              obtain ⟨c1, hc1, htst⟩ := tst
              have HC1 := Lib.hid hc1
              clear hc1
              rcases htst with ⟨hle, hcc⟩ | ⟨hle, hcc⟩
              · go_wp2
                refine wp_region_over (by kernel_rfl) (by kernel_rfl) ?_
                repeat (first | go_big_quiet_skip | (go_big_quiet_want; go_big_quiet_op; first | go_big_quiet_on | (apply Exists.intro; refine ⟨fun e => ?_, ?_⟩; (focus (first | (go_at_call_of 157 (Value.agg #[.int .u64 qx, .int .u64 qy]); exact calls_over (hask_any g F L R qx qy X _ hC.may hqm.1 hqm.2.1 hUX hqm.2.2 (OG.out e).2.2.2 (OG.out e).1 (OG.out e).2.1 (OG.out e).2.2.1)) | (go_at_call_of 157 (Value.agg #[.int .u64 px, .int .u64 py]); exact calls_over (hask_any g F L R px py X _ hC.may hpm.1 hpm.2.1 hUX hpm.2.2 (OG.out e).2.2.2 (OG.out e).1 (OG.out e).2.1 (OG.out e).2.2.1)) | (go_at_call 158; exact calls_over (cmpk_any _ _ c1 _ HC1.out)))); go_big_quiet_on)))
                refine wpQuiet_nil ?_
                rintro W2 ⟨e, he⟩
                have hb22 := over_below wr e
                rw [← he] at hb22
                clear he og5 op0 op1 oq0 oq1
                have hpop2 := (popN_pop (v := fun o => decide (hasK F L R (px, py) X ≤ hasK F L R o X)) HQ.out (decide_eq_true hle)).symm.trans HP.out
                have HP2 := Lib.hid hpop2
                have hr3 := (HR2.out.below hb22).take m (by rw [List.length_take]; omega)
                rw [List.take_take, Nat.min_eq_left (Nat.le_succ m)] at hr3
                have HR3 := Lib.hid hr3
                clear hpop2 hr3 hle
                go_wp2
                go_roundw
                case rel => exact ⟨m, some ⟨b3, 0, none⟩, c, by omega, by go_num, rfl, HR3.out, HP2.out, hb2.trans (hb22.mono hb2.size)⟩
                case measure => (simp [intOf]; try omega)
              · go_wp2
                refine wp_region_over (by kernel_rfl) (by kernel_rfl) ?_
                repeat (first | go_big_quiet_skip | (go_big_quiet_want; go_big_quiet_op; first | go_big_quiet_on | (apply Exists.intro; refine ⟨fun e => ?_, ?_⟩; (focus (first | (go_at_call_of 157 (Value.agg #[.int .u64 qx, .int .u64 qy]); exact calls_over (hask_any g F L R qx qy X _ hC.may hqm.1 hqm.2.1 hUX hqm.2.2 (OG.out e).2.2.2 (OG.out e).1 (OG.out e).2.1 (OG.out e).2.2.1)) | (go_at_call_of 157 (Value.agg #[.int .u64 px, .int .u64 py]); exact calls_over (hask_any g F L R px py X _ hC.may hpm.1 hpm.2.1 hUX hpm.2.2 (OG.out e).2.2.2 (OG.out e).1 (OG.out e).2.1 (OG.out e).2.2.1)) | (go_at_call 158; exact calls_over (cmpk_any _ _ c1 _ HC1.out)))); go_big_quiet_on)))
                refine wpQuiet_nil ?_
                rintro W2 ⟨e, he⟩
                have hb22 := over_below wr e
                rw [← he] at hb22
                clear he og5 op0 op1 oq0 oq1
                have hB4 := HB3.out.below hb22 HB3.out.lt
                have hP4 := HPB.out.below hb22 HPB.out.lt
                have og0 := fun e => (over_cell (w := W2) (e := e) (o := 0) hB4.lt).trans (hB4.cell 0)
                have og1 := fun e => (over_cell (w := W2) (e := e) (o := 1) hB4.lt).trans (hB4.cell 1)
                have og2 := fun e => (over_cell (w := W2) (e := e) (o := 2) hB4.lt).trans (hB4.cell 2)
                have og5 := fun e => (over_cell (w := W2) (e := e) (o := 5) hB4.lt).trans (hB4.cell 5)
                have op0 := fun e => (over_cell (w := W2) (e := e) (o := 0) hP4.lt).trans (hP4.cell 0)
                have op1 := fun e => (over_cell (w := W2) (e := e) (o := 1) hP4.lt).trans (hP4.cell 1)
                have ogl := fun e => Nat.lt_of_lt_of_le hB4.lt (over_below W2 e).size
                simp only [List.getElem?_toArray, List.getElem?_cons_zero, List.getElem?_cons_succ] at og0 og1 og2 og5 op0 op1
                have OG4 := Lib.hid (fun e => And.intro (og0 e) (And.intro (og1 e) (And.intro (og2 e) (ogl e))))
                clear og0 og1 og2 ogl
                have hrow4 := HR2.out.below hb22
                obtain ⟨b5, cp5, hv5, hbb5, hbw5, hcap5, hcells5⟩ := hrow4.open_ HNE.out
                obtain ⟨h51, h52⟩ : b3 = b5 ∧ c = cp5 := by injection hv5 with h1 h2 h3; injection h1 with h1; injection h1 with h1; exact ⟨h1, h3⟩
                subst h51; subst h52
                obtain ⟨e0, e1⟩ := hcells5 m (qx, qy) (by rw [List.getElem?_take_of_lt (by omega)]; exact HQ.out)
                have oq0 := fun e => (over_cell (w := W2) (e := e) (o := m * 2) hbw5).trans e0
                have oq1 := fun e => (over_cell (w := W2) (e := e) (o := m * 2 + 1) hbw5).trans e1
                have HP4 := Lib.hid hP4; have HR4 := Lib.hid hrow4
                have hlW : wo.heap.size < W2.heap.size := hP4.lt
                clear hv5 hcells5 e0 e1 hB4 hP4 hrow4
                have htop := push1_top HQ.out HP.out hle
                have tst2 : ∃ c2, cmpI (lineK R (qx, qy) X) (lineK R (px, py) X) = c2 ∧ ((lineK R (qx, qy) X ≤ lineK R (px, py) X ∧ c2 ≤ 0) ∨ (lineK R (px, py) X < lineK R (qx, qy) X ∧ decide (c2 ≤ 0) = false)) := by
                  refine ⟨_, rfl, ?_⟩
                  by_cases h : lineK R (px, py) X < lineK R (qx, qy) X
                  · exact .inr ⟨h, by rw [cmpI_gt h]; decide⟩
                  · exact .inl ⟨by omega, by unfold cmpI; split <;> (try split) <;> omega⟩
                obtain ⟨c2, hc2, htst2⟩ := tst2
                have HC2 := Lib.hid hc2; have HT := Lib.hid htop
                clear hc2 htop hle
                have hbW2 : Below wc.heap.size wc W2 := ((hbr.trans (hal.mono hbr.size)).trans (hb2.mono (Nat.le_trans hbr.size hal.size))).trans (hb22.mono (Nat.le_trans hbr.size (Nat.le_trans hal.size hb2.size)))
                rcases htst2 with ⟨hle, hcc2⟩ | ⟨hle, hcc2⟩
                · go_wp2
                  refine wp_region_over (by kernel_rfl) (by kernel_rfl) ?_
                  repeat (first | go_big_quiet_skip | (go_big_quiet_want; go_big_quiet_op; first | go_big_quiet_on | (apply Exists.intro; refine ⟨fun e => ?_, ?_⟩; (focus (first | (go_at_call_of 159 (Value.agg #[.int .u64 qx, .int .u64 qy]); exact calls_over (linek_any g F L R qx qy X _ hC.may hqm.1 hqm.2.1 hUX hqm.2.2 (OG4.out e).2.2.2 (OG4.out e).2.2.1)) | (go_at_call_of 159 (Value.agg #[.int .u64 px, .int .u64 py]); exact calls_over (linek_any g F L R px py X _ hC.may hpm.1 hpm.2.1 hUX hpm.2.2 (OG4.out e).2.2.2 (OG4.out e).2.2.1)) | (go_at_call 158; exact calls_over (cmpk_any _ _ c2 _ HC2.out)))); go_big_quiet_on)))
                  refine wpQuiet_nil ?_
                  rintro W3 ⟨e, he⟩
                  have hb33 := over_below W2 e
                  rw [← he] at hb33
                  clear he og5 op0 op1 oq0 oq1
                  have hnew := HN.out
                  rw [HT.out, if_pos hle] at hnew
                  have hr5 := HR4.out.below hb33
                  have HNew := Lib.hid hnew; have HR5 := Lib.hid hr5
                  clear hnew hr5 hle
                  go_wp2
                  go_roundw
                  case rel => (repeat apply Exists.intro); exact ⟨⟨j + 1, by omega, by go_num, by rw [HNew.out]; exact HR5.out, hbW2.trans (hb33.mono hbW2.size)⟩, rfl⟩
                  case measure => simp [intOf]; omega
                · go_wp2
                  refine wp_region_over (by kernel_rfl) (by kernel_rfl) ?_
                  repeat (first | go_big_quiet_skip | (go_big_quiet_want; go_big_quiet_op; first | go_big_quiet_on | (apply Exists.intro; refine ⟨fun e => ?_, ?_⟩; (focus (first | (go_at_call_of 159 (Value.agg #[.int .u64 qx, .int .u64 qy]); exact calls_over (linek_any g F L R qx qy X _ hC.may hqm.1 hqm.2.1 hUX hqm.2.2 (OG4.out e).2.2.2 (OG4.out e).2.2.1)) | (go_at_call_of 159 (Value.agg #[.int .u64 px, .int .u64 py]); exact calls_over (linek_any g F L R px py X _ hC.may hpm.1 hpm.2.1 hUX hpm.2.2 (OG4.out e).2.2.2 (OG4.out e).2.2.1)) | (go_at_call 158; exact calls_over (cmpk_any _ _ c2 _ HC2.out)))); go_big_quiet_on)))
                  refine wpQuiet_nil ?_
                  rintro W3 ⟨e, he⟩
                  have hb33 := over_below W2 e
                  rw [← he] at hb33
                  clear he og5 op0 op1 oq0 oq1
                  have hnew := HN.out
                  rw [HT.out, if_neg (by omega)] at hnew
                  have hr5 := HR4.out.below hb33
                  have hP5 := HP4.out.below hb33 HP4.out.lt
                  have p0 := hP5.cell 0; have p1 := hP5.cell 1
                  simp only [List.getElem?_toArray, List.getElem?_cons_zero, List.getElem?_cons_succ] at p0 p1
                  have HNew := Lib.hid hnew; have HR5 := Lib.hid hr5
                  have htl : (out.take (m + 1)).length = m + 1 := by rw [List.length_take]; omega
                  have hr6 : W3.ownsRow wc.heap.size 210 2 (.slice (some ⟨b3, 0, none⟩) (m + 1) c) (m + 1) (cellsOf (out.take (m + 1))) := by have := HR5.out; unfold RowK at this; rw [htl] at this; exact this
                  have hbW3 : Below wc.heap.size wc W3 := hbW2.trans (hb33.mono hbW2.size)
                  have HR6 := Lib.hid hr6; have HTL := Lib.hid htl
                  clear hnew hr5 hle hP5 hr6 htl
                  obtain ⟨i0, hi0, hz0, hz1, hz2⟩ := info_parts info_start
                  go_wp2_with (at_builtin; refine wpList_append_lies _ rfl _ _ 136 rfl wc.heap.size 210 i0 (.agg #[.int .u64 0, .int .u64 0]) 2 16 Tryz.underlying136 hi0 hz0 hz1 hz2 rfl (by decide) _ (m + 1) (cellsOf (out.take (m + 1))) rfl (HR6.out.alloc _) ⟨W3.heap.size, 0, none⟩ 1 1 [.int .u64 px, .int .u64 py] rfl rfl (World.news_of_block (heap_alloc_new W3 _)) (by simp [Value.oneCell']) (by decide) (by unfold maxLen; omega) (by omega) (Nat.le_trans hbW3.size (by simp)) _ rfl ?_; intro b4 cp4 W4 hown4 hgr4 hat4 hlt4)
                  have hlast : RowK W4 wc.heap.size (.slice (some ⟨b4, 0, none⟩) (m + 1 + 1) cp4) (out.take (m + 1) ++ [(px, py)]) := by
                    have := HTL.out
                    rw [RowK, cellsOf_append, List.length_append, this]
                    exact hown4
                  have hbW4 : Below wc.heap.size wc W4 := (hbW3.alloc hbW3.size _).grown hgr4 (by simp; have := hbW3.size; omega) (fun k hk => (HR6.out.lt k hk).1)
                  go_roundw
                  case rel => (repeat apply Exists.intro); exact ⟨⟨j + 1, by omega, by go_num, by rw [HNew.out]; exact hlast, hbW4⟩, rfl⟩
                  case measure => simp [intOf]; omega
        · obtain rfl : j = K.length + 1 := by omega
          obtain ⟨oa, oc, rfl⟩ := hrow.shape
          have hBw := (HB.out.below hbL hgW).below hbr (HB.out.below hbL hgW).lt
          have g6 := hBw.cell 6; have z6 := hBw.frozen 6
          simp only [List.getElem?_toArray, List.getElem?_cons_zero, List.getElem?_cons_succ] at g6
          have HBw := Lib.hid hBw; have HW := Lib.hid hrow
          clear hBw hrow
          go_wp2
          rw [Exit.noGoto_normal]
          go_returns
          refine ⟨rfl, ⟨_, HBw.out.set_ 6 _, ?_⟩, ?_⟩
          · have h1 := HW.out
            rw [List.take_of_length_le (by simp)] at h1 ⊢
            have h3 : (Value.slice oa (List.foldl (push1 F L R X) [] (K ++ [(X, Y)])).length oc).ownBlock = none ∨ (Value.slice oa (List.foldl (push1 F L R X) [] (K ++ [(X, Y)])).length oc).ownBlock ≠ some g := by
              rcases hv : Value.ownBlock _ with _ | k
              · exact .inl rfl
              · refine .inr fun he => ?_
                have h4 := (h1.lt k hv).1
                have h5 := hbL.size
                injection he with he
                omega
            have h2 : RowK (wo.setCell ⟨g, 6, none⟩ (Value.slice oa (List.foldl (push1 F L R X) [] (K ++ [(X, Y)])).length oc)) wc.heap.size (Value.slice oa (List.foldl (push1 F L R X) [] (K ++ [(X, Y)])).length oc) (List.foldl (push1 F L R X) [] (K ++ [(X, Y)])) := h1.kept (World.grownBy_setCell _ _ _) h3
            have h5 : g + 1 ≤ wc.heap.size := Nat.le_trans hgW hbL.size
            exact h2.low h5
          · have h1 := HG.out
            have h2 : Below W.heap.size W wo := hbL.trans (hbr.mono hbL.size)
            exact ⟨h2.os.trans h1.os, h2.tape.trans h1.tape, h2.output.trans h1.output, by simp [World.setCell]; exact Nat.le_trans h1.size h2.size, fun k hk hne => (Below.heap_setCell _ _ _ k (by simpa using hne)).trans ((h2.block k (Nat.lt_of_lt_of_le hk h1.size)).trans (h1.block k hk hne))⟩

end Go.Proofs.YtbnnkkojlclgjaaGreat
