/- The law distributarylaw22.PickTurns: whatever the input, the call returns true, and its arguments read as before. No conditions. -/
import Derived.Test.YtmmeopjemkjllaaGreatRows
import Derived.WalkKit
import Derived.ProofKit
import Derived.OpenShut
import Derived.ShutString
import Derived.ChangeOld
import Derived.Below
import Derived.Lib.SmallJoins
import Derived.Test.YtmmeopjemkjllaaGreatPU44
import Derived.Test.YtmmeopjemkjllaaGreatPU15
namespace Go.Proofs.YtmmeopjemkjllaaGreat.pickTurns
open Go.ChangeShapes Go.WideShapes Go.ChangeAt Go.RowKit Go.Joins
set_option linter.unusedVariables false

theorem own : ownKnob Tryz.prog.godebug = none := by kernel_rfl
theorem laidOut : laidOutB Tryz.prog = true := by kernel_rfl

theorem walk (a0 : Option Addr) (len0 cap0 : Nat) (z0 : List (List Value)) (a1 : Option Addr) (len1 cap1 : Nat) (z1 : List (List Value)) (a2 : Option Addr) (len2 cap2 : Nat) (z2 : List (List Value)) (w : World) (w0 : IsRows [some .u64, some .u64, some .u64] w a0 len0 cap0 z0) (w1 : IsRows [some .u64, some .u64, some .u64] w a1 len1 cap1 z1) (w2 : IsRows [some .u64] w a2 len2 cap2 z2) :
    Calls Tryz.prog 3 #[.slice a0 len0 cap0, .slice a1 len1 cap1, .slice a2 len2 cap2] w fun e w' => e = .returned (.bool true) ∧ Below w.heap.size w w' := by
  obtain ⟨hl0, y0, hz0⟩ := Go.Proofs.YtmmeopjemkjllaaGreat.tcvs_of w0
  obtain ⟨hl1, y1, hz1⟩ := Go.Proofs.YtmmeopjemkjllaaGreat.tcvs_of w1
  obtain ⟨hl2, y2, hz2⟩ := Go.Proofs.YtmmeopjemkjllaaGreat.tnums_of w2
  exact Go.Proofs.YtmmeopjemkjllaaGreat.pickTurns_any a0 a1 a2 len0 cap0 len1 cap1 len2 cap2 y0 y1 y2 w hl0 hl1 hl2 hz0 hz1 hz2

set_option maxRecDepth 100000 in
theorem lifted (os : Os) (started : os.Started) (H : Type) (enc : TypeId × Value → H) :
    ReturnsInHanded {} Tryz.checked os 3 .any (Rows.pickTurnsSpec.pre6 enc Tryz.prog Tryz.f3 Rows.pickTurnsRow.domain false) (Rows.pickTurnsSpec.post enc Tryz.prog Tryz.f3 false true false false) := by
  refine returnsInHanded_of_change (C := Tryz.checked) own started (by kernel_rfl) Tryz.func3
    (ChangeSpec.witness6 (enc := enc) (C := Tryz.checked) false ⟨#[], #[.slice none 0 0, .slice none 0 0, .slice none 0 0], []⟩ 8 (by kernel_rfl) (by kernel_rfl) (by kernel_rfl) (by kernel_rfl)) ?_
  intro W base args ds gs before hval0 hW hcnd _
  have hval : ∀ (j : Nat) t v, Tryz.f3.params[j]? = some t → args[j]? = some v → Value.okWide Tryz.prog W .any base t v := hval0
  have hW' := hW
  obtain ⟨p, q, hA0, hV, rfl, hfz, hnd⟩ := hW
  have hA : DataW.TrodAll enc Tryz.prog W 0 (fun _ => true) true Tryz.f3.params.toList args.toList ds p := hA0
  rw [Tryz.params3] at hA hval
  obtain ⟨v0, vs0, d0, ds0, p0, q0, hargs, rfl, rfl, h0, r0⟩ := trodAll_cons hA
  obtain ⟨v1, vs1, d1, ds1, p1, q1, rfl, rfl, rfl, h1, r1⟩ := trodAll_cons r0
  obtain ⟨v2, vs2, d2, ds2, p2, q2, rfl, rfl, rfl, h2, r2⟩ := trodAll_cons r1
  obtain ⟨rfl, rfl, rfl⟩ := trodAll_nil r2
  obtain rfl : args = #[v0, v1, v2] := by cases args; simp_all
  obtain ⟨rfl, rfl⟩ := trodVars_none hV
  obtain ⟨a0, len0, cap0, rfl⟩ := okWide_slice Tryz.underlying22 (hval 0 22 v0 rfl rfl)
  have k0 := h0
  have lt0 : ∀ x ∈ p0, x.block < W.heap.size := by obtain ⟨m, hm⟩ := k0; exact DataW.trod_lt m _ _ _ hm
  obtain ⟨z0, w0⟩ := rows_flat Tryz.underlying22 (show FlatAt Tryz.prog 30 [some .u64, some .u64, some .u64] from FlatAt.str Tryz.underlying30 (show FlatFs Tryz.prog _ 0 ([some .u64] ++ ([some .u64] ++ ([some .u64] ++ ([] : List (Option IntKind))))) from (FlatFs.cons rfl (FlatAt.int Tryz.underlying28) (by kernel_rfl) (FlatFs.cons rfl (FlatAt.int Tryz.underlying28) (by kernel_rfl) (FlatFs.cons rfl (FlatAt.int Tryz.underlying28) (by kernel_rfl) FlatFs.nil)))) (by kernel_rfl)) (by kernel_rfl) (by decide) h0
  obtain ⟨a1, len1, cap1, rfl⟩ := okWide_slice Tryz.underlying22 (hval 1 22 v1 rfl rfl)
  have k1 := h1
  have lt1 : ∀ x ∈ p1, x.block < W.heap.size := by obtain ⟨m, hm⟩ := k1; exact DataW.trod_lt m _ _ _ hm
  obtain ⟨z1, w1⟩ := rows_flat Tryz.underlying22 (show FlatAt Tryz.prog 30 [some .u64, some .u64, some .u64] from FlatAt.str Tryz.underlying30 (show FlatFs Tryz.prog _ 0 ([some .u64] ++ ([some .u64] ++ ([some .u64] ++ ([] : List (Option IntKind))))) from (FlatFs.cons rfl (FlatAt.int Tryz.underlying28) (by kernel_rfl) (FlatFs.cons rfl (FlatAt.int Tryz.underlying28) (by kernel_rfl) (FlatFs.cons rfl (FlatAt.int Tryz.underlying28) (by kernel_rfl) FlatFs.nil)))) (by kernel_rfl)) (by kernel_rfl) (by decide) h1
  obtain ⟨a2, len2, cap2, rfl⟩ := okWide_slice Tryz.underlying23 (hval 2 23 v2 rfl rfl)
  have k2 := h2
  have lt2 : ∀ x ∈ p2, x.block < W.heap.size := by obtain ⟨m, hm⟩ := k2; exact DataW.trod_lt m _ _ _ hm
  obtain ⟨z2, w2⟩ := rows_flat Tryz.underlying23 (FlatAt.int Tryz.underlying28) (by kernel_rfl) (by decide) h2
  clear hA0 hval0
  refine (walk a0 len0 cap0 z0 a1 len1 cap1 z1 a2 len2 cap2 z2 W w0 w1 w2).mono fun e W' ⟨he, bel⟩ => ?_
  subst he
  exact ⟨_, rfl, _, _, _, [], _, [], hW', trodAll_mk1 (shut_bool Tryz.underlying4 _), (trodAll_cons_mk (Below.trod laidOut (by kernel_rfl) (of_decide_eq_true (by kernel_rfl)) k0 bel lt0) (trodAll_cons_mk (Below.trod laidOut (by kernel_rfl) (of_decide_eq_true (by kernel_rfl)) k1 bel lt1) (trodAll_cons_mk (Below.trod laidOut (by kernel_rfl) (of_decide_eq_true (by kernel_rfl)) k2 bel lt2) trodAll_mk0))), rfl, bel.frame _, fun h => by cases h⟩

theorem over : Rows.pickTurnsRow.holds Tryz.pinned (OpenSpec.ofChange Rows.pickTurnsSpec) :=
  OpenClaim.holds_of_wide 3 Tryz.f3 rfl rfl rfl rfl rfl rfl rfl ⟨rfl, rfl, rfl, rfl, rfl⟩ rfl rfl rfl rfl rfl (by kernel_rfl) Tryz.func3 (by kernel_rfl)
    (of_decide_eq_true (by kernel_rfl)) (by unfold Func.isWrapper; first | (rw [if_pos (by decide +kernel)]; kernel_rfl) | (rw [if_neg (by decide +kernel)]; exact ⟨rfl, rfl⟩))
    (fun os started H enc _ => lifted os started H enc)

theorem proved : Rows.PickTurnsSaid := over
#print axioms proved
end Go.Proofs.YtmmeopjemkjllaaGreat.pickTurns
