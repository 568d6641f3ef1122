/- The law distributarylaw16.HierPlays: whatever the input, the call returns true, and its arguments read as before. No conditions. -/
import Derived.Test.YtclhhegfffccgaaGreatRows
import Derived.WalkKit
import Derived.ProofKit
import Derived.OpenShut
import Derived.ShutString
import Derived.ChangeOld
import Derived.Below
import Derived.Lib.SmallJoins
import Derived.Test.YtclhhegfffccgaaGreatHP10
import Derived.Test.YtclhhegfffccgaaGreatFlat
namespace Go.Proofs.YtclhhegfffccgaaGreat.hierPlays
open Go.ChangeShapes Go.WideShapes Go.ChangeAt Go.RowKit Go.Joins
set_option linter.unusedVariables false

theorem own : ownKnob Tryz.prog.godebug = none := by kernel_rfl
theorem laidOut : laidOutB Tryz.prog = true := by kernel_rfl

theorem walk (a0 : Option Addr) (len0 cap0 : Nat) (z0 : List (List Value)) (a1 : Int) (w : World) (w0 : IsRows [some .u8, some .i64, some .i64, none, some .u64, some .u64, some .u64, some .u64, some .u64, some .u64, some .u64, some .u64, some .u64, some .i64, some .i64] w a0 len0 cap0 z0) (w1 : (Lit.int .i64 a1).wf = true) :
    Calls Tryz.prog 5 #[.slice a0 len0 cap0, .int .i64 a1] w fun e w' => e = .returned (.bool true) ∧ Below w.heap.size w w' := by
  obtain ⟨hl, z, hz⟩ := Go.Proofs.YtclhhegfffccgaaGreat.hacts_of w0
  exact Go.Proofs.YtclhhegfffccgaaGreat.hierPlays_any a0 len0 cap0 z a1 w hl hz w1

set_option maxRecDepth 100000 in
theorem lifted (os : Os) (started : os.Started) (H : Type) (enc : TypeId × Value → H) :
    ReturnsInHanded {} Tryz.checked os 5 .any (Rows.hierPlaysSpec.pre6 enc Tryz.prog Tryz.f5 Rows.hierPlaysRow.domain false) (Rows.hierPlaysSpec.post enc Tryz.prog Tryz.f5 false true false false) := by
  refine returnsInHanded_of_change (C := Tryz.checked) own started (by kernel_rfl) Tryz.func5
    (ChangeSpec.witness6 (enc := enc) (C := Tryz.checked) false ⟨#[], #[.slice none 0 0, .int .i64 0], []⟩ 8 (by kernel_rfl) (by kernel_rfl) (by kernel_rfl) (by kernel_rfl)) ?_
  intro W base args ds gs before hval0 hW hcnd _
  have hval : ∀ (j : Nat) t v, Tryz.f5.params[j]? = some t → args[j]? = some v → Value.okWide Tryz.prog W .any base t v := hval0
  have hW' := hW
  obtain ⟨p, q, hA0, hV, rfl, hfz, hnd⟩ := hW
  have hA : DataW.TrodAll enc Tryz.prog W 0 (fun _ => true) true Tryz.f5.params.toList args.toList ds p := hA0
  rw [Tryz.params5] at hA hval
  obtain ⟨v0, vs0, d0, ds0, p0, q0, hargs, rfl, rfl, h0, r0⟩ := trodAll_cons hA
  obtain ⟨v1, vs1, d1, ds1, p1, q1, rfl, rfl, rfl, h1, r1⟩ := trodAll_cons r0
  obtain ⟨rfl, rfl, rfl⟩ := trodAll_nil r1
  obtain rfl : args = #[v0, v1] := by cases args; simp_all
  obtain ⟨rfl, rfl⟩ := trodVars_none hV
  obtain ⟨a0, len0, cap0, rfl⟩ := okWide_slice Tryz.underlying22 (hval 0 22 v0 rfl rfl)
  have k0 := h0
  have lt0 : ∀ x ∈ p0, x.block < W.heap.size := by obtain ⟨m, hm⟩ := k0; exact DataW.trod_lt m _ _ _ hm
  obtain ⟨z0, w0⟩ := rows_flat Tryz.underlying22 (show FlatAt Tryz.prog 38 [some .u8, some .i64, some .i64, none, some .u64, some .u64, some .u64, some .u64, some .u64, some .u64, some .u64, some .u64, some .u64, some .i64, some .i64] from FlatAt.str Tryz.underlying38 (show FlatFs Tryz.prog _ 0 ([some .u8] ++ ([some .i64, some .i64, none, some .u64, some .u64, some .u64, some .u64, some .u64, some .u64, some .u64, some .u64, some .u64, some .i64, some .i64] ++ ([] : List (Option IntKind)))) from (FlatFs.cons rfl (FlatAt.int Tryz.underlying5) (by kernel_rfl) (FlatFs.cons rfl (show FlatAt Tryz.prog 36 [some .i64, some .i64, none, some .u64, some .u64, some .u64, some .u64, some .u64, some .u64, some .u64, some .u64, some .u64, some .i64, some .i64] from FlatAt.str Tryz.underlying36 (show FlatFs Tryz.prog _ 0 ([some .i64] ++ ([some .i64] ++ ([none] ++ ([some .u64, some .u64, some .u64] ++ ([some .u64, some .u64, some .u64] ++ ([some .u64, some .u64, some .u64] ++ ([some .i64] ++ ([some .i64] ++ ([] : List (Option IntKind)))))))))) from (FlatFs.cons rfl (FlatAt.int Tryz.underlying3) (by kernel_rfl) (FlatFs.cons rfl (FlatAt.int Tryz.underlying3) (by kernel_rfl) (FlatFs.cons rfl (FlatAt.bool Tryz.underlying4) (by kernel_rfl) (FlatFs.cons rfl (show FlatAt Tryz.prog 34 [some .u64, some .u64, some .u64] from FlatAt.str Tryz.underlying34 (show FlatFs Tryz.prog _ 0 ([some .u64] ++ ([some .u64] ++ ([some .u64] ++ ([] : List (Option IntKind))))) from (FlatFs.cons rfl (FlatAt.int Tryz.underlying32) (by kernel_rfl) (FlatFs.cons rfl (FlatAt.int Tryz.underlying32) (by kernel_rfl) (FlatFs.cons rfl (FlatAt.int Tryz.underlying32) (by kernel_rfl) FlatFs.nil)))) (by kernel_rfl)) (by kernel_rfl) (FlatFs.cons rfl (show FlatAt Tryz.prog 34 [some .u64, some .u64, some .u64] from FlatAt.str Tryz.underlying34 (show FlatFs Tryz.prog _ 0 ([some .u64] ++ ([some .u64] ++ ([some .u64] ++ ([] : List (Option IntKind))))) from (FlatFs.cons rfl (FlatAt.int Tryz.underlying32) (by kernel_rfl) (FlatFs.cons rfl (FlatAt.int Tryz.underlying32) (by kernel_rfl) (FlatFs.cons rfl (FlatAt.int Tryz.underlying32) (by kernel_rfl) FlatFs.nil)))) (by kernel_rfl)) (by kernel_rfl) (FlatFs.cons rfl (show FlatAt Tryz.prog 34 [some .u64, some .u64, some .u64] from FlatAt.str Tryz.underlying34 (show FlatFs Tryz.prog _ 0 ([some .u64] ++ ([some .u64] ++ ([some .u64] ++ ([] : List (Option IntKind))))) from (FlatFs.cons rfl (FlatAt.int Tryz.underlying32) (by kernel_rfl) (FlatFs.cons rfl (FlatAt.int Tryz.underlying32) (by kernel_rfl) (FlatFs.cons rfl (FlatAt.int Tryz.underlying32) (by kernel_rfl) FlatFs.nil)))) (by kernel_rfl)) (by kernel_rfl) (FlatFs.cons rfl (FlatAt.int Tryz.underlying3) (by kernel_rfl) (FlatFs.cons rfl (FlatAt.int Tryz.underlying3) (by kernel_rfl) FlatFs.nil))))))))) (by kernel_rfl)) (by kernel_rfl) FlatFs.nil))) (by kernel_rfl)) (by kernel_rfl) (by decide) h0
  obtain ⟨a1, rfl, rfl, rfl, w1⟩ := open_int Tryz.underlying3 (hval 1 3 v1 rfl rfl) h1
  clear hA0 hval0
  refine (walk a0 len0 cap0 z0 a1 W w0 w1).mono fun e W' ⟨he, bel⟩ => ?_
  subst he
  exact ⟨_, rfl, _, _, _, [], _, [], hW', trodAll_mk1 (shut_bool Tryz.underlying4 _), (trodAll_cons_mk (Below.trod laidOut (by kernel_rfl) (of_decide_eq_true (by kernel_rfl)) k0 bel lt0) (trodAll_cons_mk (shut_int Tryz.underlying3 w1) trodAll_mk0)), rfl, bel.frame _, fun h => by cases h⟩

theorem over : Rows.hierPlaysRow.holds Tryz.pinned (OpenSpec.ofChange Rows.hierPlaysSpec) :=
  OpenClaim.holds_of_wide 5 Tryz.f5 rfl rfl rfl rfl rfl rfl rfl ⟨rfl, rfl, rfl, rfl, rfl⟩ rfl rfl rfl rfl rfl (by kernel_rfl) Tryz.func5 (by kernel_rfl)
    (of_decide_eq_true (by kernel_rfl)) (by unfold Func.isWrapper; first | (rw [if_pos (by decide +kernel)]; kernel_rfl) | (rw [if_neg (by decide +kernel)]; exact ⟨rfl, rfl⟩))
    (fun os started H enc _ => lifted os started H enc)

theorem proved : Rows.HierPlaysSaid := over
#print axioms proved
end Go.Proofs.YtclhhegfffccgaaGreat.hierPlays
