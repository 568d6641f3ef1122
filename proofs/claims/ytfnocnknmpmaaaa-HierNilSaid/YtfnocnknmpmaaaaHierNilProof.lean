/- The law distributarylaw16.HierNil: whatever the input, the call returns true, and its arguments read as before. No conditions. -/
import Derived.Test.YtfnocnknmpmaaaaRows
import Derived.WalkKit
import Derived.ProofKit
import Derived.OpenShut
import Derived.ShutString
import Derived.ChangeOld
import Derived.Below
import Derived.Lib.SmallJoins
import Derived.Test.YtfnocnknmpmaaaaFlat
import Derived.Test.YtfnocnknmpmaaaaHierNil
namespace Go.Proofs.Ytfnocnknmpmaaaa.hierNil
open Go.ChangeShapes Go.WideShapes Go.ChangeAt Go.RowKit Go.Joins
set_option linter.unusedVariables false

theorem own : ownKnob Try.prog.godebug = none := by kernel_rfl
theorem laidOut : laidOutB Try.prog = true := by kernel_rfl

theorem walk (a0_0 : Int) (a0_1 : Int) (a0_2 : Bool) (a0_3 : Int) (a0_4 : Int) (a0_5 : Int) (a0_6 : Int) (a0_7 : Int) (a0_8 : Int) (a0_9 : Int) (a0_10 : Int) (a0_11 : Int) (a0_12 : Int) (a0_13 : Int) (w : World) (w0_0 : (Lit.int .i64 a0_0).wf = true) (w0_1 : (Lit.int .i64 a0_1).wf = true) (w0_3 : (Lit.int .u64 a0_3).wf = true) (w0_4 : (Lit.int .u64 a0_4).wf = true) (w0_5 : (Lit.int .u64 a0_5).wf = true) (w0_6 : (Lit.int .u64 a0_6).wf = true) (w0_7 : (Lit.int .u64 a0_7).wf = true) (w0_8 : (Lit.int .u64 a0_8).wf = true) (w0_9 : (Lit.int .u64 a0_9).wf = true) (w0_10 : (Lit.int .u64 a0_10).wf = true) (w0_11 : (Lit.int .u64 a0_11).wf = true) (w0_12 : (Lit.int .i64 a0_12).wf = true) (w0_13 : (Lit.int .i64 a0_13).wf = true) :
    Calls Try.prog 10 #[.agg #[.int .i64 a0_0, .int .i64 a0_1, .bool a0_2, .int .u64 a0_3, .int .u64 a0_4, .int .u64 a0_5, .int .u64 a0_6, .int .u64 a0_7, .int .u64 a0_8, .int .u64 a0_9, .int .u64 a0_10, .int .u64 a0_11, .int .i64 a0_12, .int .i64 a0_13]] w fun e w' => e = .returned (.bool true) ∧ Below w.heap.size w w' := by
  exact hierNil_any a0_0 a0_1 a0_2 a0_3 a0_4 a0_5 a0_6 a0_7 a0_8 a0_9 a0_10 a0_11 a0_12 a0_13 w

set_option maxRecDepth 100000 in
theorem lifted (os : Os) (started : os.Started) (H : Type) (enc : TypeId × Value → H) :
    ReturnsInHanded {} Try.checked os 10 .any (Rows.hierNilSpec.pre6 enc Try.prog Try.f10 Rows.hierNilRow.domain false) (Rows.hierNilSpec.post enc Try.prog Try.f10 false true false false) := by
  refine returnsInHanded_of_change (C := Try.checked) own started (by kernel_rfl) Try.func10
    (ChangeSpec.witness6 (enc := enc) (C := Try.checked) false ⟨#[], #[.agg #[.int .i64 0, .int .i64 0, .bool false, .int .u64 0, .int .u64 0, .int .u64 0, .int .u64 0, .int .u64 0, .int .u64 0, .int .u64 0, .int .u64 0, .int .u64 0, .int .i64 0, .int .i64 0]], []⟩ 8 (by kernel_rfl) (by kernel_rfl) (by kernel_rfl) (by kernel_rfl)) ?_
  intro W base args ds gs before hval0 hW hcnd _
  have hval : ∀ (j : Nat) t v, Try.f10.params[j]? = some t → args[j]? = some v → Value.okWide Try.prog W .any base t v := hval0
  have hW' := hW
  obtain ⟨p, q, hA0, hV, rfl, hfz, hnd⟩ := hW
  have hA : DataW.TrodAll enc Try.prog W 0 (fun _ => true) true Try.f10.params.toList args.toList ds p := hA0
  rw [Try.params10] at hA hval
  obtain ⟨v0, vs0, d0, ds0, p0, q0, hargs, rfl, rfl, h0, r0⟩ := trodAll_cons hA
  obtain ⟨rfl, rfl, rfl⟩ := trodAll_nil r0
  obtain rfl : args = #[v0] := by cases args; simp_all
  obtain ⟨rfl, rfl⟩ := trodVars_none hV
  have k0 := h0
  have lt0 : ∀ x ∈ p0, x.block < W.heap.size := by obtain ⟨m, hm⟩ := k0; exact DataW.trod_lt m _ _ _ hm
  obtain ⟨r0_, rfl, f0_0⟩ := flat_agg Try.underlying63 (show FlatAt Try.prog 63 [some .i64, some .i64, none, some .u64, some .u64, some .u64, some .u64, some .u64, some .u64, some .u64, some .u64, some .u64, some .i64, some .i64] from FlatAt.str Try.underlying63 (show FlatFs Try.prog _ 0 ([some .i64] ++ ([some .i64] ++ ([none] ++ ([some .u64, some .u64, some .u64] ++ ([some .u64, some .u64, some .u64] ++ ([some .u64, some .u64, some .u64] ++ ([some .i64] ++ ([some .i64] ++ ([] : List (Option IntKind)))))))))) from (FlatFs.cons rfl (FlatAt.int Try.underlying3) (by kernel_rfl) (FlatFs.cons rfl (FlatAt.int Try.underlying3) (by kernel_rfl) (FlatFs.cons rfl (FlatAt.bool Try.underlying4) (by kernel_rfl) (FlatFs.cons rfl (show FlatAt Try.prog 61 [some .u64, some .u64, some .u64] from FlatAt.str Try.underlying61 (show FlatFs Try.prog _ 0 ([some .u64] ++ ([some .u64] ++ ([some .u64] ++ ([] : List (Option IntKind))))) from (FlatFs.cons rfl (FlatAt.int Try.underlying22) (by kernel_rfl) (FlatFs.cons rfl (FlatAt.int Try.underlying22) (by kernel_rfl) (FlatFs.cons rfl (FlatAt.int Try.underlying22) (by kernel_rfl) FlatFs.nil)))) (by kernel_rfl)) (by kernel_rfl) (FlatFs.cons rfl (show FlatAt Try.prog 61 [some .u64, some .u64, some .u64] from FlatAt.str Try.underlying61 (show FlatFs Try.prog _ 0 ([some .u64] ++ ([some .u64] ++ ([some .u64] ++ ([] : List (Option IntKind))))) from (FlatFs.cons rfl (FlatAt.int Try.underlying22) (by kernel_rfl) (FlatFs.cons rfl (FlatAt.int Try.underlying22) (by kernel_rfl) (FlatFs.cons rfl (FlatAt.int Try.underlying22) (by kernel_rfl) FlatFs.nil)))) (by kernel_rfl)) (by kernel_rfl) (FlatFs.cons rfl (show FlatAt Try.prog 61 [some .u64, some .u64, some .u64] from FlatAt.str Try.underlying61 (show FlatFs Try.prog _ 0 ([some .u64] ++ ([some .u64] ++ ([some .u64] ++ ([] : List (Option IntKind))))) from (FlatFs.cons rfl (FlatAt.int Try.underlying22) (by kernel_rfl) (FlatFs.cons rfl (FlatAt.int Try.underlying22) (by kernel_rfl) (FlatFs.cons rfl (FlatAt.int Try.underlying22) (by kernel_rfl) FlatFs.nil)))) (by kernel_rfl)) (by kernel_rfl) (FlatFs.cons rfl (FlatAt.int Try.underlying3) (by kernel_rfl) (FlatFs.cons rfl (FlatAt.int Try.underlying3) (by kernel_rfl) FlatFs.nil))))))))) (by kernel_rfl)) (hval 0 63 v0 rfl rfl) h0
  obtain ⟨a0_0, r0_, rfl, w0_0, f0_1⟩ := kinds_cons f0_0
  obtain ⟨a0_1, r0_, rfl, w0_1, f0_2⟩ := kinds_cons f0_1
  obtain ⟨a0_2, r0_, rfl, f0_3⟩ := kinds_bool f0_2
  obtain ⟨a0_3, r0_, rfl, w0_3, f0_4⟩ := kinds_cons f0_3
  obtain ⟨a0_4, r0_, rfl, w0_4, f0_5⟩ := kinds_cons f0_4
  obtain ⟨a0_5, r0_, rfl, w0_5, f0_6⟩ := kinds_cons f0_5
  obtain ⟨a0_6, r0_, rfl, w0_6, f0_7⟩ := kinds_cons f0_6
  obtain ⟨a0_7, r0_, rfl, w0_7, f0_8⟩ := kinds_cons f0_7
  obtain ⟨a0_8, r0_, rfl, w0_8, f0_9⟩ := kinds_cons f0_8
  obtain ⟨a0_9, r0_, rfl, w0_9, f0_10⟩ := kinds_cons f0_9
  obtain ⟨a0_10, r0_, rfl, w0_10, f0_11⟩ := kinds_cons f0_10
  obtain ⟨a0_11, r0_, rfl, w0_11, f0_12⟩ := kinds_cons f0_11
  obtain ⟨a0_12, r0_, rfl, w0_12, f0_13⟩ := kinds_cons f0_12
  obtain ⟨a0_13, r0_, rfl, w0_13, f0_14⟩ := kinds_cons f0_13
  obtain rfl := kinds_nil f0_14
  clear hA0 hval0
  refine (walk a0_0 a0_1 a0_2 a0_3 a0_4 a0_5 a0_6 a0_7 a0_8 a0_9 a0_10 a0_11 a0_12 a0_13 W w0_0 w0_1 w0_3 w0_4 w0_5 w0_6 w0_7 w0_8 w0_9 w0_10 w0_11 w0_12 w0_13).mono fun e W' ⟨he, bel⟩ => ?_
  subst he
  exact ⟨_, rfl, _, _, _, [], _, [], hW', trodAll_mk1 (shut_bool Try.underlying4 _), (trodAll_cons_mk (Below.trod laidOut (by kernel_rfl) (of_decide_eq_true (by kernel_rfl)) k0 bel lt0) trodAll_mk0), rfl, bel.frame _, fun h => by cases h⟩

theorem over : Rows.hierNilRow.holds Try.pinned (OpenSpec.ofChange Rows.hierNilSpec) :=
  OpenClaim.holds_of_wide 10 Try.f10 rfl rfl rfl rfl rfl rfl rfl ⟨rfl, rfl, rfl, rfl, rfl⟩ rfl rfl rfl rfl rfl (by kernel_rfl) Try.func10 (by kernel_rfl)
    (of_decide_eq_true (by kernel_rfl)) (by unfold Func.isWrapper; first | (rw [if_pos (by decide +kernel)]; kernel_rfl) | (rw [if_neg (by decide +kernel)]; exact ⟨rfl, rfl⟩))
    (fun os started H enc _ => lifted os started H enc)

theorem proved : Rows.HierNilSaid := over
#print axioms proved
end Go.Proofs.Ytfnocnknmpmaaaa.hierNil
