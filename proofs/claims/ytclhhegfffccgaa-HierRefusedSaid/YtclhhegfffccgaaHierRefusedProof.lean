/- The law distributarylaw16.HierRefused: whatever the input, the call returns true, and its arguments read as before. No conditions. -/
import Derived.Test.YtclhhegfffccgaaRows
import Derived.WalkKit
import Derived.ProofKit
import Derived.OpenShut
import Derived.ShutString
import Derived.ChangeOld
import Derived.Below
import Derived.Lib.SmallJoins
import Derived.Test.YtclhhegfffccgaaHRef
namespace Go.Proofs.Ytclhhegfffccgaa.hierRefused
open Go.ChangeShapes Go.WideShapes Go.ChangeAt Go.RowKit Go.Joins
set_option linter.unusedVariables false

theorem own : ownKnob Try.prog.godebug = none := by kernel_rfl
theorem laidOut : laidOutB Try.prog = true := by kernel_rfl

theorem walk (a0 : Option Addr) (len0 cap0 : Nat) (z0 : List (List Value)) (a1_0 : Int) (a1_1 : Int) (a1_2 : Bool) (a1_3 : Int) (a1_4 : Int) (a1_5 : Int) (a1_6 : Int) (a1_7 : Int) (a1_8 : Int) (a1_9 : Int) (a1_10 : Int) (a1_11 : Int) (a1_12 : Int) (a1_13 : Int) (w : World) (w0 : IsRows [some .u8, some .i64, some .i64, none, some .u64, some .u64, some .u64, some .u64, some .u64, some .u64, some .u64, some .u64, some .u64, some .i64, some .i64] w a0 len0 cap0 z0) (w1_0 : (Lit.int .i64 a1_0).wf = true) (w1_1 : (Lit.int .i64 a1_1).wf = true) (w1_3 : (Lit.int .u64 a1_3).wf = true) (w1_4 : (Lit.int .u64 a1_4).wf = true) (w1_5 : (Lit.int .u64 a1_5).wf = true) (w1_6 : (Lit.int .u64 a1_6).wf = true) (w1_7 : (Lit.int .u64 a1_7).wf = true) (w1_8 : (Lit.int .u64 a1_8).wf = true) (w1_9 : (Lit.int .u64 a1_9).wf = true) (w1_10 : (Lit.int .u64 a1_10).wf = true) (w1_11 : (Lit.int .u64 a1_11).wf = true) (w1_12 : (Lit.int .i64 a1_12).wf = true) (w1_13 : (Lit.int .i64 a1_13).wf = true) :
    Calls Try.prog 5 #[.slice a0 len0 cap0, .agg #[.int .i64 a1_0, .int .i64 a1_1, .bool a1_2, .int .u64 a1_3, .int .u64 a1_4, .int .u64 a1_5, .int .u64 a1_6, .int .u64 a1_7, .int .u64 a1_8, .int .u64 a1_9, .int .u64 a1_10, .int .u64 a1_11, .int .i64 a1_12, .int .i64 a1_13]] w fun e w' => e = .returned (.bool true) ∧ Below w.heap.size w w' := by
  obtain ⟨hl, z, hz⟩ := Go.Proofs.Ytclhhegfffccgaa.hacts_of w0
  exact Go.Proofs.Ytclhhegfffccgaa.hierRefused_any a0 len0 cap0 z ⟨a1_0, a1_1, a1_2, (a1_3, a1_4, a1_5), (a1_6, a1_7, a1_8), (a1_9, a1_10, a1_11), a1_12, a1_13⟩ w hl hz ⟨⟨w1_0, w1_1, w1_12, w1_13⟩, ⟨u64_U w1_3, u64_U w1_4, u64_U w1_5⟩, ⟨u64_U w1_6, u64_U w1_7, u64_U w1_8⟩, ⟨u64_U w1_9, u64_U w1_10, u64_U w1_11⟩⟩

set_option maxRecDepth 100000 in
theorem lifted (os : Os) (started : os.Started) (H : Type) (enc : TypeId × Value → H) :
    ReturnsInHanded {} Try.checked os 5 .any (Rows.hierRefusedSpec.pre6 enc Try.prog Try.f5 Rows.hierRefusedRow.domain false) (Rows.hierRefusedSpec.post enc Try.prog Try.f5 false true false false) := by
  refine returnsInHanded_of_change (C := Try.checked) own started (by kernel_rfl) Try.func5
    (ChangeSpec.witness6 (enc := enc) (C := Try.checked) false ⟨#[], #[.slice none 0 0, .agg #[.int .i64 0, .int .i64 0, .bool false, .int .u64 0, .int .u64 0, .int .u64 0, .int .u64 0, .int .u64 0, .int .u64 0, .int .u64 0, .int .u64 0, .int .u64 0, .int .i64 0, .int .i64 0]], []⟩ 8 (by kernel_rfl) (by kernel_rfl) (by kernel_rfl) (by kernel_rfl)) ?_
  intro W base args ds gs before hval0 hW hcnd _
  have hval : ∀ (j : Nat) t v, Try.f5.params[j]? = some t → args[j]? = some v → Value.okWide Try.prog W .any base t v := hval0
  have hW' := hW
  obtain ⟨p, q, hA0, hV, rfl, hfz, hnd⟩ := hW
  have hA : DataW.TrodAll enc Try.prog W 0 (fun _ => true) true Try.f5.params.toList args.toList ds p := hA0
  rw [Try.params5] at hA hval
  obtain ⟨v0, vs0, d0, ds0, p0, q0, hargs, rfl, rfl, h0, r0⟩ := trodAll_cons hA
  obtain ⟨v1, vs1, d1, ds1, p1, q1, rfl, rfl, rfl, h1, r1⟩ := trodAll_cons r0
  obtain ⟨rfl, rfl, rfl⟩ := trodAll_nil r1
  obtain rfl : args = #[v0, v1] := by cases args; simp_all
  obtain ⟨rfl, rfl⟩ := trodVars_none hV
  obtain ⟨a0, len0, cap0, rfl⟩ := okWide_slice Try.underlying34 (hval 0 34 v0 rfl rfl)
  have k0 := h0
  have lt0 : ∀ x ∈ p0, x.block < W.heap.size := by obtain ⟨m, hm⟩ := k0; exact DataW.trod_lt m _ _ _ hm
  obtain ⟨z0, w0⟩ := rows_flat Try.underlying34 (show FlatAt Try.prog 74 [some .u8, some .i64, some .i64, none, some .u64, some .u64, some .u64, some .u64, some .u64, some .u64, some .u64, some .u64, some .u64, some .i64, some .i64] from FlatAt.str Try.underlying74 (show FlatFs Try.prog _ 0 ([some .u8] ++ ([some .i64, some .i64, none, some .u64, some .u64, some .u64, some .u64, some .u64, some .u64, some .u64, some .u64, some .u64, some .i64, some .i64] ++ ([] : List (Option IntKind)))) from (FlatFs.cons rfl (FlatAt.int Try.underlying5) (by kernel_rfl) (FlatFs.cons rfl (show FlatAt Try.prog 46 [some .i64, some .i64, none, some .u64, some .u64, some .u64, some .u64, some .u64, some .u64, some .u64, some .u64, some .u64, some .i64, some .i64] from FlatAt.str Try.underlying46 (show FlatFs Try.prog _ 0 ([some .i64] ++ ([some .i64] ++ ([none] ++ ([some .u64, some .u64, some .u64] ++ ([some .u64, some .u64, some .u64] ++ ([some .u64, some .u64, some .u64] ++ ([some .i64] ++ ([some .i64] ++ ([] : List (Option IntKind)))))))))) from (FlatFs.cons rfl (FlatAt.int Try.underlying3) (by kernel_rfl) (FlatFs.cons rfl (FlatAt.int Try.underlying3) (by kernel_rfl) (FlatFs.cons rfl (FlatAt.bool Try.underlying4) (by kernel_rfl) (FlatFs.cons rfl (show FlatAt Try.prog 44 [some .u64, some .u64, some .u64] from FlatAt.str Try.underlying44 (show FlatFs Try.prog _ 0 ([some .u64] ++ ([some .u64] ++ ([some .u64] ++ ([] : List (Option IntKind))))) from (FlatFs.cons rfl (FlatAt.int Try.underlying22) (by kernel_rfl) (FlatFs.cons rfl (FlatAt.int Try.underlying22) (by kernel_rfl) (FlatFs.cons rfl (FlatAt.int Try.underlying22) (by kernel_rfl) FlatFs.nil)))) (by kernel_rfl)) (by kernel_rfl) (FlatFs.cons rfl (show FlatAt Try.prog 44 [some .u64, some .u64, some .u64] from FlatAt.str Try.underlying44 (show FlatFs Try.prog _ 0 ([some .u64] ++ ([some .u64] ++ ([some .u64] ++ ([] : List (Option IntKind))))) from (FlatFs.cons rfl (FlatAt.int Try.underlying22) (by kernel_rfl) (FlatFs.cons rfl (FlatAt.int Try.underlying22) (by kernel_rfl) (FlatFs.cons rfl (FlatAt.int Try.underlying22) (by kernel_rfl) FlatFs.nil)))) (by kernel_rfl)) (by kernel_rfl) (FlatFs.cons rfl (show FlatAt Try.prog 44 [some .u64, some .u64, some .u64] from FlatAt.str Try.underlying44 (show FlatFs Try.prog _ 0 ([some .u64] ++ ([some .u64] ++ ([some .u64] ++ ([] : List (Option IntKind))))) from (FlatFs.cons rfl (FlatAt.int Try.underlying22) (by kernel_rfl) (FlatFs.cons rfl (FlatAt.int Try.underlying22) (by kernel_rfl) (FlatFs.cons rfl (FlatAt.int Try.underlying22) (by kernel_rfl) FlatFs.nil)))) (by kernel_rfl)) (by kernel_rfl) (FlatFs.cons rfl (FlatAt.int Try.underlying3) (by kernel_rfl) (FlatFs.cons rfl (FlatAt.int Try.underlying3) (by kernel_rfl) FlatFs.nil))))))))) (by kernel_rfl)) (by kernel_rfl) FlatFs.nil))) (by kernel_rfl)) (by kernel_rfl) (by decide) h0
  have k1 := h1
  have lt1 : ∀ x ∈ p1, x.block < W.heap.size := by obtain ⟨m, hm⟩ := k1; exact DataW.trod_lt m _ _ _ hm
  obtain ⟨r1_, rfl, f1_0⟩ := flat_agg Try.underlying46 (show FlatAt Try.prog 46 [some .i64, some .i64, none, some .u64, some .u64, some .u64, some .u64, some .u64, some .u64, some .u64, some .u64, some .u64, some .i64, some .i64] from FlatAt.str Try.underlying46 (show FlatFs Try.prog _ 0 ([some .i64] ++ ([some .i64] ++ ([none] ++ ([some .u64, some .u64, some .u64] ++ ([some .u64, some .u64, some .u64] ++ ([some .u64, some .u64, some .u64] ++ ([some .i64] ++ ([some .i64] ++ ([] : List (Option IntKind)))))))))) from (FlatFs.cons rfl (FlatAt.int Try.underlying3) (by kernel_rfl) (FlatFs.cons rfl (FlatAt.int Try.underlying3) (by kernel_rfl) (FlatFs.cons rfl (FlatAt.bool Try.underlying4) (by kernel_rfl) (FlatFs.cons rfl (show FlatAt Try.prog 44 [some .u64, some .u64, some .u64] from FlatAt.str Try.underlying44 (show FlatFs Try.prog _ 0 ([some .u64] ++ ([some .u64] ++ ([some .u64] ++ ([] : List (Option IntKind))))) from (FlatFs.cons rfl (FlatAt.int Try.underlying22) (by kernel_rfl) (FlatFs.cons rfl (FlatAt.int Try.underlying22) (by kernel_rfl) (FlatFs.cons rfl (FlatAt.int Try.underlying22) (by kernel_rfl) FlatFs.nil)))) (by kernel_rfl)) (by kernel_rfl) (FlatFs.cons rfl (show FlatAt Try.prog 44 [some .u64, some .u64, some .u64] from FlatAt.str Try.underlying44 (show FlatFs Try.prog _ 0 ([some .u64] ++ ([some .u64] ++ ([some .u64] ++ ([] : List (Option IntKind))))) from (FlatFs.cons rfl (FlatAt.int Try.underlying22) (by kernel_rfl) (FlatFs.cons rfl (FlatAt.int Try.underlying22) (by kernel_rfl) (FlatFs.cons rfl (FlatAt.int Try.underlying22) (by kernel_rfl) FlatFs.nil)))) (by kernel_rfl)) (by kernel_rfl) (FlatFs.cons rfl (show FlatAt Try.prog 44 [some .u64, some .u64, some .u64] from FlatAt.str Try.underlying44 (show FlatFs Try.prog _ 0 ([some .u64] ++ ([some .u64] ++ ([some .u64] ++ ([] : List (Option IntKind))))) from (FlatFs.cons rfl (FlatAt.int Try.underlying22) (by kernel_rfl) (FlatFs.cons rfl (FlatAt.int Try.underlying22) (by kernel_rfl) (FlatFs.cons rfl (FlatAt.int Try.underlying22) (by kernel_rfl) FlatFs.nil)))) (by kernel_rfl)) (by kernel_rfl) (FlatFs.cons rfl (FlatAt.int Try.underlying3) (by kernel_rfl) (FlatFs.cons rfl (FlatAt.int Try.underlying3) (by kernel_rfl) FlatFs.nil))))))))) (by kernel_rfl)) (hval 1 46 v1 rfl rfl) h1
  obtain ⟨a1_0, r1_, rfl, w1_0, f1_1⟩ := kinds_cons f1_0
  obtain ⟨a1_1, r1_, rfl, w1_1, f1_2⟩ := kinds_cons f1_1
  obtain ⟨a1_2, r1_, rfl, f1_3⟩ := kinds_bool f1_2
  obtain ⟨a1_3, r1_, rfl, w1_3, f1_4⟩ := kinds_cons f1_3
  obtain ⟨a1_4, r1_, rfl, w1_4, f1_5⟩ := kinds_cons f1_4
  obtain ⟨a1_5, r1_, rfl, w1_5, f1_6⟩ := kinds_cons f1_5
  obtain ⟨a1_6, r1_, rfl, w1_6, f1_7⟩ := kinds_cons f1_6
  obtain ⟨a1_7, r1_, rfl, w1_7, f1_8⟩ := kinds_cons f1_7
  obtain ⟨a1_8, r1_, rfl, w1_8, f1_9⟩ := kinds_cons f1_8
  obtain ⟨a1_9, r1_, rfl, w1_9, f1_10⟩ := kinds_cons f1_9
  obtain ⟨a1_10, r1_, rfl, w1_10, f1_11⟩ := kinds_cons f1_10
  obtain ⟨a1_11, r1_, rfl, w1_11, f1_12⟩ := kinds_cons f1_11
  obtain ⟨a1_12, r1_, rfl, w1_12, f1_13⟩ := kinds_cons f1_12
  obtain ⟨a1_13, r1_, rfl, w1_13, f1_14⟩ := kinds_cons f1_13
  obtain rfl := kinds_nil f1_14
  clear hA0 hval0
  refine (walk a0 len0 cap0 z0 a1_0 a1_1 a1_2 a1_3 a1_4 a1_5 a1_6 a1_7 a1_8 a1_9 a1_10 a1_11 a1_12 a1_13 W w0 w1_0 w1_1 w1_3 w1_4 w1_5 w1_6 w1_7 w1_8 w1_9 w1_10 w1_11 w1_12 w1_13).mono fun e W' ⟨he, bel⟩ => ?_
  subst he
  exact ⟨_, rfl, _, _, _, [], _, [], hW', trodAll_mk1 (shut_bool Try.underlying4 _), (trodAll_cons_mk (Below.trod laidOut (by kernel_rfl) (of_decide_eq_true (by kernel_rfl)) k0 bel lt0) (trodAll_cons_mk (Below.trod laidOut (by kernel_rfl) (of_decide_eq_true (by kernel_rfl)) k1 bel lt1) trodAll_mk0)), rfl, bel.frame _, fun h => by cases h⟩

theorem over : Rows.hierRefusedRow.holds Try.pinned (OpenSpec.ofChange Rows.hierRefusedSpec) :=
  OpenClaim.holds_of_wide 5 Try.f5 rfl rfl rfl rfl rfl rfl rfl ⟨rfl, rfl, rfl, rfl, rfl⟩ rfl rfl rfl rfl rfl (by kernel_rfl) Try.func5 (by kernel_rfl)
    (of_decide_eq_true (by kernel_rfl)) (by unfold Func.isWrapper; first | (rw [if_pos (by decide +kernel)]; kernel_rfl) | (rw [if_neg (by decide +kernel)]; exact ⟨rfl, rfl⟩))
    (fun os started H enc _ => lifted os started H enc)

theorem proved : Rows.HierRefusedSaid := over
#print axioms proved
end Go.Proofs.Ytclhhegfffccgaa.hierRefused
