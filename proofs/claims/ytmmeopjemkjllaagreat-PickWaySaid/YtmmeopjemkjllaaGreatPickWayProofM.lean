/- The law distributarylaw22.PickWay: whatever the input, the call returns true, and its arguments read as before. No conditions. -/
import Derived.Test.YtmmeopjemkjllaaGreatRows
import Derived.WalkKit
import Derived.ProofKit
import Derived.OpenShut
import Derived.ShutString
import Derived.ChangeOld
import Derived.Below
import Derived.Lib.SmallJoins
import Derived.Test.YtmmeopjemkjllaaGreatPT46
import Derived.Test.YtmmeopjemkjllaaGreatPT16
namespace Go.Proofs.YtmmeopjemkjllaaGreat.pickWay
open Go.ChangeShapes Go.WideShapes Go.ChangeAt Go.RowKit Go.Joins
set_option linter.unusedVariables false

theorem own : ownKnob Tryz.prog.godebug = none := by kernel_rfl
theorem laidOut : laidOutB Tryz.prog = true := by kernel_rfl

theorem walk (a0 : Option Addr) (len0 cap0 : Nat) (z0 : List (List Value)) (w : World) (w0 : IsRows [some .u8, some .i64, some .i64, none, some .u64, some .u64, some .u64, some .u64, some .u64, some .u64, some .u64, some .u64, some .u64, some .i64, some .i64, some .u64, some .u64, none] w a0 len0 cap0 z0) :
    Calls Tryz.prog 6 #[.slice a0 len0 cap0] w fun e w' => e = .returned (.bool true) ∧ Below w.heap.size w w' := by
  obtain ⟨hl, z, hz⟩ := Go.Proofs.YtmmeopjemkjllaaGreat.gacts_of w0
  exact Go.Proofs.YtmmeopjemkjllaaGreat.pickWay_any a0 len0 cap0 z w hl hz

set_option maxRecDepth 100000 in
theorem lifted (os : Os) (started : os.Started) (H : Type) (enc : TypeId × Value → H) :
    ReturnsInHanded {} Tryz.checked os 6 .any (Rows.pickWaySpec.pre6 enc Tryz.prog Tryz.f6 Rows.pickWayRow.domain false) (Rows.pickWaySpec.post enc Tryz.prog Tryz.f6 false true false false) := by
  refine returnsInHanded_of_change (C := Tryz.checked) own started (by kernel_rfl) Tryz.func6
    (ChangeSpec.witness6 (enc := enc) (C := Tryz.checked) false ⟨#[], #[.slice none 0 0], []⟩ 8 (by kernel_rfl) (by kernel_rfl) (by kernel_rfl) (by kernel_rfl)) ?_
  intro W base args ds gs before hval0 hW hcnd _
  have hval : ∀ (j : Nat) t v, Tryz.f6.params[j]? = some t → args[j]? = some v → Value.okWide Tryz.prog W .any base t v := hval0
  have hW' := hW
  obtain ⟨p, q, hA0, hV, rfl, hfz, hnd⟩ := hW
  have hA : DataW.TrodAll enc Tryz.prog W 0 (fun _ => true) true Tryz.f6.params.toList args.toList ds p := hA0
  rw [Tryz.params6] at hA hval
  obtain ⟨v0, vs0, d0, ds0, p0, q0, hargs, rfl, rfl, h0, r0⟩ := trodAll_cons hA
  obtain ⟨rfl, rfl, rfl⟩ := trodAll_nil r0
  obtain rfl : args = #[v0] := by cases args; simp_all
  obtain ⟨rfl, rfl⟩ := trodVars_none hV
  obtain ⟨a0, len0, cap0, rfl⟩ := okWide_slice Tryz.underlying40 (hval 0 40 v0 rfl rfl)
  have k0 := h0
  have lt0 : ∀ x ∈ p0, x.block < W.heap.size := by obtain ⟨m, hm⟩ := k0; exact DataW.trod_lt m _ _ _ hm
  obtain ⟨z0, w0⟩ := rows_flat Tryz.underlying40 (show FlatAt Tryz.prog 94 [some .u8, some .i64, some .i64, none, some .u64, some .u64, some .u64, some .u64, some .u64, some .u64, some .u64, some .u64, some .u64, some .i64, some .i64, some .u64, some .u64, none] from FlatAt.str Tryz.underlying94 (show FlatFs Tryz.prog _ 0 ([some .u8] ++ ([some .i64, some .i64, none, some .u64, some .u64, some .u64, some .u64, some .u64, some .u64, some .u64, some .u64, some .u64, some .i64, some .i64] ++ ([some .u64] ++ ([some .u64] ++ ([none] ++ ([] : List (Option IntKind))))))) from (FlatFs.cons rfl (FlatAt.int Tryz.underlying5) (by kernel_rfl) (FlatFs.cons rfl (show FlatAt Tryz.prog 32 [some .i64, some .i64, none, some .u64, some .u64, some .u64, some .u64, some .u64, some .u64, some .u64, some .u64, some .u64, some .i64, some .i64] from FlatAt.str Tryz.underlying32 (show FlatFs Tryz.prog _ 0 ([some .i64] ++ ([some .i64] ++ ([none] ++ ([some .u64, some .u64, some .u64] ++ ([some .u64, some .u64, some .u64] ++ ([some .u64, some .u64, some .u64] ++ ([some .i64] ++ ([some .i64] ++ ([] : List (Option IntKind)))))))))) from (FlatFs.cons rfl (FlatAt.int Tryz.underlying3) (by kernel_rfl) (FlatFs.cons rfl (FlatAt.int Tryz.underlying3) (by kernel_rfl) (FlatFs.cons rfl (FlatAt.bool Tryz.underlying4) (by kernel_rfl) (FlatFs.cons rfl (show FlatAt Tryz.prog 30 [some .u64, some .u64, some .u64] from FlatAt.str Tryz.underlying30 (show FlatFs Tryz.prog _ 0 ([some .u64] ++ ([some .u64] ++ ([some .u64] ++ ([] : List (Option IntKind))))) from (FlatFs.cons rfl (FlatAt.int Tryz.underlying28) (by kernel_rfl) (FlatFs.cons rfl (FlatAt.int Tryz.underlying28) (by kernel_rfl) (FlatFs.cons rfl (FlatAt.int Tryz.underlying28) (by kernel_rfl) FlatFs.nil)))) (by kernel_rfl)) (by kernel_rfl) (FlatFs.cons rfl (show FlatAt Tryz.prog 30 [some .u64, some .u64, some .u64] from FlatAt.str Tryz.underlying30 (show FlatFs Tryz.prog _ 0 ([some .u64] ++ ([some .u64] ++ ([some .u64] ++ ([] : List (Option IntKind))))) from (FlatFs.cons rfl (FlatAt.int Tryz.underlying28) (by kernel_rfl) (FlatFs.cons rfl (FlatAt.int Tryz.underlying28) (by kernel_rfl) (FlatFs.cons rfl (FlatAt.int Tryz.underlying28) (by kernel_rfl) FlatFs.nil)))) (by kernel_rfl)) (by kernel_rfl) (FlatFs.cons rfl (show FlatAt Tryz.prog 30 [some .u64, some .u64, some .u64] from FlatAt.str Tryz.underlying30 (show FlatFs Tryz.prog _ 0 ([some .u64] ++ ([some .u64] ++ ([some .u64] ++ ([] : List (Option IntKind))))) from (FlatFs.cons rfl (FlatAt.int Tryz.underlying28) (by kernel_rfl) (FlatFs.cons rfl (FlatAt.int Tryz.underlying28) (by kernel_rfl) (FlatFs.cons rfl (FlatAt.int Tryz.underlying28) (by kernel_rfl) FlatFs.nil)))) (by kernel_rfl)) (by kernel_rfl) (FlatFs.cons rfl (FlatAt.int Tryz.underlying3) (by kernel_rfl) (FlatFs.cons rfl (FlatAt.int Tryz.underlying3) (by kernel_rfl) FlatFs.nil))))))))) (by kernel_rfl)) (by kernel_rfl) (FlatFs.cons rfl (FlatAt.int Tryz.underlying28) (by kernel_rfl) (FlatFs.cons rfl (FlatAt.int Tryz.underlying28) (by kernel_rfl) (FlatFs.cons rfl (FlatAt.bool Tryz.underlying4) (by kernel_rfl) FlatFs.nil)))))) (by kernel_rfl)) (by kernel_rfl) (by decide) h0
  clear hA0 hval0
  refine (walk a0 len0 cap0 z0 W w0).mono fun e W' ⟨he, bel⟩ => ?_
  subst he
  exact ⟨_, rfl, _, _, _, [], _, [], hW', trodAll_mk1 (shut_bool Tryz.underlying4 _), (trodAll_cons_mk (Below.trod laidOut (by kernel_rfl) (of_decide_eq_true (by kernel_rfl)) k0 bel lt0) trodAll_mk0), rfl, bel.frame _, fun h => by cases h⟩

theorem over : Rows.pickWayRow.holds Tryz.pinned (OpenSpec.ofChange Rows.pickWaySpec) :=
  OpenClaim.holds_of_wide 6 Tryz.f6 rfl rfl rfl rfl rfl rfl rfl ⟨rfl, rfl, rfl, rfl, rfl⟩ rfl rfl rfl rfl rfl (by kernel_rfl) Tryz.func6 (by kernel_rfl)
    (of_decide_eq_true (by kernel_rfl)) (by unfold Func.isWrapper; first | (rw [if_pos (by decide +kernel)]; kernel_rfl) | (rw [if_neg (by decide +kernel)]; exact ⟨rfl, rfl⟩))
    (fun os started H enc _ => lifted os started H enc)

theorem proved : Rows.PickWaySaid := over
#print axioms proved
end Go.Proofs.YtmmeopjemkjllaaGreat.pickWay
