/- The law distributarylaw17.AdmitKept: whatever the input, the call returns true, and its arguments read as before. No conditions. -/
import Derived.Test.YthmhboagbeibdaaRows
import Derived.WalkKit
import Derived.ProofKit
import Derived.OpenShut
import Derived.ShutString
import Derived.ChangeOld
import Derived.Below
import Derived.Lib.SmallJoins
import Derived.Test.YthmhboagbeibdaaAdmKept
import Derived.Test.YthmhboagbeibdaaFlat
namespace Go.Proofs.Ythmhboagbeibdaa.admitKept
open Go.ChangeShapes Go.WideShapes Go.ChangeAt Go.RowKit Go.Joins
set_option linter.unusedVariables false

theorem own : ownKnob Try.prog.godebug = none := by kernel_rfl
theorem laidOut : laidOutB Try.prog = true := by kernel_rfl

theorem walk (a0 : Int) (a1 : Option Addr) (len1 cap1 : Nat) (z1 : List (List Value)) (a2 : Int) (w : World) (w0 : (Lit.int .u64 a0).wf = true) (w1 : IsRows [some .u8, some .i64, some .u64, some .u64, some .u64, none] w a1 len1 cap1 z1) (w2 : (Lit.int .u64 a2).wf = true) :
    Calls Try.prog 6 #[.int .u64 a0, .slice a1 len1 cap1, .int .u64 a2] w fun e w' => e = .returned (.bool true) ∧ Below w.heap.size w w' := by
  exact kept_walk a1 len1 cap1 z1 a0 a2 w (u64_wf w0) w1 (u64_wf w2)

set_option maxRecDepth 100000 in
theorem lifted (os : Os) (started : os.Started) (H : Type) (enc : TypeId × Value → H) :
    ReturnsInHanded {} Try.checked os 6 .any (Rows.admitKeptSpec.pre6 enc Try.prog Try.f6 Rows.admitKeptRow.domain false) (Rows.admitKeptSpec.post enc Try.prog Try.f6 false true false false) := by
  refine returnsInHanded_of_change (C := Try.checked) own started (by kernel_rfl) Try.func6
    (ChangeSpec.witness6 (enc := enc) (C := Try.checked) false ⟨#[], #[.int .u64 0, .slice none 0 0, .int .u64 0], []⟩ 8 (by kernel_rfl) (by kernel_rfl) (by kernel_rfl) (by kernel_rfl)) ?_
  intro W base args ds gs before hval0 hW hcnd _
  have hval : ∀ (j : Nat) t v, Try.f6.params[j]? = some t → args[j]? = some v → Value.okWide Try.prog W .any base t v := hval0
  have hW' := hW
  obtain ⟨p, q, hA0, hV, rfl, hfz, hnd⟩ := hW
  have hA : DataW.TrodAll enc Try.prog W 0 (fun _ => true) true Try.f6.params.toList args.toList ds p := hA0
  rw [Try.params6] at hA hval
  obtain ⟨v0, vs0, d0, ds0, p0, q0, hargs, rfl, rfl, h0, r0⟩ := trodAll_cons hA
  obtain ⟨v1, vs1, d1, ds1, p1, q1, rfl, rfl, rfl, h1, r1⟩ := trodAll_cons r0
  obtain ⟨v2, vs2, d2, ds2, p2, q2, rfl, rfl, rfl, h2, r2⟩ := trodAll_cons r1
  obtain ⟨rfl, rfl, rfl⟩ := trodAll_nil r2
  obtain rfl : args = #[v0, v1, v2] := by cases args; simp_all
  obtain ⟨rfl, rfl⟩ := trodVars_none hV
  obtain ⟨a0, rfl, rfl, rfl, w0⟩ := open_int Try.underlying22 (hval 0 22 v0 rfl rfl) h0
  obtain ⟨a1, len1, cap1, rfl⟩ := okWide_slice Try.underlying37 (hval 1 37 v1 rfl rfl)
  have k1 := h1
  have lt1 : ∀ x ∈ p1, x.block < W.heap.size := by obtain ⟨m, hm⟩ := k1; exact DataW.trod_lt m _ _ _ hm
  obtain ⟨z1, w1⟩ := rows_flat Try.underlying37 (show FlatAt Try.prog 68 [some .u8, some .i64, some .u64, some .u64, some .u64, none] from FlatAt.str Try.underlying68 (show FlatFs Try.prog _ 0 ([some .u8] ++ ([some .i64] ++ ([some .u64, some .u64, some .u64] ++ ([none] ++ ([] : List (Option IntKind)))))) from (FlatFs.cons rfl (FlatAt.int Try.underlying5) (by kernel_rfl) (FlatFs.cons rfl (FlatAt.int Try.underlying3) (by kernel_rfl) (FlatFs.cons rfl (show FlatAt Try.prog 25 [some .u64, some .u64, some .u64] from FlatAt.str Try.underlying25 (show FlatFs Try.prog _ 0 ([some .u64] ++ ([some .u64] ++ ([some .u64] ++ ([] : List (Option IntKind))))) from (FlatFs.cons rfl (FlatAt.int Try.underlying22) (by kernel_rfl) (FlatFs.cons rfl (FlatAt.int Try.underlying22) (by kernel_rfl) (FlatFs.cons rfl (FlatAt.int Try.underlying22) (by kernel_rfl) FlatFs.nil)))) (by kernel_rfl)) (by kernel_rfl) (FlatFs.cons rfl (FlatAt.bool Try.underlying4) (by kernel_rfl) FlatFs.nil))))) (by kernel_rfl)) (by kernel_rfl) (by decide) h1
  obtain ⟨a2, rfl, rfl, rfl, w2⟩ := open_int Try.underlying22 (hval 2 22 v2 rfl rfl) h2
  clear hA0 hval0
  refine (walk a0 a1 len1 cap1 z1 a2 W w0 w1 w2).mono fun e W' ⟨he, bel⟩ => ?_
  subst he
  exact ⟨_, rfl, _, _, _, [], _, [], hW', trodAll_mk1 (shut_bool Try.underlying4 _), (trodAll_cons_mk (shut_int Try.underlying22 w0) (trodAll_cons_mk (Below.trod laidOut (by kernel_rfl) (of_decide_eq_true (by kernel_rfl)) k1 bel lt1) (trodAll_cons_mk (shut_int Try.underlying22 w2) trodAll_mk0))), rfl, bel.frame _, fun h => by cases h⟩

theorem over : Rows.admitKeptRow.holds Try.pinned (OpenSpec.ofChange Rows.admitKeptSpec) :=
  OpenClaim.holds_of_wide 6 Try.f6 rfl rfl rfl rfl rfl rfl rfl ⟨rfl, rfl, rfl, rfl, rfl⟩ rfl rfl rfl rfl rfl (by kernel_rfl) Try.func6 (by kernel_rfl)
    (of_decide_eq_true (by kernel_rfl)) (by unfold Func.isWrapper; first | (rw [if_pos (by decide +kernel)]; kernel_rfl) | (rw [if_neg (by decide +kernel)]; exact ⟨rfl, rfl⟩))
    (fun os started H enc _ => lifted os started H enc)

theorem proved : Rows.AdmitKeptSaid := over
#print axioms proved
end Go.Proofs.Ythmhboagbeibdaa.admitKept
