/- The law distributarylaw17.AdmitPlays: whatever the input, the call returns true, and its arguments read as before. No conditions. -/
import Derived.Test.YthmhboagbeibdaaGreatRows
import Derived.WalkKit
import Derived.ProofKit
import Derived.OpenShut
import Derived.ShutString
import Derived.ChangeOld
import Derived.Below
import Derived.Lib.SmallJoins
import Derived.Test.YthmhboagbeibdaaGreatPL6
import Derived.Test.YthmhboagbeibdaaGreatFlat
namespace Go.Proofs.YthmhboagbeibdaaGreat.admitPlays
open Go.ChangeShapes Go.WideShapes Go.ChangeAt Go.RowKit Go.Joins
set_option linter.unusedVariables false

theorem own : ownKnob Tryz.prog.godebug = none := by kernel_rfl
theorem laidOut : laidOutB Tryz.prog = true := by kernel_rfl

theorem walk (a0 : Int) (a1 : Option Addr) (len1 cap1 : Nat) (z1 : List (List Value)) (a2 : Int) (a3_0 : Int) (a3_1 : Int) (a3_2 : Int) (w : World) (w0 : (Lit.int .u64 a0).wf = true) (w1 : IsRows [some .u8, some .i64, some .u64, some .u64, some .u64, none] w a1 len1 cap1 z1) (w2 : (Lit.int .i64 a2).wf = true) (w3_0 : (Lit.int .u64 a3_0).wf = true) (w3_1 : (Lit.int .u64 a3_1).wf = true) (w3_2 : (Lit.int .u64 a3_2).wf = true) :
    Calls Tryz.prog 3 #[.int .u64 a0, .slice a1 len1 cap1, .int .i64 a2, .agg #[.int .u64 a3_0, .int .u64 a3_1, .int .u64 a3_2]] w fun e w' => e = .returned (.bool true) ∧ Below w.heap.size w w' := by
  exact plays_walk a1 len1 cap1 z1 a0 a2 a3_0 a3_1 a3_2 w (u64_wf w0) w1 w2 ⟨u64_wf w3_0, u64_wf w3_1, u64_wf w3_2⟩

set_option maxRecDepth 100000 in
theorem lifted (os : Os) (started : os.Started) (H : Type) (enc : TypeId × Value → H) :
    ReturnsInHanded {} Tryz.checked os 3 .any (Rows.admitPlaysSpec.pre6 enc Tryz.prog Tryz.f3 Rows.admitPlaysRow.domain false) (Rows.admitPlaysSpec.post enc Tryz.prog Tryz.f3 false true false false) := by
  refine returnsInHanded_of_change (C := Tryz.checked) own started (by kernel_rfl) Tryz.func3
    (ChangeSpec.witness6 (enc := enc) (C := Tryz.checked) false ⟨#[], #[.int .u64 0, .slice none 0 0, .int .i64 0, .agg #[.int .u64 0, .int .u64 0, .int .u64 0]], []⟩ 8 (by kernel_rfl) (by kernel_rfl) (by kernel_rfl) (by kernel_rfl)) ?_
  intro W base args ds gs before hval0 hW hcnd _
  have hval : ∀ (j : Nat) t v, Tryz.f3.params[j]? = some t → args[j]? = some v → Value.okWide Tryz.prog W .any base t v := hval0
  have hW' := hW
  obtain ⟨p, q, hA0, hV, rfl, hfz, hnd⟩ := hW
  have hA : DataW.TrodAll enc Tryz.prog W 0 (fun _ => true) true Tryz.f3.params.toList args.toList ds p := hA0
  rw [Tryz.params3] at hA hval
  obtain ⟨v0, vs0, d0, ds0, p0, q0, hargs, rfl, rfl, h0, r0⟩ := trodAll_cons hA
  obtain ⟨v1, vs1, d1, ds1, p1, q1, rfl, rfl, rfl, h1, r1⟩ := trodAll_cons r0
  obtain ⟨v2, vs2, d2, ds2, p2, q2, rfl, rfl, rfl, h2, r2⟩ := trodAll_cons r1
  obtain ⟨v3, vs3, d3, ds3, p3, q3, rfl, rfl, rfl, h3, r3⟩ := trodAll_cons r2
  obtain ⟨rfl, rfl, rfl⟩ := trodAll_nil r3
  obtain rfl : args = #[v0, v1, v2, v3] := by cases args; simp_all
  obtain ⟨rfl, rfl⟩ := trodVars_none hV
  obtain ⟨a0, rfl, rfl, rfl, w0⟩ := open_int Tryz.underlying22 (hval 0 22 v0 rfl rfl) h0
  obtain ⟨a1, len1, cap1, rfl⟩ := okWide_slice Tryz.underlying23 (hval 1 23 v1 rfl rfl)
  have k1 := h1
  have lt1 : ∀ x ∈ p1, x.block < W.heap.size := by obtain ⟨m, hm⟩ := k1; exact DataW.trod_lt m _ _ _ hm
  obtain ⟨z1, w1⟩ := rows_flat Tryz.underlying23 (show FlatAt Tryz.prog 35 [some .u8, some .i64, some .u64, some .u64, some .u64, none] from FlatAt.str Tryz.underlying35 (show FlatFs Tryz.prog _ 0 ([some .u8] ++ ([some .i64] ++ ([some .u64, some .u64, some .u64] ++ ([none] ++ ([] : List (Option IntKind)))))) from (FlatFs.cons rfl (FlatAt.int Tryz.underlying5) (by kernel_rfl) (FlatFs.cons rfl (FlatAt.int Tryz.underlying3) (by kernel_rfl) (FlatFs.cons rfl (show FlatAt Tryz.prog 25 [some .u64, some .u64, some .u64] from FlatAt.str Tryz.underlying25 (show FlatFs Tryz.prog _ 0 ([some .u64] ++ ([some .u64] ++ ([some .u64] ++ ([] : List (Option IntKind))))) from (FlatFs.cons rfl (FlatAt.int Tryz.underlying22) (by kernel_rfl) (FlatFs.cons rfl (FlatAt.int Tryz.underlying22) (by kernel_rfl) (FlatFs.cons rfl (FlatAt.int Tryz.underlying22) (by kernel_rfl) FlatFs.nil)))) (by kernel_rfl)) (by kernel_rfl) (FlatFs.cons rfl (FlatAt.bool Tryz.underlying4) (by kernel_rfl) FlatFs.nil))))) (by kernel_rfl)) (by kernel_rfl) (by decide) h1
  obtain ⟨a2, rfl, rfl, rfl, w2⟩ := open_int Tryz.underlying3 (hval 2 3 v2 rfl rfl) h2
  have k3 := h3
  have lt3 : ∀ x ∈ p3, x.block < W.heap.size := by obtain ⟨m, hm⟩ := k3; exact DataW.trod_lt m _ _ _ hm
  obtain ⟨c3_0, c3_1, c3_2, y3_0, y3_1, y3_2, m3, rfl, _, _, hy3_0, hy3_1, hy3_2⟩ := open_agg3 Tryz.underlying25 (by kernel_rfl) (by kernel_rfl) (hval 3 25 v3 rfl rfl) h3
  obtain ⟨a3_0, e3_0, _, w3_0⟩ := DataW.trod_int Tryz.underlying22 hy3_0
  obtain rfl : c3_0 = _ := by simpa using e3_0
  obtain ⟨a3_1, e3_1, _, w3_1⟩ := DataW.trod_int Tryz.underlying22 hy3_1
  obtain rfl : c3_1 = _ := by simpa using e3_1
  obtain ⟨a3_2, e3_2, _, w3_2⟩ := DataW.trod_int Tryz.underlying22 hy3_2
  obtain rfl : c3_2 = _ := by simpa using e3_2
  clear hA0 hval0
  refine (walk a0 a1 len1 cap1 z1 a2 a3_0 a3_1 a3_2 W w0 w1 w2 w3_0 w3_1 w3_2).mono fun e W' ⟨he, bel⟩ => ?_
  subst he
  exact ⟨_, rfl, _, _, _, [], _, [], hW', trodAll_mk1 (shut_bool Tryz.underlying4 _), (trodAll_cons_mk (shut_int Tryz.underlying22 w0) (trodAll_cons_mk (Below.trod laidOut (by kernel_rfl) (of_decide_eq_true (by kernel_rfl)) k1 bel lt1) (trodAll_cons_mk (shut_int Tryz.underlying3 w2) (trodAll_cons_mk (Below.trod laidOut (by kernel_rfl) (of_decide_eq_true (by kernel_rfl)) k3 bel lt3) trodAll_mk0)))), rfl, bel.frame _, fun h => by cases h⟩

theorem over : Rows.admitPlaysRow.holds Tryz.pinned (OpenSpec.ofChange Rows.admitPlaysSpec) :=
  OpenClaim.holds_of_wide 3 Tryz.f3 rfl rfl rfl rfl rfl rfl rfl ⟨rfl, rfl, rfl, rfl, rfl⟩ rfl rfl rfl rfl rfl (by kernel_rfl) Tryz.func3 (by kernel_rfl)
    (of_decide_eq_true (by kernel_rfl)) (by unfold Func.isWrapper; first | (rw [if_pos (by decide +kernel)]; kernel_rfl) | (rw [if_neg (by decide +kernel)]; exact ⟨rfl, rfl⟩))
    (fun os started H enc _ => lifted os started H enc)

theorem proved : Rows.AdmitPlaysSaid := over
#print axioms proved
end Go.Proofs.YthmhboagbeibdaaGreat.admitPlays
