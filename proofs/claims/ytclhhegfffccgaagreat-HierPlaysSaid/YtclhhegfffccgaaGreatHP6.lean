/- Lemmas of the claim, merged: HPlayed, HRefPlain, HLeafP, RtPlain, RtAddP, H4Wide, H4Below. No conditions beyond those that each states. -/
import Derived.Test.YtclhhegfffccgaaGreatHP5
import Derived.Test.YtclhhegfffccgaaGreatFlat
import Derived.Test.YtclhhegfffccgaaGreatWide
import Derived.Test.YtclhhegfffccgaaGreatSumsAt
import Derived.Test.YtclhhegfffccgaaGreatRegX
import Derived.Deep.Upon
import Derived.Deep.QuietTactic
import Derived.BigQuiet
import Derived.Deep.DrawnRows
import Derived.Test.YtclhhegfffccgaaGreatBelow
/-
  A tree of classes behind acts. (Printed by wip/mkhplayed.py.)
-/
namespace Go.Proofs.YtclhhegfffccgaaGreat
set_option linter.unusedVariables false
open Go.RowKit Go.Maps
attribute [local go_sem ↓] Go.wp_at_zero Go.wp_at_succ
attribute [local go_sem] quietR quietAtR quietUponR midAt midUpon

def innS (id pa : Int) : Sp := ⟨id, pa, false, (0, 0, 0), (0, 0, 100), (0, 0, 0), 0, 0⟩
def leafS (id pa : Int) : Sp := ⟨id, pa, true, (0, 0, 0), (0, 0, 100), (0, 0, 0), 4, 4000⟩
set_option maxRecDepth 100000 in
theorem inner_any (id pa : Int) (w : World) : Calls Tryz.prog 43 #[.int .i64 id, .int .i64 pa] w fun e w' => e = .returned (spV (innS id pa)) ∧ Below w.heap.size w w' := by
  unfold spV spC innS
  dsimp only
  go_enter Tryz.func43, Tryz.ntmps43
  go_wp2_with fail
  have hE := Blk.new w 36 #[.int .i64 id, .int .i64 pa, .bool false, .int .u64 0, .int .u64 0, .int .u64 0, .int .u64 0, .int .u64 0, .int .u64 100, .int .u64 0, .int .u64 0, .int .u64 0, .int .i64 0, .int .i64 0]
  have q0 := hE.cell 0; have q1 := hE.cell 1; have q2 := hE.cell 2; have q3 := hE.cell 3; have q4 := hE.cell 4; have q5 := hE.cell 5; have q6 := hE.cell 6; have q7 := hE.cell 7; have q8 := hE.cell 8; have q9 := hE.cell 9; have q10 := hE.cell 10; have q11 := hE.cell 11; have q12 := hE.cell 12; have q13 := hE.cell 13
  simp only [List.getElem?_toArray, List.getElem?_cons_zero, List.getElem?_cons_succ] at q0 q1 q2 q3 q4 q5 q6 q7 q8 q9 q10 q11 q12 q13
  refine bodyPost_ret (v := .agg #[.int .i64 id, .int .i64 pa, .bool false, .int .u64 0, .int .u64 0, .int .u64 0, .int .u64 0, .int .u64 0, .int .u64 100, .int .u64 0, .int .u64 0, .int .u64 0, .int .i64 0, .int .i64 0]) (by simp [results, Tryz.results43, go_sem, q0, q1, q2, q3, q4, q5, q6, q7, q8, q9, q10, q11, q12, q13]) rfl ⟨rfl, (Below.refl w.heap.size w).alloc (Nat.le_refl _) _⟩
set_option maxRecDepth 100000 in
theorem leaf_any (id pa : Int) (w : World) : Calls Tryz.prog 44 #[.int .i64 id, .int .i64 pa] w fun e w' => e = .returned (spV (leafS id pa)) ∧ Below w.heap.size w w' := by
  unfold spV spC leafS
  dsimp only
  go_enter Tryz.func44, Tryz.ntmps44
  go_wp2_with fail
  have hE := Blk.new w 36 #[.int .i64 id, .int .i64 pa, .bool true, .int .u64 0, .int .u64 0, .int .u64 0, .int .u64 0, .int .u64 0, .int .u64 100, .int .u64 0, .int .u64 0, .int .u64 0, .int .i64 4, .int .i64 4000]
  have q0 := hE.cell 0; have q1 := hE.cell 1; have q2 := hE.cell 2; have q3 := hE.cell 3; have q4 := hE.cell 4; have q5 := hE.cell 5; have q6 := hE.cell 6; have q7 := hE.cell 7; have q8 := hE.cell 8; have q9 := hE.cell 9; have q10 := hE.cell 10; have q11 := hE.cell 11; have q12 := hE.cell 12; have q13 := hE.cell 13
  simp only [List.getElem?_toArray, List.getElem?_cons_zero, List.getElem?_cons_succ] at q0 q1 q2 q3 q4 q5 q6 q7 q8 q9 q10 q11 q12 q13
  refine bodyPost_ret (v := .agg #[.int .i64 id, .int .i64 pa, .bool true, .int .u64 0, .int .u64 0, .int .u64 0, .int .u64 0, .int .u64 0, .int .u64 100, .int .u64 0, .int .u64 0, .int .u64 0, .int .i64 4, .int .i64 4000]) (by simp [results, Tryz.results44, go_sem, q0, q1, q2, q3, q4, q5, q6, q7, q8, q9, q10, q11, q12, q13]) rfl ⟨rfl, (Below.refl w.heap.size w).alloc (Nat.le_refl _) _⟩
def aM1 : Mp := [(1, (innS 1 0, 1))]
def aM2 : Mp := [(1, (innS 1 0, 1)), (2, (leafS 2 1, 2))]
def aM3 : Mp := [(1, (innS 1 0, 1)), (2, (leafS 2 1, 2)), (3, (leafS 3 1, 2))]
theorem wf_inn (id pa : Int) (h1 : (Lit.int .i64 id).wf = true) (h2 : (Lit.int .i64 pa).wf = true) : WfSp (innS id pa) := ⟨⟨h1, h2, (show (Lit.int .i64 0).wf = true by decide), (show (Lit.int .i64 0).wf = true by decide)⟩, (show UC ((0, 0, 0) : Cv) by unfold UC U; decide), (show UC ((0, 0, 100) : Cv) by unfold UC U; decide), (show UC ((0, 0, 0) : Cv) by unfold UC U; decide)⟩
theorem wf_leaf (id pa : Int) (h1 : (Lit.int .i64 id).wf = true) (h2 : (Lit.int .i64 pa).wf = true) : WfSp (leafS id pa) := ⟨⟨h1, h2, (show (Lit.int .i64 4).wf = true by decide), (show (Lit.int .i64 4000).wf = true by decide)⟩, (show UC ((0, 0, 0) : Cv) by unfold UC U; decide), (show UC ((0, 0, 100) : Cv) by unfold UC U; decide), (show UC ((0, 0, 0) : Cv) by unfold UC U; decide)⟩
theorem a1 : addM [] (innS 1 0) = (0, aM1) := by kernel_rfl
theorem a2 : addM aM1 (leafS 2 1) = (0, aM2) := by kernel_rfl
theorem a3 : addM aM2 (leafS 3 1) = (0, aM3) := by kernel_rfl
theorem a4 : addM aM3 (leafS 2 0) = (80, aM3) := by kernel_rfl
theorem a5 : addM aM3 (leafS 4 2) = (160, aM3) := by kernel_rfl
theorem a6 : dropM aM3 1 = (161, aM3) := by kernel_rfl
theorem a7 : pathM aM3 3 = [3, 1] := by kernel_rfl
theorem a8 : kids aM3 1 = [2, 3] := by kernel_rfl
theorem a9 : dropM aM3 3 = (0, aM2) := by kernel_rfl
theorem a10 : dropM aM2 3 = (81, aM2) := by kernel_rfl

set_option maxRecDepth 100000 in
set_option maxHeartbeats 4000000 in
theorem hawake_any (w : World) : Calls Tryz.prog 15 #[] w fun e w' => e = .returned (.bool true) ∧ Below w.heap.size w w' := by
  go_enter Tryz.func15, Tryz.ntmps15
  go_wp2_with fail
  refine (tnewS w).mono ?_
  rintro e w1 ⟨g, ma, mu, rfl, hT⟩
  have H := Lib.hid hT
  clear hT
  obtain ⟨base, hbase⟩ : ∃ b, b = w.heap.size := ⟨_, rfl⟩
  have H0 := H
  clear H
  have H := Lib.hid (show TS w w1 base g ma mu [] by rw [hbase]; exact H0.out)
  clear H0 hbase
  go_wp2_with fail
  refine (inner_any 1 0 _).mono ?_
  rintro e W1 ⟨rfl, hb⟩
  have H2 := Lib.hid (H.out.later hb)
  clear hb H
  have H := Lib.hid H2.out
  clear H2
  have ha := H.out.add (innS 1 0) (wf_inn 1 0 (by decide) (by decide))
  rw [a1] at ha
  go_wp2_with fail
  refine ha.mono ?_
  clear ha H
  rintro e W1 ⟨rfl, hT⟩
  have H := Lib.hid hT
  clear hT
  go_wp2_with fail
  refine (leaf_any 2 1 _).mono ?_
  rintro e W1 ⟨rfl, hb⟩
  have H2 := Lib.hid (H.out.later hb)
  clear hb H
  have H := Lib.hid H2.out
  clear H2
  have ha := H.out.add (leafS 2 1) (wf_leaf 2 1 (by decide) (by decide))
  rw [a2] at ha
  go_wp2_with fail
  refine ha.mono ?_
  clear ha H
  rintro e W1 ⟨rfl, hT⟩
  have H := Lib.hid hT
  clear hT
  go_wp2_with fail
  refine (leaf_any 3 1 _).mono ?_
  rintro e W1 ⟨rfl, hb⟩
  have H2 := Lib.hid (H.out.later hb)
  clear hb H
  have H := Lib.hid H2.out
  clear H2
  have ha := H.out.add (leafS 3 1) (wf_leaf 3 1 (by decide) (by decide))
  rw [a3] at ha
  go_wp2_with fail
  refine ha.mono ?_
  clear ha H
  rintro e W1 ⟨rfl, hT⟩
  have H := Lib.hid hT
  clear hT
  go_wp2_with fail
  refine (leaf_any 2 0 _).mono ?_
  rintro e W1 ⟨rfl, hb⟩
  have H2 := Lib.hid (H.out.later hb)
  clear hb H
  have H := Lib.hid H2.out
  clear H2
  have ha := H.out.add (leafS 2 0) (wf_leaf 2 0 (by decide) (by decide))
  rw [a4] at ha
  go_wp2_with fail
  refine ha.mono ?_
  clear ha H
  rintro e W1 ⟨rfl, hT⟩
  have H := Lib.hid hT
  clear hT
  go_wp2_with fail
  refine (leaf_any 4 2 _).mono ?_
  rintro e W1 ⟨rfl, hb⟩
  have H2 := Lib.hid (H.out.later hb)
  clear hb H
  have H := Lib.hid H2.out
  clear H2
  have ha := H.out.add (leafS 4 2) (wf_leaf 4 2 (by decide) (by decide))
  rw [a5] at ha
  go_wp2_with fail
  refine ha.mono ?_
  clear ha H
  rintro e W1 ⟨rfl, hT⟩
  have H := Lib.hid hT
  clear hT
  have ha := H.out.drop 1 (by decide)
  rw [a6] at ha
  go_wp2_with fail
  refine ha.mono ?_
  clear ha H
  rintro e W1 ⟨rfl, hT⟩
  have H := Lib.hid hT
  clear hT
  have ha := H.out.path 3 (by decide)
  rw [a7] at ha
  go_wp2_with fail
  refine ha.mono ?_
  clear ha
  rintro e W1 ⟨v, rfl, ho, hb⟩
  have hb2 := (Below.refl W1.heap.size W1).alloc (Nat.le_refl _) (.cells #[.int .i64 3, .int .i64 1] 3)
  have hs := same16_any v (.slice (some ⟨W1.heap.size, 0, none⟩) 2 2) [3, 1] _ ((IntAt.of_owns ho (by simp)).later hb2) (int_two (Blk.new W1 3 _))
  have H2 := Lib.hid ((H.out.later hb).later hb2)
  clear hb hb2 ho H
  go_wp2_with fail
  refine hs.mono ?_
  clear hs
  rintro e W2 ⟨rfl, hb⟩
  have H := Lib.hid (H2.out.later hb)
  clear hb H2
  have ha := H.out.under 1 (by decide)
  rw [a8] at ha
  go_wp2_with fail
  refine ha.mono ?_
  clear ha
  rintro e W1 ⟨v, rfl, ho, hb⟩
  have hb2 := (Below.refl W1.heap.size W1).alloc (Nat.le_refl _) (.cells #[.int .i64 2, .int .i64 3] 3)
  have hs := same16_any v (.slice (some ⟨W1.heap.size, 0, none⟩) 2 2) [2, 3] _ ((IntAt.of_owns ho (by simp)).later hb2) (int_two (Blk.new W1 3 _))
  have H2 := Lib.hid ((H.out.later hb).later hb2)
  clear hb hb2 ho H
  go_wp2_with fail
  refine hs.mono ?_
  clear hs
  rintro e W2 ⟨rfl, hb⟩
  have H := Lib.hid (H2.out.later hb)
  clear hb H2
  have ha := H.out.drop 3 (by decide)
  rw [a9] at ha
  go_wp2_with fail
  refine ha.mono ?_
  clear ha H
  rintro e W1 ⟨rfl, hT⟩
  have H := Lib.hid hT
  clear hT
  have ha := H.out.drop 3 (by decide)
  rw [a10] at ha
  go_wp2_with fail
  refine ha.mono ?_
  clear ha H
  rintro e W1 ⟨rfl, hT⟩
  have H := Lib.hid hT
  clear hT
  have hl := H.out.len
  go_wp2_with fail
  refine hl.mono ?_
  clear hl
  rintro e W1 ⟨rfl, hb⟩
  have H2 := Lib.hid (H.out.later hb)
  clear hb H
  go_wp2_with fail
  go_ret
  exact ⟨rfl, H2.out.below⟩
set_option linter.unusedVariables false
open Go.RowKit Go.Maps
attribute [local go_sem ↓] Go.wp_at_zero Go.wp_at_succ
attribute [local go_sem] quietR quietAtR quietUponR midAt midUpon

/-- an act -/
structure HAct where
  k : Int
  s : Sp
instance : Inhabited Sp := ⟨sp0⟩
instance : Inhabited HAct := ⟨⟨0, sp0⟩⟩
def rowH (q : HAct) : List Value := .int .u8 q.k :: (spC q.s).toList
def HFit (q : HAct) : Prop := (0 ≤ q.k ∧ q.k ≤ 255) ∧ WfSp q.s
def HActsAt (w : World) (a : Option Addr) (len : Nat) (z : List HAct) : Prop :=
  z.length = len ∧ (∀ q ∈ z, HFit q) ∧ (len = 0 ∨ ∃ b off, a = some ⟨b, off, none⟩ ∧ b < w.heap.size ∧ ∀ i q, z[i]? = some q → ∀ j v, (rowH q)[j]? = some v → w.cell? ⟨b, off + i * 15 + j, none⟩ = some v)
theorem HActsAt.below {w w' : World} {a : Option Addr} {len : Nat} {z : List HAct} (h : HActsAt w a len z) (hb : Below w.heap.size w w') : HActsAt w' a len z := by
  obtain ⟨h1, h2, h3⟩ := h
  refine ⟨h1, h2, ?_⟩
  rcases h3 with h3 | ⟨b, off, e, hl, hc⟩
  · exact .inl h3
  · exact .inr ⟨b, off, e, Nat.lt_of_lt_of_le hl hb.size, fun i q hq j v hv => (hb.cell (p := ⟨b, _, none⟩) hl).trans (hc i q hq j v hv)⟩
theorem u8_wf {n : Int} (h : (Lit.int .u8 n).wf = true) : 0 ≤ n ∧ n ≤ 255 := by
  simp [Lit.wf, IntKind.min, IntKind.max, IntKind.signed, IntKind.bits] at h
  exact ⟨h.1, by omega⟩
theorem u64_U {n : Int} (h : (Lit.int .u64 n).wf = true) : U n := by
  simp [Lit.wf, IntKind.min, IntKind.max, IntKind.signed, IntKind.bits] at h
  unfold U
  omega
theorem hrow_of {row : List Value} (f0 : KindsFit [some .u8, some .i64, some .i64, none, some .u64, some .u64, some .u64, some .u64, some .u64, some .u64, some .u64, some .u64, some .u64, some .i64, some .i64] row) : ∃ q : HAct, row = rowH q ∧ HFit q := by
  obtain ⟨x0, r0, rfl, w0, f1⟩ := kinds_cons f0
  obtain ⟨x1, r1, rfl, w1, f2⟩ := kinds_cons f1
  obtain ⟨x2, r2, rfl, w2, f3⟩ := kinds_cons f2
  obtain ⟨x3, r3, rfl, f4⟩ := kinds_bool f3
  obtain ⟨x4, r4, rfl, w4, f5⟩ := kinds_cons f4
  obtain ⟨x5, r5, rfl, w5, f6⟩ := kinds_cons f5
  obtain ⟨x6, r6, rfl, w6, f7⟩ := kinds_cons f6
  obtain ⟨x7, r7, rfl, w7, f8⟩ := kinds_cons f7
  obtain ⟨x8, r8, rfl, w8, f9⟩ := kinds_cons f8
  obtain ⟨x9, r9, rfl, w9, f10⟩ := kinds_cons f9
  obtain ⟨x10, r10, rfl, w10, f11⟩ := kinds_cons f10
  obtain ⟨x11, r11, rfl, w11, f12⟩ := kinds_cons f11
  obtain ⟨x12, r12, rfl, w12, f13⟩ := kinds_cons f12
  obtain ⟨x13, r13, rfl, w13, f14⟩ := kinds_cons f13
  obtain ⟨x14, r14, rfl, w14, f15⟩ := kinds_cons f14
  obtain rfl := kinds_nil f15
  exact ⟨⟨x0, ⟨x1, x2, x3, (x4, x5, x6), (x7, x8, x9), (x10, x11, x12), x13, x14⟩⟩, rfl, u8_wf w0, ⟨w1, w2, w13, w14⟩, ⟨u64_U w4, u64_U w5, u64_U w6⟩, ⟨u64_U w7, u64_U w8, u64_U w9⟩, ⟨u64_U w10, u64_U w11, u64_U w12⟩⟩
theorem hacts_of {w : World} {a : Option Addr} {len cap : Nat} {z : List (List Value)} (h : IsRows [some .u8, some .i64, some .i64, none, some .u64, some .u64, some .u64, some .u64, some .u64, some .u64, some .u64, some .u64, some .u64, some .i64, some .i64] w a len cap z) :
    len ≤ 9223372036854775807 ∧ ∃ l : List HAct, HActsAt w a len l := by
  obtain ⟨h1, h2, h3, h4, h5⟩ := h
  have h2' : cap ≤ 9223372036854775807 := by unfold maxLen at h2; exact h2
  refine ⟨Nat.le_trans h1 h2', ?_⟩
  obtain ⟨l, hl, hr⟩ := list_of (fun i (q : HAct) => z[i]? = some (rowH q) ∧ HFit q) len (fun i hi => by
    obtain ⟨q, e, hf⟩ := hrow_of (h4 _ (List.getElem_mem (l := z) (n := i) (by omega)))
    exact ⟨q, by rw [List.getElem?_eq_getElem (by omega), e], hf⟩)
  refine ⟨l, hl, fun q hq => ?_, ?_⟩
  · obtain ⟨i, hi, rfl⟩ := List.mem_iff_getElem.1 hq
    exact (hr i _ (List.getElem?_eq_getElem hi)).2
  · rcases h5 with h5 | ⟨b, off, e, hb, hc⟩
    · exact .inl h5
    · exact .inr ⟨b, off, e, hb, fun i q hq j v hv => by rw [Nat.add_assoc]; exact hc i _ (hr i q hq).1 j v hv⟩
theorem hlong_any (a : Option Addr) (len cap : Nat) (w : World) (hl : len ≤ 9223372036854775807) :
    Calls Tryz.prog 6 #[.slice a len cap] w fun e w' => e = .returned (.bool (decide (150 < len))) ∧ w = w' := by
  have e : decide ((150 : Int) < (len : Int)) = decide (150 < len) := decide_eq_decide.2 (by omega)
  have E := Lib.hid e
  clear e
  go_enter Tryz.func6, Tryz.ntmps6
  go_wp2
  go_ret
  exact ⟨by rw [← E.out]; rfl, rfl⟩
noncomputable def stepH (M : Mp) (q : HAct) : Mp := if q.k % 4 = 0 then (addM M q.s).2 else if q.k % 4 = 1 then (changeM M q.s).2 else if q.k % 4 = 2 then (dropM M q.s.id).2 else M
noncomputable def playH (z : List HAct) : Mp := z.foldl stepH []
theorem playH_snoc {z : List HAct} {i : Nat} {q : HAct} (h : z[i]? = some q) : playH (z.take (i + 1)) = stepH (playH (z.take i)) q := by
  unfold playH
  rw [List.take_add_one, h]
  simp
def PlayedW (w : World) (z : List HAct) (e : Ending) (w' : World) : Prop := ∃ g ma mu, e = .returned (.pointer (some ⟨g, 0, none⟩)) ∧ TS w w' w.heap.size g ma mu (playH z)

set_option maxRecDepth 100000 in
set_option maxHeartbeats 4000000 in
theorem hplayed_any (a0 : Option Addr) (cap : Nat) (z : List HAct) (w : World) (hz : HActsAt w a0 z.length z) (hlen : z.length ≤ 150) :
    Calls Tryz.prog 16 #[.slice a0 z.length cap] w (PlayedW w z) := by
  have HZ := Lib.hid hz
  clear hz
  go_enter Tryz.func16, Tryz.ntmps16
  go_wp2_with fail
  refine (tnewS w).mono ?_
  rintro e w2 ⟨g, ma, mu, rfl, hT⟩
  have HT := Lib.hid hT
  clear hT
  go_wp2_with fail
  go_loopw [4] (fun v4 W => ∃ i : Nat, v4 = .int .i64 i ∧ i ≤ z.length ∧ TS w W w.heap.size g ma mu (playH (z.take i))) (fun v4 _ => (z.length - Go.RowKit.intOf v4).toNat)
  case atStart => exact ⟨0, rfl, Nat.zero_le _, HT.out⟩
  case round =>
    obtain ⟨i, rfl, hi, hts⟩ := hrel
    by_cases hlt : i < z.length
    · obtain ⟨_, hzu, hzc⟩ := HZ.out.below hts.below
      obtain ⟨b, off, rfl, hbl, hcl⟩ := hzc.resolve_left (by omega)
      obtain ⟨q, hq⟩ : ∃ q, z[i]? = some q := ⟨_, List.getElem?_eq_getElem hlt⟩
      have hfit := hzu q (List.mem_of_getElem? hq)
      have hsn := playH_snoc hq
      have hcq := hcl i q hq
      generalize playH (z.take i) = M at hts hsn
      obtain ⟨k, s⟩ := q
      obtain ⟨⟨hk0, hk1⟩, hws⟩ := hfit
      dsimp only at hk0 hk1 hws
      have c0 := hcq 0 _ rfl; have c1 := hcq 1 _ rfl; have c2 := hcq 2 _ rfl; have c3 := hcq 3 _ rfl; have c4 := hcq 4 _ rfl; have c5 := hcq 5 _ rfl; have c6 := hcq 6 _ rfl; have c7 := hcq 7 _ rfl; have c8 := hcq 8 _ rfl; have c9 := hcq 9 _ rfl; have c10 := hcq 10 _ rfl; have c11 := hcq 11 _ rfl; have c12 := hcq 12 _ rfl; have c13 := hcq 13 _ rfl; have c14 := hcq 14 _ rfl
      simp only [Nat.add_zero] at c0
      dsimp only at c0 c1 c2 c3 c4 c5 c6 c7 c8 c9 c10 c11 c12 c13 c14
      have HTS := Lib.hid hts; have HSN := Lib.hid hsn; have HWS := Lib.hid hws
      clear hzu hzc hcl hq hcq hts hsn hws
      obtain ⟨kk, hkk⟩ : ∃ kk, k % 4 = kk := ⟨_, rfl⟩
      have hq1 : 0 ≤ kk := by omega
      have hq2 : kk < 4 := by omega
      have HKK := Lib.hid hkk
      rcases (by omega : kk = 0 ∨ kk = 1 ∨ kk = 2 ∨ kk = 3) with rfl | rfl | rfl | rfl
      · have HST := Lib.hid (show stepH M ⟨k, s⟩ = (addM M s).2 by unfold stepH; rw [if_pos HKK.out])
        have ha := HTS.out.add s HWS.out
        unfold spV spC at ha
        go_wp2_with fail
        refine ha.mono ?_
        clear ha hkk c0 c1 c2 c3 c4 c5 c6 c7 c8 c9 c10 c11 c12 c13 c14 HTS
        rintro e w3 ⟨rfl, hT⟩
        have HF := Lib.hid hT
        clear hT
        go_wp2_with fail
        go_roundw
        case measure => (simp [Go.RowKit.intOf]; try omega)
        case rel => exact ⟨i + 1, by go_num, by omega, by rw [HSN.out, HST.out]; exact HF.out⟩
      · have HST := Lib.hid (show stepH M ⟨k, s⟩ = (changeM M s).2 by unfold stepH; rw [if_neg (by rw [HKK.out]; decide), if_pos HKK.out])
        have ha := HTS.out.change s HWS.out
        unfold spV spC at ha
        go_wp2_with fail
        refine ha.mono ?_
        clear ha hkk c0 c1 c2 c3 c4 c5 c6 c7 c8 c9 c10 c11 c12 c13 c14 HTS
        rintro e w3 ⟨rfl, hT⟩
        have HF := Lib.hid hT
        clear hT
        go_wp2_with fail
        go_roundw
        case measure => (simp [Go.RowKit.intOf]; try omega)
        case rel => exact ⟨i + 1, by go_num, by omega, by rw [HSN.out, HST.out]; exact HF.out⟩
      · have HST := Lib.hid (show stepH M ⟨k, s⟩ = (dropM M s.id).2 by unfold stepH; rw [if_neg (by rw [HKK.out]; decide), if_neg (by rw [HKK.out]; decide), if_pos HKK.out])
        have ha := HTS.out.drop s.id HWS.out.1.1
        go_wp2_with fail
        refine ha.mono ?_
        clear ha hkk c0 c1 c2 c3 c4 c5 c6 c7 c8 c9 c10 c11 c12 c13 c14 HTS
        rintro e w3 ⟨rfl, hT⟩
        have HF := Lib.hid hT
        clear hT
        go_wp2_with fail
        go_roundw
        case measure => (simp [Go.RowKit.intOf]; try omega)
        case rel => exact ⟨i + 1, by go_num, by omega, by rw [HSN.out, HST.out]; exact HF.out⟩
      · have HST := Lib.hid (show stepH M ⟨k, s⟩ = M by unfold stepH; rw [if_neg (by rw [HKK.out]; decide), if_neg (by rw [HKK.out]; decide), if_neg (by rw [HKK.out]; decide)])
        go_wp2_with fail
        go_roundw
        case measure => (simp [Go.RowKit.intOf]; try omega)
        case rel => exact ⟨i + 1, by go_num, by omega, by rw [HSN.out, HST.out]; exact HTS.out⟩
    · obtain rfl : i = z.length := by omega
      rw [List.take_length] at hts
      have HE := Lib.hid hts
      clear hts
      go_wp2_with fail
      go_ret
      exact ⟨g, ma, mu, rfl, HE.out⟩
end Go.Proofs.YtclhhegfffccgaaGreat
/-
  A tree of classes: what came can go again, what was changed can be changed back; what acts leave as it was.
-/
namespace Go.Proofs.YtclhhegfffccgaaGreat
set_option linter.unusedVariables false
open Go.RowKit Go.Maps

theorem del_put {α : Type} {k : Int} {v : α} : ∀ {M : List (Int × α)}, lookM M k = none → delM (putM M k v) k = M
  | [], _ => by simp [putM, delM]
  | p :: r, hn => by
    have hp : p.1 ≠ k := look_none.1 hn p (.head _)
    have hnr : lookM r k = none := look_none.2 fun q hq => look_none.1 hn q (.tail _ hq)
    unfold putM
    by_cases hlt : k < p.1
    · rw [if_pos hlt]
      show delM ((k, v) :: p :: r) k = p :: r
      have h1 : delM (p :: r) k = p :: r := delM_none k _ fun q hq => look_none.1 hn q hq
      unfold delM at h1 ⊢
      rw [List.filter_cons_of_neg (by simp)]
      exact h1
    · rw [if_neg hlt, if_neg hp]
      have ih := del_put (v := v) hnr
      unfold delM at ih ⊢
      rw [List.filter_cons_of_pos (by simpa using hp), ih]
theorem InvT.no_kids {M : Mp} (h : InvT M) {k : Int} (h0 : k ≠ 0) (hn : lookM M k = none) : kids M k = [] := by
  cases e : kids M k with
  | nil => rfl
  | cons x l =>
    obtain ⟨c', h1, h2⟩ := (mem_kids h.rise).1 (by rw [e]; exact .head _ : x ∈ kids M k)
    rcases (h.ok _ _ h1).up with ⟨h3, _⟩ | ⟨p, hp, _, _⟩
    · omega
    · rw [h2, hn] at hp; cases hp
/-- a class that came: what was answered, what stands there -/
theorem add_ok {M : Mp} {s : Sp} (h : (addM M s).1 = 0) : mayS s = true ∧ M.length < 64 ∧ lookM M s.id = none ∧ (addM M s).2 = putM M s.id (s, depthM M s.pa) := by
  unfold addM at h ⊢
  by_cases h1 : mayS s = false
  · rw [if_pos h1] at h; simp at h
  · rw [if_neg h1] at h ⊢
    by_cases h2 : 64 ≤ M.length
    · rw [if_pos h2] at h; simp at h
    · rw [if_neg h2] at h ⊢
      by_cases h3 : (lookM M s.id).isSome = true
      · rw [if_pos h3] at h; simp at h
      · rw [if_neg h3] at h ⊢
        by_cases h4 : depthM M s.pa = 0
        · rw [if_pos h4] at h; simp at h
        · rw [if_neg h4]
          exact ⟨by simpa using h1, by omega, by simpa using h3, rfl⟩
theorem add_no {M : Mp} {s : Sp} (h : (addM M s).1 ≠ 0) : (addM M s).2 = M := by
  unfold addM at h ⊢
  by_cases h1 : mayS s = false
  · rw [if_pos h1]
  · rw [if_neg h1] at h ⊢
    by_cases h2 : 64 ≤ M.length
    · rw [if_pos h2]
    · rw [if_neg h2] at h ⊢
      by_cases h3 : (lookM M s.id).isSome = true
      · rw [if_pos h3]
      · rw [if_neg h3] at h ⊢
        by_cases h4 : depthM M s.pa = 0
        · rw [if_pos h4]
        · rw [if_neg h4] at h; exact absurd rfl h
theorem add_drop {M : Mp} (hi : InvT M) {s : Sp} (h : (addM M s).1 = 0) : dropM (addM M s).2 s.id = (0, M) := by
  obtain ⟨hm, _, hn, e⟩ := add_ok h
  have hnm := may_named hm
  rw [e]
  unfold dropM
  rw [look_put_same]
  dsimp only
  have hk : kids (putM M s.id (s, depthM M s.pa)) s.id = [] := by
    rw [kids_put_other (fun e2 => hnm.2.2.2.2 e2.symm) hn]
    exact hi.no_kids (by omega) hn
  rw [if_pos hk, del_put hn]
theorem change_cases (M : Mp) (s : Sp) : (lookM M s.id = none ∧ changeM M s = (81, M)) ∨ ∃ c, lookM M s.id = some c ∧ (changeM M s = (130, M) ∨ changeM M s = (0, putM M s.id (withC c.1 s, c.2))) := by
  unfold changeM
  cases e : lookM M s.id with
  | none => exact .inl ⟨rfl, rfl⟩
  | some c =>
    refine .inr ⟨c, rfl, ?_⟩
    dsimp only
    by_cases h : mayS (withC c.1 s) = false
    · rw [if_pos h]; exact .inl rfl
    · rw [if_neg h]; exact .inr rfl
theorem putM_cons {α : Type} (p : Int × α) (r : List (Int × α)) (k : Int) (v : α) : putM (p :: r) k v = if k < p.1 then (k, v) :: p :: r else if p.1 = k then (k, v) :: r else p :: putM r k v := rfl
theorem putM_putM {α : Type} {k : Int} {a b : α} : ∀ (M : List (Int × α)), putM (putM M k a) k b = putM M k b
  | [] => by
    show putM [(k, a)] k b = [(k, b)]
    rw [putM_cons, if_neg (by dsimp only; omega), if_pos rfl]
  | p :: r => by
    rw [putM_cons p r k a, putM_cons p r k b]
    by_cases h1 : k < p.1
    · rw [if_pos h1, if_pos h1, putM_cons, if_neg (by dsimp only; omega), if_pos rfl]
    · rw [if_neg h1, if_neg h1]
      by_cases h2 : p.1 = k
      · rw [if_pos h2, if_pos h2, putM_cons, if_neg (by dsimp only; omega), if_pos rfl]
      · rw [if_neg h2, if_neg h2, putM_cons, if_neg h1, if_neg h2, putM_putM r]
theorem change_back {M : Mp} (hi : InvT M) {s : Sp} {c : Cl} (hl : lookM M s.id = some c) : changeM (putM M s.id (withC c.1 s, c.2)) c.1 = (0, M) := by
  have o := hi.ok _ _ hl
  have e : withC (withC c.1 s) c.1 = c.1 := by
    obtain ⟨⟨x1, x2, x3, x4, x5, x6, x7, x8⟩, d⟩ := c
    rfl
  unfold changeM
  rw [o.id, look_put_same]
  dsimp only
  rw [e, if_neg (by rw [o.may]; simp), putM_putM]
  rw [show putM M s.id (c.1, c.2) = M from put_look hi.rise hl]

/-- a tree, and blocks that it does not own -/
structure TP (w W : World) (base g ma mu : Nat) (M : Mp) (X : Nat → Prop) : Prop where
  tree : ∃ U, TreeX W base g ma mu U M ∧ ∀ b, X b → ¬ own ma mu U b
  lo : w.heap.size ≤ base
  below : Below w.heap.size w W
  old : ∀ b, X b → b < W.heap.size
section
variable {w W W' : World} {base g ma mu : Nat} {M : Mp} {X : Nat → Prop}
theorem TP.ts (h : TP w W base g ma mu M X) : TS w W base g ma mu M := by
  obtain ⟨⟨U, ht, _⟩, hl, hb, _⟩ := h
  exact ⟨⟨U, ht⟩, hl, hb⟩
theorem TS.tp (h : TS w W base g ma mu M) : TP w W base g ma mu M fun b => b < base := by
  obtain ⟨⟨U, ht⟩, hl, hb⟩ := h
  exact ⟨⟨U, ht, fun b hx ho => by have := (ht.owned ho).1; omega⟩, hl, hb, fun b hx => by have := ht.blk.lt; have := ht.gb; omega⟩
/-- what is laid meanwhile is not the tree's -/
theorem TP.later (h : TP w W base g ma mu M X) (hb : Below W.heap.size W W') : TP w W' base g ma mu M fun b => X b ∨ (W.heap.size ≤ b ∧ b < W'.heap.size) := by
  obtain ⟨⟨U, ht, hx⟩, hl, hb0, ho⟩ := h
  refine ⟨⟨U, ht.later hb, fun b hxb hob => ?_⟩, hl, hb0.trans (hb.mono hb0.size), fun b hxb => ?_⟩
  · rcases hxb with h1 | ⟨h1, h2⟩
    · exact hx b h1 hob
    · have := (ht.owned hob).2; omega
  · rcases hxb with h1 | ⟨_, h2⟩
    · exact Nat.lt_of_lt_of_le (ho b h1) hb.size
    · exact h2
theorem TP.act (h : TP w W base g ma mu M X) {U : List (Int × Value)} (ht : TreeX W base g ma mu U M) (hx : ∀ b, X b → ¬ own ma mu U b) {r : Int × Mp} {e : Ending} (ha : ActW W base g ma mu U r e W') :
    e = .returned (.int .i64 r.1) ∧ TP w W' base g ma mu r.2 X ∧ ∀ b, X b → W'.heap[b]? = W.heap[b]? := by
  obtain ⟨U', he, ht', hfr, hown⟩ := ha
  have hbs : base ≤ W.heap.size := Nat.le_trans ht.gb (Nat.le_of_lt ht.blk.lt)
  refine ⟨he, ⟨⟨U', ht', fun b hxb hob => ?_⟩, h.lo, h.below.trans ((hfr.below (fun b hb => (ht.owned hb).1) hbs).mono h.lo), fun b hxb => Nat.lt_of_lt_of_le (h.old b hxb) hfr.size⟩, fun b hxb => hfr.block b (h.old b hxb) (hx b hxb)⟩
  rcases hown b hob with h1 | h1
  · exact hx b hxb h1
  · have := h.old b hxb; omega
theorem TP.add (h : TP w W base g ma mu M X) (s : Sp) (hw : WfSp s) : Calls Tryz.prog 8 #[.pointer (some ⟨g, 0, none⟩), spV s] W fun e W' => e = .returned (.int .i64 (addM M s).1) ∧ TP w W' base g ma mu (addM M s).2 X ∧ ∀ b, X b → W'.heap[b]? = W.heap[b]? := by
  obtain ⟨U, ht, hx⟩ := h.tree
  exact (tadd_any s base g ma mu U M W hw ht).mono fun e W' ha => h.act ht hx ha
theorem TP.change (h : TP w W base g ma mu M X) (s : Sp) (hw : WfSp s) : Calls Tryz.prog 24 #[.pointer (some ⟨g, 0, none⟩), spV s] W fun e W' => e = .returned (.int .i64 (changeM M s).1) ∧ TP w W' base g ma mu (changeM M s).2 X ∧ ∀ b, X b → W'.heap[b]? = W.heap[b]? := by
  obtain ⟨U, ht, hx⟩ := h.tree
  exact (tchange_any s base g ma mu U M W hw ht).mono fun e W' ha => h.act ht hx ha
theorem TP.drop (h : TP w W base g ma mu M X) (id : Int) (hid : (Lit.int .i64 id).wf = true) : Calls Tryz.prog 12 #[.pointer (some ⟨g, 0, none⟩), .int .i64 id] W fun e W' => e = .returned (.int .i64 (dropM M id).1) ∧ TP w W' base g ma mu (dropM M id).2 X ∧ ∀ b, X b → W'.heap[b]? = W.heap[b]? := by
  obtain ⟨U, ht, hx⟩ := h.tree
  exact (tdrop_any id base g ma mu U M W hid ht).mono fun e W' ha => h.act ht hx ha
end
/-- numbers in blocks that an act leaves -/
def IntX (X : Nat → Prop) (w : World) (v : Value) (ks : List Int) : Prop := IntAt w v ks ∧ (ks ≠ [] → ∀ b, v.ownBlock = some b → X b)
theorem IntX.kept {X : Nat → Prop} {W W' : World} {v : Value} {ks : List Int} (h : IntX X W v ks) (hk : ∀ b, X b → W'.heap[b]? = W.heap[b]?) (hs : ∀ b, X b → b < W'.heap.size) : IntX X W' v ks := by
  obtain ⟨⟨hl, a, cap, rfl, h3⟩, hx⟩ := h
  refine ⟨⟨hl, a, cap, rfl, ?_⟩, hx⟩
  rcases h3 with h3 | ⟨b, off, rfl, hb, hc, hcell⟩
  · exact .inl h3
  · by_cases h0 : ks = []
    · exact .inl h0
    · have e := hk b (hx h0 b rfl)
      exact .inr ⟨b, off, rfl, hs b (hx h0 b rfl), hc, fun i k hi => (World.cell?_of_block (a := ⟨b, off + i, none⟩) e).trans (hcell i k hi)⟩
theorem IntX.later {X X' : Nat → Prop} {W W' : World} {v : Value} {ks : List Int} (h : IntX X W v ks) (hb : Below W.heap.size W W') (hX : ∀ b, X b → X' b) : IntX X' W' v ks :=
  ⟨h.1.later hb, fun h0 b e => hX b (h.2 h0 b e)⟩
theorem IntX.of_owns {X : Nat → Prop} {w : World} {base : Nat} {v : Value} {ks : List Int} (h : w.ownsRow base 3 1 v ks.length (ks.map (Value.int .i64))) (hl : ks.length ≤ 1000000) (hX : ∀ b, base ≤ b → b < w.heap.size → X b) : IntX X w v ks :=
  ⟨IntAt.of_owns h hl, fun _ b e => hX b (h.lt b e).1 (h.lt b e).2⟩
end Go.Proofs.YtclhhegfffccgaaGreat
/-
  A tree of classes, in plain words: the leaves below a class; a part of a tree that grows to be the whole.
-/
namespace Go.Proofs.YtclhhegfffccgaaGreat
set_option linter.unusedVariables false
open Go.RowKit Go.Maps

theorem ext_rise : ∀ {a b : List Int}, a.Pairwise (· < ·) → b.Pairwise (· < ·) → (∀ x, x ∈ a ↔ x ∈ b) → a = b
  | [], [], _, _, _ => rfl
  | [], y :: b, _, _, h => by have := (h y).2 (.head _); cases this
  | x :: a, [], _, _, h => by have := (h x).1 (.head _); cases this
  | x :: a, y :: b, ha, hb, h => by
    have ha1 := (List.pairwise_cons.1 ha).1
    have hb1 := (List.pairwise_cons.1 hb).1
    have hxy : x = y := by
      rcases List.mem_cons.1 ((h x).1 (.head _)) with e | e
      · exact e
      · rcases List.mem_cons.1 ((h y).2 (.head _)) with e2 | e2
        · exact e2.symm
        · have := hb1 x e; have := ha1 y e2; omega
    subst hxy
    rw [ext_rise (List.pairwise_cons.1 ha).2 (List.pairwise_cons.1 hb).2 fun z => ?_]
    constructor
    · intro hz
      rcases List.mem_cons.1 ((h z).1 (.tail _ hz)) with e | e
      · have := ha1 z hz; omega
      · exact e
    · intro hz
      rcases List.mem_cons.1 ((h z).2 (.tail _ hz)) with e | e
      · have := hb1 z hz; omega
      · exact e
theorem nodup_leH {l m : List Int} : l.Nodup → (∀ x ∈ l, x ∈ m) → l.length ≤ m.length := by
  induction l generalizing m with
  | nil => intro _ _; simp
  | cons a l ih =>
    intro hn hs
    have ha := hs a (by simp)
    have hn2 := List.nodup_cons.1 hn
    have h1 := ih (m := m.erase a) hn2.2 (fun x hx => (List.mem_erase_of_ne (by rintro rfl; exact hn2.1 hx)).2 (hs x (by simp [hx])))
    rw [List.length_erase_of_mem ha] at h1
    have : 0 < m.length := List.length_pos_of_mem ha
    simp; omega
/-- the leaves below a class -/
def leavesM (M : Mp) (id : Int) : List Int := (M.filter fun q => q.2.1.lf && (decide (id = 0) || decide (id ∈ pathM M q.1))).map (·.1)
theorem leaves_rising {M : Mp} (hr : Rising M) (id : Int) : (leavesM M id).Pairwise (· < ·) := by
  unfold leavesM
  exact List.pairwise_map.2 (List.Pairwise.filter _ hr)
theorem leaves_len (M : Mp) (id : Int) : (leavesM M id).length ≤ M.length := by unfold leavesM; rw [List.length_map]; exact List.length_filter_le _ _
theorem mem_leaves {M : Mp} (hr : Rising M) {id x : Int} : x ∈ leavesM M id ↔ ∃ c, lookM M x = some c ∧ c.1.lf = true ∧ (id = 0 ∨ id ∈ pathM M x) := by
  unfold leavesM
  rw [List.mem_map]
  constructor
  · rintro ⟨⟨y, c⟩, hm, rfl⟩
    rw [List.mem_filter] at hm
    have h2 := hm.2
    simp only [Bool.and_eq_true, Bool.or_eq_true, decide_eq_true_eq] at h2
    exact ⟨c, look_of_mem hr hm.1, h2.1, h2.2⟩
  · rintro ⟨c, hl, h1, h2⟩
    exact ⟨(x, c), List.mem_filter.2 ⟨mem_of_look hl, by simp only [Bool.and_eq_true, Bool.or_eq_true, decide_eq_true_eq]; exact ⟨h1, h2⟩⟩, rfl⟩
theorem InvT.path_no {M : Mp} (h : InvT M) {id : Int} (e : lookM M id = none) : pathM M id = [] := pathF_none e 8
theorem InvT.kid_dep {M : Mp} (h : InvT M) {k x : Int} {c : Cl} (e : lookM M x = some c) (hk : c.1.pa = k) : dep M x = dep M k + 1 := by
  have o := h.ok _ _ e
  unfold dep
  rw [e]
  rcases o.up with ⟨h0, h1⟩ | ⟨p, hp, _, hd⟩
  · rw [← hk, h0, h.zero]; simp; omega
  · rw [← hk, hp]; have := (h.ok _ _ hp).d1; simp; omega
theorem InvT.path_self {M : Mp} (h : InvT M) {x : Int} {c : Cl} (e : lookM M x = some c) : x ∈ pathM M x := by rw [h.path_step e]; exact .head _
/-- the path's members -/
theorem InvT.path_mem {M : Mp} (h : InvT M) : ∀ (n : Nat) {x : Int}, dep M x ≤ n → ∀ y ∈ pathM M x, (∃ c, lookM M y = some c) ∧ dep M y ≤ dep M x ∧ (dep M y = dep M x → y = x)
  | n, x, hn, y, hy => by
    cases e : lookM M x with
    | none => rw [h.path_no e] at hy; cases hy
    | some c =>
      rw [h.path_step e] at hy
      rcases List.mem_cons.1 hy with rfl | hy
      · exact ⟨⟨c, e⟩, Nat.le_refl _, fun _ => rfl⟩
      · have hd := h.kid_dep e rfl
        obtain ⟨n', rfl⟩ : ∃ n', n = n' + 1 := ⟨n - 1, by omega⟩
        have := h.path_mem n' (x := c.1.pa) (by omega) y hy
        exact ⟨this.1, by omega, by omega⟩
theorem InvT.path_apart {M : Mp} (h : InvT M) : ∀ (n : Nat) {x : Int}, dep M x ≤ n → ∀ y ∈ pathM M x, ∀ z ∈ pathM M x, dep M y = dep M z → y = z
  | n, x, hn, y, hy, z, hz, hyz => by
    cases e : lookM M x with
    | none => rw [h.path_no e] at hy; cases hy
    | some c =>
      have hd := h.kid_dep e rfl
      obtain ⟨n', rfl⟩ : ∃ n', n = n' + 1 := ⟨n - 1, by omega⟩
      rw [h.path_step e] at hy hz
      rcases List.mem_cons.1 hy with e1 | hy <;> rcases List.mem_cons.1 hz with e2 | hz
      · rw [e1, e2]
      · have := (h.path_mem n' (x := c.1.pa) (by omega) z hz).2.1; rw [e1] at hyz; omega
      · have := (h.path_mem n' (x := c.1.pa) (by omega) y hy).2.1; rw [e2] at hyz; omega
      · exact h.path_apart n' (x := c.1.pa) (by omega) y hy z hz hyz
/-- with a class its parent is on the path -/
theorem InvT.path_up {M : Mp} (h : InvT M) : ∀ (n : Nat) {x : Int}, dep M x ≤ n → ∀ y ∈ pathM M x, ∀ c, lookM M y = some c → ∀ p, lookM M c.1.pa = some p → c.1.pa ∈ pathM M x
  | n, x, hn, y, hy, c, hc, p, hp => by
    cases e : lookM M x with
    | none => rw [h.path_no e] at hy; cases hy
    | some cx =>
      have hd := h.kid_dep e rfl
      obtain ⟨n', rfl⟩ : ∃ n', n = n' + 1 := ⟨n - 1, by omega⟩
      rw [h.path_step e] at hy ⊢
      rcases List.mem_cons.1 hy with rfl | hy
      · rw [e] at hc; cases hc
        exact .tail _ (h.path_self hp)
      · exact .tail _ (h.path_up n' (x := cx.1.pa) (by omega) y hy c hc p hp)
/-- below a class one under it is on the path -/
theorem InvT.path_kid {M : Mp} (h : InvT M) : ∀ (n : Nat) {x : Int} {cx : Cl}, dep M x ≤ n → lookM M x = some cx → ∀ id, id ≠ x → (id = 0 ∨ id ∈ pathM M x) → ∃ k ∈ kids M id, k ∈ pathM M x
  | n, x, cx, hn, e, id, hne, hid => by
    have hd := h.kid_dep e rfl
    obtain ⟨n', rfl⟩ : ∃ n', n = n' + 1 := ⟨n - 1, by omega⟩
    by_cases hpa : cx.1.pa = id
    · exact ⟨x, (mem_kids h.rise).2 ⟨cx, e, hpa⟩, h.path_self e⟩
    · rw [h.path_step e] at hid ⊢
      have hin : id = 0 ∨ id ∈ pathM M cx.1.pa := by
        rcases hid with h0 | h1
        · exact .inl h0
        · rcases List.mem_cons.1 h1 with h1 | h1
          · exact absurd h1 hne
          · exact .inr h1
      cases ep : lookM M cx.1.pa with
      | none =>
        rcases (h.ok _ _ e).up with ⟨h0, _⟩ | ⟨p, hp, _⟩
        · rcases hin with h1 | h1
          · exact absurd (h0.trans h1.symm) hpa
          · rw [h.path_no ep] at h1; cases h1
        · rw [hp] at ep; cases ep
      | some p =>
        obtain ⟨k, hk, hm⟩ := h.path_kid n' (x := cx.1.pa) (by omega) ep id (fun e2 => hpa e2.symm) hin
        exact ⟨k, hk, .tail _ hm⟩
theorem InvT.path_leaf {M : Mp} (h : InvT M) {x id : Int} {cx c : Cl} (e : lookM M x = some cx) (hm : id ∈ pathM M x) (hid : lookM M id = some c) (hl : c.1.lf = true) : id = x := by
  apply Classical.byContradiction
  intro hne
  obtain ⟨k, hk, _⟩ := h.path_kid _ (Nat.le_refl _) e id hne (.inr hm)
  rw [h.leaf hid hl] at hk
  cases hk
theorem InvT.leaves_leaf {M : Mp} (h : InvT M) {id : Int} {c : Cl} (e : lookM M id = some c) (hl : c.1.lf = true) : leavesM M id = [id] := by
  refine ext_rise (leaves_rising h.rise id) (by simp) fun x => ?_
  rw [mem_leaves h.rise, List.mem_singleton]
  constructor
  · rintro ⟨cx, hx, _, h0 | hm⟩
    · have := (h.pos e).1; omega
    · exact (h.path_leaf hx hm e hl).symm
  · rintro rfl
    exact ⟨c, e, hl, .inr (h.path_self e)⟩
theorem InvT.leaves_mem {M : Mp} (h : InvT M) {id : Int} (hn : ∀ c, lookM M id = some c → c.1.lf = false) (x : Int) : x ∈ leavesM M id ↔ ∃ k ∈ kids M id, x ∈ leavesM M k := by
  rw [mem_leaves h.rise]
  constructor
  · rintro ⟨c, hx, hl, hid⟩
    have hne : id ≠ x := by
      rintro rfl
      rw [hn c hx] at hl; cases hl
    obtain ⟨k, hk, hm⟩ := h.path_kid _ (Nat.le_refl _) hx id hne hid
    exact ⟨k, hk, (mem_leaves h.rise).2 ⟨c, hx, hl, .inr hm⟩⟩
  · rintro ⟨k, hk, hm⟩
    obtain ⟨ck, hck, hpa⟩ := (mem_kids h.rise).1 hk
    obtain ⟨c, hx, hl, hkx⟩ := (mem_leaves h.rise).1 hm
    refine ⟨c, hx, hl, ?_⟩
    have hk0 := (h.pos hck).1
    rcases hkx with h0 | hkx
    · omega
    · rcases (h.ok _ _ hck).up with ⟨h0, _⟩ | ⟨p, hp, _⟩
      · exact .inl (hpa.symm.trans h0)
      · right
        rw [← hpa]
        exact h.path_up _ (Nat.le_refl _) k hkx ck hck p hp
/-- the leaves below those under a class, row by row -/
def leavesL (M : Mp) (l : List Int) : List Int := l.flatMap (leavesM M)
theorem leavesL_snoc {M : Mp} (l : List Int) (x : Int) : leavesL M (l ++ [x]) = leavesL M l ++ leavesM M x := by simp [leavesL]
theorem InvT.leavesL_nodup {M : Mp} (h : InvT M) (id : Int) : ∀ l : List Int, (∀ k ∈ l, k ∈ kids M id) → l.Nodup → (leavesL M l).Nodup
  | [], _, _ => by simp [leavesL]
  | k :: l, hl, hn => by
    show (leavesM M k ++ leavesL M l).Nodup
    refine List.nodup_append.2 ⟨(leaves_rising h.rise k).imp (fun h => by omega), h.leavesL_nodup id l (fun x hx => hl x (.tail _ hx)) (List.nodup_cons.1 hn).2, fun x hx y hy => ?_⟩
    rintro rfl
    obtain ⟨k2, hk2, hx2⟩ := List.mem_flatMap.1 hy
    obtain ⟨c1, e1, p1⟩ := (mem_kids h.rise).1 (hl k (.head _))
    obtain ⟨c2, e2, p2⟩ := (mem_kids h.rise).1 (hl k2 (.tail _ hk2))
    obtain ⟨cx, hcx, _, h1⟩ := (mem_leaves h.rise).1 hx
    obtain ⟨_, _, _, h2⟩ := (mem_leaves h.rise).1 hx2
    have d1 := h.kid_dep e1 p1
    have d2 := h.kid_dep e2 p2
    have q1 := (h.pos e1).1
    have q2 := (h.pos e2).1
    have := h.path_apart _ (Nat.le_refl _) k (by rcases h1 with h1 | h1 <;> first | omega | exact h1) k2 (by rcases h2 with h2 | h2 <;> first | omega | exact h2) (d1.trans d2.symm)
    exact (List.nodup_cons.1 hn).1 (this ▸ hk2)
theorem InvT.leavesL_len {M : Mp} (h : InvT M) (id : Int) (l : List Int) (hl : ∀ k ∈ l, k ∈ kids M id) (hn : l.Nodup) : (leavesL M l).length ≤ 64 := by
  have h1 := h.leavesL_nodup id l hl hn
  have h2 : ∀ x ∈ leavesL M l, x ∈ M.map (·.1) := fun x hx => by
    obtain ⟨k, _, hk⟩ := List.mem_flatMap.1 hx
    obtain ⟨c, hc, _⟩ := (mem_leaves h.rise).1 hk
    exact List.mem_map.2 ⟨(x, c), mem_of_look hc, rfl⟩
  have h3 := nodup_leH h1 h2
  have := h.few
  rw [List.length_map] at h3
  omega
/-- in order -/
theorem InvT.leaves_sorted {M : Mp} (h : InvT M) {id : Int} (hn : ∀ c, lookM M id = some c → c.1.lf = false) {ss : List Int} (hp : ss.Perm (leavesL M (kids M id))) (hs : ss.Pairwise (· ≤ ·)) : ss = leavesM M id := by
  have hnd : ss.Nodup := hp.nodup_iff.2 (h.leavesL_nodup id _ (fun _ hk => hk) ((kids_rising h.rise id).imp fun h => by omega))
  refine ext_rise ?_ (leaves_rising h.rise id) fun x => ?_
  · exact (List.pairwise_and_iff.2 ⟨hs, hnd⟩).imp fun hh => by have := hh.1; have := hh.2; omega
  · rw [hp.mem_iff, h.leaves_mem hn]
    exact List.mem_flatMap
/-- a part of a tree -/
structure SubT (A M : Mp) : Prop where
  inv : InvT A
  sub : ∀ k c, lookM A k = some c → lookM M k = some c
theorem len_of_sub : ∀ {A M : Mp}, Rising A → Rising M → (∀ k c, lookM A k = some c → lookM M k = some c) → A.length ≤ M.length := by
  intro A M hA hM hs
  have h1 : (A.map (·.1)).Nodup := List.pairwise_map.2 (List.Pairwise.imp (fun h => by omega) hA)
  have h3 := nodup_leH h1 (m := M.map (·.1)) fun x hx => by
    obtain ⟨⟨k, c⟩, hm, rfl⟩ := List.mem_map.1 hx
    exact List.mem_map.2 ⟨(k, c), mem_of_look (hs _ _ (look_of_mem hA hm)), rfl⟩
  simpa using h3
theorem map_ext {A M : Mp} (hA : Rising A) (hM : Rising M) (hs : ∀ k, lookM A k = lookM M k) : A = M := by
  induction A generalizing M with
  | nil =>
    cases M with
    | nil => rfl
    | cons q M => have := hs q.1; simp [lookM] at this
  | cons p A ih =>
    cases M with
    | nil => have := hs p.1; simp [lookM] at this
    | cons q M =>
      have hp1 := (List.pairwise_cons.1 hA).1
      have hq1 := (List.pairwise_cons.1 hM).1
      have hk : p.1 = q.1 := by
        have h1 := hs p.1
        have h2 := hs q.1
        apply Classical.byContradiction
        intro hne
        have a1 : lookM (p :: A) p.1 = some p.2 := by simp [lookM]
        have a2 : lookM (q :: M) q.1 = some q.2 := by simp [lookM]
        rw [a1] at h1
        rw [a2] at h2
        have b1 := mem_of_look h1.symm
        have b2 := mem_of_look h2
        rcases List.mem_cons.1 b1 with e | b1
        · exact hne (by rw [← e])
        · rcases List.mem_cons.1 b2 with e | b2
          · exact hne (by rw [← e])
          · have := hq1 _ b1; have := hp1 _ b2; dsimp only at *; omega
      have hv : p.2 = q.2 := by
        have h1 := hs p.1
        have a1 : lookM (p :: A) p.1 = some p.2 := by simp [lookM]
        have a2 : lookM (q :: M) p.1 = some q.2 := by simp [lookM, hk]
        rw [a1, a2] at h1
        exact Option.some.inj h1
      have hpq : p = q := Prod.ext hk hv
      subst hpq
      rw [ih (List.pairwise_cons.1 hA).2 (List.pairwise_cons.1 hM).2 fun k => ?_]
      by_cases e : p.1 = k
      · subst e
        have n1 : lookM A p.1 = none := look_none.2 fun x hx => by have := hp1 x hx; omega
        have n2 : lookM M p.1 = none := look_none.2 fun x hx => by have := hq1 x hx; omega
        rw [n1, n2]
      · have := hs k
        unfold lookM at this
        rw [if_neg e, if_neg e] at this
        exact this
section
variable {A M : Mp}
theorem sub_nil (M : Mp) : SubT [] M := ⟨inv_nil, fun k c h => by cases h⟩
/-- one more comes -/
theorem SubT.add (h : SubT A M) (hM : InvT M) {k : Int} {c : Cl} (e : lookM M k = some c) (hn : lookM A k = none) (hp : c.1.pa = 0 ∨ ∃ p, lookM A c.1.pa = some p) :
    (addM A c.1).1 = 0 ∧ SubT (addM A c.1).2 M ∧ ∀ j, lookM (addM A c.1).2 j = if j = k then some c else lookM A j := by
  have o := hM.ok _ _ e
  have hlen : A.length < 64 := by
    have h1 : (lookM (putM A k c) k) = some c := look_put_same _ _ _
    have := len_of_sub (A := putM A k c) (M := M) (rising_put _ _ h.inv.rise) hM.rise fun j d hj => by
      by_cases ej : j = k
      · subst ej; rw [look_put_same] at hj; cases hj; exact e
      · rw [look_put_other _ ej] at hj; exact h.sub _ _ hj
    rw [put_len_new hn] at this
    have := hM.few
    omega
  have hdep : depthM A c.1.pa = c.2 := by
    unfold depthM
    rcases o.up with ⟨h0, h1⟩ | ⟨p, hp2, hl, hd⟩
    · rw [if_pos h0]; exact h1.symm
    · rcases hp with h0 | ⟨p', hp'⟩
      · rw [h0, hM.zero] at hp2; cases hp2
      · have := h.sub _ _ hp'
        rw [hp2] at this; cases this
        have hne : c.1.pa ≠ 0 := by intro h0; rw [h0, hM.zero] at hp2; cases hp2
        rw [if_neg hne, hp']
        have := o.d8
        dsimp only
        rw [if_neg (by rw [hl]; simp; omega)]
        exact hd.symm
  have hd1 := o.d1
  have hadd : addM A c.1 = (0, putM A k c) := by
    unfold addM
    rw [if_neg (by rw [o.may]; simp), if_neg (by omega), o.id, if_neg (by rw [hn]; simp), hdep, if_neg (by omega)]
  have hinv := h.inv.add (s := c.1) o.wf
  rw [hadd] at hinv ⊢
  refine ⟨rfl, ⟨hinv, fun j d hj => ?_⟩, fun j => ?_⟩
  · by_cases ej : j = k
    · subst ej; dsimp only at hj; rw [look_put_same] at hj; cases hj; exact e
    · dsimp only at hj; rw [look_put_other _ ej] at hj; exact h.sub _ _ hj
  · by_cases ej : j = k
    · subst ej; rw [if_pos rfl]; exact look_put_same _ _ _
    · rw [if_neg ej]; exact look_put_other _ ej _
theorem SubT.whole (h : SubT A M) (hM : InvT M) (hall : ∀ k c, lookM M k = some c → ∃ d, lookM A k = some d) : A = M := by
  refine map_ext h.inv.rise hM.rise fun k => ?_
  cases e : lookM M k with
  | none =>
    cases e2 : lookM A k with
    | none => rfl
    | some d => rw [h.sub _ _ e2] at e; cases e
  | some c =>
    obtain ⟨d, hd⟩ := hall k c e
    rw [hd, ← h.sub _ _ hd, e]
end
end Go.Proofs.YtclhhegfffccgaaGreat
/-
  The document's tree and the program's, in plain words: they tell the same.
-/
namespace Go.Proofs.YtclhhegfffccgaaGreat
set_option linter.unusedVariables false
open Go.RowKit

/-- the specs of a tree -/
def sps (M : Mp) : List Sp := M.map (·.2.1)
theorem sps_len (M : Mp) : (sps M).length = M.length := by unfold sps; rw [List.length_map]
theorem InvT.key {M : Mp} (h : InvT M) : ∀ q ∈ M, q.2.1.id = q.1 := fun q hq => (h.ok q.1 q.2 (look_of_mem h.rise hq)).id
theorem getL_sps {id : Int} : ∀ {M : Mp}, (∀ q ∈ M, q.2.1.id = q.1) → getL (sps M) id = (lookM M id).map (·.1)
  | [], _ => rfl
  | q :: M, h => by
    have hk := h q (List.mem_cons_self ..)
    have ih := getL_sps (id := id) (M := M) fun x hx => h x (List.mem_cons_of_mem _ hx)
    show List.find? (fun e => decide (e.id = id)) (q.2.1 :: M.map (·.2.1)) = Option.map (·.1) (if q.1 = id then some q.2 else lookM M id)
    by_cases e : q.1 = id
    · rw [if_pos e, List.find?_cons_of_pos (by simpa [hk] using e)]; rfl
    · rw [if_neg e, List.find?_cons_of_neg (by simpa [hk] using e)]
      exact ih
theorem pathL_sps {M : Mp} (h : ∀ q ∈ M, q.2.1.id = q.1) : ∀ (n : Nat) (id : Int), pathL (sps M) n id = pathF M n id
  | 0, _ => rfl
  | n + 1, id => by
    unfold pathL pathF
    rw [getL_sps h]
    cases lookM M id with
    | none => rfl
    | some c => show id :: _ = id :: _; rw [pathL_sps h n c.1.pa]
theorem InvT.path_nodup {M : Mp} (h : InvT M) : ∀ (n : Nat) {x : Int}, dep M x ≤ n → (pathM M x).Nodup
  | n, x, hn => by
    cases e : lookM M x with
    | none => rw [h.path_no e]; exact List.nodup_nil
    | some c =>
      rw [h.path_step e]
      have hd := h.kid_dep e rfl
      obtain ⟨n', rfl⟩ : ∃ n', n = n' + 1 := ⟨n - 1, by omega⟩
      refine List.nodup_cons.2 ⟨fun hm => ?_, h.path_nodup n' (x := c.1.pa) (by omega)⟩
      have := (h.path_mem n' (x := c.1.pa) (by omega) x hm).2.1
      omega
theorem InvT.path_short {M : Mp} (h : InvT M) (id : Int) : (pathM M id).length ≤ M.length := by
  have := nodup_leH (l := pathM M id) (m := M.map (·.1)) (h.path_nodup _ (Nat.le_refl _)) fun x hx => by
    obtain ⟨⟨c, hc⟩, _⟩ := h.path_mem _ (Nat.le_refl _) x hx
    exact List.mem_map.2 ⟨(x, c), mem_of_look hc, rfl⟩
  rwa [List.length_map] at this
theorem InvT.path_len {M : Mp} (h : InvT M) {id : Int} {c : Cl} (e : lookM M id = some c) : ((pathM M id).length : Int) = c.2 := h.pathF_len 8 e (by have := (h.ok _ _ e).d8; omega)
/-- the document's path -/
theorem InvT.pathL {M : Mp} (h : InvT M) (id : Int) : pathL (sps M) ((sps M).length + 1) id = pathM M id := by
  rw [pathL_sps h.key, sps_len]
  refine h.pathF_more _ _ fun c hc => ⟨?_, ?_⟩
  · have h1 := h.path_len hc
    have h2 := h.path_short id
    omega
  · have := (h.ok _ _ hc).d8; omega
theorem InvT.idsL {M : Mp} (h : InvT M) : ((sps M).filter fun _ => true).map (·.id) = M.map (·.1) := by
  rw [List.filter_eq_self.2 (fun _ _ => rfl)]
  unfold sps
  rw [List.map_map]
  exact List.map_congr_left fun q hq => h.key q hq
theorem sps_filter {M : Mp} (h : ∀ q ∈ M, q.2.1.id = q.1) (f : Sp → Bool) (g : Int × Cl → Bool) (hfg : ∀ q ∈ M, f q.2.1 = g q) : ((sps M).filter f).map (·.id) = (M.filter g).map (·.1) := by
  induction M with
  | nil => rfl
  | cons q M ih =>
    have hq := hfg q (List.mem_cons_self ..)
    have hk := h q (List.mem_cons_self ..)
    have ih := ih (fun x hx => h x (List.mem_cons_of_mem _ hx)) fun x hx => hfg x (List.mem_cons_of_mem _ hx)
    unfold sps at *
    rw [List.map_cons]
    cases hg : g q with
    | true => rw [List.filter_cons_of_pos (by rw [hq, hg]), List.filter_cons_of_pos hg, List.map_cons, List.map_cons, ih, hk]
    | false => rw [List.filter_cons_of_neg (by rw [hq, hg]; simp), List.filter_cons_of_neg (by rw [hg]; simp), ih]
theorem InvT.underL {M : Mp} (h : InvT M) (id : Int) : underL (sps M) id = kids M id := sps_filter h.key _ _ fun _ _ => rfl
theorem InvT.leavesS {M : Mp} (h : InvT M) (id : Int) : leavesS (sps M) id = leavesM M id := sps_filter h.key _ _ fun q hq => by
  unfold leafB
  rw [h.pathL, h.key q hq]
theorem sps_pair {M : Mp} (h : InvT M) : (sps M).Pairwise fun a b => a.id ≠ b.id := by
  unfold sps
  rw [List.pairwise_map]
  refine List.Pairwise.imp_of_mem ?_ h.rise
  intro a b ha hb hab
  rw [h.key a ha, h.key b hb]
  omega
theorem sps_out {M : Mp} (h : ∀ q ∈ M, q.2.1.id = q.1) (id : Int) : outL (sps M) id = sps (delM M id) := by
  induction M with
  | nil => rfl
  | cons q M ih =>
    have hk := h q (List.mem_cons_self ..)
    have ih := ih fun x hx => h x (List.mem_cons_of_mem _ hx)
    unfold outL sps delM at *
    by_cases e : q.1 = id
    · rw [List.map_cons, List.filter_cons_of_neg (by simpa [hk] using e), List.filter_cons_of_neg (by simpa using e), ih]
    · rw [List.map_cons, List.filter_cons_of_pos (by simpa [hk] using e), List.filter_cons_of_pos (by simpa using e), List.map_cons, ih]
theorem InvT.dropS {M : Mp} (h : InvT M) (id : Int) : dropS (sps M) id = ((dropM M id).1, sps (dropM M id).2) := by
  unfold Go.Proofs.YtclhhegfffccgaaGreat.dropS dropM
  rw [getL_sps h.key]
  cases e : lookM M id with
  | none => rfl
  | some c =>
    show (if (some c.1 : Option Sp) = none then _ else _) = _
    rw [if_neg (by simp), h.underL]
    by_cases hk : kids M id = []
    · rw [if_neg (by rw [hk]; simp), if_pos hk, sps_out h.key]
    · rw [if_pos (List.length_pos_iff.2 hk), if_neg hk]
end Go.Proofs.YtclhhegfffccgaaGreat
/-
  The document's tree, in plain words: a class comes.
-/
namespace Go.Proofs.YtclhhegfffccgaaGreat
set_option linter.unusedVariables false
open Go.RowKit Go.Maps
attribute [local go_sem ↓] Go.wp_at_zero Go.wp_at_succ
attribute [local go_sem] quietR quietAtR quietUponR midAt midUpon

def upS (L : List Sp) (pa : Int) : Bool := decide (pa = 0) || (match getL L pa with
  | none => false
  | some c => !c.lf && decide ((Go.Proofs.YtclhhegfffccgaaGreat.pathL L (L.length + 1) pa).length < 8))
def insS : List Sp → Sp → List Sp
  | [], s => [s]
  | x :: L, s => if x.id < s.id then x :: insS L s else s :: x :: L
theorem insS_at {s : Sp} : ∀ {L : List Sp} {k : Nat}, (∀ (j : Nat) x, j < k → L[j]? = some x → x.id < s.id) → (∀ x, L[k]? = some x → ¬ x.id < s.id) → k ≤ L.length → insS L s = L.take k ++ s :: L.drop k
  | [], k, _, _, hk => by
    have : k = 0 := by simpa using hk
    subst this; rfl
  | x :: L, 0, _, h2, _ => by
    unfold insS
    rw [if_neg (h2 x rfl)]; rfl
  | x :: L, k + 1, h1, h2, hk => by
    unfold insS
    rw [if_pos (h1 0 x (by omega) rfl), insS_at (fun j y hj hy => h1 (j + 1) y (by omega) hy) (fun y hy => h2 y hy) (by simpa using hk)]
    rfl
noncomputable def addS (L : List Sp) (s : Sp) : Int × List Sp := if mayS s = false then (130, L) else if 64 ≤ L.length then (4, L) else if (getL L s.id).isSome = true then (80, L) else if upS L s.pa = false then (160, L) else (0, insS L s)
theorem sps_ins {s : Sp} {d : Int} : ∀ {M : Mp}, (∀ q ∈ M, q.2.1.id = q.1) → lookM M s.id = none → insS (sps M) s = sps (putM M s.id (s, d))
  | [], _, _ => rfl
  | q :: M, h, hn => by
    have hk := h q (List.mem_cons_self ..)
    have ne : q.1 ≠ s.id := fun e => by
      rw [show lookM (q :: M) s.id = if q.1 = s.id then some q.2 else lookM M s.id from rfl, if_pos e] at hn
      cases hn
    have hn2 : lookM M s.id = none := by
      rw [show lookM (q :: M) s.id = if q.1 = s.id then some q.2 else lookM M s.id from rfl, if_neg ne] at hn
      exact hn
    have ih := sps_ins (d := d) (fun x hx => h x (List.mem_cons_of_mem _ hx)) hn2
    show (if q.2.1.id < s.id then q.2.1 :: insS (sps M) s else s :: q.2.1 :: sps M) = sps (if s.id < q.1 then (s.id, (s, d)) :: q :: M else if q.1 = s.id then (s.id, (s, d)) :: M else q :: putM M s.id (s, d))
    rw [hk]
    by_cases hlt : q.1 < s.id
    · rw [if_pos hlt, if_neg (by omega), if_neg ne, ih]; rfl
    · rw [if_neg hlt, if_pos (by omega)]; rfl
theorem InvT.upS {M : Mp} (h : InvT M) (pa : Int) : upS (sps M) pa = !decide (depthM M pa = 0) := by
  unfold Go.Proofs.YtclhhegfffccgaaGreat.upS depthM
  by_cases h0 : pa = 0
  · rw [if_pos h0]; simp [h0]
  · rw [if_neg h0, getL_sps h.key, h.pathL]
    cases e : lookM M pa with
    | none => simp [h0]
    | some c =>
      have hl := h.path_len e
      have hd := (h.ok _ _ e).d1
      show (decide (pa = 0) || (!c.1.lf && decide ((pathM M pa).length < 8))) = !decide ((if c.1.lf = true ∨ 8 ≤ c.2 then (0 : Int) else c.2 + 1) = 0)
      cases hlf : c.1.lf with
      | true => simp [h0]
      | false =>
        by_cases h8 : 8 ≤ c.2
        · rw [if_pos (.inr h8), decide_eq_false (show ¬ (pathM M pa).length < 8 by omega)]; simp [h0]
        · rw [if_neg (by simp; omega), decide_eq_true (show (pathM M pa).length < 8 by omega), decide_eq_false (show ¬ c.2 + 1 = 0 by omega)]; simp
theorem InvT.addS {M : Mp} (h : InvT M) (s : Sp) : addS (sps M) s = ((addM M s).1, sps (addM M s).2) := by
  unfold Go.Proofs.YtclhhegfffccgaaGreat.addS addM
  by_cases h1 : mayS s = false
  · rw [if_pos h1, if_pos h1]
  rw [if_neg h1, if_neg h1, sps_len]
  by_cases h2 : 64 ≤ M.length
  · rw [if_pos h2, if_pos h2]
  rw [if_neg h2, if_neg h2, getL_sps h.key, Option.isSome_map]
  by_cases h3 : (lookM M s.id).isSome = true
  · rw [if_pos h3, if_pos h3]
  rw [if_neg h3, if_neg h3, h.upS]
  by_cases h4 : depthM M s.pa = 0
  · rw [if_pos h4, if_pos (by simp [h4])]
  · rw [if_neg h4, if_neg (by simp [h4]), sps_ins h.key (by simpa using h3)]
end Go.Proofs.YtclhhegfffccgaaGreat
/-
  The document's wide numbers, by halves of 32 bits; what a curve has at a tick; may it be (cut by program from XRefWide and XRefMay: what sums' reference reaches).
-/
namespace Go.Proofs.YtclhhegfffccgaaGreat
set_option linter.unusedVariables false
open Go.RowKit

theorem mul_bd {a t A T : Int} (ha : 0 ≤ a) (hA : a ≤ A) (ht : 0 ≤ t) (hT : t ≤ T) : 0 ≤ a * t ∧ a * t ≤ A * T :=
  ⟨Int.mul_nonneg ha ht, Int.mul_le_mul hA hT ht (Int.le_trans ha hA)⟩

/-- a wide number as a value -/
abbrev wv (n : Int) : Value := .agg #[.int .u64 (hiW n), .int .u64 (loW n)]

theorem mul_halves (x1 x0 y1 y0 : Int) : (x1 * 4294967296 + x0) * (y1 * 4294967296 + y0) = x1 * y1 * 18446744073709551616 + (x1 * y0 + x0 * y1) * 4294967296 + x0 * y0 := by
  have e1 : x1 * 4294967296 * (y1 * 4294967296) = x1 * y1 * 18446744073709551616 := by
    rw [Int.mul_assoc, Int.mul_left_comm 4294967296, ← Int.mul_assoc, show (4294967296 : Int) * 4294967296 = 18446744073709551616 from rfl]
  have e2 : x1 * 4294967296 * y0 = x1 * y0 * 4294967296 := Int.mul_right_comm _ _ _
  have e3 : x0 * (y1 * 4294967296) = x0 * y1 * 4294967296 := (Int.mul_assoc _ _ _).symm
  rw [Int.add_mul, Int.mul_add, Int.mul_add, e1, e2, e3]
  omega

theorem rmul_walk (a b x0 x1 y0 y1 t00 t10 t01 t11 l1 l0 o1 o0 w1 w0 md m1 m0 h l : Int) (w : World)
    (e1 : IntKind.u64.wrap (a.tdiv 4294967296) = x1) (e2 : a.tmod 4294967296 = x0) (e3 : IntKind.u64.wrap (b.tdiv 4294967296) = y1) (e4 : b.tmod 4294967296 = y0)
    (g00 : IntKind.u64.wrap (x0 * y0) = t00) (g10 : IntKind.u64.wrap (x1 * y0) = t10) (g01 : IntKind.u64.wrap (x0 * y1) = t01) (g11 : IntKind.u64.wrap (x1 * y1) = t11)
    (k1 : IntKind.u64.wrap (t00.tdiv 4294967296) = l1) (k2 : t00.tmod 4294967296 = l0) (k3 : IntKind.u64.wrap (t10.tdiv 4294967296) = o1) (k4 : t10.tmod 4294967296 = o0) (k5 : IntKind.u64.wrap (t01.tdiv 4294967296) = w1) (k6 : t01.tmod 4294967296 = w0)
    (f1 : IntKind.u64.wrap (IntKind.u64.wrap (l1 + o0) + w0) = md) (k7 : IntKind.u64.wrap (md.tdiv 4294967296) = m1) (k8 : md.tmod 4294967296 = m0)
    (f2 : IntKind.u64.wrap (IntKind.u64.wrap (IntKind.u64.wrap (t11 + o1) + w1) + m1) = h) (f3 : IntKind.u64.wrap (IntKind.u64.wrap (m0 * 4294967296) + l0) = l) :
    Calls Tryz.prog 92 #[.int .u64 a, .int .u64 b] w fun e w' => e = .returned (.agg #[.int .u64 h, .int .u64 l]) ∧ Below w.heap.size w w' := by
  go_enter Tryz.func92, Tryz.ntmps92
  go_wp2
  go_returns
  exact ⟨rfl, by go_grown⟩

theorem ref_mul (a b : Int) (w : World) (ha : U a) (hb : U b) :
    Calls Tryz.prog 92 #[.int .u64 a, .int .u64 b] w fun e w' => e = .returned (wv (a * b)) ∧ Below w.heap.size w w' := by
  have ha' := ha; have hb' := hb
  unfold U at ha' hb'
  have b00 := prod_bd (x := a % 4294967296) (y := b % 4294967296) (by omega) (by omega) (by omega) (by omega)
  have b01 := prod_bd (x := a % 4294967296) (y := b / 4294967296) (by omega) (by omega) (by omega) (by omega)
  have b10 := prod_bd (x := a / 4294967296) (y := b % 4294967296) (by omega) (by omega) (by omega) (by omega)
  have b11 := prod_bd (x := a / 4294967296) (y := b / 4294967296) (by omega) (by omega) (by omega) (by omega)
  have hab := mul_halves (a / 4294967296) (a % 4294967296) (b / 4294967296) (b % 4294967296)
  rw [show a / 4294967296 * 4294967296 + a % 4294967296 = a by omega, show b / 4294967296 * 4294967296 + b % 4294967296 = b by omega] at hab
  have hU : ∀ t : Int, 0 ≤ t → t ≤ 18446744073709551615 → U t := fun t h h' => ⟨h, h'⟩
  have e1 : IntKind.u64.wrap (a.tdiv 4294967296) = a / 4294967296 := by rw [Int.tdiv_eq_ediv_of_nonneg ha.1]; exact wrap_u (hU _ (by omega) (by omega))
  have e2 : a.tmod 4294967296 = a % 4294967296 := Int.tmod_eq_emod_of_nonneg ha.1
  have e3 : IntKind.u64.wrap (b.tdiv 4294967296) = b / 4294967296 := by rw [Int.tdiv_eq_ediv_of_nonneg hb.1]; exact wrap_u (hU _ (by omega) (by omega))
  have e4 : b.tmod 4294967296 = b % 4294967296 := Int.tmod_eq_emod_of_nonneg hb.1
  unfold wv
  rw [hab]
  have dv : ∀ t : Int, 0 ≤ t → t ≤ 18446744073709551615 → IntKind.u64.wrap (t.tdiv 4294967296) = t / 4294967296 := fun t h0 h1 => by rw [Int.tdiv_eq_ediv_of_nonneg h0]; exact wrap_u (hU _ (by omega) (by omega))
  have md : ∀ t : Int, 0 ≤ t → t.tmod 4294967296 = t % 4294967296 := fun t h0 => Int.tmod_eq_emod_of_nonneg h0
  have r1 : 0 ≤ a / 4294967296 ∧ a / 4294967296 ≤ 4294967295 := by omega
  have r2 : 0 ≤ b / 4294967296 ∧ b / 4294967296 ≤ 4294967295 := by omega
  generalize h1 : a / 4294967296 = x1 at *
  generalize h2 : a % 4294967296 = x0 at *
  generalize h3 : b / 4294967296 = y1 at *
  generalize h4 : b % 4294967296 = y0 at *
  clear hab ha' hb' h1 h2 h3 h4
  generalize g00 : x0 * y0 = t00 at *
  generalize g01 : x0 * y1 = t01 at *
  generalize g10 : x1 * y0 = t10 at *
  generalize g11 : x1 * y1 = t11 at *
  have q1 : 0 ≤ t00 / 4294967296 + t10 % 4294967296 + t01 % 4294967296 ∧ t00 / 4294967296 + t10 % 4294967296 + t01 % 4294967296 ≤ 18446744073709551615 := by omega
  exact rmul_walk a b x0 x1 y0 y1 t00 t10 t01 t11 (t00 / 4294967296) (t00 % 4294967296) (t10 / 4294967296) (t10 % 4294967296) (t01 / 4294967296) (t01 % 4294967296)
    (t00 / 4294967296 + t10 % 4294967296 + t01 % 4294967296) ((t00 / 4294967296 + t10 % 4294967296 + t01 % 4294967296) / 4294967296) ((t00 / 4294967296 + t10 % 4294967296 + t01 % 4294967296) % 4294967296)
    (hiW (t11 * 18446744073709551616 + (t10 + t01) * 4294967296 + t00)) (loW (t11 * 18446744073709551616 + (t10 + t01) * 4294967296 + t00)) w
    e1 e2 e3 e4 (by rw [g00]; exact wrap_u (hU _ (by omega) (by omega))) (by rw [g10]; exact wrap_u (hU _ (by omega) (by omega))) (by rw [g01]; exact wrap_u (hU _ (by omega) (by omega))) (by rw [g11]; exact wrap_u (hU _ (by omega) (by omega)))
    (dv _ (by omega) (by omega)) (md _ (by omega)) (dv _ (by omega) (by omega)) (md _ (by omega)) (dv _ (by omega) (by omega)) (md _ (by omega))
    (by rw [wrap_u (x := t00 / 4294967296 + t10 % 4294967296) (hU _ (by omega) (by omega))]; exact wrap_u (hU _ q1.1 q1.2)) (dv _ q1.1 q1.2) (md _ q1.1)
    (by rw [wrap_u (x := t11 + t10 / 4294967296) (hU _ (by omega) (by omega)), wrap_u (x := t11 + t10 / 4294967296 + t01 / 4294967296) (hU _ (by omega) (by omega)), wrap_u (hU _ (by omega) (by omega))]; unfold hiW; omega)
    (by rw [wrap_u (x := (t00 / 4294967296 + t10 % 4294967296 + t01 % 4294967296) % 4294967296 * 4294967296) (hU _ (by omega) (by omega)), wrap_u (hU _ (by omega) (by omega))]; unfold loW; omega)

theorem ref_cmp (n m : Int) (w : World) (h0 : 0 ≤ n) (h1 : n < 340282366920938463463374607431768211456) (k0 : 0 ≤ m) (k1 : m < 340282366920938463463374607431768211456) :
    Calls Tryz.prog 75 #[wv n, wv m] w fun e w' => e = .returned (.int .i64 (cmpI n m)) ∧ Below w.heap.size w w' := by
  have hh := U_hi h0 h1; have hl := U_lo n
  have kh := U_hi k0 k1; have kl := U_lo m
  have hn : n = hiW n * 18446744073709551616 + loW n := (num_words n).symm
  have hm : m = hiW m * 18446744073709551616 + loW m := (num_words m).symm
  unfold wv
  generalize hiW n = a at *
  generalize loW n = b at *
  generalize hiW m = c at *
  generalize loW m = d at *
  unfold U at hh hl kh kl
  go_enter Tryz.func75, Tryz.ntmps75
  go_wp2
  all_goals go_ret
  all_goals first
    | exact ⟨ret_int (cmpI_lt (by omega)).symm, by go_grown⟩
    | exact ⟨ret_int (cmpI_gt (by omega)).symm, by go_grown⟩
    | exact ⟨ret_int (cmpI_eq (by omega)).symm, by go_grown⟩

theorem ref_plus (n m : Int) (w : World) (h0 : 0 ≤ n) (k0 : 0 ≤ m) (hs : n + m < 340282366920938463463374607431768211456) :
    Calls Tryz.prog 93 #[wv n, wv m] w fun e w' => e = .returned (.tuple #[wv (n + m), .int .i64 0]) ∧ Below w.heap.size w w' := by
  have hh := U_hi h0 (show n < 340282366920938463463374607431768211456 by omega); have hl := U_lo n
  have kh := U_hi k0 (show m < 340282366920938463463374607431768211456 by omega); have kl := U_lo m
  have hn : n = hiW n * 18446744073709551616 + loW n := (num_words n).symm
  have hm : m = hiW m * 18446744073709551616 + loW m := (num_words m).symm
  obtain ⟨x, hx⟩ : ∃ x, hiW (n + m) = x := ⟨_, rfl⟩
  obtain ⟨y, hy⟩ : ∃ y, loW (n + m) = y := ⟨_, rfl⟩
  have hxd := hx; have hyd := hy
  unfold hiW at hxd; unfold loW at hyd
  unfold wv
  rw [hx, hy]
  generalize hiW n = a at *
  generalize loW n = b at *
  generalize hiW m = c at *
  generalize loW m = d at *
  unfold U at hh hl kh kl
  clear hx hy
  by_cases hc : 18446744073709551616 ≤ b + d
  · have e1 : x = a + c + 1 := by omega
    have e2 : y = b + d - 18446744073709551616 := by omega
    have f1 : IntKind.u64.wrap (b + d) = y := by rw [IntKind.wrap_u64]; omega
    have f2 : a + c + 1 = x := by omega
    have f3 : (x == 0) = false := by simp; omega
    have ux : 0 ≤ x ∧ x ≤ 18446744073709551615 := by omega
    clear hn hm hxd hyd e1
    go_enter Tryz.func93, Tryz.ntmps93
    go_wp2
    all_goals first
      | (exfalso; omega)
      | skip
    all_goals go_returns
    all_goals first
      | exact ⟨rfl, by go_grown⟩
      | (rw [e2]; exact ⟨rfl, by go_grown⟩)
  · have e1 : x = a + c := by omega
    have e2 : y = b + d := by omega
    have f1 : b + d = y := e2.symm
    have f2 : a + c = x := e1.symm
    have ux : 0 ≤ x ∧ x ≤ 18446744073709551615 := by omega
    clear hn hm hxd hyd e1 e2
    go_enter Tryz.func93, Tryz.ntmps93
    go_wp2
    all_goals first
      | (exfalso; omega)
      | skip
    all_goals go_returns
    all_goals first
      | exact ⟨rfl, by go_grown⟩
      | (rw [e2]; exact ⟨rfl, by go_grown⟩)

theorem wv_small {y : Int} (h : U y) : wv y = .agg #[.int .u64 0, .int .u64 y] := by
  unfold wv
  rw [hi_small h, lo_small h]
theorem ref_plus_zero (n : Int) (w : World) (h0 : 0 ≤ n) (hs : n < 340282366920938463463374607431768211456) :
    Calls Tryz.prog 93 #[wv n, .agg #[.int .u64 0, .int .u64 0]] w fun e w' => e = .returned (.tuple #[wv n, .int .i64 0]) ∧ Below w.heap.size w w' := by
  have h := ref_plus n 0 w h0 (by omega) (by omega)
  rw [Int.add_zero, wv_small (y := 0) ⟨by omega, by omega⟩] at h
  exact h

set_option maxRecDepth 100000 in
set_option maxHeartbeats 1000000 in
theorem ref_wide (F L R t : Int) (w : World) (h : MayC F L R) (ht : U t) :
    Calls Tryz.prog 76 #[.agg #[.int .u64 F, .int .u64 L, .int .u64 R], .int .u64 t] w fun e w' => e = .returned (wv (W F L R t)) ∧ Below w.heap.size w w' := by
  have f0 := h.f0; have f1 := h.f1; have r0 := h.r0; have r1 := h.r1; have l0 := h.l0; have l1 := h.l1
  have t0 := ht.1; have t1 := ht.2
  have uF : U F := ⟨f0, by omega⟩
  have uR : U R := ⟨r0, by omega⟩
  have HM := Lib.hid h; clear h
  have nb := ((Blk.new w 34 #[.int .u64 F, .int .u64 L, .int .u64 R]).below ((Below.refl _ _).alloc (Nat.le_refl _) (.cells #[.int .u64 0, .int .u64 0] 95)) (Blk.new w 34 #[.int .u64 F, .int .u64 L, .int .u64 R]).lt)
  have hal := ((Below.refl w.heap.size w).alloc (Nat.le_refl _) (.cells #[.int .u64 F, .int .u64 L, .int .u64 R] 34))
  have hal2 := hal.alloc hal.size (.cells #[.int .u64 0, .int .u64 0] 95)
  have hsz : (w.alloc (.cells #[.int .u64 F, .int .u64 L, .int .u64 R] 34)).heap.size = w.heap.size + 1 := by simp
  have rb := Blk.new (w.alloc (.cells #[.int .u64 F, .int .u64 L, .int .u64 R] 34)) 95 #[.int .u64 0, .int .u64 0]
  rw [hsz] at rb
  have NB := Lib.hid nb; have HAL := Lib.hid hal2; have RB := Lib.hid rb
  clear nb hal hal2 rb hsz
  by_cases hc : t ≤ L
  · have e : W F L R t = F * t := W_early hc
    have hmn : min t L = t := Int.min_eq_left hc
    have b := mul_bd (a := F) (t := t) (A := 1048576) (T := 1099511627776) f0 f1 t0 (by omega)
    rw [e]
    go_enter Tryz.func76, Tryz.ntmps76
    go_wp2_with (first
      | (go_at_call 92; refine (ref_mul F t _ uF ht).mono ?_; rintro e' w1 ⟨rfl, hb1⟩; have n1 := NB.out.below hb1 NB.out.lt; have hlt1 := n1.lt; have a0 := n1.cell 0; have a1 := n1.cell 1; have a2 := n1.cell 2; simp only [List.getElem?_toArray, List.getElem?_cons_zero, List.getElem?_cons_succ] at a0 a1 a2)
      | (go_at_call 93; refine (ref_plus_zero (F * t) _ b.1 (by omega)).mono ?_; rintro e' w2 ⟨rfl, hb2⟩; have hg1 : Below w1.heap.size w1 w2 := ((Below.refl w1.heap.size w1).alloc (Nat.le_refl _) (.cells #[.int .u64 (hiW (F * t)), .int .u64 (loW (F * t))] 95)).trans ((Below.refl _ _).trans ((((Below.refl _ _).alloc (Nat.le_refl _) (.cells #[.int .u64 0, .int .u64 0] 95)).trans (hb2.mono (by simp))).mono (by simp))); have r1b := RB.out.below hb1 RB.out.lt; have r2b := r1b.below hg1 r1b.lt; have hlt2 := r2b.lt; have s0 := r2b.cell 0; have s1 := r2b.cell 1; have z0 := r2b.frozen 0; have z1 := r2b.frozen 1; simp only [List.getElem?_toArray, List.getElem?_cons_zero, List.getElem?_cons_succ] at s0 s1))
    have rr := (((r2b.set_ 0 (.int .u64 (hiW (F * t)))).set_ 1 (.int .u64 (loW (F * t)))).alloc (.cells #[.int .u64 (hiW (F * t)), .int .u64 (loW (F * t))] 95))
    have q0 := rr.cell 0; have q1 := rr.cell 1
    simp at q0 q1
    have hbw := HAL.out.trans ((hb1.trans (hg1.mono hb1.size)).mono HAL.out.size)
    refine bodyPost_ret (v := .agg #[.int .u64 (hiW (F * t)), .int .u64 (loW (F * t))]) (by simp [results, Tryz.results76, go_sem, q0, q1]) rfl ⟨rfl, ?_⟩
    exact ((hbw.setCell (by simp) _).setCell (by simp) _).alloc (by have := hbw.size; simp; omega) _
  · have e : W F L R t = F * L + R * (t - L) := W_late (by omega)
    have hmn : min t L = L := Int.min_eq_right (by omega)
    have b1 := mul_bd (a := F) (t := L) (A := 1048576) (T := 1099511627776) f0 f1 l0 (by omega)
    have b2 := mul_bd (a := R) (t := t - L) (A := 1048576) (T := 18446744073709551615) r0 r1 (by omega) (by omega)
    have uL : U L := ⟨l0, by omega⟩
    have ut : U (t - L) := ⟨by omega, by omega⟩
    rw [e]
    have HT := Lib.hid (show True from trivial)
    go_enter Tryz.func76, Tryz.ntmps76
    go_wp2_with (first
      | (go_at_call 92; have htok := HT.out; with_reducible refine (ref_mul F L _ uF uL).mono ?_; rintro e' w1 ⟨rfl, hb1⟩; clear HT htok; have n1 := NB.out.below hb1 NB.out.lt; have hlt1 := n1.lt; have a0 := n1.cell 0; have a1 := n1.cell 1; have a2 := n1.cell 2; simp only [List.getElem?_toArray, List.getElem?_cons_zero, List.getElem?_cons_succ] at a0 a1 a2)
      | (go_at_call 92; with_reducible refine (ref_mul R (t - L) _ uR ut).mono ?_; rintro e' w2 ⟨rfl, hb2⟩; have fb := (Blk.new w1 95 #[.int .u64 (hiW (F * L)), .int .u64 (loW (F * L))]).alloc (.cells #[.int .u64 0, .int .u64 0] 95); have gb := Blk.new (w1.alloc (.cells #[.int .u64 (hiW (F * L)), .int .u64 (loW (F * L))] 95)) 95 #[.int .u64 0, .int .u64 0]; rw [show (w1.alloc (.cells #[.int .u64 (hiW (F * L)), .int .u64 (loW (F * L))] 95)).heap.size = w1.heap.size + 1 by simp] at gb; have fb2 := fb.below hb2 fb.lt; have gb2 := gb.below hb2 gb.lt; have hlf := fb2.lt; have hlg := gb2.lt; have p0 := fb2.cell 0; have p1 := fb2.cell 1; have q0 := gb2.cell 0; have q1 := gb2.cell 1; have z0 := gb2.frozen 0; have z1 := gb2.frozen 1; simp only [List.getElem?_toArray, List.getElem?_cons_zero, List.getElem?_cons_succ] at p0 p1 q0 q1))
    have hs12 : F * L + R * (t - L) < 340282366920938463463374607431768211456 := by omega
    have hg1 : Below w1.heap.size w1 w2 := ((Below.refl w1.heap.size w1).alloc (Nat.le_refl _) (.cells #[.int .u64 (hiW (F * L)), .int .u64 (loW (F * L))] 95)).trans ((Below.refl _ _).trans ((((Below.refl _ _).alloc (Nat.le_refl _) (.cells #[.int .u64 0, .int .u64 0] 95)).trans (hb2.mono (by simp))).mono (by simp)))
    have r1b := RB.out.below hb1 RB.out.lt
    have r2b := r1b.below hg1 r1b.lt
    have hlr := r1b.lt
    have r3b := (r2b.grown (grown_setC w2 (w1.heap.size + 1) 0 (.int .u64 (hiW (R * (t - L))))) (by simp; omega)).grown (grown_setC _ (w1.heap.size + 1) 1 (.int .u64 (loW (R * (t - L))))) (by simp; omega)
    have hbw0 : Below w.heap.size w ((w2.setCell ⟨w1.heap.size + 1, 0, none⟩ (.int .u64 (hiW (R * (t - L))))).setCell ⟨w1.heap.size + 1, 1, none⟩ (.int .u64 (loW (R * (t - L))))) := ((HAL.out.trans ((hb1.trans (hg1.mono hb1.size)).mono HAL.out.size)).setCell (by have := HAL.out.size; have := hb1.size; simp only; omega) _).setCell (by have := HAL.out.size; have := hb1.size; simp only; omega) _
    refine (ref_plus (F * L) (R * (t - L)) _ b1.1 b2.1 hs12).mono ?_
    rintro e' w3 ⟨rfl, hb3⟩
    have r4b := r3b.below hb3 r3b.lt
    have hlt4 := r4b.lt
    have s0 := r4b.cell 0; have s1 := r4b.cell 1; have y0 := r4b.frozen 0; have y1 := r4b.frozen 1
    simp only [List.getElem?_toArray, List.getElem?_cons_zero, List.getElem?_cons_succ] at s0 s1
    have hbw := hbw0.trans (hb3.mono hbw0.size)
    obtain ⟨n, hn⟩ : ∃ n, F * L + R * (t - L) = n := ⟨_, rfl⟩
    rw [hn]
    have HN := Lib.hid hn
    clear hn p0 p1 q0 q1 z0 z1 a0 a1 a2
    go_wp2
    have rr := (((r4b.set_ 0 (.int .u64 (hiW n))).set_ 1 (.int .u64 (loW n))).alloc (.cells #[.int .u64 (hiW n), .int .u64 (loW n)] 95))
    have q0 := rr.cell 0; have q1 := rr.cell 1
    simp at q0 q1
    refine bodyPost_ret (v := .agg #[.int .u64 (hiW n), .int .u64 (loW n)]) (by simp [results, Tryz.results76, go_sem, q0, q1]) rfl ⟨by rw [HN.out], ?_⟩
    exact ((hbw.setCell (by simp) _).setCell (by simp) _).alloc (by have := hbw.size; simp; omega) _

theorem rmay_any (F L R : Int) (w : World) (hL : 0 ≤ L) :
    Calls Tryz.prog 57 #[.agg #[.int .u64 F, .int .u64 L, .int .u64 R]] w fun e w' => e = .returned (.bool (mayB F L R)) ∧ Below w.heap.size w w' := by
  by_cases h1 : F ≤ 1048576
  · have h1b : decide (1048576 < F) = false := by simp; omega
    by_cases h2 : R ≤ 1048576
    · have h2b : decide (1048576 < R) = false := by simp; omega
      by_cases h3 : L ≤ 1099511627776
      · have h3b : decide (1099511627776 < L) = false := by simp; omega
        by_cases h4 : L = 0
        · subst h4
          have e : mayB F 0 R = decide (F = 0) := by simp [mayB, h1, h2]
          have E := Lib.hid e; clear e
          by_cases h5 : F = 0
          · subst h5
            go_enter Tryz.func57, Tryz.ntmps57
            go_wp2
            go_ret
            exact ⟨by rw [E.out]; rfl, by go_grown⟩
          · have h5b : (F == 0) = false := by simpa using h5
            go_enter Tryz.func57, Tryz.ntmps57
            go_wp2
            go_ret
            exact ⟨by rw [E.out]; simp [h5], by go_grown⟩
        · have h4b : (L == 0) = false := by simpa using h4
          have h4c : decide (0 < L) = true := by simp; omega
          have e : mayB F L R = decide (F ≠ R) := by simp [mayB, h1, h2, h3, h4]
          have E := Lib.hid e; clear e
          by_cases h5 : F = R
          · subst h5
            have h5b : (F != F) = false := by simp
            go_enter Tryz.func57, Tryz.ntmps57
            go_wp2
            go_ret
            exact ⟨by rw [E.out]; simp, by go_grown⟩
          · have h5b : (F != R) = true := by simpa using h5
            go_enter Tryz.func57, Tryz.ntmps57
            go_wp2
            go_ret
            exact ⟨by rw [E.out]; simp [h5], by go_grown⟩
      · have h3b : decide (1099511627776 < L) = true := by simp; omega
        have e : mayB F L R = false := by simp [mayB, h3]
        have E := Lib.hid e; clear e
        go_enter Tryz.func57, Tryz.ntmps57
        go_wp2
        go_ret
        exact ⟨by rw [E.out]; rfl, by go_grown⟩
    · have h2b : decide (1048576 < R) = true := by simp; omega
      have e : mayB F L R = false := by simp [mayB, h2]
      have E := Lib.hid e; clear e
      go_enter Tryz.func57, Tryz.ntmps57
      go_wp2
      go_ret
      exact ⟨by rw [E.out]; rfl, by go_grown⟩
  · have h1b : decide (1048576 < F) = true := by simp; omega
    have e : mayB F L R = false := by simp [mayB, h1]
    have E := Lib.hid e; clear e
    go_enter Tryz.func57, Tryz.ntmps57
    go_wp2
    go_ret
    exact ⟨by rw [E.out]; rfl, by go_grown⟩

end Go.Proofs.YtclhhegfffccgaaGreat
/-
  The document's Below: ref04.Below.
-/
namespace Go.Proofs.YtclhhegfffccgaaGreat
set_option linter.unusedVariables false
open Go.RowKit
attribute [local go_sem ↓] Go.wp_at_zero Go.wp_at_succ
attribute [local go_sem] quietR quietAtR quietUponR midAt midUpon
attribute [local irreducible] TStep

set_option maxRecDepth 100000 in
set_option maxHeartbeats 4000000 in
theorem r4below_any (a b : Cv) (w : World) (ua : U a.1 ∧ U a.2.1 ∧ U a.2.2) (ub : U b.1 ∧ U b.2.1 ∧ U b.2.2) :
    Calls Tryz.prog 59 #[cvV a, cvV b] w (BelW w a b) := by
  obtain ⟨F, L, R⟩ := a
  obtain ⟨G, M, S⟩ := b
  unfold cvV
  dsimp only at ua ub ⊢
  have hma := fun w => rmay_any F L R w ua.2.1.1
  have hmb := fun w => rmay_any G M S w ub.2.1.1
  rw [show mayB F L R = okC (F, L, R) from rfl] at hma
  rw [show mayB G M S = okC (G, M, S) from rfl] at hmb
  have hA := (Blk.new w 34 #[.int .u64 F, .int .u64 L, .int .u64 R]).alloc (.cells #[.int .u64 G, .int .u64 M, .int .u64 S] 34)
  have hB := Blk.new (w.alloc (.cells #[.int .u64 F, .int .u64 L, .int .u64 R] 34)) 34 #[.int .u64 G, .int .u64 M, .int .u64 S]
  rw [World.size_alloc] at hB
  have hb0 := ((Below.refl w.heap.size w).alloc (Nat.le_refl _) (.cells #[.int .u64 F, .int .u64 L, .int .u64 R] 34)).alloc (by simp) (.cells #[.int .u64 G, .int .u64 M, .int .u64 S] 34)
  have hab : ∀ W, Below ((w.alloc (.cells #[.int .u64 F, .int .u64 L, .int .u64 R] 34)).alloc (.cells #[.int .u64 G, .int .u64 M, .int .u64 S] 34)).heap.size ((w.alloc (.cells #[.int .u64 F, .int .u64 L, .int .u64 R] 34)).alloc (.cells #[.int .u64 G, .int .u64 M, .int .u64 S] 34)) W →
      ((W.cell? ⟨w.heap.size, 0, none⟩ = some (.int .u64 F) ∧ W.cell? ⟨w.heap.size, 1, none⟩ = some (.int .u64 L) ∧ W.cell? ⟨w.heap.size, 2, none⟩ = some (.int .u64 R)) ∧
       (W.cell? ⟨w.heap.size + 1, 0, none⟩ = some (.int .u64 G) ∧ W.cell? ⟨w.heap.size + 1, 1, none⟩ = some (.int .u64 M) ∧ W.cell? ⟨w.heap.size + 1, 2, none⟩ = some (.int .u64 S))) ∧ Below w.heap.size w W ∧ w.heap.size + 2 ≤ W.heap.size := fun W hW => by
    have h1 := hA.below hW hA.lt; have h2 := hB.below hW hB.lt
    exact ⟨⟨⟨h1.cell 0, h1.cell 1, h1.cell 2⟩, ⟨h2.cell 0, h2.cell 1, h2.cell 2⟩⟩, hb0.trans (hW.mono (by simp; omega)), by have := hW.size; simp at this; omega⟩
  have HAB := Lib.hid hab
  clear hA hB hb0 hab
  by_cases oa : okC (F, L, R) = true
  · by_cases ob : okC (G, M, S) = true
    · rw [oa] at hma
      rw [ob] at hmb
      have HMA := Lib.hid hma; have HMB := Lib.hid hmb
      clear hma hmb
      go_enter Tryz.func59, Tryz.ntmps59
      go_wp2_with fail
      refine (HMA.out _).mono ?_
      rintro e w1 ⟨rfl, hb1⟩
      obtain ⟨⟨⟨c0, c1, c2⟩, ⟨d0, d1, d2⟩⟩, hbw, hsz⟩ := HAB.out _ hb1
      have HB1 := Lib.hid hb1
      clear hb1
      go_wp2_with fail
      refine (HMB.out _).mono ?_
      clear c0 c1 c2 d0 d1 d2 hbw hsz
      rintro e w2 ⟨rfl, hb2⟩
      have hb2' := HB1.out.trans (hb2.mono HB1.out.size)
      obtain ⟨⟨⟨c0, c1, c2⟩, ⟨d0, d1, d2⟩⟩, hbw, hsz⟩ := HAB.out _ hb2'
      have HB2 := Lib.hid hb2'
      clear hb2 hb2' HB1 hbw hsz
      go_wp2_with fail
      clear c0 c1 c2 d0 d1 d2
      have hce : ∀ W, Below (w2.alloc (.cells #[.int .u64 1, .int .u64 L, .int .u64 M, .int .u64 9223372036854775807] 32)).heap.size (w2.alloc (.cells #[.int .u64 1, .int .u64 L, .int .u64 M, .int .u64 9223372036854775807] 32)) W → ∀ (j : Nat) (t : Int), [1, L, M, 9223372036854775807][j]? = some t → W.cell? ⟨w2.heap.size, j, none⟩ = some (.int .u64 t) := fun W hW j t hj => by
        have h1 := Blk.new w2 32 #[.int .u64 1, .int .u64 L, .int .u64 M, .int .u64 9223372036854775807]
        rw [(h1.below hW h1.lt).cell j]
        match j, hj with
        | 0, hj => cases hj; rfl
        | 1, hj => cases hj; rfl
        | 2, hj => cases hj; rfl
        | 3, hj => cases hj; rfl
        | j + 4, hj => simp at hj
      have hb3 := HB2.out.alloc HB2.out.size (.cells #[.int .u64 1, .int .u64 L, .int .u64 M, .int .u64 9223372036854775807] 32)
      generalize w2.alloc (.cells #[.int .u64 1, .int .u64 L, .int .u64 M, .int .u64 9223372036854775807] 32) = w3 at hce hb3 ⊢
      have HCE := Lib.hid hce; have HB3 := Lib.hid hb3
      clear hce hb3 HB2
      go_loopw [6] (fun vi W => ∃ k : Nat, vi = .int .i64 k ∧ k ≤ 4 ∧ Below w3.heap.size w3 W ∧ ∀ t ∈ [1, L, M, 9223372036854775807].take k, vC (F, L, R) t ≤ vC (G, M, S) t) (fun vi _ => (4 - Go.RowKit.intOf vi).toNat)
      case atStart => exact ⟨0, rfl, by omega, Below.refl _ _, fun t ht => by simp at ht⟩
      case round =>
        obtain ⟨k, rfl, hk, hbW, hall⟩ := hrel
        have HA := Lib.hid hall; have HBW3 := Lib.hid hbW
        clear hall
        have hb6 := HB3.out.trans (hbW.mono HB3.out.size)
        obtain ⟨⟨⟨c0, c1, c2⟩, ⟨d0, d1, d2⟩⟩, hbw, hsz⟩ := HAB.out _ hb6
        by_cases hlt : k < 4
        · obtain ⟨t, ht⟩ : ∃ t, [1, L, M, 9223372036854775807][k]? = some t := ⟨_, List.getElem?_eq_getElem (by simpa using hlt)⟩
          have ct := HCE.out _ hbW k t ht
          have hT : [1, L, M, 9223372036854775807].take (k + 1) = [1, L, M, 9223372036854775807].take k ++ [t] := by rw [List.take_add_one, ht]; rfl
          have ut : U t := by
            have := List.mem_of_getElem? ht
            simp only [List.mem_cons, List.not_mem_nil, or_false] at this
            rcases this with rfl | rfl | rfl | rfl
            · exact ⟨by decide, by decide⟩
            · exact ua.2.1
            · exact ub.2.1
            · exact ⟨by decide, by decide⟩
          have ba := vC_bd (c := (F, L, R)) oa ua.1.1 ua.2.1.1 ua.2.2.1 ut.1 ut.2
          have bb := vC_bd (c := (G, M, S)) ob ub.1.1 ub.2.1.1 ub.2.2.1 ut.1 ut.2
          have hta := fun W => ref_wide F L R t W (mayB_spec ua.1.1 ua.2.1.1 ua.2.2.1 (show mayB F L R = true from oa)) ut
          have htb := fun W => ref_wide G M S t W (mayB_spec ub.1.1 ub.2.1.1 ub.2.2.1 (show mayB G M S = true from ob)) ut
          rw [show W F L R t = vC (F, L, R) t from rfl] at hta
          rw [show W G M S t = vC (G, M, S) t from rfl] at htb
          obtain ⟨x, hx⟩ : ∃ x, vC (F, L, R) t = x := ⟨_, rfl⟩
          obtain ⟨y, hy⟩ : ∃ y, vC (G, M, S) t = y := ⟨_, rfl⟩
          rw [hx] at hta ba
          rw [hy] at htb bb
          have hcmp := fun W => ref_cmp x y W ba.1 (by omega) bb.1 (by omega)
          have HTA := Lib.hid hta; have HTB := Lib.hid htb; have HCMP := Lib.hid hcmp; have HX := Lib.hid hx; have HY := Lib.hid hy; have HT := Lib.hid hT; have HBWW := Lib.hid (And.intro hbw hsz)
          have l0 : w.heap.size < wr.heap.size := by omega
          have l1 : w.heap.size + 1 < wr.heap.size := by omega
          have l2 := World.block_lt_of_cell? _ _ ct
          have o0 := fun e => (over_cell (w := wr) (e := e) l0).trans c0
          have o1 := fun e => (over_cell (w := wr) (e := e) l0).trans c1
          have o2 := fun e => (over_cell (w := wr) (e := e) l0).trans c2
          have p0 := fun e => (over_cell (w := wr) (e := e) l1).trans d0
          have p1 := fun e => (over_cell (w := wr) (e := e) l1).trans d1
          have p2 := fun e => (over_cell (w := wr) (e := e) l1).trans d2
          have q0 := fun e => (over_cell (w := wr) (e := e) l2).trans ct
          clear hta htb hcmp hx hy hT hbw hsz hb6 hbW ht ba bb
          go_wp2
          refine wp_region_mid (w := wr) 12 2 [] [] [] rfl (by kernel_rfl) (by kernel_rfl) (by kernel_rfl) (by kernel_rfl) (fun _ _ _ _ _ h => h) trivial ?_
          intro LL hL
          have HL := Lib.hid hL
          clear hL
          simp only [List.take_succ_cons, List.take_zero, putL]
          iterate 12 (first | refine wpHead_skip (by decide) ?_ | (refine wpHead_step (by decide) (fun K hK => ?_); go_simp; first | (refine hK _ ?_; clear hK K) | (apply Exists.intro; refine ⟨fun e => ?_, hK _ ?_⟩; (focus (first | (go_at_call 76; with_reducible exact HTA.out _) | (go_at_call 76; with_reducible exact HTB.out _))); clear hK K)))
          refine wpHead_nil (HL.out _ trivial ?_)
          intro vs W4 hb4 _
          clear HL o0 o1 o2 p0 p1 p2 q0 c0 c1 c2 d0 d1 d2 ct
          simp only [putHd, List.drop_succ_cons, List.drop_zero, List.take_succ_cons, List.take_zero]
          have HB4 := Lib.hid hb4
          clear hb4
          go_wp2_with fail
          refine (HCMP.out _).mono ?_
          rintro e w5 ⟨rfl, hb5⟩
          have HB5 := Lib.hid (HB4.out.trans (hb5.mono HB4.out.size))
          clear hb5
          by_cases hxy : x ≤ y
          · have hc : decide (0 < cmpI x y) = false := by
              unfold cmpI; simp; split
              · omega
              · split <;> omega
            simp only [hc]
            have hc0 : ¬ 0 < cmpI x y := of_decide_eq_false hc
            have HC0 := Lib.hid hc0
            generalize cmpI x y = z at hc hc0 ⊢
            clear hc
            go_wp2_with fail
            go_roundw
            case measure => (simp [Go.RowKit.intOf]; try omega)
            case rel =>
              refine ⟨k + 1, by go_num, by omega, HBW3.out.trans (HB5.out.mono HBW3.out.size), fun q hq => ?_⟩
              rw [HT.out] at hq
              rcases List.mem_append.1 hq with hq | hq
              · exact HA.out q hq
              · simp at hq; subst hq; rw [HX.out, HY.out]; exact hxy
          · have hc0 : 0 < cmpI x y := by
              unfold cmpI; split
              · omega
              · split <;> omega
            generalize cmpI x y = z at hc0 ⊢
            have hres : decide (BelowP (F, L, R) (G, M, S)) = false := decide_eq_false fun h => by
              have := h.2.2 t ut.1
              rw [HX.out, HY.out] at this
              omega
            have HRES := Lib.hid hres
            clear hres
            go_wp2_with fail
            go_ret
            exact ⟨by rw [HRES.out]; rfl, HBWW.out.1.trans (HB5.out.mono (by have := HBWW.out.1.size; omega))⟩
        · obtain rfl : k = 4 := by omega
          have hres : decide (BelowP (F, L, R) (G, M, S)) = true := decide_eq_true ⟨oa, ob, (under_iff oa ob ⟨ua.1.1, ua.2.1.1, ua.2.2.1⟩ ⟨ub.1.1, ub.2.1.1, ub.2.2.1⟩).2 ⟨HA.out _ (by simp), HA.out _ (by simp), HA.out _ (by simp)⟩⟩
          have HRES := Lib.hid hres; have HBW4 := Lib.hid hbw
          clear hres c0 c1 c2 d0 d1 d2 hbw hsz hb6
          go_wp2_with fail
          go_ret
          exact ⟨by rw [HRES.out]; rfl, HBW4.out⟩
    · rw [oa] at hma
      have obf : okC (G, M, S) = false := by simpa using ob
      rw [obf] at hmb
      have hres : decide (BelowP (F, L, R) (G, M, S)) = false := decide_eq_false fun h => ob h.2.1
      have HMA := Lib.hid hma; have HMB := Lib.hid hmb; have HRES := Lib.hid hres
      clear hma hmb hres
      go_enter Tryz.func59, Tryz.ntmps59
      go_wp2_with fail
      refine (HMA.out _).mono ?_
      rintro e w1 ⟨rfl, hb1⟩
      obtain ⟨⟨⟨c0, c1, c2⟩, ⟨d0, d1, d2⟩⟩, hbw, hsz⟩ := HAB.out _ hb1
      have HB1 := Lib.hid hb1
      clear hb1
      go_wp2_with fail
      refine (HMB.out _).mono ?_
      clear c0 c1 c2 d0 d1 d2 hbw hsz
      rintro e w2 ⟨rfl, hb2⟩
      obtain ⟨_, hbw, hsz⟩ := HAB.out _ (HB1.out.trans (hb2.mono HB1.out.size))
      have HBW := Lib.hid hbw
      clear hb2 hbw hsz
      go_wp2_with fail
      go_ret
      exact ⟨by rw [HRES.out]; rfl, HBW.out⟩
  · have oaf : okC (F, L, R) = false := by simpa using oa
    rw [oaf] at hma
    have hres : decide (BelowP (F, L, R) (G, M, S)) = false := decide_eq_false fun h => oa h.1
    have HMA := Lib.hid hma; have HRES := Lib.hid hres
    clear hma hmb hres
    go_enter Tryz.func59, Tryz.ntmps59
    go_wp2_with fail
    refine (HMA.out _).mono ?_
    rintro e w1 ⟨rfl, hb1⟩
    obtain ⟨_, hbw, hsz⟩ := HAB.out _ hb1
    have HBW := Lib.hid hbw
    clear hb1 hbw hsz
    go_wp2_with fail
    go_ret
    exact ⟨by rw [HRES.out]; rfl, HBW.out⟩
end Go.Proofs.YtclhhegfffccgaaGreat
