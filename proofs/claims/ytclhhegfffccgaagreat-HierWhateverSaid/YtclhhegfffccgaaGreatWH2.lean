/- Lemmas of the claim, merged: HPlayed, HRefPlain, HLeafP, HLeaf. No conditions beyond those that each states. -/
import Derived.Test.YtclhhegfffccgaaGreatWH1
import Derived.Test.YtclhhegfffccgaaGreatFlat
import Derived.Deep.Upon
import Derived.Deep.AppendSrc
/-
  A tree of classes behind acts. (Printed by wip/mkhplayed.py.)
-/
namespace Go.Proofs.YtclhhegfffccgaaGreat
set_option linter.unusedVariables false
open Go.RowKit Go.Maps
attribute [local go_sem ↓] Go.wp_at_zero Go.wp_at_succ
attribute [local go_sem] quietR quietAtR quietUponR midAt midUpon

def innS (id pa : Int) : Sp := ⟨id, pa, false, (0, 0, 0), (0, 0, 100), (0, 0, 0), 0, 0⟩
def leafS (id pa : Int) : Sp := ⟨id, pa, true, (0, 0, 0), (0, 0, 100), (0, 0, 0), 4, 4000⟩
set_option maxRecDepth 100000 in
theorem inner_any (id pa : Int) (w : World) : Calls Tryz.prog 43 #[.int .i64 id, .int .i64 pa] w fun e w' => e = .returned (spV (innS id pa)) ∧ Below w.heap.size w w' := by
  unfold spV spC innS
  dsimp only
  go_enter Tryz.func43, Tryz.ntmps43
  go_wp2_with fail
  have hE := Blk.new w 36 #[.int .i64 id, .int .i64 pa, .bool false, .int .u64 0, .int .u64 0, .int .u64 0, .int .u64 0, .int .u64 0, .int .u64 100, .int .u64 0, .int .u64 0, .int .u64 0, .int .i64 0, .int .i64 0]
  have q0 := hE.cell 0; have q1 := hE.cell 1; have q2 := hE.cell 2; have q3 := hE.cell 3; have q4 := hE.cell 4; have q5 := hE.cell 5; have q6 := hE.cell 6; have q7 := hE.cell 7; have q8 := hE.cell 8; have q9 := hE.cell 9; have q10 := hE.cell 10; have q11 := hE.cell 11; have q12 := hE.cell 12; have q13 := hE.cell 13
  simp only [List.getElem?_toArray, List.getElem?_cons_zero, List.getElem?_cons_succ] at q0 q1 q2 q3 q4 q5 q6 q7 q8 q9 q10 q11 q12 q13
  refine bodyPost_ret (v := .agg #[.int .i64 id, .int .i64 pa, .bool false, .int .u64 0, .int .u64 0, .int .u64 0, .int .u64 0, .int .u64 0, .int .u64 100, .int .u64 0, .int .u64 0, .int .u64 0, .int .i64 0, .int .i64 0]) (by simp [results, Tryz.results43, go_sem, q0, q1, q2, q3, q4, q5, q6, q7, q8, q9, q10, q11, q12, q13]) rfl ⟨rfl, (Below.refl w.heap.size w).alloc (Nat.le_refl _) _⟩
set_option maxRecDepth 100000 in
theorem leaf_any (id pa : Int) (w : World) : Calls Tryz.prog 44 #[.int .i64 id, .int .i64 pa] w fun e w' => e = .returned (spV (leafS id pa)) ∧ Below w.heap.size w w' := by
  unfold spV spC leafS
  dsimp only
  go_enter Tryz.func44, Tryz.ntmps44
  go_wp2_with fail
  have hE := Blk.new w 36 #[.int .i64 id, .int .i64 pa, .bool true, .int .u64 0, .int .u64 0, .int .u64 0, .int .u64 0, .int .u64 0, .int .u64 100, .int .u64 0, .int .u64 0, .int .u64 0, .int .i64 4, .int .i64 4000]
  have q0 := hE.cell 0; have q1 := hE.cell 1; have q2 := hE.cell 2; have q3 := hE.cell 3; have q4 := hE.cell 4; have q5 := hE.cell 5; have q6 := hE.cell 6; have q7 := hE.cell 7; have q8 := hE.cell 8; have q9 := hE.cell 9; have q10 := hE.cell 10; have q11 := hE.cell 11; have q12 := hE.cell 12; have q13 := hE.cell 13
  simp only [List.getElem?_toArray, List.getElem?_cons_zero, List.getElem?_cons_succ] at q0 q1 q2 q3 q4 q5 q6 q7 q8 q9 q10 q11 q12 q13
  refine bodyPost_ret (v := .agg #[.int .i64 id, .int .i64 pa, .bool true, .int .u64 0, .int .u64 0, .int .u64 0, .int .u64 0, .int .u64 0, .int .u64 100, .int .u64 0, .int .u64 0, .int .u64 0, .int .i64 4, .int .i64 4000]) (by simp [results, Tryz.results44, go_sem, q0, q1, q2, q3, q4, q5, q6, q7, q8, q9, q10, q11, q12, q13]) rfl ⟨rfl, (Below.refl w.heap.size w).alloc (Nat.le_refl _) _⟩
def aM1 : Mp := [(1, (innS 1 0, 1))]
def aM2 : Mp := [(1, (innS 1 0, 1)), (2, (leafS 2 1, 2))]
def aM3 : Mp := [(1, (innS 1 0, 1)), (2, (leafS 2 1, 2)), (3, (leafS 3 1, 2))]
theorem wf_inn (id pa : Int) (h1 : (Lit.int .i64 id).wf = true) (h2 : (Lit.int .i64 pa).wf = true) : WfSp (innS id pa) := ⟨⟨h1, h2, (show (Lit.int .i64 0).wf = true by decide), (show (Lit.int .i64 0).wf = true by decide)⟩, (show UC ((0, 0, 0) : Cv) by unfold UC U; decide), (show UC ((0, 0, 100) : Cv) by unfold UC U; decide), (show UC ((0, 0, 0) : Cv) by unfold UC U; decide)⟩
theorem wf_leaf (id pa : Int) (h1 : (Lit.int .i64 id).wf = true) (h2 : (Lit.int .i64 pa).wf = true) : WfSp (leafS id pa) := ⟨⟨h1, h2, (show (Lit.int .i64 4).wf = true by decide), (show (Lit.int .i64 4000).wf = true by decide)⟩, (show UC ((0, 0, 0) : Cv) by unfold UC U; decide), (show UC ((0, 0, 100) : Cv) by unfold UC U; decide), (show UC ((0, 0, 0) : Cv) by unfold UC U; decide)⟩
theorem a1 : addM [] (innS 1 0) = (0, aM1) := by kernel_rfl
theorem a2 : addM aM1 (leafS 2 1) = (0, aM2) := by kernel_rfl
theorem a3 : addM aM2 (leafS 3 1) = (0, aM3) := by kernel_rfl
theorem a4 : addM aM3 (leafS 2 0) = (80, aM3) := by kernel_rfl
theorem a5 : addM aM3 (leafS 4 2) = (160, aM3) := by kernel_rfl
theorem a6 : dropM aM3 1 = (161, aM3) := by kernel_rfl
theorem a7 : pathM aM3 3 = [3, 1] := by kernel_rfl
theorem a8 : kids aM3 1 = [2, 3] := by kernel_rfl
theorem a9 : dropM aM3 3 = (0, aM2) := by kernel_rfl
theorem a10 : dropM aM2 3 = (81, aM2) := by kernel_rfl

set_option maxRecDepth 100000 in
set_option maxHeartbeats 4000000 in
theorem hawake_any (w : World) : Calls Tryz.prog 15 #[] w fun e w' => e = .returned (.bool true) ∧ Below w.heap.size w w' := by
  go_enter Tryz.func15, Tryz.ntmps15
  go_wp2_with fail
  refine (tnewS w).mono ?_
  rintro e w1 ⟨g, ma, mu, rfl, hT⟩
  have H := Lib.hid hT
  clear hT
  obtain ⟨base, hbase⟩ : ∃ b, b = w.heap.size := ⟨_, rfl⟩
  have H0 := H
  clear H
  have H := Lib.hid (show TS w w1 base g ma mu [] by rw [hbase]; exact H0.out)
  clear H0 hbase
  go_wp2_with fail
  refine (inner_any 1 0 _).mono ?_
  rintro e W1 ⟨rfl, hb⟩
  have H2 := Lib.hid (H.out.later hb)
  clear hb H
  have H := Lib.hid H2.out
  clear H2
  have ha := H.out.add (innS 1 0) (wf_inn 1 0 (by decide) (by decide))
  rw [a1] at ha
  go_wp2_with fail
  refine ha.mono ?_
  clear ha H
  rintro e W1 ⟨rfl, hT⟩
  have H := Lib.hid hT
  clear hT
  go_wp2_with fail
  refine (leaf_any 2 1 _).mono ?_
  rintro e W1 ⟨rfl, hb⟩
  have H2 := Lib.hid (H.out.later hb)
  clear hb H
  have H := Lib.hid H2.out
  clear H2
  have ha := H.out.add (leafS 2 1) (wf_leaf 2 1 (by decide) (by decide))
  rw [a2] at ha
  go_wp2_with fail
  refine ha.mono ?_
  clear ha H
  rintro e W1 ⟨rfl, hT⟩
  have H := Lib.hid hT
  clear hT
  go_wp2_with fail
  refine (leaf_any 3 1 _).mono ?_
  rintro e W1 ⟨rfl, hb⟩
  have H2 := Lib.hid (H.out.later hb)
  clear hb H
  have H := Lib.hid H2.out
  clear H2
  have ha := H.out.add (leafS 3 1) (wf_leaf 3 1 (by decide) (by decide))
  rw [a3] at ha
  go_wp2_with fail
  refine ha.mono ?_
  clear ha H
  rintro e W1 ⟨rfl, hT⟩
  have H := Lib.hid hT
  clear hT
  go_wp2_with fail
  refine (leaf_any 2 0 _).mono ?_
  rintro e W1 ⟨rfl, hb⟩
  have H2 := Lib.hid (H.out.later hb)
  clear hb H
  have H := Lib.hid H2.out
  clear H2
  have ha := H.out.add (leafS 2 0) (wf_leaf 2 0 (by decide) (by decide))
  rw [a4] at ha
  go_wp2_with fail
  refine ha.mono ?_
  clear ha H
  rintro e W1 ⟨rfl, hT⟩
  have H := Lib.hid hT
  clear hT
  go_wp2_with fail
  refine (leaf_any 4 2 _).mono ?_
  rintro e W1 ⟨rfl, hb⟩
  have H2 := Lib.hid (H.out.later hb)
  clear hb H
  have H := Lib.hid H2.out
  clear H2
  have ha := H.out.add (leafS 4 2) (wf_leaf 4 2 (by decide) (by decide))
  rw [a5] at ha
  go_wp2_with fail
  refine ha.mono ?_
  clear ha H
  rintro e W1 ⟨rfl, hT⟩
  have H := Lib.hid hT
  clear hT
  have ha := H.out.drop 1 (by decide)
  rw [a6] at ha
  go_wp2_with fail
  refine ha.mono ?_
  clear ha H
  rintro e W1 ⟨rfl, hT⟩
  have H := Lib.hid hT
  clear hT
  have ha := H.out.path 3 (by decide)
  rw [a7] at ha
  go_wp2_with fail
  refine ha.mono ?_
  clear ha
  rintro e W1 ⟨v, rfl, ho, hb⟩
  have hb2 := (Below.refl W1.heap.size W1).alloc (Nat.le_refl _) (.cells #[.int .i64 3, .int .i64 1] 3)
  have hs := same16_any v (.slice (some ⟨W1.heap.size, 0, none⟩) 2 2) [3, 1] _ ((IntAt.of_owns ho (by simp)).later hb2) (int_two (Blk.new W1 3 _))
  have H2 := Lib.hid ((H.out.later hb).later hb2)
  clear hb hb2 ho H
  go_wp2_with fail
  refine hs.mono ?_
  clear hs
  rintro e W2 ⟨rfl, hb⟩
  have H := Lib.hid (H2.out.later hb)
  clear hb H2
  have ha := H.out.under 1 (by decide)
  rw [a8] at ha
  go_wp2_with fail
  refine ha.mono ?_
  clear ha
  rintro e W1 ⟨v, rfl, ho, hb⟩
  have hb2 := (Below.refl W1.heap.size W1).alloc (Nat.le_refl _) (.cells #[.int .i64 2, .int .i64 3] 3)
  have hs := same16_any v (.slice (some ⟨W1.heap.size, 0, none⟩) 2 2) [2, 3] _ ((IntAt.of_owns ho (by simp)).later hb2) (int_two (Blk.new W1 3 _))
  have H2 := Lib.hid ((H.out.later hb).later hb2)
  clear hb hb2 ho H
  go_wp2_with fail
  refine hs.mono ?_
  clear hs
  rintro e W2 ⟨rfl, hb⟩
  have H := Lib.hid (H2.out.later hb)
  clear hb H2
  have ha := H.out.drop 3 (by decide)
  rw [a9] at ha
  go_wp2_with fail
  refine ha.mono ?_
  clear ha H
  rintro e W1 ⟨rfl, hT⟩
  have H := Lib.hid hT
  clear hT
  have ha := H.out.drop 3 (by decide)
  rw [a10] at ha
  go_wp2_with fail
  refine ha.mono ?_
  clear ha H
  rintro e W1 ⟨rfl, hT⟩
  have H := Lib.hid hT
  clear hT
  have hl := H.out.len
  go_wp2_with fail
  refine hl.mono ?_
  clear hl
  rintro e W1 ⟨rfl, hb⟩
  have H2 := Lib.hid (H.out.later hb)
  clear hb H
  go_wp2_with fail
  go_ret
  exact ⟨rfl, H2.out.below⟩
set_option linter.unusedVariables false
open Go.RowKit Go.Maps
attribute [local go_sem ↓] Go.wp_at_zero Go.wp_at_succ
attribute [local go_sem] quietR quietAtR quietUponR midAt midUpon

/-- an act -/
structure HAct where
  k : Int
  s : Sp
instance : Inhabited Sp := ⟨sp0⟩
instance : Inhabited HAct := ⟨⟨0, sp0⟩⟩
def rowH (q : HAct) : List Value := .int .u8 q.k :: (spC q.s).toList
def HFit (q : HAct) : Prop := (0 ≤ q.k ∧ q.k ≤ 255) ∧ WfSp q.s
def HActsAt (w : World) (a : Option Addr) (len : Nat) (z : List HAct) : Prop :=
  z.length = len ∧ (∀ q ∈ z, HFit q) ∧ (len = 0 ∨ ∃ b off, a = some ⟨b, off, none⟩ ∧ b < w.heap.size ∧ ∀ i q, z[i]? = some q → ∀ j v, (rowH q)[j]? = some v → w.cell? ⟨b, off + i * 15 + j, none⟩ = some v)
theorem HActsAt.below {w w' : World} {a : Option Addr} {len : Nat} {z : List HAct} (h : HActsAt w a len z) (hb : Below w.heap.size w w') : HActsAt w' a len z := by
  obtain ⟨h1, h2, h3⟩ := h
  refine ⟨h1, h2, ?_⟩
  rcases h3 with h3 | ⟨b, off, e, hl, hc⟩
  · exact .inl h3
  · exact .inr ⟨b, off, e, Nat.lt_of_lt_of_le hl hb.size, fun i q hq j v hv => (hb.cell (p := ⟨b, _, none⟩) hl).trans (hc i q hq j v hv)⟩
theorem u8_wf {n : Int} (h : (Lit.int .u8 n).wf = true) : 0 ≤ n ∧ n ≤ 255 := by
  simp [Lit.wf, IntKind.min, IntKind.max, IntKind.signed, IntKind.bits] at h
  exact ⟨h.1, by omega⟩
theorem u64_U {n : Int} (h : (Lit.int .u64 n).wf = true) : U n := by
  simp [Lit.wf, IntKind.min, IntKind.max, IntKind.signed, IntKind.bits] at h
  unfold U
  omega
theorem hrow_of {row : List Value} (f0 : KindsFit [some .u8, some .i64, some .i64, none, some .u64, some .u64, some .u64, some .u64, some .u64, some .u64, some .u64, some .u64, some .u64, some .i64, some .i64] row) : ∃ q : HAct, row = rowH q ∧ HFit q := by
  obtain ⟨x0, r0, rfl, w0, f1⟩ := kinds_cons f0
  obtain ⟨x1, r1, rfl, w1, f2⟩ := kinds_cons f1
  obtain ⟨x2, r2, rfl, w2, f3⟩ := kinds_cons f2
  obtain ⟨x3, r3, rfl, f4⟩ := kinds_bool f3
  obtain ⟨x4, r4, rfl, w4, f5⟩ := kinds_cons f4
  obtain ⟨x5, r5, rfl, w5, f6⟩ := kinds_cons f5
  obtain ⟨x6, r6, rfl, w6, f7⟩ := kinds_cons f6
  obtain ⟨x7, r7, rfl, w7, f8⟩ := kinds_cons f7
  obtain ⟨x8, r8, rfl, w8, f9⟩ := kinds_cons f8
  obtain ⟨x9, r9, rfl, w9, f10⟩ := kinds_cons f9
  obtain ⟨x10, r10, rfl, w10, f11⟩ := kinds_cons f10
  obtain ⟨x11, r11, rfl, w11, f12⟩ := kinds_cons f11
  obtain ⟨x12, r12, rfl, w12, f13⟩ := kinds_cons f12
  obtain ⟨x13, r13, rfl, w13, f14⟩ := kinds_cons f13
  obtain ⟨x14, r14, rfl, w14, f15⟩ := kinds_cons f14
  obtain rfl := kinds_nil f15
  exact ⟨⟨x0, ⟨x1, x2, x3, (x4, x5, x6), (x7, x8, x9), (x10, x11, x12), x13, x14⟩⟩, rfl, u8_wf w0, ⟨w1, w2, w13, w14⟩, ⟨u64_U w4, u64_U w5, u64_U w6⟩, ⟨u64_U w7, u64_U w8, u64_U w9⟩, ⟨u64_U w10, u64_U w11, u64_U w12⟩⟩
theorem hacts_of {w : World} {a : Option Addr} {len cap : Nat} {z : List (List Value)} (h : IsRows [some .u8, some .i64, some .i64, none, some .u64, some .u64, some .u64, some .u64, some .u64, some .u64, some .u64, some .u64, some .u64, some .i64, some .i64] w a len cap z) :
    len ≤ 9223372036854775807 ∧ ∃ l : List HAct, HActsAt w a len l := by
  obtain ⟨h1, h2, h3, h4, h5⟩ := h
  have h2' : cap ≤ 9223372036854775807 := by unfold maxLen at h2; exact h2
  refine ⟨Nat.le_trans h1 h2', ?_⟩
  obtain ⟨l, hl, hr⟩ := list_of (fun i (q : HAct) => z[i]? = some (rowH q) ∧ HFit q) len (fun i hi => by
    obtain ⟨q, e, hf⟩ := hrow_of (h4 _ (List.getElem_mem (l := z) (n := i) (by omega)))
    exact ⟨q, by rw [List.getElem?_eq_getElem (by omega), e], hf⟩)
  refine ⟨l, hl, fun q hq => ?_, ?_⟩
  · obtain ⟨i, hi, rfl⟩ := List.mem_iff_getElem.1 hq
    exact (hr i _ (List.getElem?_eq_getElem hi)).2
  · rcases h5 with h5 | ⟨b, off, e, hb, hc⟩
    · exact .inl h5
    · exact .inr ⟨b, off, e, hb, fun i q hq j v hv => by rw [Nat.add_assoc]; exact hc i _ (hr i q hq).1 j v hv⟩
theorem hlong_any (a : Option Addr) (len cap : Nat) (w : World) (hl : len ≤ 9223372036854775807) :
    Calls Tryz.prog 6 #[.slice a len cap] w fun e w' => e = .returned (.bool (decide (150 < len))) ∧ w = w' := by
  have e : decide ((150 : Int) < (len : Int)) = decide (150 < len) := decide_eq_decide.2 (by omega)
  have E := Lib.hid e
  clear e
  go_enter Tryz.func6, Tryz.ntmps6
  go_wp2
  go_ret
  exact ⟨by rw [← E.out]; rfl, rfl⟩
noncomputable def stepH (M : Mp) (q : HAct) : Mp := if q.k % 4 = 0 then (addM M q.s).2 else if q.k % 4 = 1 then (changeM M q.s).2 else if q.k % 4 = 2 then (dropM M q.s.id).2 else M
noncomputable def playH (z : List HAct) : Mp := z.foldl stepH []
theorem playH_snoc {z : List HAct} {i : Nat} {q : HAct} (h : z[i]? = some q) : playH (z.take (i + 1)) = stepH (playH (z.take i)) q := by
  unfold playH
  rw [List.take_add_one, h]
  simp
def PlayedW (w : World) (z : List HAct) (e : Ending) (w' : World) : Prop := ∃ g ma mu, e = .returned (.pointer (some ⟨g, 0, none⟩)) ∧ TS w w' w.heap.size g ma mu (playH z)

set_option maxRecDepth 100000 in
set_option maxHeartbeats 4000000 in
theorem hplayed_any (a0 : Option Addr) (cap : Nat) (z : List HAct) (w : World) (hz : HActsAt w a0 z.length z) (hlen : z.length ≤ 150) :
    Calls Tryz.prog 16 #[.slice a0 z.length cap] w (PlayedW w z) := by
  have HZ := Lib.hid hz
  clear hz
  go_enter Tryz.func16, Tryz.ntmps16
  go_wp2_with fail
  refine (tnewS w).mono ?_
  rintro e w2 ⟨g, ma, mu, rfl, hT⟩
  have HT := Lib.hid hT
  clear hT
  go_wp2_with fail
  go_loopw [4] (fun v4 W => ∃ i : Nat, v4 = .int .i64 i ∧ i ≤ z.length ∧ TS w W w.heap.size g ma mu (playH (z.take i))) (fun v4 _ => (z.length - Go.RowKit.intOf v4).toNat)
  case atStart => exact ⟨0, rfl, Nat.zero_le _, HT.out⟩
  case round =>
    obtain ⟨i, rfl, hi, hts⟩ := hrel
    by_cases hlt : i < z.length
    · obtain ⟨_, hzu, hzc⟩ := HZ.out.below hts.below
      obtain ⟨b, off, rfl, hbl, hcl⟩ := hzc.resolve_left (by omega)
      obtain ⟨q, hq⟩ : ∃ q, z[i]? = some q := ⟨_, List.getElem?_eq_getElem hlt⟩
      have hfit := hzu q (List.mem_of_getElem? hq)
      have hsn := playH_snoc hq
      have hcq := hcl i q hq
      generalize playH (z.take i) = M at hts hsn
      obtain ⟨k, s⟩ := q
      obtain ⟨⟨hk0, hk1⟩, hws⟩ := hfit
      dsimp only at hk0 hk1 hws
      have c0 := hcq 0 _ rfl; have c1 := hcq 1 _ rfl; have c2 := hcq 2 _ rfl; have c3 := hcq 3 _ rfl; have c4 := hcq 4 _ rfl; have c5 := hcq 5 _ rfl; have c6 := hcq 6 _ rfl; have c7 := hcq 7 _ rfl; have c8 := hcq 8 _ rfl; have c9 := hcq 9 _ rfl; have c10 := hcq 10 _ rfl; have c11 := hcq 11 _ rfl; have c12 := hcq 12 _ rfl; have c13 := hcq 13 _ rfl; have c14 := hcq 14 _ rfl
      simp only [Nat.add_zero] at c0
      dsimp only at c0 c1 c2 c3 c4 c5 c6 c7 c8 c9 c10 c11 c12 c13 c14
      have HTS := Lib.hid hts; have HSN := Lib.hid hsn; have HWS := Lib.hid hws
      clear hzu hzc hcl hq hcq hts hsn hws
      obtain ⟨kk, hkk⟩ : ∃ kk, k % 4 = kk := ⟨_, rfl⟩
      have hq1 : 0 ≤ kk := by omega
      have hq2 : kk < 4 := by omega
      have HKK := Lib.hid hkk
      rcases (by omega : kk = 0 ∨ kk = 1 ∨ kk = 2 ∨ kk = 3) with rfl | rfl | rfl | rfl
      · have HST := Lib.hid (show stepH M ⟨k, s⟩ = (addM M s).2 by unfold stepH; rw [if_pos HKK.out])
        have ha := HTS.out.add s HWS.out
        unfold spV spC at ha
        go_wp2_with fail
        refine ha.mono ?_
        clear ha hkk c0 c1 c2 c3 c4 c5 c6 c7 c8 c9 c10 c11 c12 c13 c14 HTS
        rintro e w3 ⟨rfl, hT⟩
        have HF := Lib.hid hT
        clear hT
        go_wp2_with fail
        go_roundw
        case measure => (simp [Go.RowKit.intOf]; try omega)
        case rel => exact ⟨i + 1, by go_num, by omega, by rw [HSN.out, HST.out]; exact HF.out⟩
      · have HST := Lib.hid (show stepH M ⟨k, s⟩ = (changeM M s).2 by unfold stepH; rw [if_neg (by rw [HKK.out]; decide), if_pos HKK.out])
        have ha := HTS.out.change s HWS.out
        unfold spV spC at ha
        go_wp2_with fail
        refine ha.mono ?_
        clear ha hkk c0 c1 c2 c3 c4 c5 c6 c7 c8 c9 c10 c11 c12 c13 c14 HTS
        rintro e w3 ⟨rfl, hT⟩
        have HF := Lib.hid hT
        clear hT
        go_wp2_with fail
        go_roundw
        case measure => (simp [Go.RowKit.intOf]; try omega)
        case rel => exact ⟨i + 1, by go_num, by omega, by rw [HSN.out, HST.out]; exact HF.out⟩
      · have HST := Lib.hid (show stepH M ⟨k, s⟩ = (dropM M s.id).2 by unfold stepH; rw [if_neg (by rw [HKK.out]; decide), if_neg (by rw [HKK.out]; decide), if_pos HKK.out])
        have ha := HTS.out.drop s.id HWS.out.1.1
        go_wp2_with fail
        refine ha.mono ?_
        clear ha hkk c0 c1 c2 c3 c4 c5 c6 c7 c8 c9 c10 c11 c12 c13 c14 HTS
        rintro e w3 ⟨rfl, hT⟩
        have HF := Lib.hid hT
        clear hT
        go_wp2_with fail
        go_roundw
        case measure => (simp [Go.RowKit.intOf]; try omega)
        case rel => exact ⟨i + 1, by go_num, by omega, by rw [HSN.out, HST.out]; exact HF.out⟩
      · have HST := Lib.hid (show stepH M ⟨k, s⟩ = M by unfold stepH; rw [if_neg (by rw [HKK.out]; decide), if_neg (by rw [HKK.out]; decide), if_neg (by rw [HKK.out]; decide)])
        go_wp2_with fail
        go_roundw
        case measure => (simp [Go.RowKit.intOf]; try omega)
        case rel => exact ⟨i + 1, by go_num, by omega, by rw [HSN.out, HST.out]; exact HTS.out⟩
    · obtain rfl : i = z.length := by omega
      rw [List.take_length] at hts
      have HE := Lib.hid hts
      clear hts
      go_wp2_with fail
      go_ret
      exact ⟨g, ma, mu, rfl, HE.out⟩
end Go.Proofs.YtclhhegfffccgaaGreat
/-
  A tree of classes: what came can go again, what was changed can be changed back; what acts leave as it was.
-/
namespace Go.Proofs.YtclhhegfffccgaaGreat
set_option linter.unusedVariables false
open Go.RowKit Go.Maps

theorem del_put {α : Type} {k : Int} {v : α} : ∀ {M : List (Int × α)}, lookM M k = none → delM (putM M k v) k = M
  | [], _ => by simp [putM, delM]
  | p :: r, hn => by
    have hp : p.1 ≠ k := look_none.1 hn p (.head _)
    have hnr : lookM r k = none := look_none.2 fun q hq => look_none.1 hn q (.tail _ hq)
    unfold putM
    by_cases hlt : k < p.1
    · rw [if_pos hlt]
      show delM ((k, v) :: p :: r) k = p :: r
      have h1 : delM (p :: r) k = p :: r := delM_none k _ fun q hq => look_none.1 hn q hq
      unfold delM at h1 ⊢
      rw [List.filter_cons_of_neg (by simp)]
      exact h1
    · rw [if_neg hlt, if_neg hp]
      have ih := del_put (v := v) hnr
      unfold delM at ih ⊢
      rw [List.filter_cons_of_pos (by simpa using hp), ih]
theorem InvT.no_kids {M : Mp} (h : InvT M) {k : Int} (h0 : k ≠ 0) (hn : lookM M k = none) : kids M k = [] := by
  cases e : kids M k with
  | nil => rfl
  | cons x l =>
    obtain ⟨c', h1, h2⟩ := (mem_kids h.rise).1 (by rw [e]; exact .head _ : x ∈ kids M k)
    rcases (h.ok _ _ h1).up with ⟨h3, _⟩ | ⟨p, hp, _, _⟩
    · omega
    · rw [h2, hn] at hp; cases hp
/-- a class that came: what was answered, what stands there -/
theorem add_ok {M : Mp} {s : Sp} (h : (addM M s).1 = 0) : mayS s = true ∧ M.length < 64 ∧ lookM M s.id = none ∧ (addM M s).2 = putM M s.id (s, depthM M s.pa) := by
  unfold addM at h ⊢
  by_cases h1 : mayS s = false
  · rw [if_pos h1] at h; simp at h
  · rw [if_neg h1] at h ⊢
    by_cases h2 : 64 ≤ M.length
    · rw [if_pos h2] at h; simp at h
    · rw [if_neg h2] at h ⊢
      by_cases h3 : (lookM M s.id).isSome = true
      · rw [if_pos h3] at h; simp at h
      · rw [if_neg h3] at h ⊢
        by_cases h4 : depthM M s.pa = 0
        · rw [if_pos h4] at h; simp at h
        · rw [if_neg h4]
          exact ⟨by simpa using h1, by omega, by simpa using h3, rfl⟩
theorem add_no {M : Mp} {s : Sp} (h : (addM M s).1 ≠ 0) : (addM M s).2 = M := by
  unfold addM at h ⊢
  by_cases h1 : mayS s = false
  · rw [if_pos h1]
  · rw [if_neg h1] at h ⊢
    by_cases h2 : 64 ≤ M.length
    · rw [if_pos h2]
    · rw [if_neg h2] at h ⊢
      by_cases h3 : (lookM M s.id).isSome = true
      · rw [if_pos h3]
      · rw [if_neg h3] at h ⊢
        by_cases h4 : depthM M s.pa = 0
        · rw [if_pos h4]
        · rw [if_neg h4] at h; exact absurd rfl h
theorem add_drop {M : Mp} (hi : InvT M) {s : Sp} (h : (addM M s).1 = 0) : dropM (addM M s).2 s.id = (0, M) := by
  obtain ⟨hm, _, hn, e⟩ := add_ok h
  have hnm := may_named hm
  rw [e]
  unfold dropM
  rw [look_put_same]
  dsimp only
  have hk : kids (putM M s.id (s, depthM M s.pa)) s.id = [] := by
    rw [kids_put_other (fun e2 => hnm.2.2.2.2 e2.symm) hn]
    exact hi.no_kids (by omega) hn
  rw [if_pos hk, del_put hn]
theorem change_cases (M : Mp) (s : Sp) : (lookM M s.id = none ∧ changeM M s = (81, M)) ∨ ∃ c, lookM M s.id = some c ∧ (changeM M s = (130, M) ∨ changeM M s = (0, putM M s.id (withC c.1 s, c.2))) := by
  unfold changeM
  cases e : lookM M s.id with
  | none => exact .inl ⟨rfl, rfl⟩
  | some c =>
    refine .inr ⟨c, rfl, ?_⟩
    dsimp only
    by_cases h : mayS (withC c.1 s) = false
    · rw [if_pos h]; exact .inl rfl
    · rw [if_neg h]; exact .inr rfl
theorem putM_cons {α : Type} (p : Int × α) (r : List (Int × α)) (k : Int) (v : α) : putM (p :: r) k v = if k < p.1 then (k, v) :: p :: r else if p.1 = k then (k, v) :: r else p :: putM r k v := rfl
theorem putM_putM {α : Type} {k : Int} {a b : α} : ∀ (M : List (Int × α)), putM (putM M k a) k b = putM M k b
  | [] => by
    show putM [(k, a)] k b = [(k, b)]
    rw [putM_cons, if_neg (by dsimp only; omega), if_pos rfl]
  | p :: r => by
    rw [putM_cons p r k a, putM_cons p r k b]
    by_cases h1 : k < p.1
    · rw [if_pos h1, if_pos h1, putM_cons, if_neg (by dsimp only; omega), if_pos rfl]
    · rw [if_neg h1, if_neg h1]
      by_cases h2 : p.1 = k
      · rw [if_pos h2, if_pos h2, putM_cons, if_neg (by dsimp only; omega), if_pos rfl]
      · rw [if_neg h2, if_neg h2, putM_cons, if_neg h1, if_neg h2, putM_putM r]
theorem change_back {M : Mp} (hi : InvT M) {s : Sp} {c : Cl} (hl : lookM M s.id = some c) : changeM (putM M s.id (withC c.1 s, c.2)) c.1 = (0, M) := by
  have o := hi.ok _ _ hl
  have e : withC (withC c.1 s) c.1 = c.1 := by
    obtain ⟨⟨x1, x2, x3, x4, x5, x6, x7, x8⟩, d⟩ := c
    rfl
  unfold changeM
  rw [o.id, look_put_same]
  dsimp only
  rw [e, if_neg (by rw [o.may]; simp), putM_putM]
  rw [show putM M s.id (c.1, c.2) = M from put_look hi.rise hl]

/-- a tree, and blocks that it does not own -/
structure TP (w W : World) (base g ma mu : Nat) (M : Mp) (X : Nat → Prop) : Prop where
  tree : ∃ U, TreeX W base g ma mu U M ∧ ∀ b, X b → ¬ own ma mu U b
  lo : w.heap.size ≤ base
  below : Below w.heap.size w W
  old : ∀ b, X b → b < W.heap.size
section
variable {w W W' : World} {base g ma mu : Nat} {M : Mp} {X : Nat → Prop}
theorem TP.ts (h : TP w W base g ma mu M X) : TS w W base g ma mu M := by
  obtain ⟨⟨U, ht, _⟩, hl, hb, _⟩ := h
  exact ⟨⟨U, ht⟩, hl, hb⟩
theorem TS.tp (h : TS w W base g ma mu M) : TP w W base g ma mu M fun b => b < base := by
  obtain ⟨⟨U, ht⟩, hl, hb⟩ := h
  exact ⟨⟨U, ht, fun b hx ho => by have := (ht.owned ho).1; omega⟩, hl, hb, fun b hx => by have := ht.blk.lt; have := ht.gb; omega⟩
/-- what is laid meanwhile is not the tree's -/
theorem TP.later (h : TP w W base g ma mu M X) (hb : Below W.heap.size W W') : TP w W' base g ma mu M fun b => X b ∨ (W.heap.size ≤ b ∧ b < W'.heap.size) := by
  obtain ⟨⟨U, ht, hx⟩, hl, hb0, ho⟩ := h
  refine ⟨⟨U, ht.later hb, fun b hxb hob => ?_⟩, hl, hb0.trans (hb.mono hb0.size), fun b hxb => ?_⟩
  · rcases hxb with h1 | ⟨h1, h2⟩
    · exact hx b h1 hob
    · have := (ht.owned hob).2; omega
  · rcases hxb with h1 | ⟨_, h2⟩
    · exact Nat.lt_of_lt_of_le (ho b h1) hb.size
    · exact h2
theorem TP.act (h : TP w W base g ma mu M X) {U : List (Int × Value)} (ht : TreeX W base g ma mu U M) (hx : ∀ b, X b → ¬ own ma mu U b) {r : Int × Mp} {e : Ending} (ha : ActW W base g ma mu U r e W') :
    e = .returned (.int .i64 r.1) ∧ TP w W' base g ma mu r.2 X ∧ ∀ b, X b → W'.heap[b]? = W.heap[b]? := by
  obtain ⟨U', he, ht', hfr, hown⟩ := ha
  have hbs : base ≤ W.heap.size := Nat.le_trans ht.gb (Nat.le_of_lt ht.blk.lt)
  refine ⟨he, ⟨⟨U', ht', fun b hxb hob => ?_⟩, h.lo, h.below.trans ((hfr.below (fun b hb => (ht.owned hb).1) hbs).mono h.lo), fun b hxb => Nat.lt_of_lt_of_le (h.old b hxb) hfr.size⟩, fun b hxb => hfr.block b (h.old b hxb) (hx b hxb)⟩
  rcases hown b hob with h1 | h1
  · exact hx b hxb h1
  · have := h.old b hxb; omega
theorem TP.add (h : TP w W base g ma mu M X) (s : Sp) (hw : WfSp s) : Calls Tryz.prog 8 #[.pointer (some ⟨g, 0, none⟩), spV s] W fun e W' => e = .returned (.int .i64 (addM M s).1) ∧ TP w W' base g ma mu (addM M s).2 X ∧ ∀ b, X b → W'.heap[b]? = W.heap[b]? := by
  obtain ⟨U, ht, hx⟩ := h.tree
  exact (tadd_any s base g ma mu U M W hw ht).mono fun e W' ha => h.act ht hx ha
theorem TP.change (h : TP w W base g ma mu M X) (s : Sp) (hw : WfSp s) : Calls Tryz.prog 24 #[.pointer (some ⟨g, 0, none⟩), spV s] W fun e W' => e = .returned (.int .i64 (changeM M s).1) ∧ TP w W' base g ma mu (changeM M s).2 X ∧ ∀ b, X b → W'.heap[b]? = W.heap[b]? := by
  obtain ⟨U, ht, hx⟩ := h.tree
  exact (tchange_any s base g ma mu U M W hw ht).mono fun e W' ha => h.act ht hx ha
theorem TP.drop (h : TP w W base g ma mu M X) (id : Int) (hid : (Lit.int .i64 id).wf = true) : Calls Tryz.prog 12 #[.pointer (some ⟨g, 0, none⟩), .int .i64 id] W fun e W' => e = .returned (.int .i64 (dropM M id).1) ∧ TP w W' base g ma mu (dropM M id).2 X ∧ ∀ b, X b → W'.heap[b]? = W.heap[b]? := by
  obtain ⟨U, ht, hx⟩ := h.tree
  exact (tdrop_any id base g ma mu U M W hid ht).mono fun e W' ha => h.act ht hx ha
end
/-- numbers in blocks that an act leaves -/
def IntX (X : Nat → Prop) (w : World) (v : Value) (ks : List Int) : Prop := IntAt w v ks ∧ (ks ≠ [] → ∀ b, v.ownBlock = some b → X b)
theorem IntX.kept {X : Nat → Prop} {W W' : World} {v : Value} {ks : List Int} (h : IntX X W v ks) (hk : ∀ b, X b → W'.heap[b]? = W.heap[b]?) (hs : ∀ b, X b → b < W'.heap.size) : IntX X W' v ks := by
  obtain ⟨⟨hl, a, cap, rfl, h3⟩, hx⟩ := h
  refine ⟨⟨hl, a, cap, rfl, ?_⟩, hx⟩
  rcases h3 with h3 | ⟨b, off, rfl, hb, hc, hcell⟩
  · exact .inl h3
  · by_cases h0 : ks = []
    · exact .inl h0
    · have e := hk b (hx h0 b rfl)
      exact .inr ⟨b, off, rfl, hs b (hx h0 b rfl), hc, fun i k hi => (World.cell?_of_block (a := ⟨b, off + i, none⟩) e).trans (hcell i k hi)⟩
theorem IntX.later {X X' : Nat → Prop} {W W' : World} {v : Value} {ks : List Int} (h : IntX X W v ks) (hb : Below W.heap.size W W') (hX : ∀ b, X b → X' b) : IntX X' W' v ks :=
  ⟨h.1.later hb, fun h0 b e => hX b (h.2 h0 b e)⟩
theorem IntX.of_owns {X : Nat → Prop} {w : World} {base : Nat} {v : Value} {ks : List Int} (h : w.ownsRow base 3 1 v ks.length (ks.map (Value.int .i64))) (hl : ks.length ≤ 1000000) (hX : ∀ b, base ≤ b → b < w.heap.size → X b) : IntX X w v ks :=
  ⟨IntAt.of_owns h hl, fun _ b e => hX b (h.lt b e).1 (h.lt b e).2⟩
end Go.Proofs.YtclhhegfffccgaaGreat
/-
  A tree of classes, in plain words: the leaves below a class; a part of a tree that grows to be the whole.
-/
namespace Go.Proofs.YtclhhegfffccgaaGreat
set_option linter.unusedVariables false
open Go.RowKit Go.Maps

theorem ext_rise : ∀ {a b : List Int}, a.Pairwise (· < ·) → b.Pairwise (· < ·) → (∀ x, x ∈ a ↔ x ∈ b) → a = b
  | [], [], _, _, _ => rfl
  | [], y :: b, _, _, h => by have := (h y).2 (.head _); cases this
  | x :: a, [], _, _, h => by have := (h x).1 (.head _); cases this
  | x :: a, y :: b, ha, hb, h => by
    have ha1 := (List.pairwise_cons.1 ha).1
    have hb1 := (List.pairwise_cons.1 hb).1
    have hxy : x = y := by
      rcases List.mem_cons.1 ((h x).1 (.head _)) with e | e
      · exact e
      · rcases List.mem_cons.1 ((h y).2 (.head _)) with e2 | e2
        · exact e2.symm
        · have := hb1 x e; have := ha1 y e2; omega
    subst hxy
    rw [ext_rise (List.pairwise_cons.1 ha).2 (List.pairwise_cons.1 hb).2 fun z => ?_]
    constructor
    · intro hz
      rcases List.mem_cons.1 ((h z).1 (.tail _ hz)) with e | e
      · have := ha1 z hz; omega
      · exact e
    · intro hz
      rcases List.mem_cons.1 ((h z).2 (.tail _ hz)) with e | e
      · have := hb1 z hz; omega
      · exact e
theorem nodup_leH {l m : List Int} : l.Nodup → (∀ x ∈ l, x ∈ m) → l.length ≤ m.length := by
  induction l generalizing m with
  | nil => intro _ _; simp
  | cons a l ih =>
    intro hn hs
    have ha := hs a (by simp)
    have hn2 := List.nodup_cons.1 hn
    have h1 := ih (m := m.erase a) hn2.2 (fun x hx => (List.mem_erase_of_ne (by rintro rfl; exact hn2.1 hx)).2 (hs x (by simp [hx])))
    rw [List.length_erase_of_mem ha] at h1
    have : 0 < m.length := List.length_pos_of_mem ha
    simp; omega
/-- the leaves below a class -/
def leavesM (M : Mp) (id : Int) : List Int := (M.filter fun q => q.2.1.lf && (decide (id = 0) || decide (id ∈ pathM M q.1))).map (·.1)
theorem leaves_rising {M : Mp} (hr : Rising M) (id : Int) : (leavesM M id).Pairwise (· < ·) := by
  unfold leavesM
  exact List.pairwise_map.2 (List.Pairwise.filter _ hr)
theorem leaves_len (M : Mp) (id : Int) : (leavesM M id).length ≤ M.length := by unfold leavesM; rw [List.length_map]; exact List.length_filter_le _ _
theorem mem_leaves {M : Mp} (hr : Rising M) {id x : Int} : x ∈ leavesM M id ↔ ∃ c, lookM M x = some c ∧ c.1.lf = true ∧ (id = 0 ∨ id ∈ pathM M x) := by
  unfold leavesM
  rw [List.mem_map]
  constructor
  · rintro ⟨⟨y, c⟩, hm, rfl⟩
    rw [List.mem_filter] at hm
    have h2 := hm.2
    simp only [Bool.and_eq_true, Bool.or_eq_true, decide_eq_true_eq] at h2
    exact ⟨c, look_of_mem hr hm.1, h2.1, h2.2⟩
  · rintro ⟨c, hl, h1, h2⟩
    exact ⟨(x, c), List.mem_filter.2 ⟨mem_of_look hl, by simp only [Bool.and_eq_true, Bool.or_eq_true, decide_eq_true_eq]; exact ⟨h1, h2⟩⟩, rfl⟩
theorem InvT.path_no {M : Mp} (h : InvT M) {id : Int} (e : lookM M id = none) : pathM M id = [] := pathF_none e 8
theorem InvT.kid_dep {M : Mp} (h : InvT M) {k x : Int} {c : Cl} (e : lookM M x = some c) (hk : c.1.pa = k) : dep M x = dep M k + 1 := by
  have o := h.ok _ _ e
  unfold dep
  rw [e]
  rcases o.up with ⟨h0, h1⟩ | ⟨p, hp, _, hd⟩
  · rw [← hk, h0, h.zero]; simp; omega
  · rw [← hk, hp]; have := (h.ok _ _ hp).d1; simp; omega
theorem InvT.path_self {M : Mp} (h : InvT M) {x : Int} {c : Cl} (e : lookM M x = some c) : x ∈ pathM M x := by rw [h.path_step e]; exact .head _
/-- the path's members -/
theorem InvT.path_mem {M : Mp} (h : InvT M) : ∀ (n : Nat) {x : Int}, dep M x ≤ n → ∀ y ∈ pathM M x, (∃ c, lookM M y = some c) ∧ dep M y ≤ dep M x ∧ (dep M y = dep M x → y = x)
  | n, x, hn, y, hy => by
    cases e : lookM M x with
    | none => rw [h.path_no e] at hy; cases hy
    | some c =>
      rw [h.path_step e] at hy
      rcases List.mem_cons.1 hy with rfl | hy
      · exact ⟨⟨c, e⟩, Nat.le_refl _, fun _ => rfl⟩
      · have hd := h.kid_dep e rfl
        obtain ⟨n', rfl⟩ : ∃ n', n = n' + 1 := ⟨n - 1, by omega⟩
        have := h.path_mem n' (x := c.1.pa) (by omega) y hy
        exact ⟨this.1, by omega, by omega⟩
theorem InvT.path_apart {M : Mp} (h : InvT M) : ∀ (n : Nat) {x : Int}, dep M x ≤ n → ∀ y ∈ pathM M x, ∀ z ∈ pathM M x, dep M y = dep M z → y = z
  | n, x, hn, y, hy, z, hz, hyz => by
    cases e : lookM M x with
    | none => rw [h.path_no e] at hy; cases hy
    | some c =>
      have hd := h.kid_dep e rfl
      obtain ⟨n', rfl⟩ : ∃ n', n = n' + 1 := ⟨n - 1, by omega⟩
      rw [h.path_step e] at hy hz
      rcases List.mem_cons.1 hy with e1 | hy <;> rcases List.mem_cons.1 hz with e2 | hz
      · rw [e1, e2]
      · have := (h.path_mem n' (x := c.1.pa) (by omega) z hz).2.1; rw [e1] at hyz; omega
      · have := (h.path_mem n' (x := c.1.pa) (by omega) y hy).2.1; rw [e2] at hyz; omega
      · exact h.path_apart n' (x := c.1.pa) (by omega) y hy z hz hyz
/-- with a class its parent is on the path -/
theorem InvT.path_up {M : Mp} (h : InvT M) : ∀ (n : Nat) {x : Int}, dep M x ≤ n → ∀ y ∈ pathM M x, ∀ c, lookM M y = some c → ∀ p, lookM M c.1.pa = some p → c.1.pa ∈ pathM M x
  | n, x, hn, y, hy, c, hc, p, hp => by
    cases e : lookM M x with
    | none => rw [h.path_no e] at hy; cases hy
    | some cx =>
      have hd := h.kid_dep e rfl
      obtain ⟨n', rfl⟩ : ∃ n', n = n' + 1 := ⟨n - 1, by omega⟩
      rw [h.path_step e] at hy ⊢
      rcases List.mem_cons.1 hy with rfl | hy
      · rw [e] at hc; cases hc
        exact .tail _ (h.path_self hp)
      · exact .tail _ (h.path_up n' (x := cx.1.pa) (by omega) y hy c hc p hp)
/-- below a class one under it is on the path -/
theorem InvT.path_kid {M : Mp} (h : InvT M) : ∀ (n : Nat) {x : Int} {cx : Cl}, dep M x ≤ n → lookM M x = some cx → ∀ id, id ≠ x → (id = 0 ∨ id ∈ pathM M x) → ∃ k ∈ kids M id, k ∈ pathM M x
  | n, x, cx, hn, e, id, hne, hid => by
    have hd := h.kid_dep e rfl
    obtain ⟨n', rfl⟩ : ∃ n', n = n' + 1 := ⟨n - 1, by omega⟩
    by_cases hpa : cx.1.pa = id
    · exact ⟨x, (mem_kids h.rise).2 ⟨cx, e, hpa⟩, h.path_self e⟩
    · rw [h.path_step e] at hid ⊢
      have hin : id = 0 ∨ id ∈ pathM M cx.1.pa := by
        rcases hid with h0 | h1
        · exact .inl h0
        · rcases List.mem_cons.1 h1 with h1 | h1
          · exact absurd h1 hne
          · exact .inr h1
      cases ep : lookM M cx.1.pa with
      | none =>
        rcases (h.ok _ _ e).up with ⟨h0, _⟩ | ⟨p, hp, _⟩
        · rcases hin with h1 | h1
          · exact absurd (h0.trans h1.symm) hpa
          · rw [h.path_no ep] at h1; cases h1
        · rw [hp] at ep; cases ep
      | some p =>
        obtain ⟨k, hk, hm⟩ := h.path_kid n' (x := cx.1.pa) (by omega) ep id (fun e2 => hpa e2.symm) hin
        exact ⟨k, hk, .tail _ hm⟩
theorem InvT.path_leaf {M : Mp} (h : InvT M) {x id : Int} {cx c : Cl} (e : lookM M x = some cx) (hm : id ∈ pathM M x) (hid : lookM M id = some c) (hl : c.1.lf = true) : id = x := by
  apply Classical.byContradiction
  intro hne
  obtain ⟨k, hk, _⟩ := h.path_kid _ (Nat.le_refl _) e id hne (.inr hm)
  rw [h.leaf hid hl] at hk
  cases hk
theorem InvT.leaves_leaf {M : Mp} (h : InvT M) {id : Int} {c : Cl} (e : lookM M id = some c) (hl : c.1.lf = true) : leavesM M id = [id] := by
  refine ext_rise (leaves_rising h.rise id) (by simp) fun x => ?_
  rw [mem_leaves h.rise, List.mem_singleton]
  constructor
  · rintro ⟨cx, hx, _, h0 | hm⟩
    · have := (h.pos e).1; omega
    · exact (h.path_leaf hx hm e hl).symm
  · rintro rfl
    exact ⟨c, e, hl, .inr (h.path_self e)⟩
theorem InvT.leaves_mem {M : Mp} (h : InvT M) {id : Int} (hn : ∀ c, lookM M id = some c → c.1.lf = false) (x : Int) : x ∈ leavesM M id ↔ ∃ k ∈ kids M id, x ∈ leavesM M k := by
  rw [mem_leaves h.rise]
  constructor
  · rintro ⟨c, hx, hl, hid⟩
    have hne : id ≠ x := by
      rintro rfl
      rw [hn c hx] at hl; cases hl
    obtain ⟨k, hk, hm⟩ := h.path_kid _ (Nat.le_refl _) hx id hne hid
    exact ⟨k, hk, (mem_leaves h.rise).2 ⟨c, hx, hl, .inr hm⟩⟩
  · rintro ⟨k, hk, hm⟩
    obtain ⟨ck, hck, hpa⟩ := (mem_kids h.rise).1 hk
    obtain ⟨c, hx, hl, hkx⟩ := (mem_leaves h.rise).1 hm
    refine ⟨c, hx, hl, ?_⟩
    have hk0 := (h.pos hck).1
    rcases hkx with h0 | hkx
    · omega
    · rcases (h.ok _ _ hck).up with ⟨h0, _⟩ | ⟨p, hp, _⟩
      · exact .inl (hpa.symm.trans h0)
      · right
        rw [← hpa]
        exact h.path_up _ (Nat.le_refl _) k hkx ck hck p hp
/-- the leaves below those under a class, row by row -/
def leavesL (M : Mp) (l : List Int) : List Int := l.flatMap (leavesM M)
theorem leavesL_snoc {M : Mp} (l : List Int) (x : Int) : leavesL M (l ++ [x]) = leavesL M l ++ leavesM M x := by simp [leavesL]
theorem InvT.leavesL_nodup {M : Mp} (h : InvT M) (id : Int) : ∀ l : List Int, (∀ k ∈ l, k ∈ kids M id) → l.Nodup → (leavesL M l).Nodup
  | [], _, _ => by simp [leavesL]
  | k :: l, hl, hn => by
    show (leavesM M k ++ leavesL M l).Nodup
    refine List.nodup_append.2 ⟨(leaves_rising h.rise k).imp (fun h => by omega), h.leavesL_nodup id l (fun x hx => hl x (.tail _ hx)) (List.nodup_cons.1 hn).2, fun x hx y hy => ?_⟩
    rintro rfl
    obtain ⟨k2, hk2, hx2⟩ := List.mem_flatMap.1 hy
    obtain ⟨c1, e1, p1⟩ := (mem_kids h.rise).1 (hl k (.head _))
    obtain ⟨c2, e2, p2⟩ := (mem_kids h.rise).1 (hl k2 (.tail _ hk2))
    obtain ⟨cx, hcx, _, h1⟩ := (mem_leaves h.rise).1 hx
    obtain ⟨_, _, _, h2⟩ := (mem_leaves h.rise).1 hx2
    have d1 := h.kid_dep e1 p1
    have d2 := h.kid_dep e2 p2
    have q1 := (h.pos e1).1
    have q2 := (h.pos e2).1
    have := h.path_apart _ (Nat.le_refl _) k (by rcases h1 with h1 | h1 <;> first | omega | exact h1) k2 (by rcases h2 with h2 | h2 <;> first | omega | exact h2) (d1.trans d2.symm)
    exact (List.nodup_cons.1 hn).1 (this ▸ hk2)
theorem InvT.leavesL_len {M : Mp} (h : InvT M) (id : Int) (l : List Int) (hl : ∀ k ∈ l, k ∈ kids M id) (hn : l.Nodup) : (leavesL M l).length ≤ 64 := by
  have h1 := h.leavesL_nodup id l hl hn
  have h2 : ∀ x ∈ leavesL M l, x ∈ M.map (·.1) := fun x hx => by
    obtain ⟨k, _, hk⟩ := List.mem_flatMap.1 hx
    obtain ⟨c, hc, _⟩ := (mem_leaves h.rise).1 hk
    exact List.mem_map.2 ⟨(x, c), mem_of_look hc, rfl⟩
  have h3 := nodup_leH h1 h2
  have := h.few
  rw [List.length_map] at h3
  omega
/-- in order -/
theorem InvT.leaves_sorted {M : Mp} (h : InvT M) {id : Int} (hn : ∀ c, lookM M id = some c → c.1.lf = false) {ss : List Int} (hp : ss.Perm (leavesL M (kids M id))) (hs : ss.Pairwise (· ≤ ·)) : ss = leavesM M id := by
  have hnd : ss.Nodup := hp.nodup_iff.2 (h.leavesL_nodup id _ (fun _ hk => hk) ((kids_rising h.rise id).imp fun h => by omega))
  refine ext_rise ?_ (leaves_rising h.rise id) fun x => ?_
  · exact (List.pairwise_and_iff.2 ⟨hs, hnd⟩).imp fun hh => by have := hh.1; have := hh.2; omega
  · rw [hp.mem_iff, h.leaves_mem hn]
    exact List.mem_flatMap
/-- a part of a tree -/
structure SubT (A M : Mp) : Prop where
  inv : InvT A
  sub : ∀ k c, lookM A k = some c → lookM M k = some c
theorem len_of_sub : ∀ {A M : Mp}, Rising A → Rising M → (∀ k c, lookM A k = some c → lookM M k = some c) → A.length ≤ M.length := by
  intro A M hA hM hs
  have h1 : (A.map (·.1)).Nodup := List.pairwise_map.2 (List.Pairwise.imp (fun h => by omega) hA)
  have h3 := nodup_leH h1 (m := M.map (·.1)) fun x hx => by
    obtain ⟨⟨k, c⟩, hm, rfl⟩ := List.mem_map.1 hx
    exact List.mem_map.2 ⟨(k, c), mem_of_look (hs _ _ (look_of_mem hA hm)), rfl⟩
  simpa using h3
theorem map_ext {A M : Mp} (hA : Rising A) (hM : Rising M) (hs : ∀ k, lookM A k = lookM M k) : A = M := by
  induction A generalizing M with
  | nil =>
    cases M with
    | nil => rfl
    | cons q M => have := hs q.1; simp [lookM] at this
  | cons p A ih =>
    cases M with
    | nil => have := hs p.1; simp [lookM] at this
    | cons q M =>
      have hp1 := (List.pairwise_cons.1 hA).1
      have hq1 := (List.pairwise_cons.1 hM).1
      have hk : p.1 = q.1 := by
        have h1 := hs p.1
        have h2 := hs q.1
        apply Classical.byContradiction
        intro hne
        have a1 : lookM (p :: A) p.1 = some p.2 := by simp [lookM]
        have a2 : lookM (q :: M) q.1 = some q.2 := by simp [lookM]
        rw [a1] at h1
        rw [a2] at h2
        have b1 := mem_of_look h1.symm
        have b2 := mem_of_look h2
        rcases List.mem_cons.1 b1 with e | b1
        · exact hne (by rw [← e])
        · rcases List.mem_cons.1 b2 with e | b2
          · exact hne (by rw [← e])
          · have := hq1 _ b1; have := hp1 _ b2; dsimp only at *; omega
      have hv : p.2 = q.2 := by
        have h1 := hs p.1
        have a1 : lookM (p :: A) p.1 = some p.2 := by simp [lookM]
        have a2 : lookM (q :: M) p.1 = some q.2 := by simp [lookM, hk]
        rw [a1, a2] at h1
        exact Option.some.inj h1
      have hpq : p = q := Prod.ext hk hv
      subst hpq
      rw [ih (List.pairwise_cons.1 hA).2 (List.pairwise_cons.1 hM).2 fun k => ?_]
      by_cases e : p.1 = k
      · subst e
        have n1 : lookM A p.1 = none := look_none.2 fun x hx => by have := hp1 x hx; omega
        have n2 : lookM M p.1 = none := look_none.2 fun x hx => by have := hq1 x hx; omega
        rw [n1, n2]
      · have := hs k
        unfold lookM at this
        rw [if_neg e, if_neg e] at this
        exact this
section
variable {A M : Mp}
theorem sub_nil (M : Mp) : SubT [] M := ⟨inv_nil, fun k c h => by cases h⟩
/-- one more comes -/
theorem SubT.add (h : SubT A M) (hM : InvT M) {k : Int} {c : Cl} (e : lookM M k = some c) (hn : lookM A k = none) (hp : c.1.pa = 0 ∨ ∃ p, lookM A c.1.pa = some p) :
    (addM A c.1).1 = 0 ∧ SubT (addM A c.1).2 M ∧ ∀ j, lookM (addM A c.1).2 j = if j = k then some c else lookM A j := by
  have o := hM.ok _ _ e
  have hlen : A.length < 64 := by
    have h1 : (lookM (putM A k c) k) = some c := look_put_same _ _ _
    have := len_of_sub (A := putM A k c) (M := M) (rising_put _ _ h.inv.rise) hM.rise fun j d hj => by
      by_cases ej : j = k
      · subst ej; rw [look_put_same] at hj; cases hj; exact e
      · rw [look_put_other _ ej] at hj; exact h.sub _ _ hj
    rw [put_len_new hn] at this
    have := hM.few
    omega
  have hdep : depthM A c.1.pa = c.2 := by
    unfold depthM
    rcases o.up with ⟨h0, h1⟩ | ⟨p, hp2, hl, hd⟩
    · rw [if_pos h0]; exact h1.symm
    · rcases hp with h0 | ⟨p', hp'⟩
      · rw [h0, hM.zero] at hp2; cases hp2
      · have := h.sub _ _ hp'
        rw [hp2] at this; cases this
        have hne : c.1.pa ≠ 0 := by intro h0; rw [h0, hM.zero] at hp2; cases hp2
        rw [if_neg hne, hp']
        have := o.d8
        dsimp only
        rw [if_neg (by rw [hl]; simp; omega)]
        exact hd.symm
  have hd1 := o.d1
  have hadd : addM A c.1 = (0, putM A k c) := by
    unfold addM
    rw [if_neg (by rw [o.may]; simp), if_neg (by omega), o.id, if_neg (by rw [hn]; simp), hdep, if_neg (by omega)]
  have hinv := h.inv.add (s := c.1) o.wf
  rw [hadd] at hinv ⊢
  refine ⟨rfl, ⟨hinv, fun j d hj => ?_⟩, fun j => ?_⟩
  · by_cases ej : j = k
    · subst ej; dsimp only at hj; rw [look_put_same] at hj; cases hj; exact e
    · dsimp only at hj; rw [look_put_other _ ej] at hj; exact h.sub _ _ hj
  · by_cases ej : j = k
    · subst ej; rw [if_pos rfl]; exact look_put_same _ _ _
    · rw [if_neg ej]; exact look_put_other _ ej _
theorem SubT.whole (h : SubT A M) (hM : InvT M) (hall : ∀ k c, lookM M k = some c → ∃ d, lookM A k = some d) : A = M := by
  refine map_ext h.inv.rise hM.rise fun k => ?_
  cases e : lookM M k with
  | none =>
    cases e2 : lookM A k with
    | none => rfl
    | some d => rw [h.sub _ _ e2] at e; cases e
  | some c =>
    obtain ⟨d, hd⟩ := hall k c e
    rw [hd, ← h.sub _ _ hd, e]
end
end Go.Proofs.YtclhhegfffccgaaGreat
/-
  A tree of classes: the leaves below a class, by calls of itself.
-/
namespace Go.Proofs.YtclhhegfffccgaaGreat
set_option linter.unusedVariables false
open Go.RowKit Go.Maps Go.Sort Go.Shelf
attribute [local go_sem ↓] Go.wp_at_zero Go.wp_at_succ
attribute [local go_sem] quietR quietAtR quietUponR midAt midUpon

theorem IntAt.form {w : World} {v : Value} {ks : List Int} (h : IntAt w v ks) : ∃ a cap, v = .slice a ks.length cap := by obtain ⟨_, a, cap, e, _⟩ := h; exact ⟨a, cap, e⟩
theorem IntAt.some_ {w : World} {a : Option Addr} {n cap i : Nat} {ks : List Int} {x : Int} (h : IntAt w (.slice a n cap) ks) (hx : ks[i]? = some x) : ∃ b off, a = some ⟨b, off, none⟩ := by
  obtain ⟨_, a', cap', e, h3⟩ := h
  cases e
  rcases h3 with rfl | ⟨b, off, rfl, _⟩
  · simp at hx
  · exact ⟨b, off, rfl⟩
theorem IntAt.cell {w : World} {b off n cap i : Nat} {ks : List Int} {x : Int} (h : IntAt w (.slice (some ⟨b, off, none⟩) n cap) ks) (hx : ks[i]? = some x) : b < w.heap.size ∧ n ≤ cap ∧ w.cell? ⟨b, off + i, none⟩ = some (.int .i64 x) := by
  obtain ⟨_, a', cap', e, h3⟩ := h
  cases e
  rcases h3 with rfl | ⟨b', off', e, h1, h2, h3⟩
  · simp at hx
  · cases e
    exact ⟨h1, h2, h3 i x hx⟩
theorem grown_grow (w : World) (os : Array Obj) : w.grownBy (grow w os) none :=
  ⟨rfl, rfl, rfl, by simp [grow], fun k hk _ => Sort.heap_grow_old w os hk⟩
/-- a row is put in order -/
def SortRowW (w : World) (base : Nat) (v : Value) (l : List Int) (e : Ending) (w' : World) : Prop :=
  ∃ l' : List Int, e = .returned (.tuple #[]) ∧ l'.Perm l ∧ l'.Pairwise (· ≤ ·) ∧ w'.ownsRow base 3 1 v l'.length (l'.map (Value.int .i64)) ∧ w.grownBy w' v.ownBlock
theorem sort_row (base : Nat) (v : Value) (l : List Int) (w : World) (h : w.ownsRow base 3 1 v l.length (l.map (Value.int .i64))) (hl : l.length ≤ 1000) :
    Calls Tryz.prog 47 #[v] w (SortRowW w base v l) := by
  rcases h.2 with ⟨rfl, hz⟩ | ⟨g, cap, cur, rfl, hg, hB, hc, hm, hsz, htk⟩
  · obtain rfl : l = [] := List.eq_nil_of_length_eq_zero hz
    refine (AnyM.slices_Sort_int_none sortI none 0 w).mono ?_
    rintro e w' ⟨rfl, rfl⟩
    exact ⟨[], rfl, .refl _, .nil, World.ownsRow_nil _ _ _ _, ⟨rfl, rfl, rfl, Nat.le_refl _, fun _ _ _ => rfl⟩⟩
  · have hsz : cur.size = cap := by omega
    rw [Nat.mul_one] at htk
    refine (AnyM.slices_Sort_int sortI g 0 cap l w (holds_row hB htk (by omega) rfl) (h.lt g rfl).2 (by omega)).mono ?_
    rintro e w' ⟨rfl, n, os, rfl⟩
    have hp : (l.mergeSort fun x y => decide (x ≤ y)).Perm l := List.mergeSort_perm l _
    have hB2 : Blk (putRow (Value.int .i64) (Sort.ahead w n) g 0 (l.mergeSort fun x y => decide (x ≤ y)).toArray) g 3 _ := heap_putRowI _ hB
    have hgr := grown_putRowI (w := w) (g := g) (n := n) (l.mergeSort fun x y => decide (x ≤ y)).toArray
    have hB3 := hB2.grown (grown_grow _ os) (by simp)
    refine ⟨l.mergeSort fun x y => decide (x ≤ y), rfl, hp, ?_, ?_, hgr.trans ⟨rfl, rfl, rfl, (grown_grow _ os).size, fun k hk _ => (grown_grow _ os).block k hk (by simp)⟩⟩
    · refine (List.pairwise_mergeSort (le := fun x y : Int => decide (x ≤ y)) (fun a b c h1 h2 => ?_) (fun a b => ?_) l).imp (fun h => by simpa using h)
      · simp only [decide_eq_true_eq] at *; omega
      · simp only [Bool.or_eq_true, decide_eq_true_eq]; omega
    · have hlen := hp.length_eq
      rw [show (Value.slice (some ⟨g, 0, none⟩) l.length cap) = .slice (some ⟨g, 0, none⟩) (l.mergeSort fun x y => decide (x ≤ y)).length cap by rw [hlen]]
      refine row_ofList hB3 hg (by omega) hm (by simp [putCells, hsz]) fun k hk => ?_
      rw [put_atI _ _ _ (by omega) hk, List.getElem?_map]
/-- a row is appended to another one -/
theorem app_row (ty : TypeId) {A B : List Int} {w : World} {v vb : Value} {base bb : Nat} (hown : w.ownsRow base 3 1 v A.length (A.map (Value.int .i64))) (hsrc : w.ownsRow bb 3 1 vb B.length (B.map (Value.int .i64))) (hb : base ≤ w.heap.size) (hl : A.length ≤ 1000000) (hl2 : B.length ≤ 1000000) :
    ∃ v' w', (Builtin.append_ #[47, 47] ty #[v, vb]).run Tryz.prog w = .ok v' w' ∧ w'.ownsRow base 3 1 v' (A ++ B).length ((A ++ B).map (Value.int .i64)) ∧ w.grownBy w' v.ownBlock := by
  obtain ⟨i0, hi0, hz0, hz1, hz2⟩ := info_parts info_int
  rcases hsrc.2 with ⟨rfl, hz⟩ | ⟨g, cap, cur, rfl, _⟩
  · obtain rfl : B = [] := List.eq_nil_of_length_eq_zero hz
    obtain ⟨a, c, rfl⟩ := owns_slice hown
    refine ⟨_, _, run_append_nothing w 47 47 ty 3 i0 Tryz.underlying47 hi0 a A.length c ?_ _ (Src.ofNil w Tryz.underlying47 0), by simpa using hown, ⟨rfl, rfl, rfl, Nat.le_refl _, fun _ _ _ => rfl⟩⟩
    rcases hown.2 with ⟨e, h0⟩ | ⟨_, _, _, e, _, _, h2, _⟩
    · injection e with _ h1 h2; omega
    · injection e with e1 e2 e3; omega
  · obtain ⟨v', w', hr, ho, hg, _⟩ := run_append_own (P := Tryz.prog) (w := w) base 47 ty 3 i0 _ 1 8 Tryz.underlying47 hi0 hz0 hz1 hz2 rfl (by decide) v A.length _ hown ⟨g, 0, none⟩ B.length cap (B.map (Value.int .i64)) (by simp) (fun j u hj => by
        rw [Addr.add_lit, Nat.zero_add, hsrc.cellAt j (by have := (List.getElem?_eq_some_iff.1 hj).1; simp at this; omega)]
        exact hj) (by intro u hu; obtain ⟨x, _, rfl⟩ := List.mem_map.1 hu; rfl) (by unfold maxLen; omega) (by omega) hb
    exact ⟨v', w', hr, by simpa using ho, hg⟩
/-- how many steps below the top -/
theorem InvT.dep_le {M : Mp} (h : InvT M) (x : Int) : dep M x ≤ 8 := by
  unfold dep
  cases e : lookM M x with
  | none => simp
  | some c => have := (h.ok _ _ e).d8; simp; omega

set_option maxRecDepth 100000 in
set_option maxHeartbeats 8000000 in
theorem tleaves_any : ∀ (n : Nat) (id : Int) (base g ma mu : Nat) (U : List (Int × Value)) (M : Mp) (w : World), (Lit.int .i64 id).wf = true → TreeX w base g ma mu U M → 9 ≤ dep M id + n →
    Calls Tryz.prog 22 #[.pointer (some ⟨g, 0, none⟩), .int .i64 id] w (IdsW w (leavesM M id))
  | 0, id, base, g, ma, mu, U, M, w, hid, h, hn => by have := h.inv.dep_le id; omega
  | n + 1, id, base, g, ma, mu, U, M, w, hid, h, hn => by
    have hget := tget_any id base g ma mu U M w hid h
    unfold GetW getS spV spC at hget
    have H := Lib.hid h
    have HN := Lib.hid hn
    clear h hn
    by_cases hleaf : ∃ c, lookM M id = some c ∧ c.1.lf = true
    · obtain ⟨c, hc, hl⟩ := hleaf
      have hlv := H.out.inv.leaves_leaf hc hl
      rw [hlv]
      rw [hc] at hget
      obtain ⟨⟨i1, pa, i3, ⟨F1, L1, R1⟩, ⟨F2, L2, R2⟩, ⟨F3, L3, R3⟩, i4, i5⟩, d⟩ := c
      dsimp only [Option.getD, Option.isSome] at hget hl
      subst hl
      clear hlv hc
      go_enter Tryz.func22, Tryz.ntmps22
      go_wp2_with fail
      refine hget.mono ?_
      clear hget
      rintro e w1 ⟨rfl, hb1⟩
      have hb2 := (Below.refl w1.heap.size w1).alloc (Nat.le_refl _) (.cells #[.int .i64 i1, .int .i64 pa, .bool true, .int .u64 F1, .int .u64 L1, .int .u64 R1, .int .u64 F2, .int .u64 L2, .int .u64 R2, .int .u64 F3, .int .u64 L3, .int .u64 R3, .int .i64 i4, .int .i64 i5] 36)
      have hX := Blk.new w1 36 #[.int .i64 i1, .int .i64 pa, .bool true, .int .u64 F1, .int .u64 L1, .int .u64 R1, .int .u64 F2, .int .u64 L2, .int .u64 R2, .int .u64 F3, .int .u64 L3, .int .u64 R3, .int .i64 i4, .int .i64 i5]
      have hw2 := hb1.trans (hb2.mono hb1.size)
      go_upto_region 2 with fail
      generalize w1.alloc (.cells #[.int .i64 i1, .int .i64 pa, .bool true, .int .u64 F1, .int .u64 L1, .int .u64 R1, .int .u64 F2, .int .u64 L2, .int .u64 R2, .int .u64 F3, .int .u64 L3, .int .u64 R3, .int .i64 i4, .int .i64 i5] 36) = w2 at hX hw2 ⊢
      have q2 := hX.cell 2
      simp only [List.getElem?_toArray, List.getElem?_cons_zero, List.getElem?_cons_succ] at q2
      have hb3 := (Below.refl w2.heap.size w2).alloc (Nat.le_refl _) (.cells #[.int .i64 id] 3)
      have k2 := Blk.new w2 3 #[.int .i64 id]
      have HB := Lib.hid (And.intro hw2 (And.intro hb3 k2))
      clear hw2 hb3 k2 hb2 hb1 hX
      go_wp2_with fail
      go_ret
      refine ⟨_, rfl, ?_, HB.out.1.trans (HB.out.2.1.mono HB.out.1.size)⟩
      exact row_ofList HB.out.2.2 (HB.out.1.size) (by simp) (by unfold maxLen; omega) (by simp) (fun k hk => by
        have : k = 0 := by simpa using hk
        subst this; rfl)
    · have hnl : ∀ c, lookM M id = some c → c.1.lf = false := fun c hc => by
        cases e : c.1.lf
        · rfl
        · exact absurd ⟨c, hc, e⟩ hleaf
      clear hleaf
      have hpick : ((((lookM M id).getD cl0).1.lf && (lookM M id).isSome) = false) := by
        cases e : lookM M id with
        | none => simp
        | some c => have := hnl c e; simp [this]
      have HNL := Lib.hid hnl
      clear hnl
      generalize hbs : (lookM M id).isSome = bs at hget hpick
      generalize hcc : (lookM M id).getD cl0 = c at hget hpick
      clear hbs hcc
      obtain ⟨⟨i1, pa, i3, ⟨F1, L1, R1⟩, ⟨F2, L2, R2⟩, ⟨F3, L3, R3⟩, i4, i5⟩, d⟩ := c
      dsimp only at hget hpick
      have hcase : bs = false ∨ (bs = true ∧ i3 = false) := by
        cases bs
        · exact .inl rfl
        · exact .inr ⟨rfl, by simpa using hpick⟩
      clear hpick
      rcases hcase with rfl | ⟨rfl, rfl⟩
      · go_enter Tryz.func22, Tryz.ntmps22
        go_wp2_with fail
        refine hget.mono ?_
        clear hget
        rintro e w1 ⟨rfl, hb1⟩
        have hb2 := (Below.refl w1.heap.size w1).alloc (Nat.le_refl _) (.cells #[.int .i64 i1, .int .i64 pa, .bool i3, .int .u64 F1, .int .u64 L1, .int .u64 R1, .int .u64 F2, .int .u64 L2, .int .u64 R2, .int .u64 F3, .int .u64 L3, .int .u64 R3, .int .i64 i4, .int .i64 i5] 36)
        have hX := Blk.new w1 36 #[.int .i64 i1, .int .i64 pa, .bool i3, .int .u64 F1, .int .u64 L1, .int .u64 R1, .int .u64 F2, .int .u64 L2, .int .u64 R2, .int .u64 F3, .int .u64 L3, .int .u64 R3, .int .i64 i4, .int .i64 i5]
        have hw2 := hb1.trans (hb2.mono hb1.size)
        go_upto_region 2 with fail
        generalize w1.alloc (.cells #[.int .i64 i1, .int .i64 pa, .bool i3, .int .u64 F1, .int .u64 L1, .int .u64 R1, .int .u64 F2, .int .u64 L2, .int .u64 R2, .int .u64 F3, .int .u64 L3, .int .u64 R3, .int .i64 i4, .int .i64 i5] 36) = w2 at hX hw2 ⊢
        have q2 := hX.cell 2
        simp only [List.getElem?_toArray, List.getElem?_cons_zero, List.getElem?_cons_succ] at q2
        have HW := Lib.hid (And.intro hw2 (H.out.later hw2))
        clear hw2 hb2 hb1 hX
        have hun := tunder_any id base g ma mu U M w2 hid HW.out.2
        obtain ⟨ks, hks⟩ : ∃ ks, kids M id = ks := ⟨_, rfl⟩
        rw [hks] at hun
        have hkl : ks.length ≤ 64 := by have := kids_len M id; have := H.out.inv.few; rw [← hks]; omega
        have HK := Lib.hid hks
        clear hks
        go_upto_region 5 with fail
        clear q2
        go_wp2_with fail
        refine hun.mono ?_
        clear hun
        rintro e w3 ⟨vk, rfl, hok, hb3⟩
        have hik := IntAt.of_owns hok (by omega)
        obtain ⟨ak, ck, rfl⟩ := hik.form
        obtain ⟨nk, hnk⟩ : ∃ n, n = ks.length := ⟨_, rfl⟩
        rw [← hnk] at hik hkl ⊢
        have hw3 := HW.out.1.trans (hb3.mono HW.out.1.size)
        have HL := Lib.hid hnk
        have H3 := Lib.hid (And.intro hw3 hik)
        clear hok hb3 hnk hw3 hik HW
        go_wp2_with fail
        go_loopw [7, 27] (fun v7 v27 W => ∃ i : Nat, v27 = .int .i64 i ∧ i ≤ nk ∧ W.ownsRow w3.heap.size 3 1 v7 (leavesL M (ks.take i)).length ((leavesL M (ks.take i)).map (Value.int .i64)) ∧ Below w3.heap.size w3 W) (fun _ v27 _ => (nk - Go.RowKit.intOf v27).toNat)
        case atStart => exact ⟨0, rfl, Nat.zero_le _, World.ownsRow_nil _ _ _ _, Below.refl _ _⟩
        case round =>
          obtain ⟨i, rfl, hi, ho, hb⟩ := hrel
          by_cases hlt : i < nk
          · obtain ⟨x, hx⟩ : ∃ x, ks[i]? = some x := ⟨_, List.getElem?_eq_getElem (by have := HL.out; omega)⟩
            have hik := H3.out.2.later hb
            obtain ⟨bk, ok, rfl⟩ := hik.some_ hx
            have hcx := (hik.cell hx).2.2
            have hnc := (hik.cell hx).2.1
            have hxk : x ∈ kids M id := by rw [HK.out]; exact List.mem_of_getElem? hx
            obtain ⟨cx, hcl, hpa⟩ := (mem_kids H.out.inv.rise).1 hxk
            have hxw : (Lit.int .i64 x).wf = true := by have o := H.out.inv.ok x cx hcl; rw [← o.id]; exact o.wf.1.1
            have hxd := H.out.inv.kid_dep hcl hpa
            have hbw := H3.out.1.trans (hb.mono H3.out.1.size)
            have hrec := tleaves_any n x base g ma mu U M wr hxw (H.out.later hbw) (by have := HN.out; omega)
            have HR := Lib.hid (And.intro hx (And.intro ho hb))
            clear hx hik hxk hcl hpa hxw hxd hbw ho hb
            go_wp2_with fail
            refine hrec.mono ?_
            clear hrec hcx
            rintro e w4 ⟨vl, rfl, hol, hb4⟩
            have hlen : (leavesL M (ks.take (i + 1))).length ≤ 64 := by
              rw [← HK.out]
              exact H.out.inv.leavesL_len id _ (fun k hk => List.mem_of_mem_take hk) (((kids_rising H.out.inv.rise id).imp (fun h => by omega)).sublist (List.take_sublist _ _))
            have htk : leavesL M (ks.take (i + 1)) = leavesL M (ks.take i) ++ leavesM M x := by
              rw [List.take_add_one, HR.out.1, ← leavesL_snoc]; rfl
            rw [htk] at hlen
            have hw4 := HR.out.2.2.trans (hb4.mono HR.out.2.2.size)
            obtain ⟨v', w', hr, ho', hg⟩ := app_row 47 (owns_laterH HR.out.2.1 hb4) hol hw4.size (by simp at hlen; omega) (by simp at hlen; omega)
            have hw5 := hw4.grown hg hw4.size fun k hk => (HR.out.2.1.lt k hk).1
            have HF := Lib.hid (And.intro htk (And.intro ho' hw5))
            clear hol hb4 hlen htk hw4 ho' hg hw5
            go_wp2_with (at_builtin; refine wpList_append_runH rfl _ _ _ rfl _ _ _ rfl rfl hr ?_; clear hr)
            go_roundw
            case measure => (simp [Go.RowKit.intOf]; try omega)
            case rel => exact ⟨i + 1, by go_num, by omega, by rw [HF.out.1]; exact HF.out.2.1, HF.out.2.2⟩
          · obtain rfl : i = nk := by omega
            have hfull : ks.take i = ks := List.take_of_length_le (by have := HL.out; omega)
            rw [hfull] at ho
            have hll : (leavesL M ks).length ≤ 64 := by
              rw [← HK.out]
              exact H.out.inv.leavesL_len id _ (fun k hk => hk) ((kids_rising H.out.inv.rise id).imp (fun h => by omega))
            have hs := sort_row _ _ _ wr ho (by omega)
            have HE := Lib.hid (And.intro ho hb)
            clear ho hb hfull hll
            go_wp2_with fail
            refine hs.mono ?_
            clear hs
            rintro e w5 ⟨l', rfl, hp, hsd, ho5, hg5⟩
            have hlv := H.out.inv.leaves_sorted HNL.out (by rw [HK.out]; exact hp) hsd
            subst hlv
            have HE2 := Lib.hid (And.intro ho5 (HE.out.2.grown hg5 HE.out.2.size fun k hk => (HE.out.1.lt k hk).1))
            clear hp hsd ho5 hg5
            go_wp2_with fail
            go_ret
            exact ⟨_, rfl, owns_baseH HE2.out.1 H3.out.1.size, H3.out.1.trans (HE2.out.2.mono H3.out.1.size)⟩
      · go_enter Tryz.func22, Tryz.ntmps22
        go_wp2_with fail
        refine hget.mono ?_
        clear hget
        rintro e w1 ⟨rfl, hb1⟩
        have hb2 := (Below.refl w1.heap.size w1).alloc (Nat.le_refl _) (.cells #[.int .i64 i1, .int .i64 pa, .bool false, .int .u64 F1, .int .u64 L1, .int .u64 R1, .int .u64 F2, .int .u64 L2, .int .u64 R2, .int .u64 F3, .int .u64 L3, .int .u64 R3, .int .i64 i4, .int .i64 i5] 36)
        have hX := Blk.new w1 36 #[.int .i64 i1, .int .i64 pa, .bool false, .int .u64 F1, .int .u64 L1, .int .u64 R1, .int .u64 F2, .int .u64 L2, .int .u64 R2, .int .u64 F3, .int .u64 L3, .int .u64 R3, .int .i64 i4, .int .i64 i5]
        have hw2 := hb1.trans (hb2.mono hb1.size)
        go_upto_region 2 with fail
        generalize w1.alloc (.cells #[.int .i64 i1, .int .i64 pa, .bool false, .int .u64 F1, .int .u64 L1, .int .u64 R1, .int .u64 F2, .int .u64 L2, .int .u64 R2, .int .u64 F3, .int .u64 L3, .int .u64 R3, .int .i64 i4, .int .i64 i5] 36) = w2 at hX hw2 ⊢
        have q2 := hX.cell 2
        simp only [List.getElem?_toArray, List.getElem?_cons_zero, List.getElem?_cons_succ] at q2
        have HW := Lib.hid (And.intro hw2 (H.out.later hw2))
        clear hw2 hb2 hb1 hX
        have hun := tunder_any id base g ma mu U M w2 hid HW.out.2
        obtain ⟨ks, hks⟩ : ∃ ks, kids M id = ks := ⟨_, rfl⟩
        rw [hks] at hun
        have hkl : ks.length ≤ 64 := by have := kids_len M id; have := H.out.inv.few; rw [← hks]; omega
        have HK := Lib.hid hks
        clear hks
        go_upto_region 5 with fail
        clear q2
        go_wp2_with fail
        refine hun.mono ?_
        clear hun
        rintro e w3 ⟨vk, rfl, hok, hb3⟩
        have hik := IntAt.of_owns hok (by omega)
        obtain ⟨ak, ck, rfl⟩ := hik.form
        obtain ⟨nk, hnk⟩ : ∃ n, n = ks.length := ⟨_, rfl⟩
        rw [← hnk] at hik hkl ⊢
        have hw3 := HW.out.1.trans (hb3.mono HW.out.1.size)
        have HL := Lib.hid hnk
        have H3 := Lib.hid (And.intro hw3 hik)
        clear hok hb3 hnk hw3 hik HW
        go_wp2_with fail
        go_loopw [7, 27] (fun v7 v27 W => ∃ i : Nat, v27 = .int .i64 i ∧ i ≤ nk ∧ W.ownsRow w3.heap.size 3 1 v7 (leavesL M (ks.take i)).length ((leavesL M (ks.take i)).map (Value.int .i64)) ∧ Below w3.heap.size w3 W) (fun _ v27 _ => (nk - Go.RowKit.intOf v27).toNat)
        case atStart => exact ⟨0, rfl, Nat.zero_le _, World.ownsRow_nil _ _ _ _, Below.refl _ _⟩
        case round =>
          obtain ⟨i, rfl, hi, ho, hb⟩ := hrel
          by_cases hlt : i < nk
          · obtain ⟨x, hx⟩ : ∃ x, ks[i]? = some x := ⟨_, List.getElem?_eq_getElem (by have := HL.out; omega)⟩
            have hik := H3.out.2.later hb
            obtain ⟨bk, ok, rfl⟩ := hik.some_ hx
            have hcx := (hik.cell hx).2.2
            have hnc := (hik.cell hx).2.1
            have hxk : x ∈ kids M id := by rw [HK.out]; exact List.mem_of_getElem? hx
            obtain ⟨cx, hcl, hpa⟩ := (mem_kids H.out.inv.rise).1 hxk
            have hxw : (Lit.int .i64 x).wf = true := by have o := H.out.inv.ok x cx hcl; rw [← o.id]; exact o.wf.1.1
            have hxd := H.out.inv.kid_dep hcl hpa
            have hbw := H3.out.1.trans (hb.mono H3.out.1.size)
            have hrec := tleaves_any n x base g ma mu U M wr hxw (H.out.later hbw) (by have := HN.out; omega)
            have HR := Lib.hid (And.intro hx (And.intro ho hb))
            clear hx hik hxk hcl hpa hxw hxd hbw ho hb
            go_wp2_with fail
            refine hrec.mono ?_
            clear hrec hcx
            rintro e w4 ⟨vl, rfl, hol, hb4⟩
            have hlen : (leavesL M (ks.take (i + 1))).length ≤ 64 := by
              rw [← HK.out]
              exact H.out.inv.leavesL_len id _ (fun k hk => List.mem_of_mem_take hk) (((kids_rising H.out.inv.rise id).imp (fun h => by omega)).sublist (List.take_sublist _ _))
            have htk : leavesL M (ks.take (i + 1)) = leavesL M (ks.take i) ++ leavesM M x := by
              rw [List.take_add_one, HR.out.1, ← leavesL_snoc]; rfl
            rw [htk] at hlen
            have hw4 := HR.out.2.2.trans (hb4.mono HR.out.2.2.size)
            obtain ⟨v', w', hr, ho', hg⟩ := app_row 47 (owns_laterH HR.out.2.1 hb4) hol hw4.size (by simp at hlen; omega) (by simp at hlen; omega)
            have hw5 := hw4.grown hg hw4.size fun k hk => (HR.out.2.1.lt k hk).1
            have HF := Lib.hid (And.intro htk (And.intro ho' hw5))
            clear hol hb4 hlen htk hw4 ho' hg hw5
            go_wp2_with (at_builtin; refine wpList_append_runH rfl _ _ _ rfl _ _ _ rfl rfl hr ?_; clear hr)
            go_roundw
            case measure => (simp [Go.RowKit.intOf]; try omega)
            case rel => exact ⟨i + 1, by go_num, by omega, by rw [HF.out.1]; exact HF.out.2.1, HF.out.2.2⟩
          · obtain rfl : i = nk := by omega
            have hfull : ks.take i = ks := List.take_of_length_le (by have := HL.out; omega)
            rw [hfull] at ho
            have hll : (leavesL M ks).length ≤ 64 := by
              rw [← HK.out]
              exact H.out.inv.leavesL_len id _ (fun k hk => hk) ((kids_rising H.out.inv.rise id).imp (fun h => by omega))
            have hs := sort_row _ _ _ wr ho (by omega)
            have HE := Lib.hid (And.intro ho hb)
            clear ho hb hfull hll
            go_wp2_with fail
            refine hs.mono ?_
            clear hs
            rintro e w5 ⟨l', rfl, hp, hsd, ho5, hg5⟩
            have hlv := H.out.inv.leaves_sorted HNL.out (by rw [HK.out]; exact hp) hsd
            subst hlv
            have HE2 := Lib.hid (And.intro ho5 (HE.out.2.grown hg5 HE.out.2.size fun k hk => (HE.out.1.lt k hk).1))
            clear hp hsd ho5 hg5
            go_wp2_with fail
            go_ret
            exact ⟨_, rfl, owns_baseH HE2.out.1 H3.out.1.size, H3.out.1.trans (HE2.out.2.mono H3.out.1.size)⟩
end Go.Proofs.YtclhhegfffccgaaGreat
