/-
  A tree of classes behind acts. (Printed by wip/mkhplayed.py.)
-/
import Derived.Test.YtclhhegfffccgaaHState
import Derived.Test.YtclhhegfffccgaaFlat
namespace Go.Proofs.Ytclhhegfffccgaa
set_option linter.unusedVariables false
open Go.RowKit Go.Maps
attribute [local go_sem ↓] Go.wp_at_zero Go.wp_at_succ
attribute [local go_sem] quietR quietAtR quietUponR midAt midUpon

def innS (id pa : Int) : Sp := ⟨id, pa, false, (0, 0, 0), (0, 0, 100), (0, 0, 0), 0, 0⟩
def leafS (id pa : Int) : Sp := ⟨id, pa, true, (0, 0, 0), (0, 0, 100), (0, 0, 0), 4, 4000⟩
set_option maxRecDepth 100000 in
theorem inner_any (id pa : Int) (w : World) : Calls Try.prog 51 #[.int .i64 id, .int .i64 pa] w fun e w' => e = .returned (spV (innS id pa)) ∧ Below w.heap.size w w' := by
  unfold spV spC innS
  dsimp only
  go_enter Try.func51, Try.ntmps51
  go_wp2_with fail
  have hE := Blk.new w 46 #[.int .i64 id, .int .i64 pa, .bool false, .int .u64 0, .int .u64 0, .int .u64 0, .int .u64 0, .int .u64 0, .int .u64 100, .int .u64 0, .int .u64 0, .int .u64 0, .int .i64 0, .int .i64 0]
  have q0 := hE.cell 0; have q1 := hE.cell 1; have q2 := hE.cell 2; have q3 := hE.cell 3; have q4 := hE.cell 4; have q5 := hE.cell 5; have q6 := hE.cell 6; have q7 := hE.cell 7; have q8 := hE.cell 8; have q9 := hE.cell 9; have q10 := hE.cell 10; have q11 := hE.cell 11; have q12 := hE.cell 12; have q13 := hE.cell 13
  simp only [List.getElem?_toArray, List.getElem?_cons_zero, List.getElem?_cons_succ] at q0 q1 q2 q3 q4 q5 q6 q7 q8 q9 q10 q11 q12 q13
  refine bodyPost_ret (v := .agg #[.int .i64 id, .int .i64 pa, .bool false, .int .u64 0, .int .u64 0, .int .u64 0, .int .u64 0, .int .u64 0, .int .u64 100, .int .u64 0, .int .u64 0, .int .u64 0, .int .i64 0, .int .i64 0]) (by simp [results, Try.results51, go_sem, q0, q1, q2, q3, q4, q5, q6, q7, q8, q9, q10, q11, q12, q13]) rfl ⟨rfl, (Below.refl w.heap.size w).alloc (Nat.le_refl _) _⟩
set_option maxRecDepth 100000 in
theorem leaf_any (id pa : Int) (w : World) : Calls Try.prog 52 #[.int .i64 id, .int .i64 pa] w fun e w' => e = .returned (spV (leafS id pa)) ∧ Below w.heap.size w w' := by
  unfold spV spC leafS
  dsimp only
  go_enter Try.func52, Try.ntmps52
  go_wp2_with fail
  have hE := Blk.new w 46 #[.int .i64 id, .int .i64 pa, .bool true, .int .u64 0, .int .u64 0, .int .u64 0, .int .u64 0, .int .u64 0, .int .u64 100, .int .u64 0, .int .u64 0, .int .u64 0, .int .i64 4, .int .i64 4000]
  have q0 := hE.cell 0; have q1 := hE.cell 1; have q2 := hE.cell 2; have q3 := hE.cell 3; have q4 := hE.cell 4; have q5 := hE.cell 5; have q6 := hE.cell 6; have q7 := hE.cell 7; have q8 := hE.cell 8; have q9 := hE.cell 9; have q10 := hE.cell 10; have q11 := hE.cell 11; have q12 := hE.cell 12; have q13 := hE.cell 13
  simp only [List.getElem?_toArray, List.getElem?_cons_zero, List.getElem?_cons_succ] at q0 q1 q2 q3 q4 q5 q6 q7 q8 q9 q10 q11 q12 q13
  refine bodyPost_ret (v := .agg #[.int .i64 id, .int .i64 pa, .bool true, .int .u64 0, .int .u64 0, .int .u64 0, .int .u64 0, .int .u64 0, .int .u64 100, .int .u64 0, .int .u64 0, .int .u64 0, .int .i64 4, .int .i64 4000]) (by simp [results, Try.results52, go_sem, q0, q1, q2, q3, q4, q5, q6, q7, q8, q9, q10, q11, q12, q13]) rfl ⟨rfl, (Below.refl w.heap.size w).alloc (Nat.le_refl _) _⟩
def aM1 : Mp := [(1, (innS 1 0, 1))]
def aM2 : Mp := [(1, (innS 1 0, 1)), (2, (leafS 2 1, 2))]
def aM3 : Mp := [(1, (innS 1 0, 1)), (2, (leafS 2 1, 2)), (3, (leafS 3 1, 2))]
theorem wf_inn (id pa : Int) (h1 : (Lit.int .i64 id).wf = true) (h2 : (Lit.int .i64 pa).wf = true) : WfSp (innS id pa) := ⟨⟨h1, h2, (show (Lit.int .i64 0).wf = true by decide), (show (Lit.int .i64 0).wf = true by decide)⟩, (show UC ((0, 0, 0) : Cv) by unfold UC U; decide), (show UC ((0, 0, 100) : Cv) by unfold UC U; decide), (show UC ((0, 0, 0) : Cv) by unfold UC U; decide)⟩
theorem wf_leaf (id pa : Int) (h1 : (Lit.int .i64 id).wf = true) (h2 : (Lit.int .i64 pa).wf = true) : WfSp (leafS id pa) := ⟨⟨h1, h2, (show (Lit.int .i64 4).wf = true by decide), (show (Lit.int .i64 4000).wf = true by decide)⟩, (show UC ((0, 0, 0) : Cv) by unfold UC U; decide), (show UC ((0, 0, 100) : Cv) by unfold UC U; decide), (show UC ((0, 0, 0) : Cv) by unfold UC U; decide)⟩
theorem a1 : addM [] (innS 1 0) = (0, aM1) := by kernel_rfl
theorem a2 : addM aM1 (leafS 2 1) = (0, aM2) := by kernel_rfl
theorem a3 : addM aM2 (leafS 3 1) = (0, aM3) := by kernel_rfl
theorem a4 : addM aM3 (leafS 2 0) = (80, aM3) := by kernel_rfl
theorem a5 : addM aM3 (leafS 4 2) = (160, aM3) := by kernel_rfl
theorem a6 : dropM aM3 1 = (161, aM3) := by kernel_rfl
theorem a7 : pathM aM3 3 = [3, 1] := by kernel_rfl
theorem a8 : kids aM3 1 = [2, 3] := by kernel_rfl
theorem a9 : dropM aM3 3 = (0, aM2) := by kernel_rfl
theorem a10 : dropM aM2 3 = (81, aM2) := by kernel_rfl

set_option maxRecDepth 100000 in
set_option maxHeartbeats 4000000 in
theorem hawake_any (w : World) : Calls Try.prog 19 #[] w fun e w' => e = .returned (.bool true) ∧ Below w.heap.size w w' := by
  go_enter Try.func19, Try.ntmps19
  go_wp2_with fail
  refine (tnewS w).mono ?_
  rintro e w1 ⟨g, ma, mu, rfl, hT⟩
  have H := Lib.hid hT
  clear hT
  obtain ⟨base, hbase⟩ : ∃ b, b = w.heap.size := ⟨_, rfl⟩
  have H0 := H
  clear H
  have H := Lib.hid (show TS w w1 base g ma mu [] by rw [hbase]; exact H0.out)
  clear H0 hbase
  go_wp2_with fail
  refine (inner_any 1 0 _).mono ?_
  rintro e W1 ⟨rfl, hb⟩
  have H2 := Lib.hid (H.out.later hb)
  clear hb H
  have H := Lib.hid H2.out
  clear H2
  have ha := H.out.add (innS 1 0) (wf_inn 1 0 (by decide) (by decide))
  rw [a1] at ha
  go_wp2_with fail
  refine ha.mono ?_
  clear ha H
  rintro e W1 ⟨rfl, hT⟩
  have H := Lib.hid hT
  clear hT
  go_wp2_with fail
  refine (leaf_any 2 1 _).mono ?_
  rintro e W1 ⟨rfl, hb⟩
  have H2 := Lib.hid (H.out.later hb)
  clear hb H
  have H := Lib.hid H2.out
  clear H2
  have ha := H.out.add (leafS 2 1) (wf_leaf 2 1 (by decide) (by decide))
  rw [a2] at ha
  go_wp2_with fail
  refine ha.mono ?_
  clear ha H
  rintro e W1 ⟨rfl, hT⟩
  have H := Lib.hid hT
  clear hT
  go_wp2_with fail
  refine (leaf_any 3 1 _).mono ?_
  rintro e W1 ⟨rfl, hb⟩
  have H2 := Lib.hid (H.out.later hb)
  clear hb H
  have H := Lib.hid H2.out
  clear H2
  have ha := H.out.add (leafS 3 1) (wf_leaf 3 1 (by decide) (by decide))
  rw [a3] at ha
  go_wp2_with fail
  refine ha.mono ?_
  clear ha H
  rintro e W1 ⟨rfl, hT⟩
  have H := Lib.hid hT
  clear hT
  go_wp2_with fail
  refine (leaf_any 2 0 _).mono ?_
  rintro e W1 ⟨rfl, hb⟩
  have H2 := Lib.hid (H.out.later hb)
  clear hb H
  have H := Lib.hid H2.out
  clear H2
  have ha := H.out.add (leafS 2 0) (wf_leaf 2 0 (by decide) (by decide))
  rw [a4] at ha
  go_wp2_with fail
  refine ha.mono ?_
  clear ha H
  rintro e W1 ⟨rfl, hT⟩
  have H := Lib.hid hT
  clear hT
  go_wp2_with fail
  refine (leaf_any 4 2 _).mono ?_
  rintro e W1 ⟨rfl, hb⟩
  have H2 := Lib.hid (H.out.later hb)
  clear hb H
  have H := Lib.hid H2.out
  clear H2
  have ha := H.out.add (leafS 4 2) (wf_leaf 4 2 (by decide) (by decide))
  rw [a5] at ha
  go_wp2_with fail
  refine ha.mono ?_
  clear ha H
  rintro e W1 ⟨rfl, hT⟩
  have H := Lib.hid hT
  clear hT
  have ha := H.out.drop 1 (by decide)
  rw [a6] at ha
  go_wp2_with fail
  refine ha.mono ?_
  clear ha H
  rintro e W1 ⟨rfl, hT⟩
  have H := Lib.hid hT
  clear hT
  have ha := H.out.path 3 (by decide)
  rw [a7] at ha
  go_wp2_with fail
  refine ha.mono ?_
  clear ha
  rintro e W1 ⟨v, rfl, ho, hb⟩
  have hb2 := (Below.refl W1.heap.size W1).alloc (Nat.le_refl _) (.cells #[.int .i64 3, .int .i64 1] 3)
  have hs := same16_any v (.slice (some ⟨W1.heap.size, 0, none⟩) 2 2) [3, 1] _ ((IntAt.of_owns ho (by simp)).later hb2) (int_two (Blk.new W1 3 _))
  have H2 := Lib.hid ((H.out.later hb).later hb2)
  clear hb hb2 ho H
  go_wp2_with fail
  refine hs.mono ?_
  clear hs
  rintro e W2 ⟨rfl, hb⟩
  have H := Lib.hid (H2.out.later hb)
  clear hb H2
  have ha := H.out.under 1 (by decide)
  rw [a8] at ha
  go_wp2_with fail
  refine ha.mono ?_
  clear ha
  rintro e W1 ⟨v, rfl, ho, hb⟩
  have hb2 := (Below.refl W1.heap.size W1).alloc (Nat.le_refl _) (.cells #[.int .i64 2, .int .i64 3] 3)
  have hs := same16_any v (.slice (some ⟨W1.heap.size, 0, none⟩) 2 2) [2, 3] _ ((IntAt.of_owns ho (by simp)).later hb2) (int_two (Blk.new W1 3 _))
  have H2 := Lib.hid ((H.out.later hb).later hb2)
  clear hb hb2 ho H
  go_wp2_with fail
  refine hs.mono ?_
  clear hs
  rintro e W2 ⟨rfl, hb⟩
  have H := Lib.hid (H2.out.later hb)
  clear hb H2
  have ha := H.out.drop 3 (by decide)
  rw [a9] at ha
  go_wp2_with fail
  refine ha.mono ?_
  clear ha H
  rintro e W1 ⟨rfl, hT⟩
  have H := Lib.hid hT
  clear hT
  have ha := H.out.drop 3 (by decide)
  rw [a10] at ha
  go_wp2_with fail
  refine ha.mono ?_
  clear ha H
  rintro e W1 ⟨rfl, hT⟩
  have H := Lib.hid hT
  clear hT
  have hl := H.out.len
  go_wp2_with fail
  refine hl.mono ?_
  clear hl
  rintro e W1 ⟨rfl, hb⟩
  have H2 := Lib.hid (H.out.later hb)
  clear hb H
  go_wp2_with fail
  go_ret
  exact ⟨rfl, H2.out.below⟩
set_option linter.unusedVariables false
open Go.RowKit Go.Maps
attribute [local go_sem ↓] Go.wp_at_zero Go.wp_at_succ
attribute [local go_sem] quietR quietAtR quietUponR midAt midUpon

/-- an act -/
structure HAct where
  k : Int
  s : Sp
instance : Inhabited Sp := ⟨sp0⟩
instance : Inhabited HAct := ⟨⟨0, sp0⟩⟩
def rowH (q : HAct) : List Value := .int .u8 q.k :: (spC q.s).toList
def HFit (q : HAct) : Prop := (0 ≤ q.k ∧ q.k ≤ 255) ∧ WfSp q.s
def HActsAt (w : World) (a : Option Addr) (len : Nat) (z : List HAct) : Prop :=
  z.length = len ∧ (∀ q ∈ z, HFit q) ∧ (len = 0 ∨ ∃ b off, a = some ⟨b, off, none⟩ ∧ b < w.heap.size ∧ ∀ i q, z[i]? = some q → ∀ j v, (rowH q)[j]? = some v → w.cell? ⟨b, off + i * 15 + j, none⟩ = some v)
theorem HActsAt.below {w w' : World} {a : Option Addr} {len : Nat} {z : List HAct} (h : HActsAt w a len z) (hb : Below w.heap.size w w') : HActsAt w' a len z := by
  obtain ⟨h1, h2, h3⟩ := h
  refine ⟨h1, h2, ?_⟩
  rcases h3 with h3 | ⟨b, off, e, hl, hc⟩
  · exact .inl h3
  · exact .inr ⟨b, off, e, Nat.lt_of_lt_of_le hl hb.size, fun i q hq j v hv => (hb.cell (p := ⟨b, _, none⟩) hl).trans (hc i q hq j v hv)⟩
theorem u8_wf {n : Int} (h : (Lit.int .u8 n).wf = true) : 0 ≤ n ∧ n ≤ 255 := by
  simp [Lit.wf, IntKind.min, IntKind.max, IntKind.signed, IntKind.bits] at h
  exact ⟨h.1, by omega⟩
theorem u64_U {n : Int} (h : (Lit.int .u64 n).wf = true) : U n := by
  simp [Lit.wf, IntKind.min, IntKind.max, IntKind.signed, IntKind.bits] at h
  unfold U
  omega
theorem hrow_of {row : List Value} (f0 : KindsFit [some .u8, some .i64, some .i64, none, some .u64, some .u64, some .u64, some .u64, some .u64, some .u64, some .u64, some .u64, some .u64, some .i64, some .i64] row) : ∃ q : HAct, row = rowH q ∧ HFit q := by
  obtain ⟨x0, r0, rfl, w0, f1⟩ := kinds_cons f0
  obtain ⟨x1, r1, rfl, w1, f2⟩ := kinds_cons f1
  obtain ⟨x2, r2, rfl, w2, f3⟩ := kinds_cons f2
  obtain ⟨x3, r3, rfl, f4⟩ := kinds_bool f3
  obtain ⟨x4, r4, rfl, w4, f5⟩ := kinds_cons f4
  obtain ⟨x5, r5, rfl, w5, f6⟩ := kinds_cons f5
  obtain ⟨x6, r6, rfl, w6, f7⟩ := kinds_cons f6
  obtain ⟨x7, r7, rfl, w7, f8⟩ := kinds_cons f7
  obtain ⟨x8, r8, rfl, w8, f9⟩ := kinds_cons f8
  obtain ⟨x9, r9, rfl, w9, f10⟩ := kinds_cons f9
  obtain ⟨x10, r10, rfl, w10, f11⟩ := kinds_cons f10
  obtain ⟨x11, r11, rfl, w11, f12⟩ := kinds_cons f11
  obtain ⟨x12, r12, rfl, w12, f13⟩ := kinds_cons f12
  obtain ⟨x13, r13, rfl, w13, f14⟩ := kinds_cons f13
  obtain ⟨x14, r14, rfl, w14, f15⟩ := kinds_cons f14
  obtain rfl := kinds_nil f15
  exact ⟨⟨x0, ⟨x1, x2, x3, (x4, x5, x6), (x7, x8, x9), (x10, x11, x12), x13, x14⟩⟩, rfl, u8_wf w0, ⟨w1, w2, w13, w14⟩, ⟨u64_U w4, u64_U w5, u64_U w6⟩, ⟨u64_U w7, u64_U w8, u64_U w9⟩, ⟨u64_U w10, u64_U w11, u64_U w12⟩⟩
theorem hacts_of {w : World} {a : Option Addr} {len cap : Nat} {z : List (List Value)} (h : IsRows [some .u8, some .i64, some .i64, none, some .u64, some .u64, some .u64, some .u64, some .u64, some .u64, some .u64, some .u64, some .u64, some .i64, some .i64] w a len cap z) :
    len ≤ 9223372036854775807 ∧ ∃ l : List HAct, HActsAt w a len l := by
  obtain ⟨h1, h2, h3, h4, h5⟩ := h
  have h2' : cap ≤ 9223372036854775807 := by unfold maxLen at h2; exact h2
  refine ⟨Nat.le_trans h1 h2', ?_⟩
  obtain ⟨l, hl, hr⟩ := list_of (fun i (q : HAct) => z[i]? = some (rowH q) ∧ HFit q) len (fun i hi => by
    obtain ⟨q, e, hf⟩ := hrow_of (h4 _ (List.getElem_mem (l := z) (n := i) (by omega)))
    exact ⟨q, by rw [List.getElem?_eq_getElem (by omega), e], hf⟩)
  refine ⟨l, hl, fun q hq => ?_, ?_⟩
  · obtain ⟨i, hi, rfl⟩ := List.mem_iff_getElem.1 hq
    exact (hr i _ (List.getElem?_eq_getElem hi)).2
  · rcases h5 with h5 | ⟨b, off, e, hb, hc⟩
    · exact .inl h5
    · exact .inr ⟨b, off, e, hb, fun i q hq j v hv => by rw [Nat.add_assoc]; exact hc i _ (hr i q hq).1 j v hv⟩
theorem hlong_any (a : Option Addr) (len cap : Nat) (w : World) (hl : len ≤ 9223372036854775807) :
    Calls Try.prog 20 #[.slice a len cap] w fun e w' => e = .returned (.bool (decide (150 < len))) ∧ w = w' := by
  have e : decide ((150 : Int) < (len : Int)) = decide (150 < len) := decide_eq_decide.2 (by omega)
  have E := Lib.hid e
  clear e
  go_enter Try.func20, Try.ntmps20
  go_wp2
  go_ret
  exact ⟨by rw [← E.out]; rfl, rfl⟩
noncomputable def stepH (M : Mp) (q : HAct) : Mp := if q.k % 4 = 0 then (addM M q.s).2 else if q.k % 4 = 1 then (changeM M q.s).2 else if q.k % 4 = 2 then (dropM M q.s.id).2 else M
noncomputable def playH (z : List HAct) : Mp := z.foldl stepH []
theorem playH_snoc {z : List HAct} {i : Nat} {q : HAct} (h : z[i]? = some q) : playH (z.take (i + 1)) = stepH (playH (z.take i)) q := by
  unfold playH
  rw [List.take_add_one, h]
  simp
def PlayedW (w : World) (z : List HAct) (e : Ending) (w' : World) : Prop := ∃ g ma mu, e = .returned (.pointer (some ⟨g, 0, none⟩)) ∧ TS w w' w.heap.size g ma mu (playH z)

set_option maxRecDepth 100000 in
set_option maxHeartbeats 4000000 in
theorem hplayed_any (a0 : Option Addr) (cap : Nat) (z : List HAct) (w : World) (hz : HActsAt w a0 z.length z) (hlen : z.length ≤ 150) :
    Calls Try.prog 21 #[.slice a0 z.length cap] w (PlayedW w z) := by
  have HZ := Lib.hid hz
  clear hz
  go_enter Try.func21, Try.ntmps21
  go_wp2_with fail
  refine (tnewS w).mono ?_
  rintro e w2 ⟨g, ma, mu, rfl, hT⟩
  have HT := Lib.hid hT
  clear hT
  go_wp2_with fail
  go_loopw [4] (fun v4 W => ∃ i : Nat, v4 = .int .i64 i ∧ i ≤ z.length ∧ TS w W w.heap.size g ma mu (playH (z.take i))) (fun v4 _ => (z.length - Go.RowKit.intOf v4).toNat)
  case atStart => exact ⟨0, rfl, Nat.zero_le _, HT.out⟩
  case round =>
    obtain ⟨i, rfl, hi, hts⟩ := hrel
    by_cases hlt : i < z.length
    · obtain ⟨_, hzu, hzc⟩ := HZ.out.below hts.below
      obtain ⟨b, off, rfl, hbl, hcl⟩ := hzc.resolve_left (by omega)
      obtain ⟨q, hq⟩ : ∃ q, z[i]? = some q := ⟨_, List.getElem?_eq_getElem hlt⟩
      have hfit := hzu q (List.mem_of_getElem? hq)
      have hsn := playH_snoc hq
      have hcq := hcl i q hq
      generalize playH (z.take i) = M at hts hsn
      obtain ⟨k, s⟩ := q
      obtain ⟨⟨hk0, hk1⟩, hws⟩ := hfit
      dsimp only at hk0 hk1 hws
      have c0 := hcq 0 _ rfl; have c1 := hcq 1 _ rfl; have c2 := hcq 2 _ rfl; have c3 := hcq 3 _ rfl; have c4 := hcq 4 _ rfl; have c5 := hcq 5 _ rfl; have c6 := hcq 6 _ rfl; have c7 := hcq 7 _ rfl; have c8 := hcq 8 _ rfl; have c9 := hcq 9 _ rfl; have c10 := hcq 10 _ rfl; have c11 := hcq 11 _ rfl; have c12 := hcq 12 _ rfl; have c13 := hcq 13 _ rfl; have c14 := hcq 14 _ rfl
      simp only [Nat.add_zero] at c0
      dsimp only at c0 c1 c2 c3 c4 c5 c6 c7 c8 c9 c10 c11 c12 c13 c14
      have HTS := Lib.hid hts; have HSN := Lib.hid hsn; have HWS := Lib.hid hws
      clear hzu hzc hcl hq hcq hts hsn hws
      obtain ⟨kk, hkk⟩ : ∃ kk, k % 4 = kk := ⟨_, rfl⟩
      have hq1 : 0 ≤ kk := by omega
      have hq2 : kk < 4 := by omega
      have HKK := Lib.hid hkk
      rcases (by omega : kk = 0 ∨ kk = 1 ∨ kk = 2 ∨ kk = 3) with rfl | rfl | rfl | rfl
      · have HST := Lib.hid (show stepH M ⟨k, s⟩ = (addM M s).2 by unfold stepH; rw [if_pos HKK.out])
        have ha := HTS.out.add s HWS.out
        unfold spV spC at ha
        go_wp2_with fail
        refine ha.mono ?_
        clear ha hkk c0 c1 c2 c3 c4 c5 c6 c7 c8 c9 c10 c11 c12 c13 c14 HTS
        rintro e w3 ⟨rfl, hT⟩
        have HF := Lib.hid hT
        clear hT
        go_wp2_with fail
        go_roundw
        case measure => (simp [Go.RowKit.intOf]; try omega)
        case rel => exact ⟨i + 1, by go_num, by omega, by rw [HSN.out, HST.out]; exact HF.out⟩
      · have HST := Lib.hid (show stepH M ⟨k, s⟩ = (changeM M s).2 by unfold stepH; rw [if_neg (by rw [HKK.out]; decide), if_pos HKK.out])
        have ha := HTS.out.change s HWS.out
        unfold spV spC at ha
        go_wp2_with fail
        refine ha.mono ?_
        clear ha hkk c0 c1 c2 c3 c4 c5 c6 c7 c8 c9 c10 c11 c12 c13 c14 HTS
        rintro e w3 ⟨rfl, hT⟩
        have HF := Lib.hid hT
        clear hT
        go_wp2_with fail
        go_roundw
        case measure => (simp [Go.RowKit.intOf]; try omega)
        case rel => exact ⟨i + 1, by go_num, by omega, by rw [HSN.out, HST.out]; exact HF.out⟩
      · have HST := Lib.hid (show stepH M ⟨k, s⟩ = (dropM M s.id).2 by unfold stepH; rw [if_neg (by rw [HKK.out]; decide), if_neg (by rw [HKK.out]; decide), if_pos HKK.out])
        have ha := HTS.out.drop s.id HWS.out.1.1
        go_wp2_with fail
        refine ha.mono ?_
        clear ha hkk c0 c1 c2 c3 c4 c5 c6 c7 c8 c9 c10 c11 c12 c13 c14 HTS
        rintro e w3 ⟨rfl, hT⟩
        have HF := Lib.hid hT
        clear hT
        go_wp2_with fail
        go_roundw
        case measure => (simp [Go.RowKit.intOf]; try omega)
        case rel => exact ⟨i + 1, by go_num, by omega, by rw [HSN.out, HST.out]; exact HF.out⟩
      · have HST := Lib.hid (show stepH M ⟨k, s⟩ = M by unfold stepH; rw [if_neg (by rw [HKK.out]; decide), if_neg (by rw [HKK.out]; decide), if_neg (by rw [HKK.out]; decide)])
        go_wp2_with fail
        go_roundw
        case measure => (simp [Go.RowKit.intOf]; try omega)
        case rel => exact ⟨i + 1, by go_num, by omega, by rw [HSN.out, HST.out]; exact HTS.out⟩
    · obtain rfl : i = z.length := by omega
      rw [List.take_length] at hts
      have HE := Lib.hid hts
      clear hts
      go_wp2_with fail
      go_ret
      exact ⟨g, ma, mu, rfl, HE.out⟩
end Go.Proofs.Ytclhhegfffccgaa
