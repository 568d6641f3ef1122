/-
  The counters: what is told of a packet, one method each.
-/
import Derived.Test.YtclhhegfffccgaaCountTell
namespace Go.Proofs.Ytclhhegfffccgaa
set_option linter.unusedVariables false
open Go.RowKit
attribute [local go_sem ↓] Go.wp_at_zero Go.wp_at_succ
attribute [local go_sem] quietR quietAtR quietUponR midAt midUpon

def cameL (n : Int) : List Stp := [(0, 1, false), (6, 1, false), (7, max n 0, false)]
def refusedL : List Stp := [(1, 1, false)]
def chosenL (n r : Int) : List Stp := [(if r = 1 then 4 else 5, max n 0, false), (6, 1, true), (7, max n 0, true)]
def throughL (n : Int) : List Stp := [(2, 1, false), (3, max n 0, false)]
theorem okL_came {n : Int} (h : n < 18446744073709551616) : OkL (cameL n) := by
  intro p hp
  simp only [cameL, List.mem_cons, List.not_mem_nil, or_false] at hp
  rcases hp with rfl | rfl | rfl <;> simp <;> omega
theorem okL_refused : OkL refusedL := by
  intro p hp
  simp only [refusedL, List.mem_cons, List.not_mem_nil, or_false] at hp
  subst hp; simp
theorem okL_chosen {n r : Int} (h : n < 18446744073709551616) : OkL (chosenL n r) := by
  intro p hp
  simp only [chosenL, List.mem_cons, List.not_mem_nil, or_false] at hp
  rcases hp with rfl | rfl | rfl
  · refine ⟨?_, ?_, ?_⟩
    · show (if r = 1 then 4 else 5) < 8
      split <;> omega
    · show 0 ≤ max n 0; omega
    · show max n 0 < _; omega
  · simp
  · refine ⟨by simp, ?_, ?_⟩
    · show 0 ≤ max n 0; omega
    · show max n 0 < _; omega
theorem okL_through {n : Int} (h : n < 18446744073709551616) : OkL (throughL n) := by
  intro p hp
  simp only [throughL, List.mem_cons, List.not_mem_nil, or_false] at hp
  rcases hp with rfl | rfl <;> simp <;> omega

theorem TellAt.of {w w1 W : World} {g m : Nat} {B : Bk} (h : TellAt w1 g m B W) (hb : w.grownBy w1 none) : TellAt w g m B W :=
  ⟨h.book, ⟨h.grown.os.trans hb.os, h.grown.tape.trans hb.tape, h.grown.output.trans hb.output, Nat.le_trans hb.size h.grown.size,
    fun k hk hne => (h.grown.block k (Nat.lt_of_lt_of_le hk hb.size) hne).trans (hb.block k hk (by simp))⟩⟩

/-- a packet as a value -/
abbrev pktV (i c n t : Int) : Value := .agg #[.int .u64 i, .int .i64 c, .int .i64 n, .int .u64 t]

set_option maxRecDepth 100000 in
set_option maxHeartbeats 1000000 in
theorem refused_any (g m : Nat) (B : Bk) (c : Int) (w : World) (h : BookAt w g m B) (hc : (Lit.int .i64 c).wf = true) (hn : B.length < 1000000) :
    Calls Try.prog 10 #[.pointer (some ⟨g, 0, none⟩), .int .i64 c] w fun e w' => e = .returned (.tuple #[]) ∧ TellAt w g m (tellB B c refusedL) w' := by
  have hb := Blk.new w 67 (stepC refusedL).toArray
  have hm := h.map.lt
  have hcon := tell_any g m w.heap.size 1 B c refusedL _ (h.grown (World.grownBy_alloc w (.cells (stepC refusedL).toArray 67) none)) okL_refused (by decide) hc hn hb (by omega)
  have hcon := hcon.mono (fun e W hh => (⟨hh.1, hh.2.of (World.grownBy_alloc w _ none)⟩ : e = .returned (.tuple #[]) ∧ TellAt w g m (tellB B c refusedL) W))
  clear hb
  go_enter Try.func10, Try.ntmps10
  go_wp2_with (go_at_call 31; refine hcon.mono ?_; rintro e w' ⟨rfl, hT⟩)
  go_returns
  exact ⟨rfl, hT⟩

set_option maxRecDepth 100000 in
set_option maxHeartbeats 1000000 in
theorem came_core (v : Value) (R : World → Prop) (i c n t : Int) (w : World) (hw : (Lit.int .i64 n).wf = true)
    (h : ∀ W b, w.grownBy W none → w.heap.size ≤ b → Blk W b 67 (stepC (cameL n)).toArray → Calls Try.prog 31 #[v, .int .i64 c, .slice (some ⟨b, 0, none⟩) 3 3] W fun e w' => e = .returned (.tuple #[]) ∧ R w') :
    Calls Try.prog 8 #[v, pktV i c n t] w fun e w' => e = .returned (.tuple #[]) ∧ R w' := by
  have hr := i64_wf hw
  have H := Lib.hid h
  clear h
  go_enter Try.func8, Try.ntmps8
  go_wp2
  have hP := Blk.new w 24 #[.int .u64 i, .int .i64 c, .int .i64 n, .int .u64 t]
  have hg := World.grownBy_alloc w (.cells #[.int .u64 i, .int .i64 c, .int .i64 n, .int .u64 t] 24) none
  generalize w.alloc (.cells #[.int .u64 i, .int .i64 c, .int .i64 n, .int .u64 t] 24) = W at hP hg ⊢
  have o0 := fun e => (over_cell (w := W) (e := e) (o := 0) hP.lt).trans (hP.cell 0)
  have o1 := fun e => (over_cell (w := W) (e := e) (o := 1) hP.lt).trans (hP.cell 1)
  have o2 := fun e => (over_cell (w := W) (e := e) (o := 2) hP.lt).trans (hP.cell 2)
  have o3 := fun e => (over_cell (w := W) (e := e) (o := 3) hP.lt).trans (hP.cell 3)
  simp only [List.getElem?_toArray, List.getElem?_cons_zero, List.getElem?_cons_succ] at o0 o1 o2 o3
  refine wp_region_mid (w := W) 9 1 [8] [] [(8, fun u W' => ∃ b, u = .slice (some ⟨b, 0, none⟩) 3 3 ∧ W.heap.size ≤ b ∧ Blk W' b 67 (stepC (cameL n)).toArray)] rfl (by kernel_rfl) (by kernel_rfl) (by kernel_rfl) (by kernel_rfl) (fun _ _ _ _ _ h => h) ⟨?st1, trivial⟩ ?_
  case st1 => exact fun v W1 W2 ⟨b, h1, h2, h3⟩ hb => ⟨b, h1, h2, h3.below hb h3.lt⟩
  intro L hL
  have HL := Lib.hid hL
  clear hL
  simp only [List.take_succ_cons, List.take_zero, putL]
  repeat (first | refine wpHead_skip (by decide) ?_ | (refine wpHead_step (by decide) (fun K hK => ?_); go_simp; first | (refine hK _ ?_; clear hK K) | (apply Exists.intro; refine ⟨fun _ => ?_, hK _ ?_⟩; (focus (go_at_call 35; exact bytes_any _ _ _ _ _ hw)); clear hK K)))
  refine wpHead_nil (HL.out _ ⟨?_, trivial⟩ ?_)
  · intro vs W2 hb2 hf
    clear hf HL
    change midAt _ _ (Act.put _ (some 12) (vs 8)) _ _
    go_simp
    exact ⟨(Below.refl _ _).alloc (Nat.le_refl _) _, hb2.size, Blk.new _ _ _⟩
  · intro vs W2 hb2 hf
    obtain ⟨⟨b1, hf2, hbb, hf3⟩, hff⟩ := hf
    clear hff HL o0 o1 o2 o3
    change wpList _ _ _ _ (Act.put _ (some 12) (vs 8)) _
    rw [hf2]
    clear hf2
    simp only [List.drop_succ_cons, List.drop_zero, List.take_succ_cons, List.take_zero]
    have hg2 := hg.trans (grown_none hb2)
    have hcon := H.out W2 b1 hg2 (by have := hg.size; omega) hf3
    clear hf3 hg2
    go_wp2_with (go_at_call 31; refine hcon.mono ?_; rintro e w' ⟨rfl, hT⟩)
    go_returns
    exact ⟨rfl, hT⟩
theorem came_any (g m : Nat) (B : Bk) (i c n t : Int) (w : World) (h : BookAt w g m B) (hc : (Lit.int .i64 c).wf = true) (hw : (Lit.int .i64 n).wf = true) (hn : B.length < 1000000) :
    Calls Try.prog 8 #[.pointer (some ⟨g, 0, none⟩), pktV i c n t] w fun e w' => e = .returned (.tuple #[]) ∧ TellAt w g m (tellB B c (cameL n)) w' :=
  came_core _ (TellAt w g m (tellB B c (cameL n))) i c n t w hw fun W b hg hb hs => (tell_any g m b 3 B c (cameL n) W (h.grown hg) (okL_came (by have := i64_wf hw; omega)) (by simp [cameL]) hc hn hs (by have := h.map.lt; omega)).mono fun e W2 hh => ⟨hh.1, hh.2.of hg⟩

set_option maxRecDepth 100000 in
set_option maxHeartbeats 1000000 in
theorem through_core (v : Value) (R : World → Prop) (i c n t : Int) (w : World) (hw : (Lit.int .i64 n).wf = true)
    (h : ∀ W b, w.grownBy W none → w.heap.size ≤ b → Blk W b 67 (stepC (throughL n)).toArray → Calls Try.prog 31 #[v, .int .i64 c, .slice (some ⟨b, 0, none⟩) 2 2] W fun e w' => e = .returned (.tuple #[]) ∧ R w') :
    Calls Try.prog 15 #[v, pktV i c n t] w fun e w' => e = .returned (.tuple #[]) ∧ R w' := by
  have hr := i64_wf hw
  have H := Lib.hid h
  clear h
  go_enter Try.func15, Try.ntmps15
  go_wp2
  have hP := Blk.new w 24 #[.int .u64 i, .int .i64 c, .int .i64 n, .int .u64 t]
  have hg := World.grownBy_alloc w (.cells #[.int .u64 i, .int .i64 c, .int .i64 n, .int .u64 t] 24) none
  generalize w.alloc (.cells #[.int .u64 i, .int .i64 c, .int .i64 n, .int .u64 t] 24) = W at hP hg ⊢
  have o0 := fun e => (over_cell (w := W) (e := e) (o := 0) hP.lt).trans (hP.cell 0)
  have o1 := fun e => (over_cell (w := W) (e := e) (o := 1) hP.lt).trans (hP.cell 1)
  have o2 := fun e => (over_cell (w := W) (e := e) (o := 2) hP.lt).trans (hP.cell 2)
  have o3 := fun e => (over_cell (w := W) (e := e) (o := 3) hP.lt).trans (hP.cell 3)
  simp only [List.getElem?_toArray, List.getElem?_cons_zero, List.getElem?_cons_succ] at o0 o1 o2 o3
  refine wp_region_mid (w := W) 8 1 [7] [] [(7, fun u W' => ∃ b, u = .slice (some ⟨b, 0, none⟩) 2 2 ∧ W.heap.size ≤ b ∧ Blk W' b 67 (stepC (throughL n)).toArray)] rfl (by kernel_rfl) (by kernel_rfl) (by kernel_rfl) (by kernel_rfl) (fun _ _ _ _ _ h => h) ⟨?st1, trivial⟩ ?_
  case st1 => exact fun v W1 W2 ⟨b, h1, h2, h3⟩ hb => ⟨b, h1, h2, h3.below hb h3.lt⟩
  intro L hL
  have HL := Lib.hid hL
  clear hL
  simp only [List.take_succ_cons, List.take_zero, putL]
  repeat (first | refine wpHead_skip (by decide) ?_ | (refine wpHead_step (by decide) (fun K hK => ?_); go_simp; first | (refine hK _ ?_; clear hK K) | (apply Exists.intro; refine ⟨fun _ => ?_, hK _ ?_⟩; (focus (go_at_call 35; exact bytes_any _ _ _ _ _ hw)); clear hK K)))
  refine wpHead_nil (HL.out _ ⟨?_, trivial⟩ ?_)
  · intro vs W2 hb2 hf
    clear hf HL
    change midAt _ _ (Act.put _ (some 11) (vs 7)) _ _
    go_simp
    exact ⟨(Below.refl _ _).alloc (Nat.le_refl _) _, hb2.size, Blk.new _ _ _⟩
  · intro vs W2 hb2 hf
    obtain ⟨⟨b1, hf2, hbb, hf3⟩, hff⟩ := hf
    clear hff HL o0 o1 o2 o3
    change wpList _ _ _ _ (Act.put _ (some 11) (vs 7)) _
    rw [hf2]
    clear hf2
    simp only [List.drop_succ_cons, List.drop_zero, List.take_succ_cons, List.take_zero]
    have hg2 := hg.trans (grown_none hb2)
    have hcon := H.out W2 b1 hg2 (by have := hg.size; omega) hf3
    clear hf3 hg2
    go_wp2_with (go_at_call 31; refine hcon.mono ?_; rintro e w' ⟨rfl, hT⟩)
    go_returns
    exact ⟨rfl, hT⟩
theorem through_any (g m : Nat) (B : Bk) (i c n t : Int) (w : World) (h : BookAt w g m B) (hc : (Lit.int .i64 c).wf = true) (hw : (Lit.int .i64 n).wf = true) (hn : B.length < 1000000) :
    Calls Try.prog 15 #[.pointer (some ⟨g, 0, none⟩), pktV i c n t] w fun e w' => e = .returned (.tuple #[]) ∧ TellAt w g m (tellB B c (throughL n)) w' :=
  through_core _ (TellAt w g m (tellB B c (throughL n))) i c n t w hw fun W b hg hb hs => (tell_any g m b 2 B c (throughL n) W (h.grown hg) (okL_through (by have := i64_wf hw; omega)) (by simp [throughL]) hc hn hs (by have := h.map.lt; omega)).mono fun e W2 hh => ⟨hh.1, hh.2.of hg⟩

set_option maxRecDepth 100000 in
set_option maxHeartbeats 1000000 in
theorem chosen_core (v : Value) (R : World → Prop) (i c n t r : Int) (w : World) (hw : (Lit.int .i64 n).wf = true)
    (h : ∀ W b, w.grownBy W none → w.heap.size ≤ b → Blk W b 67 (stepC (chosenL n r)).toArray → Calls Try.prog 31 #[v, .int .i64 c, .slice (some ⟨b, 0, none⟩) 3 3] W fun e w' => e = .returned (.tuple #[]) ∧ R w') :
    Calls Try.prog 13 #[v, pktV i c n t, .int .u8 r] w fun e w' => e = .returned (.tuple #[]) ∧ R w' := by
  have hr := i64_wf hw
  have H := Lib.hid h
  clear h
  by_cases hr1 : r = 1
  · subst hr1
    have hL0 : chosenL n 1 = [(4, max n 0, false), (6, 1, true), (7, max n 0, true)] := by simp [chosenL]
    have HL0 := Lib.hid hL0
    clear hL0
    go_enter Try.func13, Try.ntmps13
    go_wp2
    have hP := Blk.new w 24 #[.int .u64 i, .int .i64 c, .int .i64 n, .int .u64 t]
    have hg := World.grownBy_alloc w (.cells #[.int .u64 i, .int .i64 c, .int .i64 n, .int .u64 t] 24) none
    generalize w.alloc (.cells #[.int .u64 i, .int .i64 c, .int .i64 n, .int .u64 t] 24) = W at hP hg ⊢
    have o0 := fun e => (over_cell (w := W) (e := e) (o := 0) hP.lt).trans (hP.cell 0)
    have o1 := fun e => (over_cell (w := W) (e := e) (o := 1) hP.lt).trans (hP.cell 1)
    have o2 := fun e => (over_cell (w := W) (e := e) (o := 2) hP.lt).trans (hP.cell 2)
    have o3 := fun e => (over_cell (w := W) (e := e) (o := 3) hP.lt).trans (hP.cell 3)
    simp only [List.getElem?_toArray, List.getElem?_cons_zero, List.getElem?_cons_succ] at o0 o1 o2 o3
    refine wp_region_mid (w := W) 12 1 [11] [] [(11, fun u W' => ∃ b, u = .slice (some ⟨b, 0, none⟩) 3 3 ∧ W.heap.size ≤ b ∧ Blk W' b 67 (stepC (chosenL n 1)).toArray)] rfl (by kernel_rfl) (by kernel_rfl) (by kernel_rfl) (by kernel_rfl) (fun _ _ _ _ _ h => h) ⟨?st1, trivial⟩ ?_
    case st1 => exact fun v W1 W2 ⟨b, h1, h2, h3⟩ hb => ⟨b, h1, h2, h3.below hb h3.lt⟩
    intro L hL
    have HL := Lib.hid hL
    clear hL
    simp only [List.take_succ_cons, List.take_zero, putL]
    repeat (first | refine wpHead_skip (by decide) ?_ | (refine wpHead_step (by decide) (fun K hK => ?_); go_simp; first | (refine hK _ ?_; clear hK K) | (apply Exists.intro; refine ⟨fun _ => ?_, hK _ ?_⟩; (focus (go_at_call 35; exact bytes_any _ _ _ _ _ hw)); clear hK K)))
    refine wpHead_nil (HL.out _ ⟨?_, trivial⟩ ?_)
    · intro vs W2 hb2 hf
      clear hf HL
      change midAt _ _ (Act.put _ (some 20) (vs 11)) _ _
      go_simp
      rw [HL0.out]
      exact ⟨(Below.refl _ _).alloc (Nat.le_refl _) _, hb2.size, Blk.new _ _ _⟩
    · intro vs W2 hb2 hf
      obtain ⟨⟨b1, hf2, hbb, hf3⟩, hff⟩ := hf
      clear hff HL o0 o1 o2 o3
      change wpList _ _ _ _ (Act.put _ (some 20) (vs 11)) _
      rw [hf2]
      clear hf2
      simp only [List.drop_succ_cons, List.drop_zero, List.take_succ_cons, List.take_zero]
      have hg2 := hg.trans (grown_none hb2)
      have hcon := H.out W2 b1 hg2 (by have := hg.size; omega) hf3
      clear hf3 hg2
      go_wp2_with (go_at_call 31; refine hcon.mono ?_; rintro e w' ⟨rfl, hT⟩)
      go_returns
      exact ⟨rfl, hT⟩
  · have hL0 : chosenL n r = [(5, max n 0, false), (6, 1, true), (7, max n 0, true)] := by simp [chosenL, hr1]
    have HL0 := Lib.hid hL0
    clear hL0
    have hr2 : (r == 1) = false := by simp; omega
    go_enter Try.func13, Try.ntmps13
    go_wp2
    have hP := Blk.new w 24 #[.int .u64 i, .int .i64 c, .int .i64 n, .int .u64 t]
    have hg := World.grownBy_alloc w (.cells #[.int .u64 i, .int .i64 c, .int .i64 n, .int .u64 t] 24) none
    generalize w.alloc (.cells #[.int .u64 i, .int .i64 c, .int .i64 n, .int .u64 t] 24) = W at hP hg ⊢
    have o0 := fun e => (over_cell (w := W) (e := e) (o := 0) hP.lt).trans (hP.cell 0)
    have o1 := fun e => (over_cell (w := W) (e := e) (o := 1) hP.lt).trans (hP.cell 1)
    have o2 := fun e => (over_cell (w := W) (e := e) (o := 2) hP.lt).trans (hP.cell 2)
    have o3 := fun e => (over_cell (w := W) (e := e) (o := 3) hP.lt).trans (hP.cell 3)
    simp only [List.getElem?_toArray, List.getElem?_cons_zero, List.getElem?_cons_succ] at o0 o1 o2 o3
    refine wp_region_mid (w := W) 12 1 [11] [] [(11, fun u W' => ∃ b, u = .slice (some ⟨b, 0, none⟩) 3 3 ∧ W.heap.size ≤ b ∧ Blk W' b 67 (stepC (chosenL n r)).toArray)] rfl (by kernel_rfl) (by kernel_rfl) (by kernel_rfl) (by kernel_rfl) (fun _ _ _ _ _ h => h) ⟨?st1, trivial⟩ ?_
    case st1 => exact fun v W1 W2 ⟨b, h1, h2, h3⟩ hb => ⟨b, h1, h2, h3.below hb h3.lt⟩
    intro L hL
    have HL := Lib.hid hL
    clear hL
    simp only [List.take_succ_cons, List.take_zero, putL]
    repeat (first | refine wpHead_skip (by decide) ?_ | (refine wpHead_step (by decide) (fun K hK => ?_); go_simp; first | (refine hK _ ?_; clear hK K) | (apply Exists.intro; refine ⟨fun _ => ?_, hK _ ?_⟩; (focus (go_at_call 35; exact bytes_any _ _ _ _ _ hw)); clear hK K)))
    refine wpHead_nil (HL.out _ ⟨?_, trivial⟩ ?_)
    · intro vs W2 hb2 hf
      clear hf HL
      change midAt _ _ (Act.put _ (some 20) (vs 11)) _ _
      go_simp
      rw [HL0.out]
      exact ⟨(Below.refl _ _).alloc (Nat.le_refl _) _, hb2.size, Blk.new _ _ _⟩
    · intro vs W2 hb2 hf
      obtain ⟨⟨b1, hf2, hbb, hf3⟩, hff⟩ := hf
      clear hff HL o0 o1 o2 o3
      change wpList _ _ _ _ (Act.put _ (some 20) (vs 11)) _
      rw [hf2]
      clear hf2
      simp only [List.drop_succ_cons, List.drop_zero, List.take_succ_cons, List.take_zero]
      have hg2 := hg.trans (grown_none hb2)
      have hcon := H.out W2 b1 hg2 (by have := hg.size; omega) hf3
      clear hf3 hg2
      go_wp2_with (go_at_call 31; refine hcon.mono ?_; rintro e w' ⟨rfl, hT⟩)
      go_returns
      exact ⟨rfl, hT⟩

theorem chosen_any (g m : Nat) (B : Bk) (i c n t r : Int) (w : World) (h : BookAt w g m B) (hc : (Lit.int .i64 c).wf = true) (hw : (Lit.int .i64 n).wf = true) (hn : B.length < 1000000) :
    Calls Try.prog 13 #[.pointer (some ⟨g, 0, none⟩), pktV i c n t, .int .u8 r] w fun e w' => e = .returned (.tuple #[]) ∧ TellAt w g m (tellB B c (chosenL n r)) w' :=
  chosen_core _ (TellAt w g m (tellB B c (chosenL n r))) i c n t r w hw fun W b hg hb hs => (tell_any g m b 3 B c (chosenL n r) W (h.grown hg) (okL_chosen (by have := i64_wf hw; omega)) (by simp [chosenL]) hc hn hs (by have := h.map.lt; omega)).mono fun e W2 hh => ⟨hh.1, hh.2.of hg⟩

/-- a class is gone -/
def dropB (B : Bk) (c : Int) : Bk := if c < 1 then B else delM (tellB B 0 [(6, getB B c 6, true), (7, getB B c 7, true)]) c

set_option maxRecDepth 100000 in
set_option maxHeartbeats 1000000 in
theorem get_any (g m : Nat) (B : Bk) (c : Int) (w : World) (h : BookAt w g m B) (hc : (Lit.int .i64 c).wf = true) :
    Calls Try.prog 42 #[.pointer (some ⟨g, 0, none⟩), .int .i64 c] w fun e w' => e = .returned (stV (getB B c)) ∧ Below w.heap.size w w' := by
  have h1 := h.grown (World.grownBy_alloc w (.cells (stC st0) 55) none)
  have hq := h1.map.look (k := c) (E := 55) (T := 56) (z := stV st0) Try.underlying3 Try.underlying56 (by exact Try.zeroValue55 _) hc
  rw [look_stV] at hq
  have c0 := h1.blk.cell 0
  simp only [List.getElem?_toArray, List.getElem?_cons_zero, List.getElem?_cons_succ] at c0
  have hn := none_no g m _ h1.blk
  clear h1 h
  generalize getB B c = s at hq ⊢
  unfold stV stC at hq
  unfold stC at c0 hn
  simp only [st0] at hq c0 hn
  go_enter Try.func42, Try.ntmps42
  go_wp2_with (go_at_call 49; refine hn.mono ?_; rintro e w' ⟨rfl, rfl⟩)
  refine bodyPost_ret (v := stV s) (by simp [results, Try.results42, go_sem]; rfl) rfl ⟨rfl, ?_⟩
  go_grown

/-- a new book -/
def NewBk (w : World) (e : Ending) (w' : World) : Prop := ∃ g m, e = .returned (.pointer (some ⟨g, 0, none⟩)) ∧ BookAt w' g m [(0, st0)] ∧ Below w.heap.size w w' ∧ w.heap.size ≤ g ∧ w.heap.size ≤ m
set_option maxRecDepth 100000 in
theorem new_any (w : World) : Calls Try.prog 6 #[] w (NewBk w) := by
  obtain ⟨w1, hr, hM, ht⟩ := (MapI.made (P := Try.prog) (K := 3) w).store (T := 56) (E := 55) (k := 0) Try.underlying3 Try.underlying56 (by decide) (by simp [maxLen]) (stV st0)
  have hg := ht.grown
  have HM := Lib.hid hM
  clear hM ht
  unfold stV stC at hr
  simp only [st0] at hr
  have hmm := @run_makeMap Try.prog
  go_enter Try.func6, Try.ntmps6
  go_wp2
  go_ret
  have hb : Below w.heap.size w w1 := ((Below.refl _ w).alloc (Nat.le_refl _) _).grown hg (by simp) (fun k e => by cases e; exact Nat.le_refl _)
  have hs := hg.size
  simp at hs
  refine ⟨w1.heap.size, w.heap.size, rfl, ⟨Blk.new _ _ _, ?_, ?_⟩, hb.alloc hb.size _, by omega, Nat.le_refl _⟩
  · exact HM.out.kept (World.grownBy_alloc w1 _ none) (by simp)
  · intro p hp
    simp only [List.mem_cons, List.not_mem_nil, or_false] at hp
    subst hp; exact ok_st0

theorem BookAt.drop {W : World} {g m : Nat} {B : Bk} (h : BookAt W g m B) (k : Int) (hk : (Lit.int .i64 k).wf = true) (ty : TypeId) :
    ∃ W', (Builtin.delete_ #[56, 3] ty #[.map (some m), .int .i64 k]).run Try.prog W = .ok (.tuple #[]) W' ∧ BookAt W' g m (delM B k) ∧ W.grownBy W' (some m) := by
  obtain ⟨W', h1, h2, h3⟩ := h.map.drop (T := 56) (E := 55) (k := k) Try.underlying3 Try.underlying56 hk ty
  refine ⟨W', h1, ⟨h.blk.grown h3.grown (by simp [h.ne]), by rw [← del_map]; exact h2, ?_⟩, h3.grown⟩
  intro p hp
  exact h.ok p ((List.mem_filter.1 hp).1)

set_option maxRecDepth 100000 in
set_option maxHeartbeats 1000000 in
theorem drop_any (g m : Nat) (B : Bk) (c : Int) (w : World) (h : BookAt w g m B) (hc : (Lit.int .i64 c).wf = true) (hn : B.length < 1000000) :
    Calls Try.prog 17 #[.pointer (some ⟨g, 0, none⟩), .int .i64 c] w fun e w' => e = .returned (.tuple #[]) ∧ TellAt w g m (dropB B c) w' := by
  have hn0 := none_no g m _ h.blk
  by_cases h1 : c < 1
  · have hd : dropB B c = B := by rw [dropB, if_pos h1]
    have HD := Lib.hid hd
    clear hd
    go_enter Try.func17, Try.ntmps17
    go_wp2_with (go_at_call 49; refine hn0.mono ?_; rintro e w' ⟨rfl, rfl⟩)
    go_returns
    exact ⟨rfl, by rw [HD.out]; exact h, World.grownBy.refl _ _⟩
  · have hq := h.map.look (k := c) (E := 55) (T := 56) (z := stV st0) Try.underlying3 Try.underlying56 (by exact Try.zeroValue55 _) hc
    rw [look_stV] at hq
    have hd : dropB B c = delM (tellB B 0 [(6, getB B c 6, true), (7, getB B c 7, true)]) c := by rw [dropB, if_neg h1]
    have hok := h.ok.get c
    obtain ⟨s, hs⟩ : ∃ s, s = getB B c := ⟨_, rfl⟩
    rw [← hs] at hq hd hok
    have h6 := hok 6; have h7 := hok 7
    have c0 := h.blk.cell 0
    simp only [List.getElem?_toArray, List.getElem?_cons_zero, List.getElem?_cons_succ] at c0
    have hg1 := World.grownBy_alloc w (.cells (stC s) 55) none
    have hg2 := hg1.trans (World.grownBy_alloc _ (.cells (stepC [(6, s 6, true), (7, s 7, true)]).toArray 67) none)
    have hS := Blk.new w 55 (stC s)
    have hL := Blk.new (w.alloc (.cells (stC s) 55)) 67 (stepC [(6, s 6, true), (7, s 7, true)]).toArray
    have hcon := tell_any g m (w.alloc (.cells (stC s) 55)).heap.size 2 B 0 [(6, s 6, true), (7, s 7, true)] _ (h.grown hg2) (by
      intro p hp
      simp only [List.mem_cons, List.not_mem_nil, or_false] at hp
      rcases hp with rfl | rfl
      · refine ⟨by show 6 < 8; omega, h6.1, ?_⟩; show s 6 < _; omega
      · refine ⟨by show 7 < 8; omega, h7.1, ?_⟩; show s 7 < _; omega) (by simp) (by decide) hn hL (by have := h.map.lt; simp; omega)
    have hcon := hcon.mono (fun e W hh => (⟨hh.1, hh.2.of hg2⟩ : e = .returned (.tuple #[]) ∧ TellAt w g m (tellB B 0 [(6, s 6, true), (7, s 7, true)]) W))
    have HD := Lib.hid hd; have HS := Lib.hid hs
    clear hd hs hok h6 h7 hg2 hL hS h
    unfold stV stC at hq
    unfold stC at hcon
    have hsz : ∀ o, (w.alloc o).heap.size = w.heap.size + 1 := fun _ => by simp
    rw [hsz] at hcon
    clear hsz
    go_enter Try.func17, Try.ntmps17
    go_wp2_with (go_at_call 49; refine hn0.mono ?_; rintro e w' ⟨rfl, rfl⟩)
    refine hcon.mono ?_
    rintro e W ⟨rfl, hT⟩
    obtain ⟨W3, hr3, hB3, hg3⟩ := hT.book.drop c hc 0
    have cb := hT.book.blk.cell 0
    simp only [List.getElem?_toArray, List.getElem?_cons_zero, List.getElem?_cons_succ] at cb
    have HT := Lib.hid hT; have HB3 := Lib.hid hB3
    clear hT hB3 hcon hq c0
    go_wp2
    go_returns
    exact ⟨rfl, by rw [HD.out]; exact HB3.out, HT.out.grown.trans hg3⟩
end Go.Proofs.Ytclhhegfffccgaa
