/-
  The counters: the chapter's example.
-/
import Derived.Test.YtfnocnknmpmaaaaCountIds
namespace Go.Proofs.Ytfnocnknmpmaaaa
set_option linter.unusedVariables false
open Go.RowKit
attribute [local go_sem ↓] Go.wp_at_zero Go.wp_at_succ
attribute [local go_sem] quietR quietAtR quietUponR midAt midUpon

/-- are counters the same? -/
def eqS (s t : St) : Bool := decide (s 0 = t 0 ∧ s 1 = t 1 ∧ s 2 = t 2 ∧ s 3 = t 3 ∧ s 4 = t 4 ∧ s 5 = t 5 ∧ s 6 = t 6 ∧ s 7 = t 7)
theorem run_eqS (s t : St) (w : World) : (binOp .eql 44 (stV s) (stV t)).run Try.prog w = .ok (.bool (eqS s t)) w := by
  unfold stV stC
  go_simp
  by_cases h : s 0 = t 0 ∧ s 1 = t 1 ∧ s 2 = t 2 ∧ s 3 = t 3 ∧ s 4 = t 4 ∧ s 5 = t 5 ∧ s 6 = t 6 ∧ s 7 = t 7
  · obtain ⟨h0, h1, h2, h3, h4, h5, h6, h7⟩ := h
    simp [eqS, h0, h1, h2, h3, h4, h5, h6, h7]
  · have e : eqS s t = false := by unfold eqS; exact decide_eq_false h
    rw [e]
    repeat (split; rename_i h'; simp only [h', true_and] at h)
    all_goals first | rfl | (simp_all)
theorem run_neS (s t : St) (w : World) : (binOp .neq 44 (stV s) (stV t)).run Try.prog w = .ok (.bool (!eqS s t)) w := by
  unfold stV stC
  go_simp
  by_cases h : s 0 = t 0 ∧ s 1 = t 1 ∧ s 2 = t 2 ∧ s 3 = t 3 ∧ s 4 = t 4 ∧ s 5 = t 5 ∧ s 6 = t 6 ∧ s 7 = t 7
  · obtain ⟨h0, h1, h2, h3, h4, h5, h6, h7⟩ := h
    simp [eqS, h0, h1, h2, h3, h4, h5, h6, h7]
  · have e : eqS s t = false := by unfold eqS; exact decide_eq_false h
    rw [e]
    repeat (split; rename_i h'; simp only [h', true_and] at h)
    all_goals first | rfl | (simp_all)

def aw0 : Bk := [(0, st0)]
def aw1 : Bk := tellB aw0 3 (cameL 100)
def aw2 : Bk := tellB aw1 3 (chosenL 100 2)
def aw3 : Bk := tellB aw2 3 (throughL 100)
def aw4 : Bk := tellB aw3 4 refusedL
def aw5 : Bk := dropB aw4 3

def litS (a b c d e f g h : Int) : Array Value := #[.int .u64 a, .int .u64 b, .int .u64 c, .int .u64 d, .int .u64 e, .int .u64 f, .int .u64 g, .int .u64 h]
theorem aw1_3 : stC (getB aw1 3) = litS 1 0 0 0 0 0 1 100 := by rfl
theorem aw4_3 : stC (getB aw4 3) = litS 1 0 1 100 0 100 0 0 := by rfl
theorem aw4_0 : stC (getB aw4 0) = litS 1 1 1 100 0 100 0 0 := by rfl
theorem aw5_3 : stV (getB aw5 3) = .agg (litS 0 0 0 0 0 0 0 0) := by rfl
theorem aw5_0 : stV (getB aw5 0) = .agg (litS 1 1 1 100 0 100 0 0) := by rfl
theorem aw5_ids : idsB aw5 = [4] := by rfl
structure AwAt (w W : World) (g m p : Nat) (B : Bk) : Prop where
  book : BookAt W g m B
  pkt : Blk W p 24 #[.int .u64 0, .int .i64 3, .int .i64 100, .int .u64 0]
  below : Below w.heap.size w W
  ne : p ≠ m
  hi : w.heap.size ≤ m
theorem AwAt.step {w W W' : World} {g m p : Nat} {B B' : Bk} (h : AwAt w W g m p B) (hT : TellAt W g m B' W') : AwAt w W' g m p B' :=
  ⟨hT.book, h.pkt.grown hT.grown (by simp [h.ne]), h.below.grown hT.grown h.below.size (fun k e => by cases e; exact h.hi), h.ne, h.hi⟩
theorem AwAt.later {w W W' : World} {g m p : Nat} {B : Bk} (h : AwAt w W g m p B) (hb : Below W.heap.size W W') : AwAt w W' g m p B :=
  ⟨h.book.grown (grown_none hb), h.pkt.below hb h.pkt.lt, h.below.trans (hb.mono h.below.size), h.ne, h.hi⟩

set_option maxRecDepth 100000 in
set_option maxHeartbeats 2000000 in
theorem awake_any (w : World) : Calls Try.prog 24 #[] w fun e w' => e = .returned (.bool true) ∧ Below w.heap.size w w' := by
  go_enter Try.func24, Try.ntmps24
  go_wp2_with fail
  refine (new_any _).mono ?_
  rintro e W0 ⟨g, m, rfl, hB, hb, hg, hm⟩
  have h0 : AwAt w (W0.alloc (.cells #[.int .u64 0, .int .i64 3, .int .i64 100, .int .u64 0] 24)) g m W0.heap.size aw0 :=
    ⟨hB.grown (World.grownBy_alloc _ _ _), Blk.new _ _ _, hb.alloc hb.size _, by have := hB.map.lt; omega, hm⟩
  have H0 := Lib.hid h0
  clear hB hb hg hm h0
  go_wp2_with fail
  have hl0 : aw0.length < 1000000 := by decide
  have hl1 : aw1.length < 1000000 := by decide
  have hl2 : aw2.length < 1000000 := by decide
  have hl3 : aw3.length < 1000000 := by decide
  have hl4 : aw4.length < 1000000 := by decide
  refine (came_any g m aw0 0 3 100 0 _ H0.out.book (by decide) (by decide) hl0).mono ?_
  rintro e W1 ⟨rfl, hT⟩
  have H1 := Lib.hid ((H0.out.step hT : AwAt w W1 g m W0.heap.size aw1))
  clear hT
  go_wp2_with fail
  refine (get_any g m aw1 3 _ H1.out.book (by decide)).mono ?_
  rintro e W2 ⟨rfl, hb⟩
  have hM := Blk.new W2 44 (stC (getB aw1 3))
  have h2 := (H1.out.later hb).later ((Below.refl _ W2).alloc (Nat.le_refl _) (.cells (stC (getB aw1 3)) 44))
  have hMm : W2.heap.size ≠ m := by have := (H1.out.later hb).book.map.lt; omega
  clear hb
  have k0 := h2.pkt.cell 0; have k1 := h2.pkt.cell 1; have k2 := h2.pkt.cell 2; have k3 := h2.pkt.cell 3
  simp only [List.getElem?_toArray, List.getElem?_cons_zero, List.getElem?_cons_succ] at k0 k1 k2 k3
  have H2 := Lib.hid h2; have HM := Lib.hid hM
  clear h2 hM
  unfold stV
  rw [aw1_3] at k0 k1 k2 k3 H2 HM ⊢
  unfold litS at k0 k1 k2 k3 H2 HM ⊢
  go_wp2_with fail
  generalize W2.alloc _ = W3 at *
  clear k0 k1 k2 k3
  refine (chosen_any g m aw1 0 3 100 0 2 _ H2.out.book (by decide) (by decide) hl1).mono ?_
  rintro e W4 ⟨rfl, hT⟩
  have H4 := Lib.hid ((H2.out.step hT : AwAt w W4 g m W0.heap.size aw2))
  have HM4 := Lib.hid (HM.out.grown hT.grown (by simp [hMm]))
  clear hT
  have k0 := H4.out.pkt.cell 0; have k1 := H4.out.pkt.cell 1; have k2 := H4.out.pkt.cell 2; have k3 := H4.out.pkt.cell 3
  simp only [List.getElem?_toArray, List.getElem?_cons_zero, List.getElem?_cons_succ] at k0 k1 k2 k3
  go_wp2_with fail
  clear k0 k1 k2 k3
  refine (through_any g m aw2 0 3 100 0 _ H4.out.book (by decide) (by decide) hl2).mono ?_
  rintro e W5 ⟨rfl, hT⟩
  have H5 := Lib.hid ((H4.out.step hT : AwAt w W5 g m W0.heap.size aw3))
  have HM5 := Lib.hid (HM4.out.grown hT.grown (by simp [hMm]))
  clear hT
  go_wp2_with fail
  refine (refused_any g m aw3 4 _ H5.out.book (by decide) hl3).mono ?_
  rintro e W6 ⟨rfl, hT⟩
  have H6 := Lib.hid ((H5.out.step hT : AwAt w W6 g m W0.heap.size aw4))
  have HM6 := Lib.hid (HM5.out.grown hT.grown (by simp [hMm]))
  clear hT
  go_wp2_with fail
  refine (get_any g m aw4 3 _ H6.out.book (by decide)).mono ?_
  rintro e W7 ⟨rfl, hb⟩
  have H7 := Lib.hid (H6.out.later hb)
  have HM7 := Lib.hid (HM6.out.below hb HM6.out.lt)
  clear hb
  go_wp2_with fail
  refine (get_any g m aw4 0 _ H7.out.book (by decide)).mono ?_
  rintro e W8 ⟨rfl, hb⟩
  have h8 := ((H7.out.later hb).later ((Below.refl _ W8).alloc (Nat.le_refl _) (.cells (stC (getB aw4 3)) 44)))
  have h9 := h8.later ((Below.refl _ _).alloc (Nat.le_refl _) (.cells (stC (getB aw4 0)) 44))
  have hM9 := ((HM7.out.below hb HM7.out.lt).alloc (.cells (stC (getB aw4 3)) 44)).alloc (.cells (stC (getB aw4 0)) 44)
  have hE9 := (Blk.new W8 44 (stC (getB aw4 3))).alloc (.cells (stC (getB aw4 0)) 44)
  have hA9 := Blk.new (W8.alloc (.cells (stC (getB aw4 3)) 44)) 44 (stC (getB aw4 0))
  have hEm : W8.heap.size ≠ m := by have := (H7.out.later hb).book.map.lt; omega
  have hAm : W8.heap.size + 1 ≠ m := by have := (H7.out.later hb).book.map.lt; omega
  have H9 := Lib.hid h9; have HM9 := Lib.hid hM9; have HE9 := Lib.hid hE9; have HA9 := Lib.hid hA9
  clear hb h8 h9 hM9 hE9 hA9
  unfold stV
  rw [aw4_3, aw4_0] at H9 HM9 HE9 HA9 ⊢
  unfold litS at H9 HM9 HE9 HA9 ⊢
  go_wp2_with fail
  have hsz : ∀ o, (W8.alloc o).heap.size = W8.heap.size + 1 := fun _ => by simp
  rw [hsz] at HA9
  clear hsz
  generalize (W8.alloc _).alloc _ = W9 at *
  refine (drop_any g m aw4 3 _ H9.out.book (by decide) hl4).mono ?_
  rintro e WA ⟨rfl, hT⟩
  have HA := Lib.hid ((H9.out.step hT : AwAt w WA g m W0.heap.size aw5))
  have hMA := HM9.out.grown hT.grown (by simp [hMm])
  have hEA := HE9.out.grown hT.grown (by simp [hEm])
  have hAA := HA9.out.grown hT.grown (by simp [hAm])
  clear hT
  go_wp2_with fail
  have m0 := fun e => (over_cell (w := WA) (e := e) (o := 0) hMA.lt).trans (hMA.cell 0)
  have m1 := fun e => (over_cell (w := WA) (e := e) (o := 1) hMA.lt).trans (hMA.cell 1)
  have m2 := fun e => (over_cell (w := WA) (e := e) (o := 2) hMA.lt).trans (hMA.cell 2)
  have m3 := fun e => (over_cell (w := WA) (e := e) (o := 3) hMA.lt).trans (hMA.cell 3)
  have m4 := fun e => (over_cell (w := WA) (e := e) (o := 4) hMA.lt).trans (hMA.cell 4)
  have m5 := fun e => (over_cell (w := WA) (e := e) (o := 5) hMA.lt).trans (hMA.cell 5)
  have m6 := fun e => (over_cell (w := WA) (e := e) (o := 6) hMA.lt).trans (hMA.cell 6)
  have m7 := fun e => (over_cell (w := WA) (e := e) (o := 7) hMA.lt).trans (hMA.cell 7)
  have e0 := fun e => (over_cell (w := WA) (e := e) (o := 0) hEA.lt).trans (hEA.cell 0)
  have e1 := fun e => (over_cell (w := WA) (e := e) (o := 1) hEA.lt).trans (hEA.cell 1)
  have e2 := fun e => (over_cell (w := WA) (e := e) (o := 2) hEA.lt).trans (hEA.cell 2)
  have e3 := fun e => (over_cell (w := WA) (e := e) (o := 3) hEA.lt).trans (hEA.cell 3)
  have e4 := fun e => (over_cell (w := WA) (e := e) (o := 4) hEA.lt).trans (hEA.cell 4)
  have e5 := fun e => (over_cell (w := WA) (e := e) (o := 5) hEA.lt).trans (hEA.cell 5)
  have e6 := fun e => (over_cell (w := WA) (e := e) (o := 6) hEA.lt).trans (hEA.cell 6)
  have e7 := fun e => (over_cell (w := WA) (e := e) (o := 7) hEA.lt).trans (hEA.cell 7)
  have a0 := fun e => (over_cell (w := WA) (e := e) (o := 0) hAA.lt).trans (hAA.cell 0)
  have a1 := fun e => (over_cell (w := WA) (e := e) (o := 1) hAA.lt).trans (hAA.cell 1)
  have a2 := fun e => (over_cell (w := WA) (e := e) (o := 2) hAA.lt).trans (hAA.cell 2)
  have a3 := fun e => (over_cell (w := WA) (e := e) (o := 3) hAA.lt).trans (hAA.cell 3)
  have a4 := fun e => (over_cell (w := WA) (e := e) (o := 4) hAA.lt).trans (hAA.cell 4)
  have a5 := fun e => (over_cell (w := WA) (e := e) (o := 5) hAA.lt).trans (hAA.cell 5)
  have a6 := fun e => (over_cell (w := WA) (e := e) (o := 6) hAA.lt).trans (hAA.cell 6)
  have a7 := fun e => (over_cell (w := WA) (e := e) (o := 7) hAA.lt).trans (hAA.cell 7)
  simp only [List.getElem?_toArray, List.getElem?_cons_zero, List.getElem?_cons_succ] at m0 m1 m2 m3 m4 m5 m6 m7 e0 e1 e2 e3 e4 e5 e6 e7 a0 a1 a2 a3 a4 a5 a6 a7
  have hget3 : ∀ e, Calls Try.prog 30 #[.pointer (some ⟨g, 0, none⟩), .int .i64 3] (over WA e) fun r w' => r = .returned (.agg (litS 0 0 0 0 0 0 0 0)) ∧ Below (over WA e).heap.size (over WA e) w' :=
    fun e => aw5_3 ▸ get_any g m aw5 3 _ (HA.out.later (over_below WA e)).book (by decide)
  have hget0 : ∀ e, Calls Try.prog 30 #[.pointer (some ⟨g, 0, none⟩), .int .i64 0] (over WA e) fun r w' => r = .returned (.agg (litS 1 1 1 100 0 100 0 0)) ∧ Below (over WA e).heap.size (over WA e) w' :=
    fun e => aw5_0 ▸ get_any g m aw5 0 _ (HA.out.later (over_below WA e)).book (by decide)
  unfold litS at hget3 hget0
  have HG3 := Lib.hid hget3; have HG0 := Lib.hid hget0
  clear hget3 hget0 hMA hEA hAA
  refine wp_region_midg (w := WA) 31 1 [27, 28, 29, 30] [] [(27, fun u W' => ∃ a c, u = .slice a 1 c), (28, fun u W' => u = .int .i64 1), (29, fun u W' => u = .bool true), (30, fun u W' => u = .bool true)] rfl (by kernel_rfl) (by kernel_rfl) (by kernel_rfl) (by kernel_rfl) (fun _ _ _ _ _ h => h) ⟨fun v W1 W2 h hb => h, fun v W1 W2 h hb => h, fun v W1 W2 h hb => h, fun v W1 W2 h hb => h, trivial⟩ ?_
  intro L hL
  have HL := Lib.hid hL
  clear hL
  simp only [List.take_succ_cons, List.take_zero, putL]
  repeat (first | refine wpHead_skip (by decide) ?_ | (refine wpHead_step (by decide) (fun K hK => ?_); go_simp; first | (refine hK _ ?_; clear hK K) | (apply Exists.intro; refine ⟨fun _ => ?_, hK _ ?_⟩; (focus (go_at_call 30; first | (with_reducible exact HG3.out _) | (with_reducible exact HG0.out _))); clear hK K)))
  refine wpHead_nil (HL.out _ ⟨?_, ?_, ?_, ?_, trivial⟩ ?_)
  · intro vs WB hb hf
    clear hf HL
    refine tstep_yes (by kernel_rfl) ?_
    change midAt _ _ (Act.put (Act.put (Act.put (Act.put _ (some 56) (vs 27)) (some 57) (vs 28)) (some 58) (vs 29)) (some 59) (vs 30)) _ _
    go_simp
    exact (ids_any g m aw5 WB (HA.out.later hb).book (by decide) (by decide)).mono fun e W2 ⟨v, he, hr, hb2⟩ => ⟨v, he, hb2, by
      rw [aw5_ids] at hr
      rcases hr.2 with ⟨_, h0⟩ | ⟨b, cp, cur, hv, _⟩
      · cases h0
      · exact ⟨_, _, hv⟩⟩
  · intro vs WB hb hf
    obtain ⟨⟨a, c, hf⟩, _⟩ := hf
    clear HL
    refine tstep_yes (by kernel_rfl) ?_
    change midAt _ _ (Act.put (Act.put (Act.put (Act.put _ (some 56) (vs 27)) (some 57) (vs 28)) (some 58) (vs 29)) (some 59) (vs 30)) _ _
    rw [hf]
    go_simp
    exact Below.refl _ _
  · intro vs WB hb hf
    obtain ⟨hf, _⟩ := hf
    clear HL
    refine tstep_yes (by kernel_rfl) ?_
    change midAt _ _ (Act.put (Act.put (Act.put (Act.put _ (some 56) (vs 27)) (some 57) (vs 28)) (some 58) (vs 29)) (some 59) (vs 30)) _ _
    rw [hf]
    go_simp
    exact Below.refl _ _
  · intro vs WB hb hf
    obtain ⟨hf, _⟩ := hf
    clear HL
    refine tstep_yes (by kernel_rfl) ?_
    change midAt _ _ (Act.put (Act.put (Act.put (Act.put _ (some 56) (vs 27)) (some 57) (vs 28)) (some 58) (vs 29)) (some 59) (vs 30)) _ _
    rw [hf]
    go_simp
    exact Below.refl _ _
  · intro vs WB hb hf
    obtain ⟨_, _, _, hf, _⟩ := hf
    clear HL
    change wpList _ _ _ _ (Act.put (Act.put (Act.put (Act.put _ (some 56) (vs 27)) (some 57) (vs 28)) (some 58) (vs 29)) (some 59) (vs 30)) _
    rw [hf]
    simp only [List.drop_succ_cons, List.drop_zero, List.take_succ_cons, List.take_zero]
    go_wp2
    go_ret
    exact ⟨rfl, HA.out.below.trans (hb.mono HA.out.below.size)⟩
end Go.Proofs.Ytfnocnknmpmaaaa
