/-
  A copy of a run goes on alone.
-/
import Derived.Test.YtipiajnaechadaaRunMake
namespace Go.Proofs.Ytipiajnaechadaa
set_option linter.unusedVariables false
open Go.RowKit
attribute [local go_sem] quietR quietAtR quietUponR midAt midUpon

section
variable {w w' : World} {r g : Nat} {F L R x : Int} {K A : List (Int × Int)}

set_option maxHeartbeats 1000000 in
theorem live_copy (h : Live w g F L R x K A) :
    Calls Try.prog 24 #[.pointer (some ⟨g, 0, none⟩)] w fun e w' => ∃ g', e = .returned (.pointer (some ⟨g', 0, none⟩)) ∧ w.heap.size ≤ g' ∧ Live w' g' F L R x K A ∧ Below w.heap.size w w' := by
  obtain ⟨v, hB, hr⟩ := h.at_
  obtain ⟨oa, oc, rfl⟩ := hr.shape
  have hfew := h.fewK
  have c0 := hB.cell 0; have c1 := hB.cell 1; have c2 := hB.cell 2; have c3 := hB.cell 3; have c4 := hB.cell 4; have c5 := hB.cell 5; have c6 := hB.cell 6
  simp only [List.getElem?_toArray, List.getElem?_cons_zero, List.getElem?_cons_succ] at c0 c1 c2 c3 c4 c5 c6
  have hg := hB.lt
  have HL := Lib.hid h; have HB := Lib.hid hB; have HR := Lib.hid hr
  clear hB hr h
  have hal := (Below.refl w.heap.size w).alloc (Nat.le_refl _) (.cells #[.int .u64 F, .int .u64 L, .int .u64 R, .bool true, .int .i64 A.length, .int .u64 x, .slice oa K.length oc] 91)
  have nb := Blk.new w 91 #[.int .u64 F, .int .u64 L, .int .u64 R, .bool true, .int .i64 A.length, .int .u64 x, .slice oa K.length oc]
  have NB := Lib.hid nb; clear nb
  go_enter Try.func24, Try.ntmps24
  go_wp2_with (go_at_call 51; refine (clone_starts _ (g + 1) K _ (HR.out.below hal) (by omega)).mono ?_; rintro e w1 ⟨v', rfl, hown, hb1⟩; have n1 := NB.out.below hb1 NB.out.lt; have z6 := n1.frozen 6; have y6 := n1.cell 6; simp only [List.getElem?_toArray, List.getElem?_cons_zero, List.getElem?_cons_succ] at y6; obtain ⟨pa, pc, rfl⟩ := RowK.shape hown; have HO := Lib.hid hown; have N1 := Lib.hid n1; clear hown n1)
  go_ret
  have hsz : (w.alloc (.cells #[.int .u64 F, .int .u64 L, .int .u64 R, .bool true, .int .i64 A.length, .int .u64 x, .slice oa K.length oc] 91)).heap.size = w.heap.size + 1 := by simp
  have hO := HO.out
  rw [hsz] at hO
  have hbw : Below w.heap.size w w1 := hal.trans (hb1.mono hal.size)
  have hset := World.grownBy_setCell w1 ⟨w.heap.size, 6, none⟩ (.slice pa K.length pc)
  have hL := HL.out
  refine ⟨w.heap.size, rfl, Nat.le_refl _, ⟨⟨.slice pa K.length pc, by simpa using N1.out.set_ 6 (.slice pa K.length pc), hO.kept hset ?_⟩, hL.may, hL.le, hL.run, hL.num, hL.x0, hL.x1, hL.few, hL.one⟩, hbw.grown hset hbw.size (fun j hj => by (have hj2 : w.heap.size = j := by simpa using hj); omega)⟩
  cases hv : (Value.slice pa K.length pc).ownBlock with
  | none => exact .inl rfl
  | some k =>
    have := (hO.lt k hv).1
    refine .inr fun he => ?_
    have he2 : k = w.heap.size := by simpa using he
    omega

theorem bends_own (h : BentAt w g F L R x A) :
    Calls Try.prog 129 #[.agg #[.pointer (some ⟨g, 0, none⟩)]] w fun e w' => ∃ g', e = .returned (ifB g') ∧ w.heap.size ≤ g' ∧ BentAt w' g' F L R x A ∧ Below w.heap.size w w' := by
  have hal := (Below.refl w.heap.size w).alloc (Nat.le_refl _) (.cells #[.pointer (some ⟨g, 0, none⟩)] 61)
  have H := Lib.hid h; clear h
  go_enter Try.func129, Try.ntmps129
  go_wp2_with (go_at_call 130; refine (bent_copy (H.out.below hal)).mono ?_; rintro e w1 ⟨g', rfl, hg, hb, hb1⟩; have HB := Lib.hid hb; clear hb)
  go_ret
  exact ⟨g', rfl, Nat.le_trans hal.size hg, HB.out, hal.trans (hb1.mono hal.size)⟩
theorem sags_own (h : Live w g F L R x K A) :
    Calls Try.prog 133 #[.agg #[.pointer (some ⟨g, 0, none⟩)]] w fun e w' => ∃ g', e = .returned (ifS g') ∧ w.heap.size ≤ g' ∧ Live w' g' F L R x K A ∧ Below w.heap.size w w' := by
  have hal := (Below.refl w.heap.size w).alloc (Nat.le_refl _) (.cells #[.pointer (some ⟨g, 0, none⟩)] 67)
  have H := Lib.hid h; clear h
  go_enter Try.func133, Try.ntmps133
  go_wp2_with (go_at_call 24; refine (live_copy (H.out.below hal)).mono ?_; rintro e w1 ⟨g', rfl, hg, hb, hb1⟩; have HB := Lib.hid hb; clear hb)
  go_ret
  exact ⟨g', rfl, Nat.le_trans hal.size hg, HB.out, hal.trans (hb1.mono hal.size)⟩

set_option maxRecDepth 20000 in
set_option maxHeartbeats 1000000 in
theorem run_copy (h : RunAt w r g F L R x A) :
    Calls Try.prog 8 #[.pointer (some ⟨r, 0, none⟩)] w fun e w' => ∃ r' g', e = .returned (.pointer (some ⟨r', 0, none⟩)) ∧ w.heap.size ≤ g' ∧ RunAt w' r' g' F L R x A ∧ Below w.heap.size w w' := by
  rcases h with h | h
  · have c0 := h.1.cell 0; have c1 := h.1.cell 1; have c2 := h.1.cell 2; have c3 := h.1.cell 3
    simp only [List.getElem?_toArray, List.getElem?_cons_zero, List.getElem?_cons_succ] at c0 c1 c2 c3
    have hlt := h.1.lt
    have o0 := fun e => (over_cell (w := w) (e := e) hlt).trans c0
    have o1 := fun e => (over_cell (w := w) (e := e) hlt).trans c1
    have o2 := fun e => (over_cell (w := w) (e := e) hlt).trans c2
    have o3 := fun e => (over_cell (w := w) (e := e) hlt).trans c3
    have HB := Lib.hid h.2.1; clear h
    have hm : ∀ W : World, (method 267 61 (.agg #[.pointer (some ⟨g, 0, none⟩)]) "distributary/run.own").run Try.prog W = .ok (129, .agg #[.pointer (some ⟨g, 0, none⟩)]) W := fun W => by kernel_rfl
    go_enter Try.func8, Try.ntmps8
    go_wp2
    refine wp_region_mid (w := w) 9 3 [8] [] [(8, fun u W' => ∃ g', u = ifB g' ∧ w.heap.size ≤ g' ∧ BentAt W' g' F L R x A)] rfl (by kernel_rfl) (by kernel_rfl) (by kernel_rfl) (by kernel_rfl) (fun _ _ _ _ _ h => h) ⟨?st1, trivial⟩ ?_
    case st1 => exact fun v W1 W2 ⟨g', h1, h2, h3⟩ hb => ⟨g', h1, h2, h3.below hb⟩
    intro LL hL
    have HL := Lib.hid hL
    clear hL
    simp only [List.take_succ_cons, List.take_zero, putL]
    repeat (first | refine wpHead_skip (by decide) ?_ | (refine wpHead_step (by decide) (fun K hK => ?_); go_simp; first | (refine hK _ ?_; clear hK K) | (apply Exists.intro; refine ⟨fun _ => ?_, hK _ ?_⟩; (fail); clear hK K)))
    refine wpHead_nil (HL.out _ ⟨?_, trivial⟩ ?_)
    · intro vs W1 hb1 hf
      clear hf HL
      change midAt _ _ (Act.put _ (some 22) (vs 8)) _ _
      go_simp
      exact (bends_own (HB.out.below hb1)).mono fun e W2 ⟨g', he, hg, hr, hb⟩ => ⟨_, he, hb, g', rfl, Nat.le_trans hb1.size hg, hr⟩
    · intro vs W1 hb1 hf
      obtain ⟨⟨g', hf1, hg', hf3⟩, hff⟩ := hf
      clear hff
      clear HL
      change wpList _ _ _ _ (Act.put _ (some 22) (vs 8)) _
      rw [hf1]
      clear hf1
      simp only [List.drop_succ_cons, List.drop_zero, List.take_succ_cons, List.take_zero]
      have H3 := Lib.hid hf3
      clear hf3
      go_wp2
      go_ret
      have hal2 := (Below.refl W1.heap.size W1).alloc (Nat.le_refl _) (.cells #[.int .u64 F, .int .u64 L, .int .u64 R, ifB g'] 65)
      exact ⟨W1.heap.size, g', rfl, hg', .inl ⟨Blk.new _ _ _, H3.out.below hal2, H3.out.lt⟩, hb1.trans (hal2.mono hb1.size)⟩
  · obtain ⟨K, hK⟩ := h.2.1
    have c0 := h.1.cell 0; have c1 := h.1.cell 1; have c2 := h.1.cell 2; have c3 := h.1.cell 3
    simp only [List.getElem?_toArray, List.getElem?_cons_zero, List.getElem?_cons_succ] at c0 c1 c2 c3
    have hlt := h.1.lt
    have o0 := fun e => (over_cell (w := w) (e := e) hlt).trans c0
    have o1 := fun e => (over_cell (w := w) (e := e) hlt).trans c1
    have o2 := fun e => (over_cell (w := w) (e := e) hlt).trans c2
    have o3 := fun e => (over_cell (w := w) (e := e) hlt).trans c3
    have HB := Lib.hid hK; clear h
    have hm : ∀ W : World, (method 267 67 (.agg #[.pointer (some ⟨g, 0, none⟩)]) "distributary/run.own").run Try.prog W = .ok (133, .agg #[.pointer (some ⟨g, 0, none⟩)]) W := fun W => by kernel_rfl
    go_enter Try.func8, Try.ntmps8
    go_wp2
    refine wp_region_mid (w := w) 9 3 [8] [] [(8, fun u W' => ∃ g', u = ifS g' ∧ w.heap.size ≤ g' ∧ Live W' g' F L R x K A)] rfl (by kernel_rfl) (by kernel_rfl) (by kernel_rfl) (by kernel_rfl) (fun _ _ _ _ _ h => h) ⟨?st1, trivial⟩ ?_
    case st1 => exact fun v W1 W2 ⟨g', h1, h2, h3⟩ hb => ⟨g', h1, h2, h3.below hb⟩
    intro LL hL
    have HL := Lib.hid hL
    clear hL
    simp only [List.take_succ_cons, List.take_zero, putL]
    repeat (first | refine wpHead_skip (by decide) ?_ | (refine wpHead_step (by decide) (fun K hK => ?_); go_simp; first | (refine hK _ ?_; clear hK K) | (apply Exists.intro; refine ⟨fun _ => ?_, hK _ ?_⟩; (fail); clear hK K)))
    refine wpHead_nil (HL.out _ ⟨?_, trivial⟩ ?_)
    · intro vs W1 hb1 hf
      clear hf HL
      change midAt _ _ (Act.put _ (some 22) (vs 8)) _ _
      go_simp
      exact (sags_own (HB.out.below hb1)).mono fun e W2 ⟨g', he, hg, hr, hb⟩ => ⟨_, he, hb, g', rfl, Nat.le_trans hb1.size hg, hr⟩
    · intro vs W1 hb1 hf
      obtain ⟨⟨g', hf1, hg', hf3⟩, hff⟩ := hf
      clear hff
      clear HL
      change wpList _ _ _ _ (Act.put _ (some 22) (vs 8)) _
      rw [hf1]
      clear hf1
      simp only [List.drop_succ_cons, List.drop_zero, List.take_succ_cons, List.take_zero]
      have H3 := Lib.hid hf3
      clear hf3
      go_wp2
      go_ret
      have hal2 := (Below.refl W1.heap.size W1).alloc (Nat.le_refl _) (.cells #[.int .u64 F, .int .u64 L, .int .u64 R, ifS g'] 65)
      exact ⟨W1.heap.size, g', rfl, hg', .inr ⟨Blk.new _ _ _, ⟨K, H3.out.below hal2⟩, H3.out.lt⟩, hb1.trans (hal2.mono hb1.size)⟩
end

end Go.Proofs.Ytipiajnaechadaa
