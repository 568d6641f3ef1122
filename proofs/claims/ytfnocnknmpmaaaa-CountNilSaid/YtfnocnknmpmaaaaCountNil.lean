/-
  The counters: a book that nobody made.
-/
import Derived.Test.YtfnocnknmpmaaaaCountAwake
namespace Go.Proofs.Ytfnocnknmpmaaaa
set_option linter.unusedVariables false
open Go.RowKit

/-- nobody made this book -/
def NoB (W : World) (v : Value) : Prop := v = .pointer none ∨ ∃ g, v = .pointer (some ⟨g, 0, none⟩) ∧ Blk W g 51 #[.map none]
theorem NoB.grown {W W' : World} {v : Value} (h : NoB W v) (hg : W.grownBy W' none) : NoB W' v := by
  rcases h with rfl | ⟨g, rfl, hb⟩
  · exact .inl rfl
  · exact .inr ⟨g, rfl, hb.grown hg (by simp)⟩

set_option maxRecDepth 100000 in
theorem none_yes (v : Value) (w : World) (h : NoB w v) :
    Calls Try.prog 62 #[v] w fun e w' => e = .returned (.bool true) ∧ w = w' := by
  rcases h with rfl | ⟨g, rfl, hb⟩
  · go_enter Try.func62, Try.ntmps62
    go_wp2
    go_ret
    exact ⟨rfl, rfl⟩
  · have c0 := hb.cell 0
    simp only [List.getElem?_toArray, List.getElem?_cons_zero, List.getElem?_cons_succ] at c0
    have qT : ∀ (w : World) (r : Option Nat), (binOp .eql 49 (.map r) (.map none)).run Try.prog w = .ok (.bool r.isNone) w := fun w r => run_eql_map_nil w _ _ _ r Try.underlying49
    go_enter Try.func62, Try.ntmps62
    go_wp2
    go_ret
    exact ⟨rfl, rfl⟩

set_option maxRecDepth 100000 in
theorem tell_no (v a b : Value) (w : World) (h : NoB w v) :
    Calls Try.prog 46 #[v, a, b] w fun e w' => e = .returned (.tuple #[]) ∧ w = w' := by
  have hn := none_yes v w h
  go_enter Try.func46, Try.ntmps46
  go_wp2_with (go_at_call 62; refine hn.mono ?_; rintro e w' ⟨rfl, rfl⟩)
  go_returns
  exact ⟨rfl, rfl⟩

theorem below_none {w w' : World} (h : w.grownBy w' none) : Below w.heap.size w w' := ⟨h.os, h.tape, h.output, h.size, fun k hk => h.block k hk (by simp)⟩
theorem came_no (v : Value) (i c n t : Int) (w : World) (h : NoB w v) (hw : (Lit.int .i64 n).wf = true) :
    Calls Try.prog 13 #[v, pktV i c n t] w fun e w' => e = .returned (.tuple #[]) ∧ Below w.heap.size w w' :=
  came_core v _ i c n t w hw fun W b hg _ _ => (tell_no _ _ _ W (h.grown hg)).mono fun e W2 hh => ⟨hh.1, hh.2 ▸ below_none hg⟩
theorem through_no (v : Value) (i c n t : Int) (w : World) (h : NoB w v) (hw : (Lit.int .i64 n).wf = true) :
    Calls Try.prog 20 #[v, pktV i c n t] w fun e w' => e = .returned (.tuple #[]) ∧ Below w.heap.size w w' :=
  through_core v _ i c n t w hw fun W b hg _ _ => (tell_no _ _ _ W (h.grown hg)).mono fun e W2 hh => ⟨hh.1, hh.2 ▸ below_none hg⟩
theorem chosen_no (v : Value) (i c n t r : Int) (w : World) (h : NoB w v) (hw : (Lit.int .i64 n).wf = true) :
    Calls Try.prog 18 #[v, pktV i c n t, .int .u8 r] w fun e w' => e = .returned (.tuple #[]) ∧ Below w.heap.size w w' :=
  chosen_core v _ i c n t r w hw fun W b hg _ _ => (tell_no _ _ _ W (h.grown hg)).mono fun e W2 hh => ⟨hh.1, hh.2 ▸ below_none hg⟩
set_option maxRecDepth 100000 in
theorem refused_no (v : Value) (c : Int) (w : World) (h : NoB w v) :
    Calls Try.prog 15 #[v, .int .i64 c] w fun e w' => e = .returned (.tuple #[]) ∧ Below w.heap.size w w' := by
  have hn := fun a b => tell_no v a b _ (h.grown (World.grownBy_alloc w (.cells (stepC refusedL).toArray 86) none))
  go_enter Try.func15, Try.ntmps15
  go_wp2_with (go_at_call 46; refine (hn _ _).mono ?_; rintro e w' ⟨rfl, rfl⟩)
  go_returns
  exact ⟨rfl, by go_grown⟩
set_option maxRecDepth 100000 in
theorem drop_no (v : Value) (c : Int) (w : World) (h : NoB w v) :
    Calls Try.prog 22 #[v, .int .i64 c] w fun e w' => e = .returned (.tuple #[]) ∧ w = w' := by
  have hn := none_yes v w h
  go_enter Try.func22, Try.ntmps22
  go_wp2_with (go_at_call 62; refine hn.mono ?_; rintro e w' ⟨rfl, rfl⟩)
  go_returns
  exact ⟨rfl, rfl⟩
set_option maxRecDepth 100000 in
theorem get_no (v : Value) (c : Int) (w : World) (h : NoB w v) :
    Calls Try.prog 30 #[v, .int .i64 c] w fun e w' => e = .returned (.agg #[.int .u64 0, .int .u64 0, .int .u64 0, .int .u64 0, .int .u64 0, .int .u64 0, .int .u64 0, .int .u64 0]) ∧ Below w.heap.size w w' := by
  have hn := none_yes v _ (h.grown (World.grownBy_alloc w (.cells (litS 0 0 0 0 0 0 0 0) 44) none))
  unfold litS at hn
  go_enter Try.func30, Try.ntmps30
  go_wp2_with (go_at_call 62; refine hn.mono ?_; rintro e w' ⟨rfl, rfl⟩)
  refine bodyPost_ret (v := .agg #[.int .u64 0, .int .u64 0, .int .u64 0, .int .u64 0, .int .u64 0, .int .u64 0, .int .u64 0, .int .u64 0]) (by simp [results, Try.results30, go_sem]) rfl ⟨rfl, ?_⟩
  go_grown
set_option maxRecDepth 100000 in
theorem ids_no (v : Value) (w : World) (h : NoB w v) :
    Calls Try.prog 28 #[v] w fun e w' => e = .returned (.slice none 0 0) ∧ w = w' := by
  have hn := none_yes v w h
  go_enter Try.func28, Try.ntmps28
  go_wp2_with (go_at_call 62; refine hn.mono ?_; rintro e w' ⟨rfl, rfl⟩)
  go_ret
  exact ⟨rfl, rfl⟩
set_option maxRecDepth 100000 in
theorem copy_no (w : World) :
    Calls Try.prog 31 #[.pointer none] w fun e w' => e = .returned (.pointer none) ∧ w = w' := by
  go_enter Try.func31, Try.ntmps31
  go_wp2
  go_ret
  exact ⟨rfl, rfl⟩

def CN (w W : World) (i c n t : Int) : Prop :=
  Blk W w.heap.size 24 #[.int .u64 i, .int .i64 c, .int .i64 n, .int .u64 t] ∧ Blk W (w.heap.size + 1) 51 #[.map none] ∧
  Blk W (w.heap.size + 2) 25 #[.pointer none, .pointer (some ⟨w.heap.size + 1, 0, none⟩)] ∧ Below w.heap.size w W
theorem CN.below {w W W' : World} {i c n t : Int} (h : CN w W i c n t) (hb : Below W.heap.size W W') : CN w W' i c n t :=
  ⟨h.1.below hb h.1.lt, h.2.1.below hb h.2.1.lt, h.2.2.1.below hb h.2.2.1.lt, h.2.2.2.trans (hb.mono h.2.2.2.size)⟩
def CNV (w W : World) (i c n t : Int) (v : Value) : Prop := CN w W i c n t ∧ NoB W v
theorem CNV.below {w W W' : World} {i c n t : Int} {v : Value} (h : CNV w W i c n t v) (hb : Below W.heap.size W W') : CNV w W' i c n t v := ⟨h.1.below hb, h.2.grown (grown_none hb)⟩

set_option maxRecDepth 100000 in
set_option maxHeartbeats 4000000 in
/-- the law -/
theorem countNil_any (i c n t r : Int) (w : World) (hw : (Lit.int .i64 n).wf = true) (hc : (Lit.int .i64 c).wf = true) :
    Calls Try.prog 7 #[pktV i c n t, .int .u8 r] w fun e w' => e = .returned (.bool true) ∧ Below w.heap.size w w' := by
  go_enter Try.func7, Try.ntmps7
  go_wp2
  go_loopw [7] (fun j W => ∃ k : Nat, k ≤ 2 ∧ j = .int .i64 k ∧ CN w W i c n t) (fun j _ => 2 - (intOf j).toNat)
  case atStart =>
    refine ⟨0, by omega, rfl, ?_, ?_, ?_, ?_⟩
    · exact ((Blk.new w 24 #[.int .u64 i, .int .i64 c, .int .i64 n, .int .u64 t]).alloc (.cells #[.map none] 51)).alloc (.cells #[.pointer none, .pointer (some ⟨w.heap.size + 1, 0, none⟩)] 25)
    · have h := (Blk.new (w.alloc (.cells #[.int .u64 i, .int .i64 c, .int .i64 n, .int .u64 t] 24)) 51 #[.map none]).alloc (.cells #[.pointer none, .pointer (some ⟨w.heap.size + 1, 0, none⟩)] 25)
      simpa using h
    · have h := Blk.new ((w.alloc (.cells #[.int .u64 i, .int .i64 c, .int .i64 n, .int .u64 t] 24)).alloc (.cells #[.map none] 51)) 25 #[.pointer none, .pointer (some ⟨w.heap.size + 1, 0, none⟩)]
      simpa using h
    · go_grown
  case round =>
    obtain ⟨k, hk, rfl, hs⟩ := hrel
    have s0 := hs.2.2.1.cell 0
    have s1 := hs.2.2.1.cell 1
    simp only [List.getElem?_toArray, List.getElem?_cons_zero, List.getElem?_cons_succ] at s0 s1
    by_cases h2 : k = 2
    · subst h2
      go_wp2_with (first
        | (go_at_call 31; refine (copy_no _).mono ?_; rintro e w' ⟨rfl, rfl⟩)
        | (go_at_call 24; refine (awake_any _).mono ?_; rintro e w' ⟨rfl, hb⟩))
      go_ret
      exact ⟨rfl, hs.2.2.2.trans (hb.mono hs.2.2.2.size)⟩
    · have hcc : ∃ v, NoB wr v ∧ ((k = 0 ∧ v = .pointer none) ∨ (k = 1 ∧ v = .pointer (some ⟨w.heap.size + 1, 0, none⟩))) := by
        have : k = 0 ∨ k = 1 := by omega
        rcases this with rfl | rfl
        · exact ⟨_, .inl rfl, .inl ⟨rfl, rfl⟩⟩
        · exact ⟨_, .inr ⟨_, rfl, hs.2.1⟩, .inr ⟨rfl, rfl⟩⟩
      obtain ⟨v, hno, hcc⟩ := hcc
      have H := Lib.hid (⟨hs, hno⟩ : CNV w wr i c n t v)
      clear hs hno
      have k0 := H.out.1.1.cell 0; have k1 := H.out.1.1.cell 1; have k2 := H.out.1.1.cell 2; have k3 := H.out.1.1.cell 3
      simp only [List.getElem?_toArray, List.getElem?_cons_zero, List.getElem?_cons_succ] at k0 k1 k2 k3
      rcases hcc with ⟨rfl, rfl⟩ | ⟨rfl, rfl⟩
      all_goals
        go_wp2_with (first
          | (go_at_call 13; refine (came_no _ _ _ _ _ _ H.out.2 hw).mono ?_; rintro e w1 ⟨rfl, hb⟩; have H2 := Lib.hid (CNV.below H.out hb); clear H hb k0 k1 k2 k3; have H := Lib.hid H2.out; clear H2; have k0 := H.out.1.1.cell 0; have k1 := H.out.1.1.cell 1; have k2 := H.out.1.1.cell 2; have k3 := H.out.1.1.cell 3; simp only [List.getElem?_toArray, List.getElem?_cons_zero, List.getElem?_cons_succ] at k0 k1 k2 k3)
          | (go_at_call 15; refine (refused_no _ _ _ H.out.2).mono ?_; rintro e w1 ⟨rfl, hb⟩; have H2 := Lib.hid (CNV.below H.out hb); clear H hb k0 k1 k2 k3; have H := Lib.hid H2.out; clear H2; have k0 := H.out.1.1.cell 0; have k1 := H.out.1.1.cell 1; have k2 := H.out.1.1.cell 2; have k3 := H.out.1.1.cell 3; simp only [List.getElem?_toArray, List.getElem?_cons_zero, List.getElem?_cons_succ] at k0 k1 k2 k3)
          | (go_at_call 18; refine (chosen_no _ _ _ _ _ _ _ H.out.2 hw).mono ?_; rintro e w1 ⟨rfl, hb⟩; have H2 := Lib.hid (CNV.below H.out hb); clear H hb k0 k1 k2 k3; have H := Lib.hid H2.out; clear H2; have k0 := H.out.1.1.cell 0; have k1 := H.out.1.1.cell 1; have k2 := H.out.1.1.cell 2; have k3 := H.out.1.1.cell 3; simp only [List.getElem?_toArray, List.getElem?_cons_zero, List.getElem?_cons_succ] at k0 k1 k2 k3)
          | (go_at_call 20; refine (through_no _ _ _ _ _ _ H.out.2 hw).mono ?_; rintro e w1 ⟨rfl, hb⟩; have H2 := Lib.hid (CNV.below H.out hb); clear H hb k0 k1 k2 k3; have H := Lib.hid H2.out; clear H2; have k0 := H.out.1.1.cell 0; have k1 := H.out.1.1.cell 1; have k2 := H.out.1.1.cell 2; have k3 := H.out.1.1.cell 3; simp only [List.getElem?_toArray, List.getElem?_cons_zero, List.getElem?_cons_succ] at k0 k1 k2 k3)
          | (go_at_call 22; refine (drop_no _ _ _ H.out.2).mono ?_; rintro e w1 ⟨rfl, rfl⟩)
          | (go_at_call 30; refine (get_no _ _ _ H.out.2).mono ?_; rintro e w1 ⟨rfl, hb⟩; have H2 := Lib.hid (CNV.below H.out hb); clear H hb k0 k1 k2 k3; have H := Lib.hid H2.out; clear H2; have k0 := H.out.1.1.cell 0; have k1 := H.out.1.1.cell 1; have k2 := H.out.1.1.cell 2; have k3 := H.out.1.1.cell 3; simp only [List.getElem?_toArray, List.getElem?_cons_zero, List.getElem?_cons_succ] at k0 k1 k2 k3)
          | (go_at_call 28; refine (ids_no _ _ H.out.2).mono ?_; rintro e w1 ⟨rfl, rfl⟩))
        go_roundw
        case rel => first | exact ⟨1, by omega, by go_num, H.out.1⟩ | exact ⟨2, by omega, by go_num, H.out.1⟩
        case measure => simp [intOf]

end Go.Proofs.Ytfnocnknmpmaaaa
