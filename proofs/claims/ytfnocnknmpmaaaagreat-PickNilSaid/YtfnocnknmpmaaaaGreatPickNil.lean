/-
  PickNil: a picker that nobody made.
-/
import Derived.Test.YtfnocnknmpmaaaaGreatReg
import Derived.WalkSpells
import Derived.Maps.OwnOps
import Derived.Maps.OwnSet
namespace Go.Proofs.YtfnocnknmpmaaaaGreat
set_option linter.unusedVariables false
open Go.RowKit

/-- nobody made this picker -/
def NoP (W : World) (v : Value) : Prop := v = .pointer none ∨ ∃ g, v = .pointer (some ⟨g, 0, none⟩) ∧ Blk W g 58 #[.map none]
theorem NoP.below {W W' : World} {v : Value} (h : NoP W v) (hg : Below W.heap.size W W') : NoP W' v := by
  rcases h with rfl | ⟨g, rfl, hb⟩
  · exact .inl rfl
  · exact .inr ⟨g, rfl, hb.below hg hb.lt⟩

set_option maxRecDepth 100000 in
theorem pat_no (v : Value) (id : Int) (w : World) (h : NoP w v) (hw : (Lit.int .i64 id).wf = true) :
    Calls Tryz.prog 61 #[v, .int .i64 id] w fun e w' => e = .returned (.pointer none) ∧ w = w' := by
  rcases h with rfl | ⟨g, rfl, hb⟩
  · go_enter Tryz.func61, Tryz.ntmps61
    go_wp2
    go_ret
    exact ⟨rfl, rfl⟩
  · have c0 := hb.cell 0
    simp only [List.getElem?_toArray, List.getElem?_cons_zero, List.getElem?_cons_succ] at c0
    have hq := Go.Maps.look_nil (P := Tryz.prog) (w := w) false (Go.Maps.int_keyed Tryz.underlying3) Tryz.underlying56 (z := .pointer none) (by exact Tryz.zeroValue89 w) (key := .int .i64 id) (Go.Maps.keyOf_int_mk Tryz.underlying3 hw)
    go_enter Tryz.func61, Tryz.ntmps61
    go_wp2
    go_ret
    exact ⟨rfl, rfl⟩
set_option maxRecDepth 100000 in
theorem pawake_no (v : Value) (id : Int) (w : World) (h : NoP w v) (hw : (Lit.int .i64 id).wf = true) :
    Calls Tryz.prog 34 #[v, .int .i64 id] w fun e w' => e = .returned (.bool false) ∧ Below w.heap.size w w' := by
  have hc := pat_no v id w h hw
  clear hw
  by_cases hid : 0 < id
  · have hd : decide (0 < id) = true := decide_eq_true hid
    go_enter Tryz.func34, Tryz.ntmps34
    go_wp2_with (go_at_call 61; refine hc.mono ?_; rintro e w' ⟨rfl, rfl⟩)
    go_quiet (fail)
    go_wp2
    go_ret
    exact ⟨rfl, below_drewN (Below.refl _ _) _⟩
  · have hd : decide (0 < id) = false := decide_eq_false hid
    go_enter Tryz.func34, Tryz.ntmps34
    go_wp2_with (go_at_call 61; refine hc.mono ?_; rintro e w' ⟨rfl, rfl⟩)
    go_quiet (fail)
    go_wp2
    go_ret
    exact ⟨rfl, below_drewN (Below.refl _ _) _⟩
set_option maxRecDepth 100000 in
theorem pwake_no (v : Value) (id : Int) (now : Int) (w : World) (h : NoP w v) (hw : (Lit.int .i64 id).wf = true) :
    Calls Tryz.prog 27 #[v, .int .i64 id, .int .u64 now] w fun e w' => e = .returned (.tuple #[]) ∧ Below w.heap.size w w' := by
  rcases h with rfl | ⟨g, rfl, hb⟩
  · have hc := pat_no (.pointer none) id ((w.alloc (.cells #[.pointer none] 55)).alloc (.cells #[.int .u64 now] 32)) (NoP.below (.inl rfl : NoP w (.pointer none)) (((Below.refl _ w).alloc (Nat.le_refl _) _).alloc (by simp) _)) hw
    clear hw
    by_cases hid : id < 1
    · have hd : decide (id < 1) = true := decide_eq_true hid
      go_enter Tryz.func27, Tryz.ntmps27
      go_wp2_with (go_at_call 61; refine hc.mono ?_; rintro e w' ⟨rfl, rfl⟩)
      go_returns
      exact ⟨rfl, by go_grown⟩
    · have hd : decide (id < 1) = false := decide_eq_false hid
      go_enter Tryz.func27, Tryz.ntmps27
      go_wp2_with (go_at_call 61; refine hc.mono ?_; rintro e w' ⟨rfl, rfl⟩)
      go_returns
      exact ⟨rfl, by go_grown⟩
  · have hc := pat_no (.pointer (some ⟨g, 0, none⟩)) id ((w.alloc (.cells #[.pointer (some ⟨g, 0, none⟩)] 55)).alloc (.cells #[.int .u64 now] 32)) (NoP.below (.inr ⟨g, rfl, hb⟩ : NoP w (.pointer (some ⟨g, 0, none⟩))) (((Below.refl _ w).alloc (Nat.le_refl _) _).alloc (by simp) _)) hw
    clear hw
    by_cases hid : id < 1
    · have hd : decide (id < 1) = true := decide_eq_true hid
      go_enter Tryz.func27, Tryz.ntmps27
      go_wp2_with (go_at_call 61; refine hc.mono ?_; rintro e w' ⟨rfl, rfl⟩)
      go_returns
      exact ⟨rfl, by go_grown⟩
    · have hd : decide (id < 1) = false := decide_eq_false hid
      go_enter Tryz.func27, Tryz.ntmps27
      go_wp2_with (go_at_call 61; refine hc.mono ?_; rintro e w' ⟨rfl, rfl⟩)
      go_returns
      exact ⟨rfl, by go_grown⟩
set_option maxRecDepth 100000 in
theorem psent_no (v : Value) (id : Int) (gr : Int) (mo : Bool) (w : World) (h : NoP w v) (hw : (Lit.int .i64 id).wf = true) :
    Calls Tryz.prog 28 #[v, .int .i64 id, .int .u64 gr, .bool mo] w fun e w' => e = .returned (.tuple #[]) ∧ Below w.heap.size w w' := by
  rcases h with rfl | ⟨g, rfl, hb⟩
  · have hc := pat_no (.pointer none) id ((w.alloc (.cells #[.pointer none] 55)).alloc (.cells #[.int .u64 gr] 32)) (NoP.below (.inl rfl : NoP w (.pointer none)) (((Below.refl _ w).alloc (Nat.le_refl _) _).alloc (by simp) _)) hw
    clear hw
    by_cases hid : id < 1
    · have hd : decide (id < 1) = true := decide_eq_true hid
      go_enter Tryz.func28, Tryz.ntmps28
      go_wp2_with (go_at_call 61; refine hc.mono ?_; rintro e w' ⟨rfl, rfl⟩)
      go_returns
      exact ⟨rfl, by go_grown⟩
    · have hd : decide (id < 1) = false := decide_eq_false hid
      go_enter Tryz.func28, Tryz.ntmps28
      go_wp2_with (go_at_call 61; refine hc.mono ?_; rintro e w' ⟨rfl, rfl⟩)
      go_returns
      exact ⟨rfl, by go_grown⟩
  · have hc := pat_no (.pointer (some ⟨g, 0, none⟩)) id ((w.alloc (.cells #[.pointer (some ⟨g, 0, none⟩)] 55)).alloc (.cells #[.int .u64 gr] 32)) (NoP.below (.inr ⟨g, rfl, hb⟩ : NoP w (.pointer (some ⟨g, 0, none⟩))) (((Below.refl _ w).alloc (Nat.le_refl _) _).alloc (by simp) _)) hw
    clear hw
    by_cases hid : id < 1
    · have hd : decide (id < 1) = true := decide_eq_true hid
      go_enter Tryz.func28, Tryz.ntmps28
      go_wp2_with (go_at_call 61; refine hc.mono ?_; rintro e w' ⟨rfl, rfl⟩)
      go_returns
      exact ⟨rfl, by go_grown⟩
    · have hd : decide (id < 1) = false := decide_eq_false hid
      go_enter Tryz.func28, Tryz.ntmps28
      go_wp2_with (go_at_call 61; refine hc.mono ?_; rintro e w' ⟨rfl, rfl⟩)
      go_returns
      exact ⟨rfl, by go_grown⟩
set_option maxRecDepth 100000 in
theorem pdrop_no (v : Value) (id : Int) (w : World) (h : NoP w v) (hw : (Lit.int .i64 id).wf = true) :
    Calls Tryz.prog 32 #[v, .int .i64 id] w fun e w' => e = .returned (.bool false) ∧ Below w.heap.size w w' := by
  have hc := pat_no v id w (h.below (Below.refl _ _)) hw
  clear hw
  by_cases hid : id < 1
  · have hd : decide (id < 1) = true := decide_eq_true hid
    go_enter Tryz.func32, Tryz.ntmps32
    go_wp2_with (go_at_call 61; refine hc.mono ?_; rintro e w' ⟨rfl, rfl⟩)
    go_ret
    exact ⟨rfl, by go_grown⟩
  · have hd : decide (id < 1) = false := decide_eq_false hid
    go_enter Tryz.func32, Tryz.ntmps32
    go_wp2_with (go_at_call 61; refine hc.mono ?_; rintro e w' ⟨rfl, rfl⟩)
    go_ret
    exact ⟨rfl, by go_grown⟩
set_option maxRecDepth 100000 in
theorem pv_no (v : Value) (id : Int) (w : World) (h : NoP w v) (hw : (Lit.int .i64 id).wf = true) :
    Calls Tryz.prog 35 #[v, .int .i64 id] w fun e w' => e = .returned (.int .u64 0) ∧ Below w.heap.size w w' := by
  have hc := pat_no v id w (h.below (Below.refl _ _)) hw
  clear hw
  by_cases hid : id < 1
  · have hd : decide (id < 1) = true := decide_eq_true hid
    go_enter Tryz.func35, Tryz.ntmps35
    go_wp2_with (go_at_call 61; refine hc.mono ?_; rintro e w' ⟨rfl, rfl⟩)
    go_ret
    exact ⟨rfl, by go_grown⟩
  · have hd : decide (id < 1) = false := decide_eq_false hid
    go_enter Tryz.func35, Tryz.ntmps35
    go_wp2_with (go_at_call 61; refine hc.mono ?_; rintro e w' ⟨rfl, rfl⟩)
    go_ret
    exact ⟨rfl, by go_grown⟩
set_option maxRecDepth 100000 in
theorem ptotal_no (v : Value) (id : Int) (w : World) (h : NoP w v) (hw : (Lit.int .i64 id).wf = true) :
    Calls Tryz.prog 36 #[v, .int .i64 id] w fun e w' => e = .returned (.int .u64 0) ∧ Below w.heap.size w w' := by
  have hc := pat_no v id w (h.below (Below.refl _ _)) hw
  clear hw
  by_cases hid : id < 1
  · have hd : decide (id < 1) = true := decide_eq_true hid
    go_enter Tryz.func36, Tryz.ntmps36
    go_wp2_with (go_at_call 61; refine hc.mono ?_; rintro e w' ⟨rfl, rfl⟩)
    go_ret
    exact ⟨rfl, by go_grown⟩
  · have hd : decide (id < 1) = false := decide_eq_false hid
    go_enter Tryz.func36, Tryz.ntmps36
    go_wp2_with (go_at_call 61; refine hc.mono ?_; rintro e w' ⟨rfl, rfl⟩)
    go_ret
    exact ⟨rfl, by go_grown⟩
set_option maxRecDepth 100000 in
theorem pfit_no (v : Value) (id : Int) (w : World) (h : NoP w v) (hw : (Lit.int .i64 id).wf = true) :
    Calls Tryz.prog 37 #[v, .int .i64 id] w fun e w' => e = .returned (.int .u64 9223372036854775808) ∧ Below w.heap.size w w' := by
  have hc := pawake_no v id w h hw
  clear hw
  go_enter Tryz.func37, Tryz.ntmps37
  go_wp2_with (go_at_call 34; refine hc.mono ?_; rintro e w' ⟨rfl, hb⟩)
  go_ret
  exact ⟨rfl, hb⟩
set_option maxRecDepth 100000 in
theorem ptick_no (v : Value) (w : World) (h : NoP w v) :
    Calls Tryz.prog 33 #[v] w fun e w' => e = .returned (.int .u64 9223372036854775808) ∧ Below w.heap.size w w' := by
  have hc := pat_no v 0 w h (by decide)
  go_enter Tryz.func33, Tryz.ntmps33
  go_wp2_with (go_at_call 61; refine hc.mono ?_; rintro e w' ⟨rfl, rfl⟩)
  go_ret
  exact ⟨rfl, by go_grown⟩
set_option maxRecDepth 100000 in
theorem pcopy_no (w : World) :
    Calls Tryz.prog 38 #[.pointer none] w fun e w' => e = .returned (.pointer none) ∧ w = w' := by
  go_enter Tryz.func38, Tryz.ntmps38
  go_wp2
  go_ret
  exact ⟨rfl, rfl⟩
set_option maxRecDepth 100000 in
theorem pnext_no (v : Value) (now : Int) (w : World) (h : NoP w v) :
    Calls Tryz.prog 29 #[v, .int .u64 now] w fun e w' => e = .returned (.tuple #[.int .i64 0, .bool false]) ∧ Below w.heap.size w w' := by
  have hc := pat_no v 0 w h (by decide)
  go_enter Tryz.func29, Tryz.ntmps29
  go_wp2_with (go_at_call 61; refine hc.mono ?_; rintro e w' ⟨rfl, rfl⟩)
  refine wp_loop_rounds 1 ?_
  rw [rounds_succ]
  go_wp2
  go_ret2
  exact ⟨rfl, by go_grown⟩

/-- a spec's cells -/
def specC (id pa : Int) (lf : Bool) (a b c d e f g h i pk by_ : Int) : Array Value :=
  #[.int .i64 id, .int .i64 pa, .bool lf, .int .u64 a, .int .u64 b, .int .u64 c, .int .u64 d, .int .u64 e, .int .u64 f, .int .u64 g, .int .u64 h, .int .u64 i, .int .i64 pk, .int .i64 by_]
set_option maxRecDepth 100000 in
theorem pput_no (v : Value) (id pa : Int) (lf : Bool) (a b c d e f g h i pk by_ : Int) (w : World) (hn : NoP w v) (hw : (Lit.int .i64 id).wf = true) (hp : (Lit.int .i64 pa).wf = true) :
    Calls Tryz.prog 30 #[v, .agg (specC id pa lf a b c d e f g h i pk by_)] w fun e w' => e = .returned (.bool false) ∧ Below w.heap.size w w' := by
  have hn2 := hn.below ((Below.refl _ w).alloc (Nat.le_refl _) (.cells (specC id pa lf a b c d e f g h i pk by_) 36))
  have hc := pat_no v id _ hn2 hw
  have hc2 := pat_no v pa _ hn2 hp
  clear hw hp hn2
  unfold specC at *
  by_cases hid : id < 1
  · have hd : decide (id < 1) = true := decide_eq_true hid
    go_enter Tryz.func30, Tryz.ntmps30
    go_wp2_with (go_at_call 61; refine hc2.mono ?_; rintro e w' ⟨rfl, rfl⟩)
    go_ret
    exact ⟨rfl, by go_grown⟩
  · have hd : decide (id < 1) = false := decide_eq_false hid
    go_enter Tryz.func30, Tryz.ntmps30
    go_wp2_with fail
    refine hc2.mono ?_
    rintro e w' ⟨rfl, rfl⟩
    go_wp2_with fail
    refine hc.mono ?_
    rintro e w' ⟨rfl, rfl⟩
    go_wp2_with fail
    go_ret
    exact ⟨rfl, by go_grown⟩
set_option maxRecDepth 100000 in
theorem prenew_no (v : Value) (id pa : Int) (lf : Bool) (a b c d e f g h i pk by_ : Int) (w : World) (hn : NoP w v) (hw : (Lit.int .i64 id).wf = true) :
    Calls Tryz.prog 31 #[v, .agg (specC id pa lf a b c d e f g h i pk by_)] w fun e w' => e = .returned (.bool false) ∧ Below w.heap.size w w' := by
  have hn2 := hn.below ((Below.refl _ w).alloc (Nat.le_refl _) (.cells (specC id pa lf a b c d e f g h i pk by_) 36))
  have hc := pat_no v id _ hn2 hw
  clear hw hn2
  unfold specC at *
  by_cases hid : id < 1
  · have hd : decide (id < 1) = true := decide_eq_true hid
    go_enter Tryz.func31, Tryz.ntmps31
    go_wp2_with (go_at_call 61; refine hc.mono ?_; rintro e w' ⟨rfl, rfl⟩)
    go_ret
    exact ⟨rfl, by go_grown⟩
  · have hd : decide (id < 1) = false := decide_eq_false hid
    go_enter Tryz.func31, Tryz.ntmps31
    go_wp2_with (go_at_call 61; refine hc.mono ?_; rintro e w' ⟨rfl, rfl⟩)
    go_ret
    exact ⟨rfl, by go_grown⟩

def PN (w W : World) (S : Array Value) : Prop :=
  Blk W w.heap.size 36 S ∧ Blk W (w.heap.size + 1) 58 #[.map none] ∧
  Blk W (w.heap.size + 2) 55 #[.pointer none, .pointer (some ⟨w.heap.size + 1, 0, none⟩)] ∧ Below w.heap.size w W
theorem PN.below {w W W' : World} {S : Array Value} (h : PN w W S) (hb : Below W.heap.size W W') : PN w W' S :=
  ⟨h.1.below hb h.1.lt, h.2.1.below hb h.2.1.lt, h.2.2.1.below hb h.2.2.1.lt, h.2.2.2.trans (hb.mono h.2.2.2.size)⟩
def PNV (w W : World) (S : Array Value) (v : Value) : Prop := PN w W S ∧ NoP W v
theorem PNV.below {w W W' : World} {S : Array Value} {v : Value} (h : PNV w W S v) (hb : Below W.heap.size W W') : PNV w W' S v := ⟨PN.below h.1 hb, h.2.below hb⟩

set_option maxRecDepth 100000 in
set_option maxHeartbeats 4000000 in
/-- the law -/
theorem pickNil_any (id pa : Int) (lf : Bool) (a b c d e f g h i pk by_ now : Int) (w : World) (hw : (Lit.int .i64 id).wf = true) (hp : (Lit.int .i64 pa).wf = true) :
    Calls Tryz.prog 6 #[.agg (specC id pa lf a b c d e f g h i pk by_), .int .u64 now] w fun e w' => e = .returned (.bool true) ∧ Below w.heap.size w w' := by
  have hX : ∃ S, S = specC id pa lf a b c d e f g h i pk by_ := ⟨_, rfl⟩
  unfold specC
  go_enter Tryz.func6, Tryz.ntmps6
  go_wp2
  go_loopw [7] (fun j W => ∃ k : Nat, k ≤ 2 ∧ j = .int .i64 k ∧ PN w W (specC id pa lf a b c d e f g h i pk by_)) (fun j _ => 2 - (intOf j).toNat)
  case atStart =>
    refine ⟨0, by omega, rfl, ?_, ?_, ?_, ?_⟩
    · exact ((Blk.new w 36 (specC id pa lf a b c d e f g h i pk by_)).alloc (.cells #[.map none] 58)).alloc (.cells #[.pointer none, .pointer (some ⟨w.heap.size + 1, 0, none⟩)] 55)
    · have h := (Blk.new (w.alloc (.cells (specC id pa lf a b c d e f g h i pk by_) 36)) 58 #[.map none]).alloc (.cells #[.pointer none, .pointer (some ⟨w.heap.size + 1, 0, none⟩)] 55)
      simpa [specC] using h
    · have h := Blk.new ((w.alloc (.cells (specC id pa lf a b c d e f g h i pk by_) 36)).alloc (.cells #[.map none] 58)) 55 #[.pointer none, .pointer (some ⟨w.heap.size + 1, 0, none⟩)]
      simpa [specC] using h
    · go_grown
  case round =>
    obtain ⟨k, hk, rfl, hs⟩ := hrel
    have s0 := hs.2.2.1.cell 0
    have s1 := hs.2.2.1.cell 1
    simp only [List.getElem?_toArray, List.getElem?_cons_zero, List.getElem?_cons_succ] at s0 s1
    by_cases h2 : k = 2
    · subst h2
      go_wp2_with (go_at_call 38; refine (pcopy_no _).mono ?_; rintro e w' ⟨rfl, rfl⟩)
      go_ret
      exact ⟨rfl, hs.2.2.2⟩
    · have hcc : ∃ v, NoP wr v ∧ ((k = 0 ∧ v = .pointer none) ∨ (k = 1 ∧ v = .pointer (some ⟨w.heap.size + 1, 0, none⟩))) := by
        have : k = 0 ∨ k = 1 := by omega
        rcases this with rfl | rfl
        · exact ⟨_, .inl rfl, .inl ⟨rfl, rfl⟩⟩
        · exact ⟨_, .inr ⟨_, rfl, hs.2.1⟩, .inr ⟨rfl, rfl⟩⟩
      obtain ⟨v, hno, hcc⟩ := hcc
      have H := Lib.hid (⟨hs, hno⟩ : PNV w wr (specC id pa lf a b c d e f g h i pk by_) v)
      clear hs hno
      have k0 := H.out.1.1.cell 0; have k1 := H.out.1.1.cell 1; have k2 := H.out.1.1.cell 2; have k3 := H.out.1.1.cell 3; have k4 := H.out.1.1.cell 4; have k5 := H.out.1.1.cell 5; have k6 := H.out.1.1.cell 6; have k7 := H.out.1.1.cell 7; have k8 := H.out.1.1.cell 8; have k9 := H.out.1.1.cell 9; have k10 := H.out.1.1.cell 10; have k11 := H.out.1.1.cell 11; have k12 := H.out.1.1.cell 12; have k13 := H.out.1.1.cell 13
      simp only [specC, List.getElem?_toArray, List.getElem?_cons_zero, List.getElem?_cons_succ] at k0 k1 k2 k3 k4 k5 k6 k7 k8 k9 k10 k11 k12 k13
      rcases hcc with ⟨rfl, rfl⟩ | ⟨rfl, rfl⟩
      all_goals
        go_wp2_with (first
          | (go_at_call 27; refine (pwake_no _ _ _ _ H.out.2 hw).mono ?_; rintro e w1 ⟨rfl, hb⟩; have H2 := Lib.hid (PNV.below H.out hb); clear H hb k0 k1 k2 k3 k4 k5 k6 k7 k8 k9 k10 k11 k12 k13; have H := Lib.hid H2.out; clear H2; have k0 := H.out.1.1.cell 0; have k1 := H.out.1.1.cell 1; have k2 := H.out.1.1.cell 2; have k3 := H.out.1.1.cell 3; have k4 := H.out.1.1.cell 4; have k5 := H.out.1.1.cell 5; have k6 := H.out.1.1.cell 6; have k7 := H.out.1.1.cell 7; have k8 := H.out.1.1.cell 8; have k9 := H.out.1.1.cell 9; have k10 := H.out.1.1.cell 10; have k11 := H.out.1.1.cell 11; have k12 := H.out.1.1.cell 12; have k13 := H.out.1.1.cell 13; simp only [specC, List.getElem?_toArray, List.getElem?_cons_zero, List.getElem?_cons_succ] at k0 k1 k2 k3 k4 k5 k6 k7 k8 k9 k10 k11 k12 k13)
          | (go_at_call 28; refine (psent_no _ _ _ _ _ H.out.2 hw).mono ?_; rintro e w1 ⟨rfl, hb⟩; have H2 := Lib.hid (PNV.below H.out hb); clear H hb k0 k1 k2 k3 k4 k5 k6 k7 k8 k9 k10 k11 k12 k13; have H := Lib.hid H2.out; clear H2; have k0 := H.out.1.1.cell 0; have k1 := H.out.1.1.cell 1; have k2 := H.out.1.1.cell 2; have k3 := H.out.1.1.cell 3; have k4 := H.out.1.1.cell 4; have k5 := H.out.1.1.cell 5; have k6 := H.out.1.1.cell 6; have k7 := H.out.1.1.cell 7; have k8 := H.out.1.1.cell 8; have k9 := H.out.1.1.cell 9; have k10 := H.out.1.1.cell 10; have k11 := H.out.1.1.cell 11; have k12 := H.out.1.1.cell 12; have k13 := H.out.1.1.cell 13; simp only [specC, List.getElem?_toArray, List.getElem?_cons_zero, List.getElem?_cons_succ] at k0 k1 k2 k3 k4 k5 k6 k7 k8 k9 k10 k11 k12 k13)
          | (go_at_call 29; refine (pnext_no _ _ _ H.out.2).mono ?_; rintro e w1 ⟨rfl, hb⟩; have H2 := Lib.hid (PNV.below H.out hb); clear H hb k0 k1 k2 k3 k4 k5 k6 k7 k8 k9 k10 k11 k12 k13; have H := Lib.hid H2.out; clear H2; have k0 := H.out.1.1.cell 0; have k1 := H.out.1.1.cell 1; have k2 := H.out.1.1.cell 2; have k3 := H.out.1.1.cell 3; have k4 := H.out.1.1.cell 4; have k5 := H.out.1.1.cell 5; have k6 := H.out.1.1.cell 6; have k7 := H.out.1.1.cell 7; have k8 := H.out.1.1.cell 8; have k9 := H.out.1.1.cell 9; have k10 := H.out.1.1.cell 10; have k11 := H.out.1.1.cell 11; have k12 := H.out.1.1.cell 12; have k13 := H.out.1.1.cell 13; simp only [specC, List.getElem?_toArray, List.getElem?_cons_zero, List.getElem?_cons_succ] at k0 k1 k2 k3 k4 k5 k6 k7 k8 k9 k10 k11 k12 k13)
          | (go_at_call 30; refine (pput_no _ id pa lf a b c d e f g h i pk by_ _ H.out.2 hw hp).mono ?_; rintro e w1 ⟨rfl, hb⟩; have H2 := Lib.hid (PNV.below H.out hb); clear H hb k0 k1 k2 k3 k4 k5 k6 k7 k8 k9 k10 k11 k12 k13; have H := Lib.hid H2.out; clear H2; have k0 := H.out.1.1.cell 0; have k1 := H.out.1.1.cell 1; have k2 := H.out.1.1.cell 2; have k3 := H.out.1.1.cell 3; have k4 := H.out.1.1.cell 4; have k5 := H.out.1.1.cell 5; have k6 := H.out.1.1.cell 6; have k7 := H.out.1.1.cell 7; have k8 := H.out.1.1.cell 8; have k9 := H.out.1.1.cell 9; have k10 := H.out.1.1.cell 10; have k11 := H.out.1.1.cell 11; have k12 := H.out.1.1.cell 12; have k13 := H.out.1.1.cell 13; simp only [specC, List.getElem?_toArray, List.getElem?_cons_zero, List.getElem?_cons_succ] at k0 k1 k2 k3 k4 k5 k6 k7 k8 k9 k10 k11 k12 k13)
          | (go_at_call 31; refine (prenew_no _ id pa lf a b c d e f g h i pk by_ _ H.out.2 hw).mono ?_; rintro e w1 ⟨rfl, hb⟩; have H2 := Lib.hid (PNV.below H.out hb); clear H hb k0 k1 k2 k3 k4 k5 k6 k7 k8 k9 k10 k11 k12 k13; have H := Lib.hid H2.out; clear H2; have k0 := H.out.1.1.cell 0; have k1 := H.out.1.1.cell 1; have k2 := H.out.1.1.cell 2; have k3 := H.out.1.1.cell 3; have k4 := H.out.1.1.cell 4; have k5 := H.out.1.1.cell 5; have k6 := H.out.1.1.cell 6; have k7 := H.out.1.1.cell 7; have k8 := H.out.1.1.cell 8; have k9 := H.out.1.1.cell 9; have k10 := H.out.1.1.cell 10; have k11 := H.out.1.1.cell 11; have k12 := H.out.1.1.cell 12; have k13 := H.out.1.1.cell 13; simp only [specC, List.getElem?_toArray, List.getElem?_cons_zero, List.getElem?_cons_succ] at k0 k1 k2 k3 k4 k5 k6 k7 k8 k9 k10 k11 k12 k13)
          | (go_at_call 32; refine (pdrop_no _ _ _ H.out.2 hw).mono ?_; rintro e w1 ⟨rfl, hb⟩; have H2 := Lib.hid (PNV.below H.out hb); clear H hb k0 k1 k2 k3 k4 k5 k6 k7 k8 k9 k10 k11 k12 k13; have H := Lib.hid H2.out; clear H2; have k0 := H.out.1.1.cell 0; have k1 := H.out.1.1.cell 1; have k2 := H.out.1.1.cell 2; have k3 := H.out.1.1.cell 3; have k4 := H.out.1.1.cell 4; have k5 := H.out.1.1.cell 5; have k6 := H.out.1.1.cell 6; have k7 := H.out.1.1.cell 7; have k8 := H.out.1.1.cell 8; have k9 := H.out.1.1.cell 9; have k10 := H.out.1.1.cell 10; have k11 := H.out.1.1.cell 11; have k12 := H.out.1.1.cell 12; have k13 := H.out.1.1.cell 13; simp only [specC, List.getElem?_toArray, List.getElem?_cons_zero, List.getElem?_cons_succ] at k0 k1 k2 k3 k4 k5 k6 k7 k8 k9 k10 k11 k12 k13)
          | (go_at_call 33; refine (ptick_no _ _ H.out.2).mono ?_; rintro e w1 ⟨rfl, hb⟩; have H2 := Lib.hid (PNV.below H.out hb); clear H hb k0 k1 k2 k3 k4 k5 k6 k7 k8 k9 k10 k11 k12 k13; have H := Lib.hid H2.out; clear H2; have k0 := H.out.1.1.cell 0; have k1 := H.out.1.1.cell 1; have k2 := H.out.1.1.cell 2; have k3 := H.out.1.1.cell 3; have k4 := H.out.1.1.cell 4; have k5 := H.out.1.1.cell 5; have k6 := H.out.1.1.cell 6; have k7 := H.out.1.1.cell 7; have k8 := H.out.1.1.cell 8; have k9 := H.out.1.1.cell 9; have k10 := H.out.1.1.cell 10; have k11 := H.out.1.1.cell 11; have k12 := H.out.1.1.cell 12; have k13 := H.out.1.1.cell 13; simp only [specC, List.getElem?_toArray, List.getElem?_cons_zero, List.getElem?_cons_succ] at k0 k1 k2 k3 k4 k5 k6 k7 k8 k9 k10 k11 k12 k13)
          | (go_at_call 34; refine (pawake_no _ _ _ H.out.2 hw).mono ?_; rintro e w1 ⟨rfl, hb⟩; have H2 := Lib.hid (PNV.below H.out hb); clear H hb k0 k1 k2 k3 k4 k5 k6 k7 k8 k9 k10 k11 k12 k13; have H := Lib.hid H2.out; clear H2; have k0 := H.out.1.1.cell 0; have k1 := H.out.1.1.cell 1; have k2 := H.out.1.1.cell 2; have k3 := H.out.1.1.cell 3; have k4 := H.out.1.1.cell 4; have k5 := H.out.1.1.cell 5; have k6 := H.out.1.1.cell 6; have k7 := H.out.1.1.cell 7; have k8 := H.out.1.1.cell 8; have k9 := H.out.1.1.cell 9; have k10 := H.out.1.1.cell 10; have k11 := H.out.1.1.cell 11; have k12 := H.out.1.1.cell 12; have k13 := H.out.1.1.cell 13; simp only [specC, List.getElem?_toArray, List.getElem?_cons_zero, List.getElem?_cons_succ] at k0 k1 k2 k3 k4 k5 k6 k7 k8 k9 k10 k11 k12 k13)
          | (go_at_call 35; refine (pv_no _ _ _ H.out.2 hw).mono ?_; rintro e w1 ⟨rfl, hb⟩; have H2 := Lib.hid (PNV.below H.out hb); clear H hb k0 k1 k2 k3 k4 k5 k6 k7 k8 k9 k10 k11 k12 k13; have H := Lib.hid H2.out; clear H2; have k0 := H.out.1.1.cell 0; have k1 := H.out.1.1.cell 1; have k2 := H.out.1.1.cell 2; have k3 := H.out.1.1.cell 3; have k4 := H.out.1.1.cell 4; have k5 := H.out.1.1.cell 5; have k6 := H.out.1.1.cell 6; have k7 := H.out.1.1.cell 7; have k8 := H.out.1.1.cell 8; have k9 := H.out.1.1.cell 9; have k10 := H.out.1.1.cell 10; have k11 := H.out.1.1.cell 11; have k12 := H.out.1.1.cell 12; have k13 := H.out.1.1.cell 13; simp only [specC, List.getElem?_toArray, List.getElem?_cons_zero, List.getElem?_cons_succ] at k0 k1 k2 k3 k4 k5 k6 k7 k8 k9 k10 k11 k12 k13)
          | (go_at_call 36; refine (ptotal_no _ _ _ H.out.2 hw).mono ?_; rintro e w1 ⟨rfl, hb⟩; have H2 := Lib.hid (PNV.below H.out hb); clear H hb k0 k1 k2 k3 k4 k5 k6 k7 k8 k9 k10 k11 k12 k13; have H := Lib.hid H2.out; clear H2; have k0 := H.out.1.1.cell 0; have k1 := H.out.1.1.cell 1; have k2 := H.out.1.1.cell 2; have k3 := H.out.1.1.cell 3; have k4 := H.out.1.1.cell 4; have k5 := H.out.1.1.cell 5; have k6 := H.out.1.1.cell 6; have k7 := H.out.1.1.cell 7; have k8 := H.out.1.1.cell 8; have k9 := H.out.1.1.cell 9; have k10 := H.out.1.1.cell 10; have k11 := H.out.1.1.cell 11; have k12 := H.out.1.1.cell 12; have k13 := H.out.1.1.cell 13; simp only [specC, List.getElem?_toArray, List.getElem?_cons_zero, List.getElem?_cons_succ] at k0 k1 k2 k3 k4 k5 k6 k7 k8 k9 k10 k11 k12 k13)
          | (go_at_call 37; refine (pfit_no _ _ _ H.out.2 hw).mono ?_; rintro e w1 ⟨rfl, hb⟩; have H2 := Lib.hid (PNV.below H.out hb); clear H hb k0 k1 k2 k3 k4 k5 k6 k7 k8 k9 k10 k11 k12 k13; have H := Lib.hid H2.out; clear H2; have k0 := H.out.1.1.cell 0; have k1 := H.out.1.1.cell 1; have k2 := H.out.1.1.cell 2; have k3 := H.out.1.1.cell 3; have k4 := H.out.1.1.cell 4; have k5 := H.out.1.1.cell 5; have k6 := H.out.1.1.cell 6; have k7 := H.out.1.1.cell 7; have k8 := H.out.1.1.cell 8; have k9 := H.out.1.1.cell 9; have k10 := H.out.1.1.cell 10; have k11 := H.out.1.1.cell 11; have k12 := H.out.1.1.cell 12; have k13 := H.out.1.1.cell 13; simp only [specC, List.getElem?_toArray, List.getElem?_cons_zero, List.getElem?_cons_succ] at k0 k1 k2 k3 k4 k5 k6 k7 k8 k9 k10 k11 k12 k13))
        go_roundw
        case rel => first | exact ⟨1, by omega, by go_num, H.out.1⟩ | exact ⟨2, by omega, by go_num, H.out.1⟩
        case measure => simp [intOf]
end Go.Proofs.YtfnocnknmpmaaaaGreat
