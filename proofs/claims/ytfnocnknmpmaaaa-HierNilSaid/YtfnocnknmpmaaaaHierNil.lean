/-
  HierNil: a tree that nobody made.
-/
import Derived.Test.YtfnocnknmpmaaaaReg
import Derived.Test.YtfnocnknmpmaaaaLayC
import Derived.WalkSpells
import Derived.Deep.DrawnRows
namespace Go.Proofs.Ytfnocnknmpmaaaa
set_option linter.unusedVariables false
open Go.RowKit

/-- nobody made this tree -/
def NoT (W : World) (v : Value) : Prop := v = .pointer none ∨ ∃ g, v = .pointer (some ⟨g, 0, none⟩) ∧ Blk W g 74 #[.map none, .map none]
theorem NoT.below {W W' : World} {v : Value} (h : NoT W v) (hg : Below W.heap.size W W') : NoT W' v := by
  rcases h with rfl | ⟨g, rfl, hb⟩
  · exact .inl rfl
  · exact .inr ⟨g, rfl, hb.below hg hb.lt⟩

set_option maxRecDepth 100000 in
theorem tnone_yes (v : Value) (w : World) (h : NoT w v) :
    Calls Try.prog 71 #[v] w fun e w' => e = .returned (.bool true) ∧ w = w' := by
  rcases h with rfl | ⟨g, rfl, hb⟩
  · go_enter Try.func71, Try.ntmps71
    go_wp2
    go_ret
    exact ⟨rfl, rfl⟩
  · have c0 := hb.cell 0
    simp only [List.getElem?_toArray, List.getElem?_cons_zero, List.getElem?_cons_succ] at c0
    have qT : ∀ (w : World) (r : Option Nat), (binOp .eql 71 (.map r) (.map none)).run Try.prog w = .ok (.bool r.isNone) w := fun w r => run_eql_map_nil w _ _ _ r Try.underlying71
    go_enter Try.func71, Try.ntmps71
    go_wp2
    go_ret
    exact ⟨rfl, rfl⟩
/-- a spec's cells -/
def specC (id pa : Int) (lf : Bool) (a b c d e f g h i pk by_ : Int) : Array Value :=
  #[.int .i64 id, .int .i64 pa, .bool lf, .int .u64 a, .int .u64 b, .int .u64 c, .int .u64 d, .int .u64 e, .int .u64 f, .int .u64 g, .int .u64 h, .int .u64 i, .int .i64 pk, .int .i64 by_]
set_option maxRecDepth 100000 in
theorem tget_no (v : Value) (id : Int) (w : World) (h : NoT w v) :
    Calls Try.prog 38 #[v, .int .i64 id] w fun e w' => e = .returned (.tuple #[.agg #[.int .i64 0, .int .i64 0, .bool false, .int .u64 0, .int .u64 0, .int .u64 0, .int .u64 0, .int .u64 0, .int .u64 0, .int .u64 0, .int .u64 0, .int .u64 0, .int .i64 0, .int .i64 0], .bool false]) ∧ Below w.heap.size w w' := by
  have hc := tnone_yes v _ (h.below ((Below.refl _ w).alloc (Nat.le_refl _) (.cells #[.int .i64 0, .int .i64 0, .bool false, .int .u64 0, .int .u64 0, .int .u64 0, .int .u64 0, .int .u64 0, .int .u64 0, .int .u64 0, .int .u64 0, .int .u64 0, .int .i64 0, .int .i64 0] 63)))
  go_enter Try.func38, Try.ntmps38
  go_wp2_with (go_at_call 71; refine hc.mono ?_; rintro e w' ⟨rfl, rfl⟩)
  refine bodyPost_ret (v := .tuple #[.agg #[.int .i64 0, .int .i64 0, .bool false, .int .u64 0, .int .u64 0, .int .u64 0, .int .u64 0, .int .u64 0, .int .u64 0, .int .u64 0, .int .u64 0, .int .u64 0, .int .i64 0, .int .i64 0], .bool false]) (by simp [results, Try.results38, go_sem]) rfl ⟨rfl, ?_⟩
  go_grown
set_option maxRecDepth 100000 in
theorem tlen_no (v : Value) (w : World) (h : NoT w v) :
    Calls Try.prog 35 #[v] w fun e w' => e = .returned (.int .i64 0) ∧ Below w.heap.size w w' := by
  have hc := tnone_yes v _ h
  go_enter Try.func35, Try.ntmps35
  go_wp2_with (go_at_call 71; refine hc.mono ?_; rintro e w' ⟨rfl, rfl⟩)
  go_ret
  exact ⟨rfl, Below.refl _ _⟩
set_option maxRecDepth 100000 in
theorem tids_no (v : Value) (w : World) (h : NoT w v) :
    Calls Try.prog 36 #[v] w fun e w' => e = .returned (.slice none 0 0) ∧ Below w.heap.size w w' := by
  have hc := tnone_yes v _ h
  go_enter Try.func36, Try.ntmps36
  go_wp2_with (go_at_call 71; refine hc.mono ?_; rintro e w' ⟨rfl, rfl⟩)
  go_ret
  exact ⟨rfl, Below.refl _ _⟩
set_option maxRecDepth 100000 in
theorem tunder_no (v : Value) (id : Int) (w : World) (h : NoT w v) :
    Calls Try.prog 37 #[v, .int .i64 id] w fun e w' => e = .returned (.slice none 0 0) ∧ Below w.heap.size w w' := by
  have hc := tnone_yes v _ h
  go_enter Try.func37, Try.ntmps37
  go_wp2_with (go_at_call 71; refine hc.mono ?_; rintro e w' ⟨rfl, rfl⟩)
  go_ret
  exact ⟨rfl, Below.refl _ _⟩
set_option maxRecDepth 100000 in
theorem tpath_no (v : Value) (id : Int) (w : World) (h : NoT w v) :
    Calls Try.prog 39 #[v, .int .i64 id] w fun e w' => e = .returned (.slice none 0 0) ∧ Below w.heap.size w w' := by
  have hc := tget_no v id w h
  go_enter Try.func39, Try.ntmps39
  go_wp2
  go_step3
  go_wp2
  go_step3
  go_wp2_with (go_at_call 38; refine hc.mono ?_; rintro e w' ⟨rfl, hb⟩)
  rw [Exit.noGoto_ret]
  go_ret
  exact ⟨rfl, hb.alloc hb.size _⟩
set_option maxRecDepth 100000 in
theorem tleaves_no (v : Value) (id : Int) (w : World) (h : NoT w v) :
    Calls Try.prog 44 #[v, .int .i64 id] w fun e w' => e = .returned (.slice none 0 0) ∧ Below w.heap.size w w' := by
  go_enter Try.func44, Try.ntmps44
  go_wp2_with fail
  refine (tget_no v id w h).mono ?_
  rintro e w1 ⟨rfl, hb⟩
  have hb2 := hb.alloc hb.size (.cells #[.int .i64 0, .int .i64 0, .bool false, .int .u64 0, .int .u64 0, .int .u64 0, .int .u64 0, .int .u64 0, .int .u64 0, .int .u64 0, .int .u64 0, .int .u64 0, .int .i64 0, .int .i64 0] 63)
  have hu := tunder_no v id _ (h.below hb2)
  have HB := Lib.hid hb2
  clear hb hb2
  go_wp2_with fail
  refine hu.mono ?_
  rintro e w2 ⟨rfl, hb3⟩
  have HB3 := Lib.hid (HB.out.trans (hb3.mono HB.out.size))
  clear hb3 hu
  go_wp2_with fail
  refine wp_loop_rounds 1 ?_
  rw [rounds_succ]
  have hs := fun p cap W => AnyM.slices_Sort_int_none sortI p cap W
  change ∀ p cap W, Calls Try.prog 79 _ _ _ at hs
  go_wp2_with (go_at_call 79; refine (hs none 0 _).mono ?_; rintro e w3 ⟨rfl, rfl⟩)
  go_ret
  exact ⟨rfl, HB3.out⟩
set_option maxRecDepth 100000 in
theorem tcopy_no (w : World) :
    Calls Try.prog 45 #[.pointer none] w fun e w' => e = .returned (.pointer none) ∧ w = w' := by
  go_enter Try.func45, Try.ntmps45
  go_wp2
  go_ret
  exact ⟨rfl, rfl⟩
set_option maxRecDepth 100000 in
theorem tdrop_no (v : Value) (id : Int) (w : World) (h : NoT w v) :
    Calls Try.prog 41 #[v, .int .i64 id] w fun e w' => e = .returned (.int .i64 1) ∧ Below w.heap.size w w' := by
  have hc := tnone_yes v _ (h.below ((Below.refl _ w).alloc (Nat.le_refl _) (.cells #[.int .i64 id] 3)))
  go_enter Try.func41, Try.ntmps41
  go_wp2_with (go_at_call 71; refine hc.mono ?_; rintro e w' ⟨rfl, rfl⟩)
  go_ret
  exact ⟨rfl, by go_grown⟩
set_option maxRecDepth 100000 in
theorem tadd_no (v : Value) (id pa : Int) (lf : Bool) (a b c d e f g h i pk by_ : Int) (w : World) (hn : NoT w v) :
    Calls Try.prog 40 #[v, .agg (specC id pa lf a b c d e f g h i pk by_)] w fun e w' => e = .returned (.int .i64 1) ∧ Below w.heap.size w w' := by
  have hc := tnone_yes v _ (hn.below ((Below.refl _ w).alloc (Nat.le_refl _) (.cells (specC id pa lf a b c d e f g h i pk by_) 63)))
  unfold specC at *
  go_enter Try.func40, Try.ntmps40
  go_wp2_with (go_at_call 71; refine hc.mono ?_; rintro e w' ⟨rfl, rfl⟩)
  go_ret
  exact ⟨rfl, by go_grown⟩
set_option maxRecDepth 100000 in
theorem tchange_no (v : Value) (id pa : Int) (lf : Bool) (a b c d e f g h i pk by_ : Int) (w : World) (hn : NoT w v) :
    Calls Try.prog 42 #[v, .agg (specC id pa lf a b c d e f g h i pk by_)] w fun e w' => e = .returned (.int .i64 1) ∧ Below w.heap.size w w' := by
  have hc := tnone_yes v _ (hn.below ((Below.refl _ w).alloc (Nat.le_refl _) (.cells (specC id pa lf a b c d e f g h i pk by_) 63)))
  unfold specC at *
  go_enter Try.func42, Try.ntmps42
  go_wp2_with (go_at_call 71; refine hc.mono ?_; rintro e w' ⟨rfl, rfl⟩)
  go_ret
  exact ⟨rfl, by go_grown⟩

def TN (w W : World) (S : Array Value) : Prop :=
  Blk W w.heap.size 63 S ∧ Blk W (w.heap.size + 1) 74 #[.map none, .map none] ∧
  Blk W (w.heap.size + 2) 56 #[.pointer none, .pointer (some ⟨w.heap.size + 1, 0, none⟩)] ∧ Below w.heap.size w W
theorem TN.below {w W W' : World} {S : Array Value} (h : TN w W S) (hb : Below W.heap.size W W') : TN w W' S :=
  ⟨h.1.below hb h.1.lt, h.2.1.below hb h.2.1.lt, h.2.2.1.below hb h.2.2.1.lt, h.2.2.2.trans (hb.mono h.2.2.2.size)⟩
def TNV (w W : World) (S : Array Value) (v : Value) : Prop := TN w W S ∧ NoT W v
theorem TNV.below {w W W' : World} {S : Array Value} {v : Value} (h : TNV w W S v) (hb : Below W.heap.size W W') : TNV w W' S v := ⟨TN.below h.1 hb, h.2.below hb⟩

set_option maxRecDepth 100000 in
set_option maxHeartbeats 4000000 in
/-- the law -/
theorem hierNil_any (id pa : Int) (lf : Bool) (a b c d e_ f g h i pk by_ : Int) (w : World) :
    Calls Try.prog 10 #[.agg (specC id pa lf a b c d e_ f g h i pk by_)] w fun e w' => e = .returned (.bool true) ∧ Below w.heap.size w w' := by
  unfold specC
  go_enter Try.func10, Try.ntmps10
  go_wp2
  go_loopw [5] (fun j W => ∃ k : Nat, k ≤ 2 ∧ j = .int .i64 k ∧ TN w W (specC id pa lf a b c d e_ f g h i pk by_)) (fun j _ => 2 - (intOf j).toNat)
  case atStart =>
    refine ⟨0, by omega, rfl, ?_, ?_, ?_, ?_⟩
    · exact ((Blk.new w 63 (specC id pa lf a b c d e_ f g h i pk by_)).alloc (.cells #[.map none, .map none] 74)).alloc (.cells #[.pointer none, .pointer (some ⟨w.heap.size + 1, 0, none⟩)] 56)
    · have h := (Blk.new (w.alloc (.cells (specC id pa lf a b c d e_ f g h i pk by_) 63)) 74 #[.map none, .map none]).alloc (.cells #[.pointer none, .pointer (some ⟨w.heap.size + 1, 0, none⟩)] 56)
      simpa [specC] using h
    · have h := Blk.new ((w.alloc (.cells (specC id pa lf a b c d e_ f g h i pk by_) 63)).alloc (.cells #[.map none, .map none] 74)) 56 #[.pointer none, .pointer (some ⟨w.heap.size + 1, 0, none⟩)]
      simpa [specC] using h
    · go_grown
  case round =>
    obtain ⟨k, hk, rfl, hs⟩ := hrel
    have s0 := hs.2.2.1.cell 0
    have s1 := hs.2.2.1.cell 1
    simp only [List.getElem?_toArray, List.getElem?_cons_zero, List.getElem?_cons_succ] at s0 s1
    by_cases h2 : k = 2
    · subst h2
      go_wp2_with (go_at_call 45; refine (tcopy_no _).mono ?_; rintro e w' ⟨rfl, rfl⟩)
      go_ret
      exact ⟨rfl, hs.2.2.2⟩
    · have hcc : ∃ v, NoT wr v ∧ ((k = 0 ∧ v = .pointer none) ∨ (k = 1 ∧ v = .pointer (some ⟨w.heap.size + 1, 0, none⟩))) := by
        have : k = 0 ∨ k = 1 := by omega
        rcases this with rfl | rfl
        · exact ⟨_, .inl rfl, .inl ⟨rfl, rfl⟩⟩
        · exact ⟨_, .inr ⟨_, rfl, hs.2.1⟩, .inr ⟨rfl, rfl⟩⟩
      obtain ⟨v, hno, hcc⟩ := hcc
      have H := Lib.hid (⟨hs, hno⟩ : TNV w wr (specC id pa lf a b c d e_ f g h i pk by_) v)
      clear hs hno
      have k0 := H.out.1.1.cell 0
      simp only [specC, List.getElem?_toArray, List.getElem?_cons_zero, List.getElem?_cons_succ] at k0
      rcases hcc with ⟨rfl, rfl⟩ | ⟨rfl, rfl⟩
      all_goals
        go_wp2_with fail
        refine (tget_no _ _ _ H.out.2).mono ?_
        rintro e w1 ⟨rfl, hb⟩
        have H2 := Lib.hid (TNV.below (TNV.below H.out hb) ((Below.refl _ w1).alloc (Nat.le_refl _) (.cells #[.int .i64 0, .int .i64 0, .bool false, .int .u64 0, .int .u64 0, .int .u64 0, .int .u64 0, .int .u64 0, .int .u64 0, .int .u64 0, .int .u64 0, .int .u64 0, .int .i64 0, .int .i64 0] 63)))
        clear H hb k0
        go_wp2_with fail
        generalize w1.alloc _ = W at *
        have o0 := fun e => (over_cell (w := W) (e := e) (o := 0) H2.out.1.1.lt).trans (H2.out.1.1.cell 0); have o1 := fun e => (over_cell (w := W) (e := e) (o := 1) H2.out.1.1.lt).trans (H2.out.1.1.cell 1); have o2 := fun e => (over_cell (w := W) (e := e) (o := 2) H2.out.1.1.lt).trans (H2.out.1.1.cell 2); have o3 := fun e => (over_cell (w := W) (e := e) (o := 3) H2.out.1.1.lt).trans (H2.out.1.1.cell 3); have o4 := fun e => (over_cell (w := W) (e := e) (o := 4) H2.out.1.1.lt).trans (H2.out.1.1.cell 4); have o5 := fun e => (over_cell (w := W) (e := e) (o := 5) H2.out.1.1.lt).trans (H2.out.1.1.cell 5); have o6 := fun e => (over_cell (w := W) (e := e) (o := 6) H2.out.1.1.lt).trans (H2.out.1.1.cell 6); have o7 := fun e => (over_cell (w := W) (e := e) (o := 7) H2.out.1.1.lt).trans (H2.out.1.1.cell 7); have o8 := fun e => (over_cell (w := W) (e := e) (o := 8) H2.out.1.1.lt).trans (H2.out.1.1.cell 8); have o9 := fun e => (over_cell (w := W) (e := e) (o := 9) H2.out.1.1.lt).trans (H2.out.1.1.cell 9); have o10 := fun e => (over_cell (w := W) (e := e) (o := 10) H2.out.1.1.lt).trans (H2.out.1.1.cell 10); have o11 := fun e => (over_cell (w := W) (e := e) (o := 11) H2.out.1.1.lt).trans (H2.out.1.1.cell 11); have o12 := fun e => (over_cell (w := W) (e := e) (o := 12) H2.out.1.1.lt).trans (H2.out.1.1.cell 12); have o13 := fun e => (over_cell (w := W) (e := e) (o := 13) H2.out.1.1.lt).trans (H2.out.1.1.cell 13)
        simp only [specC, List.getElem?_toArray, List.getElem?_cons_zero, List.getElem?_cons_succ] at o0 o1 o2 o3 o4 o5 o6 o7 o8 o9 o10 o11 o12 o13
        have HO := fun e => Lib.hid (TNV.below H2.out (over_below W e))
        have hadd := fun e => calls_over (tadd_no _ id pa lf a b c d e_ f g h i pk by_ _ (HO e).out.2)
        have hchg := fun e => calls_over (tchange_no _ id pa lf a b c d e_ f g h i pk by_ _ (HO e).out.2)
        unfold specC at hadd hchg
        have HN := fun e => Lib.hid ((HO e).out.2)
        have HADD := Lib.hid hadd; have HCHG := Lib.hid hchg
        clear hadd hchg
        refine wp_region_over (by kernel_rfl) (by kernel_rfl) ?_
        repeat (first | go_big_quiet_skip | (go_big_quiet_want; go_big_quiet_op; first | go_big_quiet_on | (apply Exists.intro; refine ⟨fun e => ?_, ?_⟩; (focus (first | (go_at_call 40; with_reducible exact HADD.out _) | (go_at_call 42; with_reducible exact HCHG.out _) | (go_at_call 41; with_reducible exact calls_over (tdrop_no _ _ _ (HN e).out)) | (go_at_call 35; with_reducible exact calls_over (tlen_no _ _ (HN e).out)) | (go_at_call 36; with_reducible exact calls_over (tids_no _ _ (HN e).out)) | (go_at_call 37; with_reducible exact calls_over (tunder_no _ _ _ (HN e).out)) | (go_at_call 39; with_reducible exact calls_over (tpath_no _ _ _ (HN e).out)) | (go_at_call 44; with_reducible exact calls_over (tleaves_no _ _ _ (HN e).out)))); go_big_quiet_on)))
        refine wpQuiet_nil ?_
        rintro W2 ⟨e2, he2⟩
        have hb2 := over_below W e2
        rw [← he2] at hb2
        clear he2 o0 o1 o2 o3 o4 o5 o6 o7 o8 o9 o10 o11 o12 o13
        have H3 := Lib.hid (TNV.below H2.out hb2)
        clear hb2 H2 HO HN HADD HCHG
        go_wp2
        go_roundw
        case rel => first | exact ⟨1, by omega, by go_num, H3.out.1⟩ | exact ⟨2, by omega, by go_num, H3.out.1⟩
        case measure => simp [intOf]
end Go.Proofs.Ytfnocnknmpmaaaa
