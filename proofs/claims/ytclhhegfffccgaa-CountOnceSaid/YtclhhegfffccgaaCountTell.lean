/-
  The counters: what tell does to a book.
-/
import Derived.Test.YtclhhegfffccgaaCount
import Derived.Test.YtclhhegfffccgaaMaps
import Derived.Test.YtclhhegfffccgaaRegM
import Derived.Laws.EntriesVeiled
import Derived.Deep.AppendLies
import Derived.Deep.RegionHeld3
import Derived.Deep.DrawnRows
import Derived.Deep.RegionWith
import Derived.Deep.DeepCutAuto
import Derived.WalkSpells
import Derived.Shelf.Abstract
namespace Go.Proofs.Ytclhhegfffccgaa
set_option linter.unusedVariables false
open Go.RowKit
attribute [local go_sem ↓] Go.wp_at_zero Go.wp_at_succ
attribute [local go_sem] quietR quietAtR quietUponR midAt midUpon

/-- a class's counters -/
abbrev St := Nat → Int
def stC (s : St) : Array Value := #[.int .u64 (s 0), .int .u64 (s 1), .int .u64 (s 2), .int .u64 (s 3), .int .u64 (s 4), .int .u64 (s 5), .int .u64 (s 6), .int .u64 (s 7)]
def stV (s : St) : Value := .agg (stC s)
def st0 : St := fun _ => 0
def setS (s : St) (i : Nat) (x : Int) : St := fun j => if j = i then x else s j
theorem stC_set (s : St) (i : Nat) (hi : i < 8) (x : Int) : (stC s).setIfInBounds i (.int .u64 x) = stC (setS s i x) := by
  rcases (by omega : i = 0 ∨ i = 1 ∨ i = 2 ∨ i = 3 ∨ i = 4 ∨ i = 5 ∨ i = 6 ∨ i = 7) with rfl | rfl | rfl | rfl | rfl | rfl | rfl | rfl <;> rfl
theorem stC_at (s : St) (i : Nat) (hi : i < 8) : (stC s)[i]? = some (.int .u64 (s i)) := by
  rcases (by omega : i = 0 ∨ i = 1 ∨ i = 2 ∨ i = 3 ∨ i = 4 ∨ i = 5 ∨ i = 6 ∨ i = 7) with rfl | rfl | rfl | rfl | rfl | rfl | rfl | rfl <;> rfl
/-- a step: the field, the number, whether it is taken -/
abbrev Stp := Nat × Int × Bool
def step1 (s : St) (p : Stp) : St := setS s p.1 (sumv (s p.1) p.2.2 p.2.1)
def stepsS (s : St) (l : List Stp) : St := l.foldl step1 s
def OkS (s : St) : Prop := ∀ i, 0 ≤ s i ∧ s i ≤ 4611686018427387904
def OkL (l : List Stp) : Prop := ∀ p ∈ l, p.1 < 8 ∧ 0 ≤ p.2.1 ∧ p.2.1 < 18446744073709551616
theorem OkS.step1 {s : St} (h : OkS s) {p : Stp} (hp : 0 ≤ p.2.1) : OkS (step1 s p) := by
  intro i
  unfold Go.Proofs.Ytclhhegfffccgaa.step1 setS
  split
  · exact sumv_range _ (h _).1 (h _).2 hp
  · exact h i
theorem OkS.steps : ∀ {l : List Stp} {s : St}, OkS s → OkL l → OkS (stepsS s l)
  | [], s, h, _ => h
  | p :: l, s, h, hl => OkS.steps (l := l) (h.step1 (hl p (by simp)).2.1) (fun q hq => hl q (by simp [hq]))
theorem steps_take (s : St) (l : List Stp) (n : Nat) (p : Stp) (h : l[n]? = some p) : stepsS s (l.take (n + 1)) = step1 (stepsS s (l.take n)) p := by
  rw [List.take_add_one, h]; simp [stepsS]
/-- steps in memory -/
def stepC (l : List Stp) : List Value := l.flatMap fun p => [.func (.func (fieldF p.1)) #[] #[], .int .u64 p.2.1, .bool p.2.2]
theorem stepC_at : ∀ (l : List Stp) (n : Nat) (p : Stp), l[n]? = some p → (stepC l)[n * 3]? = some (.func (.func (fieldF p.1)) #[] #[]) ∧ (stepC l)[n * 3 + 1]? = some (.int .u64 p.2.1) ∧ (stepC l)[n * 3 + 2]? = some (.bool p.2.2)
  | [], n, p, h => by simp at h
  | q :: l, 0, p, h => by
    obtain rfl : q = p := by simpa using h
    simp [stepC]
  | q :: l, n + 1, p, h => by
    have := stepC_at l n p (by simpa using h)
    simp only [stepC, List.flatMap_cons] at this ⊢
    rw [show (n + 1) * 3 = n * 3 + 3 by omega]
    exact ⟨by simpa using this.1, by rw [List.getElem?_append_right (by simp)]; simpa [show n * 3 + 3 + 1 - 3 = n * 3 + 1 by omega] using this.2.1, by rw [List.getElem?_append_right (by simp)]; simpa [show n * 3 + 3 + 2 - 3 = n * 3 + 2 by omega] using this.2.2⟩

abbrev Bk := List (Int × St)
def getB (B : Bk) (k : Int) : St := (lookM B k).getD st0
def tell0 (B : Bk) (k : Int) (l : List Stp) : Bk := putM B k (stepsS (getB B k) l)
def tellB (B : Bk) (c : Int) (l : List Stp) : Bk := if c ≤ 0 then tell0 B 0 l else tell0 (tell0 B 0 l) c l
def OkB (B : Bk) : Prop := ∀ p ∈ B, OkS p.2
theorem ok_st0 : OkS st0 := fun i => by simp [st0]
theorem OkB.get {B : Bk} (h : OkB B) (k : Int) : OkS (getB B k) := by
  unfold getB
  cases hk : lookM B k with
  | none => exact ok_st0
  | some s =>
    induction B with
    | nil => cases hk
    | cons p r ih =>
      rw [lookM] at hk
      split at hk
      · obtain rfl : p.2 = s := by simpa using hk
        exact h p (by simp)
      · exact ih (fun q hq => h q (by simp [hq])) hk
theorem OkB.tell0 {B : Bk} (h : OkB B) (k : Int) {l : List Stp} (hl : OkL l) : OkB (tell0 B k l) := by
  intro p hp
  rcases putM_mem hp with rfl | hp
  · exact (h.get k).steps hl
  · exact h p hp
theorem OkB.tell {B : Bk} (h : OkB B) (c : Int) {l : List Stp} (hl : OkL l) : OkB (tellB B c l) := by
  unfold tellB
  split
  · exact h.tell0 0 hl
  · exact (h.tell0 0 hl).tell0 c hl

/-- a book in memory -/
structure BookAt (w : World) (g m : Nat) (B : Bk) : Prop where
  blk : Blk w g 58 #[.map (some m)]
  map : MapI Try.prog 3 w m (mapV stV B)
  ok : OkB B
theorem BookAt.ne {w : World} {g m : Nat} {B : Bk} (h : BookAt w g m B) : g ≠ m := by
  rintro rfl
  obtain ⟨es, clock, hb, _⟩ := h.map
  have := h.blk
  unfold Blk at this
  rw [hb] at this; cases this
theorem BookAt.grown {w w' : World} {g m : Nat} {B : Bk} (h : BookAt w g m B) (hg : w.grownBy w' none) : BookAt w' g m B :=
  ⟨h.blk.grown hg (by simp), h.map.kept hg (by simp), h.ok⟩

theorem look_stV (B : Bk) (k : Int) : ((lookM (mapV stV B) k).getD (stV st0)) = stV (getB B k) := by
  rw [look_map]; unfold getB; cases lookM B k <;> rfl

set_option maxRecDepth 100000 in
theorem none_no (g m : Nat) (w : World) (h : Blk w g 58 #[.map (some m)]) :
    Calls Try.prog 49 #[.pointer (some ⟨g, 0, none⟩)] w fun e w' => e = .returned (.bool false) ∧ w = w' := by
  have c0 := h.cell 0
  simp only [List.getElem?_toArray, List.getElem?_cons_zero, List.getElem?_cons_succ] at c0
  have qT : ∀ (w : World) (r : Option Nat), (binOp .eql 56 (.map r) (.map none)).run Try.prog w = .ok (.bool r.isNone) w := fun w r => run_eql_map_nil w _ _ _ r Try.underlying56
  go_enter Try.func49, Try.ntmps49
  go_wp2
  go_ret
  exact ⟨rfl, rfl⟩

theorem field_enter (i : Nat) (hi : i < 8) (args : Array Value) (w : World) : (callFunc (fieldF i) args).run Try.prog w = .ok (.enter (fieldF i) args) w := by
  rcases (by omega : i = 0 ∨ i = 1 ∨ i = 2 ∨ i = 3 ∨ i = 4 ∨ i = 5 ∨ i = 6 ∨ i = 7) with rfl | rfl | rfl | rfl | rfl | rfl | rfl | rfl
  · exact enters_of Try.func32 (by kernel_rfl) rfl args w
  · exact enters_of Try.func39 (by kernel_rfl) rfl args w
  · exact enters_of Try.func47 (by kernel_rfl) rfl args w
  · exact enters_of Try.func48 (by kernel_rfl) rfl args w
  · exact enters_of Try.func45 (by kernel_rfl) rfl args w
  · exact enters_of Try.func44 (by kernel_rfl) rfl args w
  · exact enters_of Try.func33 (by kernel_rfl) rfl args w
  · exact enters_of Try.func34 (by kernel_rfl) rfl args w

/-- a world that goes on from w: its map m alone may have turned -/
structure TellAt (w : World) (g m : Nat) (B : Bk) (W : World) : Prop where
  book : BookAt W g m B
  grown : w.grownBy W (some m)

theorem grown_none {w w' : World} (h : Below w.heap.size w w') : w.grownBy w' none := ⟨h.os, h.tape, h.output, h.size, fun k hk _ => h.block k hk⟩
theorem grown_set {w W : World} {b o : Nat} {v : Value} (h : w.grownBy W none) (hb : w.heap.size ≤ b) : w.grownBy (W.setCell ⟨b, o, none⟩ v) none :=
  ⟨h.os, h.tape, h.output, by simpa [World.setCell] using h.size, fun k hk hne => (Below.heap_setCell W _ v k (by show k ≠ b; omega)).trans (h.block k hk hne)⟩
theorem BookAt.store {W : World} {g m : Nat} {B : Bk} (h : BookAt W g m B) (k : Int) (hk : (Lit.int .i64 k).wf = true) (hn : B.length < 9000000) (s : St) (hs : OkS s) :
    ∃ W', (Instr.mapUpdate 56 (.map (some m)) (.int .i64 k) (stV s)).run Try.prog W = .ok () W' ∧ BookAt W' g m (putM B k s) ∧ W.grownBy W' (some m) := by
  obtain ⟨W', h1, h2, h3⟩ := h.map.store (T := 56) (E := 55) (k := k) Try.underlying3 Try.underlying56 hk (by rw [mapV_length]; unfold maxLen; omega) (stV s)
  refine ⟨W', h1, ⟨h.blk.grown h3.grown (by simp [h.ne]), by rw [← put_map]; exact h2, ?_⟩, h3.grown⟩
  intro p hp
  rcases putM_mem hp with rfl | hp
  · exact hs
  · exact h.ok p hp
theorem BookAt.stepW {w W W' : World} {g m : Nat} {B : Bk} (h : TellAt w g m B W) (hg : W.grownBy W' none) : TellAt w g m B W' :=
  ⟨h.book.grown hg, ⟨hg.os.trans h.grown.os, hg.tape.trans h.grown.tape, hg.output.trans h.grown.output, Nat.le_trans h.grown.size hg.size, fun k hk hne => (hg.block k (Nat.lt_of_lt_of_le hk h.grown.size) (by simp)).trans (h.grown.block k hk hne)⟩⟩

set_option maxRecDepth 100000 in
set_option maxHeartbeats 2000000 in
theorem tell_any (g m sl cap : Nat) (B : Bk) (c : Int) (l : List Stp) (w : World) (h : BookAt w g m B) (hl : OkL l) (hL : l.length ≤ 3) (hc : (Lit.int .i64 c).wf = true) (hn : B.length < 1000000) (hs : Blk w sl 67 (stepC l).toArray) (hsm : sl ≠ m) :
    Calls Try.prog 31 #[.pointer (some ⟨g, 0, none⟩), .int .i64 c, .slice (some ⟨sl, 0, none⟩) l.length cap] w fun e w' => e = .returned (.tuple #[]) ∧ TellAt w g m (tellB B c l) w' := by
  go_enter Try.func31, Try.ntmps31
  go_wp2_with (go_at_call 49; refine (none_no _ _ _ h.blk).mono ?_; rintro e w' ⟨rfl, rfl⟩)
  go_loopw [16] (fun i W => ∃ k : Nat, k ≤ 2 ∧ i = .int .i64 k ∧ TellAt w g m (if k = 0 then B else if k = 1 then tell0 B 0 l else tellB B c l) W ∧ (1 ≤ k → c ≠ 0)) (fun i _ => 2 - (Go.RowKit.intOf i).toNat)
  case atStart => exact ⟨0, by omega, rfl, ⟨h, World.grownBy.refl _ _⟩, by omega⟩
  case round =>
    obtain ⟨k, hk, rfl, hT, h0⟩ := hrel
    obtain ⟨wo, rfl⟩ : ∃ wo : World, wo = wr := ⟨_, rfl⟩
    rcases (by omega : k < 2 ∨ k = 2) with hk2 | rfl
    · obtain ⟨id, hid, i0⟩ : ∃ id : Int, (k = 0 ∧ id = 0 ∨ k = 1 ∧ id = c) ∧ ∀ w : World, (Instr.index 94 (.agg #[.int .i64 0, .int .i64 c]) (.int .i64 k)).run Try.prog w = .ok (.int .i64 id) w := by
        rcases (by omega : k = 0 ∨ k = 1) with rfl | rfl
        · exact ⟨0, .inl ⟨rfl, rfl⟩, fun _ => by kernel_rfl⟩
        · exact ⟨c, .inr ⟨rfl, rfl⟩, fun _ => by kernel_rfl⟩
      have hB := hT.book
      obtain ⟨Bk', hBk⟩ : ∃ B', B' = (if k = 0 then B else if k = 1 then tell0 B 0 l else tellB B c l) := ⟨_, rfl⟩
      rw [← hBk] at hB hT
      have HBk := Lib.hid hBk
      clear hBk
      have Hid0 := Lib.hid hid
      clear hid
      have c0 := hB.blk.cell 0
      simp only [List.getElem?_toArray, List.getElem?_cons_zero, List.getElem?_cons_succ] at c0
      have hwid : (Lit.int .i64 id).wf = true := by
        rcases Hid0.out with ⟨_, rfl⟩ | ⟨_, rfl⟩
        · decide
        · exact hc
      have hq := hB.map.look (k := id) (E := 55) (T := 56) (z := stV st0) Try.underlying3 Try.underlying56 (by exact Try.zeroValue55 _) hwid
      rw [look_stV] at hq
      unfold stV stC at hq
      by_cases hneg : id < 0
      · go_wp2
        go_roundw
        case rel =>
          rcases Hid0.out with ⟨_, rfl⟩ | ⟨rfl, rfl⟩
          · omega
          · refine ⟨2, by omega, by go_num, ?_, fun _ => by omega⟩
            have e := HBk.out
            simp only [if_neg (show ¬ (1 = 0) by omega), if_true] at e
            rw [e] at hT
            rw [if_neg (by omega), if_neg (by omega)]
            unfold tellB
            rw [if_pos (by omega)]
            exact hT
        case measure => simp [Go.RowKit.intOf]; omega
      · go_wp2
        go_loopw [29] (fun j W => ∃ n : Nat, n ≤ l.length ∧ j = .int .i64 n ∧ Blk W wo.heap.size 55 (stC (stepsS (getB Bk' id) (l.take n))) ∧ wo.grownBy W none) (fun j _ => l.length - (Go.RowKit.intOf j).toNat)
        case atStart => exact ⟨0, by omega, rfl, Blk.new wo 55 (stC (getB Bk' id)), World.grownBy_alloc wo _ none⟩
        case round =>
          obtain ⟨n, hn2, rfl, hS, hg2⟩ := hrel
          by_cases hlt : n < l.length
          · obtain ⟨p, hp⟩ : ∃ p, l[n]? = some p := ⟨_, List.getElem?_eq_getElem hlt⟩
            obtain ⟨q0, q1, q2⟩ := stepC_at l n p hp
            have hs2 := (hs.grown hT.grown (by simp [hsm])).grown hg2 (by simp)
            have d0 := hs2.cell (n * 3); have d1 := hs2.cell (n * 3 + 1); have d2 := hs2.cell (n * 3 + 2)
            rw [List.getElem?_toArray] at d0 d1 d2
            rw [q0] at d0; rw [q1] at d1; rw [q2] at d2
            clear q0 q1 q2
            have hp8 := (hl p (List.mem_of_getElem? hp)).1
            have hE := fun args w => field_enter p.1 hp8 args w
            have hS1 := hS.alloc (.cells #[.func (.func (fieldF p.1)) #[] #[], .int .u64 p.2.1, .bool p.2.2] 67)
            have hf := field_any p.1 hp8 _ _ ⟨_, hS1.cell 0⟩
            have hX1 := Blk.new wr 67 #[.func (.func (fieldF p.1)) #[] #[], .int .u64 p.2.1, .bool p.2.2]
            have hg3 : wr.grownBy (wr.alloc (.cells #[.func (.func (fieldF p.1)) #[] #[], .int .u64 p.2.1, .bool p.2.2] 67)) none := World.grownBy_alloc wr _ none
            go_wp2_with (refine hf.mono ?_; rintro e w' ⟨rfl, rfl⟩)
            clear hf hE d0 d1 d2
            generalize wr.alloc (.cells #[.func (.func (fieldF p.1)) #[] #[], .int .u64 p.2.1, .bool p.2.2] 67) = W1 at hS1 hX1 hg3 ⊢
            obtain ⟨s, hs'⟩ : ∃ s, s = stepsS (getB Bk' id) (l.take n) := ⟨_, rfl⟩
            rw [← hs'] at hS1
            have HS := Lib.hid hs'
            clear hs'
            have ef := hS1.cell p.1
            rw [stC_at _ _ hp8] at ef
            have x1 := hX1.cell 1; have x2 := hX1.cell 2
            simp only [List.getElem?_toArray, List.getElem?_cons_zero, List.getElem?_cons_succ] at x1 x2
            have oe := fun e => (over_cell (w := W1) (e := e) (o := p.1) hS1.lt).trans ef
            have o1 := fun e => (over_cell (w := W1) (e := e) (o := 1) hX1.lt).trans x1
            have o2 := fun e => (over_cell (w := W1) (e := e) (o := 2) hX1.lt).trans x2
            refine wp_region_mid (w := W1) 11 1 [8, 9] [] [(8, fun u W' => ∃ b, u = .slice (some ⟨b, 0, none⟩) 1 1 ∧ W1.heap.size ≤ b ∧ Blk W' b 22 #[.int .u64 p.2.1]), (9, fun u W' => u = .int .u64 (sumv (s p.1) p.2.2 p.2.1))] rfl (by kernel_rfl) (by kernel_rfl) (by kernel_rfl) (by kernel_rfl) (fun _ _ _ _ _ h => h) ⟨?st1, ?st2, trivial⟩ ?_
            case st2 => exact fun v W1 W2 h hb => h
            case st1 => exact fun v W1 W2 ⟨b, h1, h2, h3⟩ hb => ⟨b, h1, h2, h3.below hb h3.lt⟩
            intro L hL
            have HL := Lib.hid hL
            clear hL
            simp only [List.take_succ_cons, List.take_zero, putL]
            repeat (first | refine wpHead_skip (by decide) ?_ | (refine wpHead_step (by decide) (fun K hK => ?_); go_simp; first | (refine hK _ ?_; clear hK K) | (apply Exists.intro; refine ⟨fun _ => ?_, hK _ ?_⟩; (fail); clear hK K)))
            refine wpHead_nil (HL.out _ ⟨?_, ?_, trivial⟩ ?_)
            · intro vs W2 hb2 hf
              clear hf HL
              change midAt _ _ (Act.put (Act.put _ (some 44) (vs 8)) (some 45) (vs 9)) _ _
              go_simp
              exact ⟨(Below.refl _ _).alloc (Nat.le_refl _) _, hb2.size, Blk.new _ _ _⟩
            · intro vs W2 hb2 hf
              obtain ⟨⟨b1, hf2, hbb, hf3⟩, hff⟩ := hf
              clear hff HL
              change midAt _ _ (Act.put (Act.put _ (some 44) (vs 8)) (some 45) (vs 9)) _ _
              rw [hf2]
              go_simp
              have hps := hl p (List.mem_of_getElem? hp)
              have hsr : OkS s := HS.out ▸ (hB.ok.get id).steps (fun q hq => hl q (List.mem_of_mem_take hq))
              exact (sum_any _ _ _ b1 0 1 W2 (hsr _).1 (hsr _).2 hps.2.1 hps.2.2 (hf3.cell 0)).mono fun e W3 ⟨h1, h2⟩ => ⟨h1, h2 ▸ Below.refl _ _⟩
            · intro vs W2 hb2 hf
              obtain ⟨⟨b1, hf2, hbb, hf3⟩, hf4, hff⟩ := hf
              clear hff HL
              change wpList _ _ _ _ (Act.put (Act.put _ (some 44) (vs 8)) (some 45) (vs 9)) _
              rw [hf2, hf4]
              clear hf2 hf4
              simp only [List.drop_succ_cons, List.drop_zero, List.take_succ_cons, List.take_zero]
              have hS2 := hS1.below hb2 hS1.lt
              have y1 := hS2.cell p.1
              rw [stC_at _ _ hp8] at y1
              have y2 := hS2.frozen p.1
              go_wp2
              go_roundw
              case rel =>
                refine ⟨n + 1, by omega, by go_num, ?_, ?_⟩
                · rw [steps_take _ _ _ _ hp, ← HS.out]
                  unfold step1
                  rw [← stC_set _ _ hp8]
                  exact hS2.set_ p.1 _
                · exact grown_set ((hg2.trans hg3).trans (grown_none hb2)) (Nat.le_refl _)
              case measure => simp [Go.RowKit.intOf]; omega
          · obtain rfl : n = l.length := by omega
            rw [List.take_length] at hS
            have hT2 := BookAt.stepW hT hg2
            have hsr : OkS (stepsS (getB Bk' id) l) := (hB.ok.get id).steps hl
            have hlen : Bk'.length < 9000000 := by
              have e := HBk.out
              rcases (by omega : k = 0 ∨ k = 1) with rfl | rfl
              · simp only [if_true] at e; rw [e]; omega
              · simp only [if_neg (show ¬ (1 = 0) by omega), if_true] at e
                rw [e]
                have := put_length 0 (stepsS (getB B 0) l) B
                unfold tell0; omega
            obtain ⟨s, hs'⟩ : ∃ s, s = stepsS (getB Bk' id) l := ⟨_, rfl⟩
            rw [← hs'] at hS hsr
            have HS := Lib.hid hs'
            clear hs'
            have hgl := hT2.book.blk.lt
            have cb := hT2.book.blk.cell 0
            simp only [List.getElem?_toArray, List.getElem?_cons_zero, List.getElem?_cons_succ] at cb
            have ob := fun e => (over_cell (w := wr) (e := e) (o := 0) hgl).trans cb
            have s0 := fun e => (over_cell (w := wr) (e := e) (o := 0) hS.lt).trans ((hS.cell 0).trans (stC_at s 0 (by omega)))
            have s1 := fun e => (over_cell (w := wr) (e := e) (o := 1) hS.lt).trans ((hS.cell 1).trans (stC_at s 1 (by omega)))
            have s2 := fun e => (over_cell (w := wr) (e := e) (o := 2) hS.lt).trans ((hS.cell 2).trans (stC_at s 2 (by omega)))
            have s3 := fun e => (over_cell (w := wr) (e := e) (o := 3) hS.lt).trans ((hS.cell 3).trans (stC_at s 3 (by omega)))
            have s4 := fun e => (over_cell (w := wr) (e := e) (o := 4) hS.lt).trans ((hS.cell 4).trans (stC_at s 4 (by omega)))
            have s5 := fun e => (over_cell (w := wr) (e := e) (o := 5) hS.lt).trans ((hS.cell 5).trans (stC_at s 5 (by omega)))
            have s6 := fun e => (over_cell (w := wr) (e := e) (o := 6) hS.lt).trans ((hS.cell 6).trans (stC_at s 6 (by omega)))
            have s7 := fun e => (over_cell (w := wr) (e := e) (o := 7) hS.lt).trans ((hS.cell 7).trans (stC_at s 7 (by omega)))
            clear hS
            by_cases hc0 : c = 0
            all_goals
              go_wp2
              refine wp_region_over_tail 6 (by kernel_rfl) (by kernel_rfl) ?_
              simp only [List.take_succ_cons, List.take_zero, List.drop_succ_cons, List.drop_zero]
              repeat (first | go_big_quiet_skip | (go_big_quiet_want; go_big_quiet_op; go_big_quiet_on))
              refine wpQuiet_nil ?_
              rintro W2 ⟨e2, he2⟩
              have hb2 := over_below wr e2
              rw [← he2] at hb2
              clear he2 ob s0 s1 s2 s3 s4 s5 s6 s7
              obtain ⟨W3, hr3, hB3, hg3⟩ := (BookAt.stepW hT2 (grown_none hb2)).book.store id hwid hlen s hsr
              have HB3 := Lib.hid hB3
              clear hB3
              unfold stV stC at hr3
              go_wp2
            · have hk0 : k = 0 := by
                rcases (by omega : k = 0 ∨ k = 1) with h1 | h1
                · exact h1
                · exact absurd hc0 (h0 (by omega))
              subst hk0
              go_returns
              refine ⟨rfl, ?_, (BookAt.stepW hT2 (grown_none hb2)).grown.trans hg3⟩
              have e := HBk.out
              simp only [if_true] at e
              have e2 : id = 0 := by
                rcases Hid0.out with ⟨_, h⟩ | ⟨h, _⟩
                · exact h
                · omega
              have := HB3.out
              rw [HS.out, e, e2] at this
              unfold tellB
              rw [if_pos (by omega)]
              exact this
            · go_roundw
              case rel =>
                refine ⟨k + 1, by omega, by go_num, ⟨?_, (BookAt.stepW hT2 (grown_none hb2)).grown.trans hg3⟩, fun _ => hc0⟩
                have e := HBk.out
                have := HB3.out
                rw [HS.out] at this
                rcases Hid0.out with ⟨rfl, rfl⟩ | ⟨rfl, rfl⟩
                · simp only [if_true] at e
                  rw [e] at this
                  rw [if_neg (by omega), if_pos (by omega)]
                  exact this
                · simp only [if_neg (show ¬ (1 = 0) by omega), if_true] at e
                  rw [e] at this
                  rw [if_neg (by omega), if_neg (by omega)]
                  unfold tellB
                  rw [if_neg (by omega)]
                  exact this
              case measure => simp [Go.RowKit.intOf]; omega
    · go_wp2
      go_returns
      exact ⟨rfl, hT⟩
end Go.Proofs.Ytclhhegfffccgaa
