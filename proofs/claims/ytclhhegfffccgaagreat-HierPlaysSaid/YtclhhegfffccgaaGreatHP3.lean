/- Lemmas of the claim, merged: HIns. No conditions beyond those that each states. -/
import Derived.Test.YtclhhegfffccgaaGreatHP2
/-
  Rows of numbers: where one belongs (slices.BinarySearch), and how it is put in (slices.Insert).
-/
namespace Go.Proofs.YtclhhegfffccgaaGreat
set_option linter.unusedVariables false
open Go.RowKit Go.Maps Go.Sort Go.Shelf
attribute [local go_sem ↓] Go.wp_at_zero Go.wp_at_succ
attribute [local go_sem] quietR quietAtR quietUponR midAt midUpon

def BsW (w : World) (l : List Int) (x : Int) (e : Ending) (w' : World) : Prop := ∃ b, e = .returned (.tuple #[.int .i64 ((l.countP (· < x) : Nat)), .bool b]) ∧ Below w.heap.size w w'
theorem bs_any (base : Nat) (v : Value) (l : List Int) (x : Int) (w : World) (h : w.ownsRow base 3 1 v l.length (l.map (Value.int .i64))) (hl : l.length ≤ 1000) (hs : l.Pairwise (· < ·)) :
    Calls Tryz.prog 29 #[v, .int .i64 x] w (BsW w l x) := by
  rcases h.2 with ⟨rfl, h0⟩ | ⟨g, cap, cur, rfl, h1, h2, h3, h4⟩
  · obtain rfl : l = [] := List.eq_nil_of_length_eq_zero h0
    clear h
    go_enter Tryz.func29, Tryz.ntmps29
    go_wp2
    go_loopw [7, 8] (fun v7 v8 W => v7 = .int .i64 0 ∧ v8 = .int .i64 0 ∧ W = w) (fun _ _ _ => 0)
    case atStart => exact ⟨rfl, rfl, rfl⟩
    case round =>
      obtain ⟨rfl, rfl, rfl⟩ := hrel
      go_wp2
      go_ret2
      exact ⟨_, rfl, Below.refl _ _⟩
  · refine (AnyG.slices_BinarySearch_int bsI g 0 l.length cap l x w (Nat.le_refl _) (by omega) (fun j hj => ?_) (by rw [List.take_length]; exact hs.imp (fun h => by omega))).mono ?_
    · rw [Nat.zero_add, h.cellAt j (by omega), List.getElem?_map, List.getElem?_eq_getElem hj, List.getD_eq_getElem?_getD]
      simp [List.getElem?_eq_getElem hj]
    · rintro e w' ⟨rfl, q, rfl⟩
      rw [List.take_length]
      exact ⟨_, rfl, below_drewN (Below.refl _ _) q⟩

def setL (cur : Array Value) : Nat → List Value → Array Value
  | _, [] => cur
  | o, v :: r => setL (cur.setIfInBounds o v) (o + 1) r
theorem setL_size : ∀ (vs : List Value) (o : Nat) (cur : Array Value), (setL cur o vs).size = cur.size
  | [], _, _ => rfl
  | v :: r, o, cur => by unfold setL; rw [setL_size r]; simp
theorem setL_at : ∀ (vs : List Value) (o : Nat) (cur : Array Value) (k : Nat), k < cur.size → (setL cur o vs)[k]? = if o ≤ k ∧ k < o + vs.length then vs[k - o]? else cur[k]?
  | [], o, cur, k, hk => by unfold setL; rw [if_neg (by simp)]
  | v :: r, o, cur, k, hk => by
    unfold setL
    rw [setL_at r (o + 1) _ k (by simpa using hk)]
    by_cases h1 : o + 1 ≤ k ∧ k < o + 1 + r.length
    · rw [if_pos h1, if_pos (by simp; omega)]
      obtain ⟨j, hj⟩ : ∃ j, k - o = j + 1 := ⟨k - o - 1, by omega⟩
      rw [hj, show k - (o + 1) = j by omega]; rfl
    · rw [if_neg h1, Array.getElem?_setIfInBounds]
      by_cases h2 : o = k
      · subst h2
        rw [if_pos rfl, if_pos hk, if_pos (by simp)]
        simp
      · rw [if_neg h2, if_neg (by simp; omega)]
theorem Blk.setCells {b : Nat} {t : TypeId} : ∀ (vs : List Value) (o : Nat) {w : World} {cur : Array Value}, Blk w b t cur → Blk (w.setCells b o vs) b t (setL cur o vs)
  | [], _, _, _, h => h
  | v :: r, o, w, cur, h => by unfold World.setCells setL; exact Blk.setCells r (o + 1) (h.set_ o v)
theorem grown_setH (W : World) (q o : Nat) (v : Value) : W.grownBy (W.setCell ⟨q, o, none⟩ v) (some q) :=
  ⟨rfl, rfl, rfl, by simp [World.setCell], fun k hk hne => Below.heap_setCell W ⟨q, o, none⟩ v k (by show k ≠ q; rintro rfl; exact hne rfl)⟩
theorem grown_transH {w w1 w' : World} {r : Option Nat} (h : w.grownBy w1 r) (k : w1.grownBy w' r) : w.grownBy w' r :=
  ⟨k.os.trans h.os, k.tape.trans h.tape, k.output.trans h.output, Nat.le_trans h.size k.size, fun b hb hn => (k.block b (Nat.lt_of_lt_of_le hb h.size) hn).trans (h.block b hb hn)⟩
theorem grown_setCells (b : Nat) : ∀ (vs : List Value) (o : Nat) (w : World), w.grownBy (w.setCells b o vs) (some b)
  | [], _, w => ⟨rfl, rfl, rfl, Nat.le_refl _, fun _ _ _ => rfl⟩
  | v :: r, o, w => by unfold World.setCells; exact grown_transH (grown_setH w b o v) (grown_setCells b r (o + 1) _)
theorem grown_weakH {w w' : World} {r : Option Nat} (h : w.grownBy w' none) : w.grownBy w' r := ⟨h.os, h.tape, h.output, h.size, fun k hk _ => h.block k hk (by simp)⟩
theorem grown_drewH (w : World) {r : Option Nat} : w.grownBy w.drew r := ⟨rfl, rfl, rfl, Nat.le_refl _, fun _ _ _ => rfl⟩
theorem row_ofList {W : World} {base g cap : Nat} {cur : Array Value} {l : List Int} (hB : Blk W g 3 cur) (hg : base ≤ g) (hc : l.length ≤ cap) (hm : cap ≤ maxLen) (hs : cur.size = cap) (h : ∀ k, k < l.length → cur[k]? = (l.map (Value.int .i64))[k]?) :
    W.ownsRow base 3 1 (.slice (some ⟨g, 0, none⟩) l.length cap) l.length (l.map (Value.int .i64)) := by
  refine ⟨by simp, .inr ⟨g, cap, cur, rfl, hg, hB, hc, hm, by omega, ?_⟩⟩
  apply List.ext_getElem?
  intro k
  by_cases hk : k < l.length
  · rw [List.getElem?_take_of_lt (by omega), Array.getElem?_toList]; exact h k hk
  · rw [List.getElem?_eq_none (by rw [List.length_take]; omega), List.getElem?_eq_none (by simp; omega)]
def InsW (w : World) (base : Nat) (v : Value) (l : List Int) (e : Ending) (w' : World) : Prop :=
  ∃ v', e = .returned v' ∧ w'.ownsRow base 3 1 v' l.length (l.map (Value.int .i64)) ∧ w.grownBy w' v.ownBlock ∧ (v'.ownBlock = v.ownBlock ∨ v'.ownBlock = some w.heap.size)
theorem ins_len (l : List Int) (x : Int) {j : Nat} (hj : j ≤ l.length) : (l.take j ++ [x] ++ l.drop j).length = l.length + 1 := by simp; omega
theorem ins_at (l : List Int) (x : Int) {j : Nat} (hj : j ≤ l.length) (k : Nat) : (l.take j ++ [x] ++ l.drop j)[k]? = if k < j then l[k]? else if k = j then some x else l[k - 1]? := by
  have hlt : (l.take j).length = j := by rw [List.length_take]; omega
  rw [List.append_assoc]
  by_cases h1 : k < j
  · rw [if_pos h1, List.getElem?_append_left (by omega), List.getElem?_take_of_lt h1]
  · rw [if_neg h1, List.getElem?_append_right (by omega), hlt]
    by_cases h2 : k = j
    · rw [if_pos h2, h2]; simp
    · rw [if_neg h2]
      obtain ⟨i, hi⟩ : ∃ i, k - j = i + 1 := ⟨k - j - 1, by omega⟩
      rw [hi, List.singleton_append, List.getElem?_cons_succ, List.getElem?_drop, show j + i = k - 1 by omega]
theorem one_int (l : List Int) : ∀ u ∈ l.map (Value.int .i64), u.oneCell' = true := by
  intro u hu
  obtain ⟨x, _, rfl⟩ := List.mem_map.1 hu
  rfl

set_option maxHeartbeats 1000000 in
theorem ins_any (base : Nat) (v : Value) (l : List Int) (x : Int) (vb j : Nat) (w : World) (hj : j ≤ l.length) (h : w.ownsRow base 3 1 v l.length (l.map (Value.int .i64))) (hl : l.length ≤ 1000) (hx : Blk w vb 3 #[.int .i64 x]) (hne : v.ownBlock ≠ some vb) (hb : base ≤ w.heap.size) :
    Calls Tryz.prog 30 #[v, .int .i64 j, .slice (some ⟨vb, 0, none⟩) 1 1] w (InsW w base v (l.take j ++ [x] ++ l.drop j)) := by
  have hvs : ∀ i u, ([Value.int .i64 x] : List Value)[i]? = some u → w.cell? ⟨vb, 0 + i, none⟩ = some u := fun i u hi => by
    match i with
    | 0 => rw [hx.cell]; simpa using hi
    | i + 1 => simp at hi
  have h1v : ∀ u ∈ [Value.int .i64 x], u.oneCell' = true := fun u hu => by simp at hu; subst hu; rfl
  have hlen := ins_len l x hj
  have key : ∀ k, (l.map (Value.int .i64))[k]? = (l[k]?).map (Value.int .i64) := fun k => List.getElem?_map
  have keyI : ∀ k, ((l.take j ++ [x] ++ l.drop j).map (Value.int .i64))[k]? = (if k < j then l[k]? else if k = j then some x else l[k - 1]?).map (Value.int .i64) := fun k => by rw [List.getElem?_map, ins_at l x hj]
  rcases h.2 with ⟨rfl, h0⟩ | ⟨g, cap, cur, rfl, hg, hB, hc, hm, hsz, htk⟩
  · obtain rfl : l = [] := List.eq_nil_of_length_eq_zero h0
    obtain rfl : j = 0 := by simpa using hj
    have hcon := Any2.slices_Insert_int_end_grow insI none 0 0 vb 0 1 1 [] [.int .i64 x] w (by omega) (by omega) (by omega) (by omega) rfl rfl (fun _ => rfl) (fun a e => by cases e) hvs h1v
    try simp only [show insI_ren.t 3 = 3 from rfl] at hcon
    refine hcon.mono ?_
    clear hcon
    rintro e w' ⟨rfl, rfl⟩
    refine ⟨_, rfl, ?_, grown_weakH (grown_transH (grown_drewH w) (World.grownBy_alloc _ _ none)), .inr rfl⟩
    have hge := grownCap_ge w (0 + 1) 0 3
    have hle := grownCap_le_maxLen w (0 + 1) 0 3 (by simp [maxLen])
    refine row_ofList (l := [x]) (Blk.new w.drew 3 _) hb (by simpa using hge) hle (by simp only [Builtin.zeroCells, Value.cells]; simp; simp only [Nat.zero_add] at hge; omega) fun k hk => ?_
    obtain rfl : k = 0 := by simp at hk; omega
    rw [Array.getElem?_append_left (by simp)]
    rfl
  · have hsz : cur.size = cap := by omega
    have hcur : ∀ k, k < l.length → cur[k]? = (l[k]?).map (Value.int .i64) := fun k hk => by
      rw [← key, ← htk, List.getElem?_take_of_lt (by omega), Array.getElem?_toList]
    have hB' : Blk w g 3 cur := hB
    have hcs : ∀ i u, (l.map (Value.int .i64))[i]? = some u → w.cell? ⟨g, 0 + i, none⟩ = some u := fun i u hi => by
      have hil : i < l.length := by have := (List.getElem?_eq_some_iff.1 hi).1; simpa using this
      rw [Nat.zero_add, hB'.cell, hcur i hil, ← key]; exact hi
    have hsp : ∀ i, i < cap → (w.cell? ⟨g, 0 + i, none⟩).isSome = true := fun i hi => by
      rw [Nat.zero_add, hB'.cell, Array.getElem?_eq_getElem (by omega)]; rfl
    have hgv : g ≠ vb := fun e => hne (by simp [Value.ownBlock, e])
    by_cases hroom : l.length + 1 ≤ cap
    · by_cases hjl : j < l.length
      · have hcon := Any2.slices_Insert_int_shift insI g 0 l.length cap j vb 0 1 1 (l.map (Value.int .i64)) [.int .i64 x] w hjl (by omega) hroom (by unfold maxLen at hm; omega) (Ne.symm hgv) (by simp) rfl hcs (fun i hi => hsp i (by omega)) (fun i _ => hB'.frozen _) hvs (one_int l) h1v 3 3 1 cap (by unfold World.shape?; rw [show w.heap[vb]? = _ from hx]; rfl) (by unfold World.shape?; rw [show w.heap[g]? = _ from hB]; show some (_, cur.size) = _; rw [hsz]) (by omega) (hx.frozen _) (hx.frozen _)
        try simp only [show insI_ren.t 3 = 3 from rfl] at hcon
        refine hcon.mono ?_
        clear hcon
        rintro e w' ⟨rfl, rfl⟩
        have hB2 := ((hB'.drew).setCells ((l.map (Value.int .i64)).drop j) (0 + (j + 1))).setCells [.int .i64 x] (0 + j)
        have hgr : w.grownBy ((w.drew.setCells g (0 + (j + 1)) ((l.map (Value.int .i64)).drop j)).setCells g (0 + j) [.int .i64 x]) (some g) := grown_transH (grown_transH (grown_drewH w) (grown_setCells g _ _ _)) (grown_setCells g _ _ _)
        refine ⟨_, rfl, ?_, hgr, .inl rfl⟩
        have hrow := row_ofList (l := l.take j ++ [x] ++ l.drop j) hB2 hg (by omega) hm (by rw [setL_size, setL_size, hsz]) fun k hk => by
          rw [setL_at _ _ _ _ (by rw [setL_size]; omega), setL_at _ _ _ _ (by omega), keyI]
          by_cases c1 : k < j
          · rw [if_neg (by simp; omega), if_neg (by simp; omega), if_pos c1, hcur k (by omega)]
          · rw [if_neg c1]
            by_cases c2 : k = j
            · subst c2
              rw [if_pos (by simp), if_pos rfl]
              simp
            · rw [if_neg (by simp; omega), if_pos (by simp; omega), if_neg c2, List.getElem?_drop, key]
              congr 2
              omega
        rwa [hlen] at hrow ⊢
      · obtain rfl : j = l.length := by omega
        have hcon := Any2.slices_Insert_int_end_room insI g 0 l.length cap vb 0 1 1 [.int .i64 x] w (by omega) hroom (by unfold maxLen at hm; omega) rfl (fun i hi => by rw [Nat.add_assoc]; exact hsp _ (by omega)) (fun i _ => hB'.frozen _) hvs h1v
        try simp only [show insI_ren.t 3 = 3 from rfl] at hcon
        refine hcon.mono ?_
        clear hcon
        rintro e w' ⟨rfl, rfl⟩
        have hB2 := hB'.setCells [.int .i64 x] (0 + l.length)
        refine ⟨_, rfl, ?_, grown_setCells g _ _ _, .inl rfl⟩
        have hrow := row_ofList (l := l.take l.length ++ [x] ++ l.drop l.length) hB2 hg (by omega) hm (by rw [setL_size, hsz]) fun k hk => by
          rw [setL_at _ _ _ _ (by omega), keyI]
          by_cases c1 : k < l.length
          · rw [if_neg (by simp; omega), if_pos c1, hcur k c1]
          · obtain rfl : k = l.length := by omega
            rw [if_pos (by simp), if_neg (by omega), if_pos rfl]
            simp
        rwa [hlen] at hrow ⊢
    · have hcap : cap = l.length := by omega
      have hge := grownCap_ge w (l.length + 1) cap 3
      have hle := grownCap_le_maxLen w (l.length + 1) cap 3 (by unfold maxLen; omega)
      by_cases hjl : j < l.length
      · have hcon := Any2.slices_Insert_int_grow insI g 0 l.length cap j vb 0 1 1 (l.map (Value.int .i64)) [.int .i64 x] w hjl (by omega) hc (by omega) (by omega) (by simp) rfl hcs hvs (one_int l) h1v
        try simp only [show insI_ren.t 3 = 3 from rfl] at hcon
        refine hcon.mono ?_
        clear hcon
        rintro e w' ⟨rfl, rfl⟩
        have hA := Blk.new w 3 (((l.map (Value.int .i64)).take j).toArray ++ Builtin.zeroCells (Value.int .i64 0).cells (l.length + 1 - j) ++ Builtin.zeroCells (Value.int .i64 0).cells (grownCap w (l.length + 1) cap 3 - (l.length + 1)))
        have hAs : (((l.map (Value.int .i64)).take j).toArray ++ Builtin.zeroCells (Value.int .i64 0).cells (l.length + 1 - j) ++ Builtin.zeroCells (Value.int .i64 0).cells (grownCap w (l.length + 1) cap 3 - (l.length + 1))).size = grownCap w (l.length + 1) cap 3 := by simp [Builtin.zeroCells, Value.cells]; omega
        have hAt : ∀ k, k < j → (((l.map (Value.int .i64)).take j).toArray ++ Builtin.zeroCells (Value.int .i64 0).cells (l.length + 1 - j) ++ Builtin.zeroCells (Value.int .i64 0).cells (grownCap w (l.length + 1) cap 3 - (l.length + 1)))[k]? = (l[k]?).map (Value.int .i64) := fun k hk => by
          rw [Array.append_assoc, Array.getElem?_append_left (by simp; omega), List.getElem?_toArray, List.getElem?_take_of_lt hk, key]
        generalize (((l.map (Value.int .i64)).take j).toArray ++ Builtin.zeroCells (Value.int .i64 0).cells (l.length + 1 - j) ++ Builtin.zeroCells (Value.int .i64 0).cells (grownCap w (l.length + 1) cap 3 - (l.length + 1))) = ar at hA hAs hAt
        have hB2 := (((hA.drew).setCells [.int .i64 x] j).drew).setCells ((l.map (Value.int .i64)).drop j) (j + 1)
        refine ⟨_, rfl, ?_, ?_, .inr rfl⟩
        · have hrow := row_ofList (l := l.take j ++ [x] ++ l.drop j) hB2 hb (by rw [hlen]; exact hge) hle (by rw [setL_size, setL_size, hAs]) fun k hk => by
            rw [setL_at _ _ _ _ (by rw [setL_size]; omega), setL_at _ _ _ _ (by omega), keyI]
            by_cases c1 : k < j
            · rw [if_neg (by simp; omega), if_neg (by simp; omega), if_pos c1, hAt k c1]
            · rw [if_neg c1]
              by_cases c2 : k = j
              · subst c2
                rw [if_neg (by omega), if_pos (by simp), if_pos rfl]
                simp
              · rw [if_pos (by simp; omega), if_neg c2, List.getElem?_drop, key]
                congr 2
                omega
          rw [hlen] at hrow ⊢
          exact hrow
        · refine grown_weakH ⟨?_, ?_, ?_, ?_, ?_⟩
          all_goals
            have g1 := grown_transH (grown_transH (grown_transH (grown_drewH (w.alloc (.cells ar 3))) (grown_setCells w.heap.size [.int .i64 x] j _)) (grown_drewH _)) (grown_setCells w.heap.size ((l.map (Value.int .i64)).drop j) (j + 1) _)
            have g0 := World.grownBy_alloc w (.cells ar 3) none
          · exact g1.os.trans g0.os
          · exact g1.tape.trans g0.tape
          · exact g1.output.trans g0.output
          · exact Nat.le_trans g0.size g1.size
          · exact fun k hk _ => (g1.block k (Nat.lt_of_lt_of_le hk g0.size) (by intro e; cases e; omega)).trans (g0.block k hk (by simp))
      · obtain rfl : j = l.length := by omega
        have hcon := Any2.slices_Insert_int_end_grow insI (some ⟨g, 0, none⟩) l.length cap vb 0 1 1 (l.map (Value.int .i64)) [.int .i64 x] w (by omega) hc (by omega) (by omega) (by simp) rfl (fun e => by cases e) (fun a e i u hi => by cases e; simpa [Addr.add_lit] using hcs i u hi) hvs h1v
        try simp only [show insI_ren.t 3 = 3 from rfl] at hcon
        refine hcon.mono ?_
        clear hcon
        rintro e w' ⟨rfl, rfl⟩
        refine ⟨_, rfl, ?_, grown_weakH (grown_transH (grown_drewH w) (World.grownBy_alloc _ _ none)), .inr rfl⟩
        have hrow := row_ofList (l := l.take l.length ++ [x] ++ l.drop l.length) (Blk.new w.drew 3 ((l.map (Value.int .i64) ++ [Value.int .i64 x]).toArray ++ Builtin.zeroCells (Value.int .i64 0).cells (grownCap w (l.length + 1) cap 3 - (l.length + 1)))) hb (by rw [hlen]; exact hge) hle (by simp [Builtin.zeroCells, Value.cells]; omega) fun k hk => by
          rw [Array.getElem?_append_left (by simp; omega), List.getElem?_toArray, keyI]
          by_cases c1 : k < l.length
          · rw [if_pos c1, List.getElem?_append_left (by simpa using c1), key]
          · obtain rfl : k = l.length := by omega
            rw [if_neg (by omega), if_pos rfl, List.getElem?_append_right (by simp)]
            simp
        rw [hlen] at hrow ⊢
        exact hrow
end Go.Proofs.YtclhhegfffccgaaGreat
