/-
  The tree: all entries in order, by a function that is handed each.
-/
import Derived.Test.YtbnnkkojlclgjaaGreatRbT
import Derived.Test.YtbnnkkojlclgjaaGreatRegS
import Derived.Shelf.RegionOpen
import Derived.LoopNIn
import Derived.LoopIn
namespace Go.Proofs.YtbnnkkojlclgjaaGreat
set_option linter.unusedVariables false
open Go.RowKit Go.Shelf
section
attribute [local go_sem] Oper.semAt_some
attribute [local irreducible] wpSegs

abbrev encE (x : En) : Array Value := #[.agg #[.int .u64 x.1.1, .int .i64 x.1.2], .int .u64 x.2]
theorem room_wideE {p : Prop} : Fence.wide.depth.isSome = true → p := fun h => by simp [Fence.wide] at h
theorem grown_over {w : World} (e : World) : w.grownBy (over w e) none := by
  have h := over_below w e
  exact ⟨h.os, h.tape, h.output, h.size, fun k hk _ => h.block k hk⟩
theorem grown_drewE (w : World) : w.grownBy w.drew none := ⟨rfl, rfl, rfl, Nat.le_refl _, fun _ _ _ => rfl⟩
theorem grown_belowE {w W : World} (h : Below w.heap.size w W) : w.grownBy W none := ⟨h.os, h.tape, h.output, h.size, fun k hk _ => h.block k hk⟩
theorem yield_any {m : Nat} (m' : Nat) {P : Program} {l : Nat} {args : Array Value} {W : World} {R : Ending → World → Prop} (h : YieldAt Fence.wide m P l args W R) : YieldAt Fence.wide m' P l args W R := by
  obtain ⟨fn, tmps, assign, body, hy, hR⟩ := h
  exact ⟨fn, tmps, assign, body, hy, hR.1, fun c cs _ => hR.2 c cs (fun d hd => by simp [Fence.wide] at hd)⟩
set_option maxRecDepth 100000 in
set_option maxHeartbeats 4000000 in
theorem each_in (l n0 N : Nat) (J Jx : List En → World → Prop) (hJ : ∀ s W W', J s W → W.grownBy W' none → J s W') (hJx : ∀ s W W', Jx s W → W.grownBy W' none → Jx s W')
    (hY : ∀ m pre x W, J pre W → pre.length < N → YieldAt Fence.wide m Tryz.prog l (encE x) W fun e W' => (e = .returned (.bool true) ∧ J (pre ++ [x]) W' ∧ Below n0 W W') ∨ (e = .returned (.bool false) ∧ Jx (pre ++ [x]) W')) (t : RB) :
    ∀ (n : Nat) (pre : List En) (W : World), RBAt W t → (∀ a ∈ addrs t, a < n0) → n0 ≤ W.heap.size → J pre W → pre.length + (listT t).length ≤ N →
      CallsIn Fence.wide n Tryz.prog 95 #[ptrV t, .func (.yield l) #[] #[]] W fun e W' =>
        (e = .returned (.bool true) ∧ J (pre ++ listT t) W' ∧ Below n0 W W') ∨ (e = .returned (.bool false) ∧ ∃ q, q <+: listT t ∧ Jx (pre ++ q) W') := by
  induction t with
  | nil =>
    intro n pre W ht hlt hn0 hj hN
    refine callsIn_of_wp Tryz.func95 rfl trivial ?_ rfl
    simp only [Tryz.ntmps95, List.size_toArray, List.length_cons, List.length_nil, Nat.reduceAdd, Nat.reduceSub, Array.replicate_succ, Array.replicate_zero, List.push_toArray, List.append_toArray, List.nil_append, List.cons_append]
    have e1 : ptrV .nil = .pointer none := rfl
    rw [e1]
    have HJ0 := Lib.hid (hJ _ _ _ hj (grown_drewE W))
    have HH := Lib.hid (And.intro hJ hJx)
    have HB0 := Lib.hid (And.intro ((Below.refl n0 W).drew) hn0)
    clear e1 ht hlt hj hN hY hJ hJx hn0
    gi_wp2
    refine wpIn_region_segs [8, 10, 7, 2] (by kernel_rfl) (by kernel_rfl) ?_
    obtain ⟨W0, hW0⟩ : ∃ W0, W0 = W.drew := ⟨_, rfl⟩
    rw [← hW0] at HJ0 HB0 ⊢
    have hN0 : n0 ≤ W0.heap.size := by rw [hW0]; exact HB0.out.2
    have HN0 := Lib.hid hN0
    clear hW0 hN0
    rw [wpSegs_cons]
    simp only [List.take_succ_cons, List.take_zero, List.drop_succ_cons, List.drop_zero]
    repeat (first | go_big_quiet_skip | (go_big_quiet_want; go_big_quiet_op; go_big_quiet_on))
    refine wpQuiet_nil ?_
    rintro W1 ⟨e, he⟩
    have HJ1 := Lib.hid (HH.out.1 _ _ _ HJ0.out (he ▸ grown_over (w := W0) e))
    have HB1 := Lib.hid (And.intro (HB0.out.1.trans (he ▸ (over_below W0 e).mono HN0.out)) True.intro)
    have HN1 := Lib.hid (show n0 ≤ W1.heap.size from Nat.le_trans HN0.out (he ▸ (over_below W0 e).size))
    clear he HJ0 HB0 HN0
    refine segSkip (by kernel_rfl) (by first | (go_simp; done) | (go_simp; rfl)) ?_
    rw [wpSegs_cons]
    simp only [List.take_succ_cons, List.take_zero, List.drop_succ_cons, List.drop_zero]
    repeat (first | go_big_quiet_skip | (go_big_quiet_want; go_big_quiet_op; go_big_quiet_on))
    refine wpQuiet_nil ?_
    rintro W2 ⟨e, he⟩
    have HJ2 := Lib.hid (HH.out.1 _ _ _ HJ1.out (he ▸ grown_over (w := W1) e))
    have HB2 := Lib.hid (And.intro (HB1.out.1.trans (he ▸ (over_below W1 e).mono HN1.out)) True.intro)
    have HN2 := Lib.hid (show n0 ≤ W2.heap.size from Nat.le_trans HN1.out (he ▸ (over_below W1 e).size))
    clear he HJ1 HB1 HN1
    refine segSkip (by kernel_rfl) (by first | (go_simp; done) | (go_simp; rfl)) ?_
    rw [wpSegs_cons]
    simp only [List.take_succ_cons, List.take_zero, List.drop_succ_cons, List.drop_zero]
    repeat (first | go_big_quiet_skip | (go_big_quiet_want; go_big_quiet_op; go_big_quiet_on))
    refine wpQuiet_nil ?_
    rintro W3 ⟨e, he⟩
    have HJ3 := Lib.hid (HH.out.1 _ _ _ HJ2.out (he ▸ grown_over (w := W2) e))
    have HB3 := Lib.hid (And.intro (HB2.out.1.trans (he ▸ (over_below W2 e).mono HN2.out)) True.intro)
    have HN3 := Lib.hid (show n0 ≤ W3.heap.size from Nat.le_trans HN2.out (he ▸ (over_below W2 e).size))
    clear he HJ2 HB2 HN2
    refine segSkip (by kernel_rfl) (by first | (go_simp; done) | (go_simp; rfl)) ?_
    rw [wpSegs_cons]
    simp only [List.take_succ_cons, List.take_zero, List.drop_succ_cons, List.drop_zero]
    repeat (first | go_big_quiet_skip | (go_big_quiet_want; go_big_quiet_op; go_big_quiet_on))
    refine wpQuiet_nil ?_
    rintro W4 ⟨e, he⟩
    have HJ4 := Lib.hid (HH.out.1 _ _ _ HJ3.out (he ▸ grown_over (w := W3) e))
    have HB4 := Lib.hid (And.intro (HB3.out.1.trans (he ▸ (over_below W3 e).mono HN3.out)) True.intro)
    have HN4 := Lib.hid (show n0 ≤ W4.heap.size from Nat.le_trans HN3.out (he ▸ (over_below W3 e).size))
    clear he HJ3 HB3 HN3
    gi_wp2
    rw [wpSegs_nil]
    gi_wp2
    go_ret
    exact .inl ⟨rfl, by simpa [listT] using HJ4.out, HB4.out.1⟩
  | node a k v s c tl tr ihl ihr =>
    intro n pre W ht hlt hn0 hj hN
    refine callsIn_of_wp Tryz.func95 rfl trivial ?_ rfl
    simp only [Tryz.ntmps95, List.size_toArray, List.length_cons, List.length_nil, Nat.reduceAdd, Nat.reduceSub, Array.replicate_succ, Array.replicate_zero, List.push_toArray, List.append_toArray, List.nil_append, List.cons_append]
    have e1 : ptrV (.node a k v s c tl tr) = .pointer (some ⟨a, 0, none⟩) := rfl
    rw [e1]
    have hlN : (listT (.node a k v s c tl tr)).length = (listT tl).length + (listT tr).length + 1 := by simp [listT]; omega
    rw [hlN] at hN
    have HJ0 := Lib.hid (hJ _ _ _ hj (grown_drewE W))
    have HH := Lib.hid (And.intro hJ hJx)
    have HB0 := Lib.hid ((Below.refl n0 W).drew)
    have HT0 := Lib.hid (show RBAt W.drew (.node a k v s c tl tr) from ht.kept fun _ _ => rfl)
    have HLT := Lib.hid (And.intro hlt hN)
    have HY := Lib.hid hY
    have HIL := Lib.hid ihl; have HIR := Lib.hid ihr
    have HN0 := Lib.hid (show n0 ≤ W.drew.heap.size from hn0)
    clear e1 ht hlt hj hN hY hJ hJx hn0 hlN ihl ihr
    gi_wp2
    refine wpIn_region_segs [8, 10, 7, 2] (by kernel_rfl) (by kernel_rfl) ?_
    obtain ⟨W0, hW0⟩ : ∃ W0, W0 = W.drew := ⟨_, rfl⟩
    rw [← hW0] at HJ0 HB0 HT0 HN0 ⊢
    clear hW0
    have o6 := fun e => (over_cell (w := W0) (e := e) (o := 6) HT0.out.1.lt).trans (HT0.out.1.cell 6)
    unfold nodeC at o6
    simp only [List.getElem?_toArray, List.getElem?_cons_zero, List.getElem?_cons_succ] at o6
    rw [wpSegs_cons]
    simp only [List.take_succ_cons, List.take_zero, List.drop_succ_cons, List.drop_zero]
    repeat (first | go_big_quiet_skip | (go_big_quiet_want; go_big_quiet_op; go_big_quiet_on))
    refine wpQuiet_nil ?_
    rintro W1 ⟨e, he⟩
    have HJ1 := Lib.hid (HH.out.1 _ _ _ HJ0.out (he ▸ grown_over (w := W0) e))
    have HB1 := Lib.hid (HB0.out.trans (he ▸ (over_below W0 e).mono HN0.out))
    have HT1 := Lib.hid (HT0.out.later (he ▸ over_below W0 e))
    have HN1 := Lib.hid (show n0 ≤ W1.heap.size from Nat.le_trans HN0.out (he ▸ (over_below W0 e).size))
    clear he HJ0 HB0 HT0 HN0 o6
    have hcon := HIL.out (n - 1) pre W1 HT1.out.2.1 (fun x hx => HLT.out.1 x (.tail _ (List.mem_append.2 (.inl hx)))) HN1.out HJ1.out (by have := HLT.out.2; omega)
    gi_wp2
    refine ⟨trivial, room_wideE, hcon.mono ?_⟩
    clear hcon
    rintro e W2 (⟨rfl, hj, hb⟩ | ⟨rfl, q, hq, hx⟩)
    · have HT2 := Lib.hid (HT1.out.kept fun x hx => hb.block x (HLT.out.1 x hx))
      have HB2 := Lib.hid (HB1.out.trans hb)
      have HN2 := Lib.hid (show n0 ≤ W2.heap.size from Nat.le_trans HN1.out hb.size)
      have HJ2 := Lib.hid hj
      clear hb hj HT1 HB1 HN1 HJ1
      gi_wp2
      have o0 := fun e => (over_cell (w := W2) (e := e) (o := 0) HT2.out.1.lt).trans (HT2.out.1.cell 0)
      have o1 := fun e => (over_cell (w := W2) (e := e) (o := 1) HT2.out.1.lt).trans (HT2.out.1.cell 1)
      have o2 := fun e => (over_cell (w := W2) (e := e) (o := 2) HT2.out.1.lt).trans (HT2.out.1.cell 2)
      unfold nodeC at o0 o1 o2
      simp only [List.getElem?_toArray, List.getElem?_cons_zero, List.getElem?_cons_succ] at o0 o1 o2
      rw [wpSegs_cons]
      simp only [List.take_succ_cons, List.take_zero, List.drop_succ_cons, List.drop_zero]
      repeat (first | go_big_quiet_skip | (go_big_quiet_want; go_big_quiet_op; go_big_quiet_on))
      refine wpQuiet_nil ?_
      rintro W3 ⟨e, he⟩
      have HJ3 := Lib.hid (HH.out.1 _ _ _ HJ2.out (he ▸ grown_over (w := W2) e))
      have HB3 := Lib.hid (HB2.out.trans (he ▸ (over_below W2 e).mono HN2.out))
      have HT3 := Lib.hid (HT2.out.later (he ▸ over_below W2 e))
      have HN3 := Lib.hid (show n0 ≤ W3.heap.size from Nat.le_trans HN2.out (he ▸ (over_below W2 e).size))
      clear he HJ2 HB2 HT2 HN2 o0 o1 o2
      obtain ⟨fn, tmps, assign, body, hy, hR⟩ := HY.out (n - 1) _ (k, v) W3 HJ3.out (by have := HLT.out.2; simp only [List.length_append]; omega)
      dsimp only [encE] at hy
      gi_wp2
      refine ⟨room_wideE, hR.mono ?_⟩
      clear hR hy
      rintro e W4 (⟨rfl, hj, hb⟩ | ⟨rfl, hx⟩)
      · have HT4 := Lib.hid (HT3.out.kept fun x hx => hb.block x (HLT.out.1 x hx))
        have HB4 := Lib.hid (HB3.out.trans hb)
        have HN4 := Lib.hid (show n0 ≤ W4.heap.size from Nat.le_trans HN3.out hb.size)
        have HJ4 := Lib.hid hj
        clear hb hj HT3 HB3 HN3 HJ3
        gi_wp2
        have o7 := fun e => (over_cell (w := W4) (e := e) (o := 7) HT4.out.1.lt).trans (HT4.out.1.cell 7)
        unfold nodeC at o7
        simp only [List.getElem?_toArray, List.getElem?_cons_zero, List.getElem?_cons_succ] at o7
        rw [wpSegs_cons]
        simp only [List.take_succ_cons, List.take_zero, List.drop_succ_cons, List.drop_zero]
        repeat (first | go_big_quiet_skip | (go_big_quiet_want; go_big_quiet_op; go_big_quiet_on))
        refine wpQuiet_nil ?_
        rintro W5 ⟨e, he⟩
        have HJ5 := Lib.hid (HH.out.1 _ _ _ HJ4.out (he ▸ grown_over (w := W4) e))
        have HB5 := Lib.hid (HB4.out.trans (he ▸ (over_below W4 e).mono HN4.out))
        have HT5 := Lib.hid (HT4.out.later (he ▸ over_below W4 e))
        have HN5 := Lib.hid (show n0 ≤ W5.heap.size from Nat.le_trans HN4.out (he ▸ (over_below W4 e).size))
        clear he HJ4 HB4 HT4 HN4 o7
        have hcon := HIR.out (n - 1) _ W5 HT5.out.2.2 (fun x hx => HLT.out.1 x (.tail _ (List.mem_append.2 (.inr hx)))) HN5.out HJ5.out (by have := HLT.out.2; simp only [List.length_append, List.length_cons, List.length_nil]; omega)
        gi_wp2
        refine ⟨trivial, room_wideE, hcon.mono ?_⟩
        clear hcon
        rintro e W6 (⟨rfl, hj, hb⟩ | ⟨rfl, q, hq, hx⟩)
        · have HN6 := Lib.hid (show n0 ≤ W6.heap.size from Nat.le_trans HN5.out hb.size)
          have HJ6 := Lib.hid hj
          have HB6 := Lib.hid (HB5.out.trans hb)
          clear hb hj HT5 HB5 HN5 HJ5
          gi_wp2
          rw [wpSegs_cons]
          simp only [List.take_succ_cons, List.take_zero, List.drop_succ_cons, List.drop_zero]
          repeat (first | go_big_quiet_skip | (go_big_quiet_want; go_big_quiet_op; go_big_quiet_on))
          refine wpQuiet_nil ?_
          rintro W7 ⟨e, he⟩
          have HJ7 := Lib.hid (HH.out.1 _ _ _ HJ6.out (he ▸ grown_over (w := W6) e))
          have HB7 := Lib.hid (HB6.out.trans (he ▸ (over_below W6 e).mono HN6.out))
          clear he HJ6 HB6 HN6
          gi_wp2
          rw [wpSegs_nil]
          gi_wp2
          go_ret
          exact .inl ⟨rfl, by simpa [listT, List.append_assoc] using HJ7.out, HB7.out⟩
        · clear HT5 HB5 HN5 HJ5
          have HX3 := Lib.hid hx
          clear hx
          gi_wp2
          rw [wpSegs_cons]
          simp only [List.take_succ_cons, List.take_zero, List.drop_succ_cons, List.drop_zero]
          repeat (first | go_big_quiet_skip | (go_big_quiet_want; go_big_quiet_op; go_big_quiet_on))
          refine wpQuiet_nil ?_
          rintro Z4 ⟨e, he⟩
          have HX4 := Lib.hid (HH.out.2 _ _ _ HX3.out (he ▸ grown_over (w := W6) e))
          clear he HX3
          gi_wp2
          rw [wpSegs_nil]
          gi_wp2
          go_ret
          exact .inr ⟨rfl, listT tl ++ (k, v) :: q, by obtain ⟨r, hr⟩ := hq; exact ⟨r, by simp [listT, ← hr]⟩, by simpa [List.append_assoc] using HX4.out⟩
      · clear HT3 HB3 HN3 HJ3
        have HX2 := Lib.hid hx
        clear hx
        gi_wp2
        rw [wpSegs_cons]
        simp only [List.take_succ_cons, List.take_zero, List.drop_succ_cons, List.drop_zero]
        repeat (first | go_big_quiet_skip | (go_big_quiet_want; go_big_quiet_op; go_big_quiet_on))
        refine wpQuiet_nil ?_
        rintro Z3 ⟨e, he⟩
        have HX3 := Lib.hid (HH.out.2 _ _ _ HX2.out (he ▸ grown_over (w := W4) e))
        clear he HX2
        refine segSkip (by kernel_rfl) (by first | (go_simp; done) | (go_simp; rfl)) ?_
        rw [wpSegs_cons]
        simp only [List.take_succ_cons, List.take_zero, List.drop_succ_cons, List.drop_zero]
        repeat (first | go_big_quiet_skip | (go_big_quiet_want; go_big_quiet_op; go_big_quiet_on))
        refine wpQuiet_nil ?_
        rintro Z4 ⟨e, he⟩
        have HX4 := Lib.hid (HH.out.2 _ _ _ HX3.out (he ▸ grown_over (w := Z3) e))
        clear he HX3
        gi_wp2
        rw [wpSegs_nil]
        gi_wp2
        go_ret
        exact .inr ⟨rfl, listT tl ++ [(k, v)], ⟨listT tr, by simp [listT]⟩, by simpa [List.append_assoc] using HX4.out⟩
    · clear HT1 HB1 HN1 HJ1
      have HX1 := Lib.hid hx
      clear hx
      gi_wp2
      rw [wpSegs_cons]
      simp only [List.take_succ_cons, List.take_zero, List.drop_succ_cons, List.drop_zero]
      repeat (first | go_big_quiet_skip | (go_big_quiet_want; go_big_quiet_op; go_big_quiet_on))
      refine wpQuiet_nil ?_
      rintro Z2 ⟨e, he⟩
      have HX2 := Lib.hid (HH.out.2 _ _ _ HX1.out (he ▸ grown_over (w := W2) e))
      clear he HX1
      refine segSkip (by kernel_rfl) (by first | (go_simp; done) | (go_simp; rfl)) ?_
      rw [wpSegs_cons]
      simp only [List.take_succ_cons, List.take_zero, List.drop_succ_cons, List.drop_zero]
      repeat (first | go_big_quiet_skip | (go_big_quiet_want; go_big_quiet_op; go_big_quiet_on))
      refine wpQuiet_nil ?_
      rintro Z3 ⟨e, he⟩
      have HX3 := Lib.hid (HH.out.2 _ _ _ HX2.out (he ▸ grown_over (w := Z2) e))
      clear he HX2
      refine segSkip (by kernel_rfl) (by first | (go_simp; done) | (go_simp; rfl)) ?_
      rw [wpSegs_cons]
      simp only [List.take_succ_cons, List.take_zero, List.drop_succ_cons, List.drop_zero]
      repeat (first | go_big_quiet_skip | (go_big_quiet_want; go_big_quiet_op; go_big_quiet_on))
      refine wpQuiet_nil ?_
      rintro Z4 ⟨e, he⟩
      have HX4 := Lib.hid (HH.out.2 _ _ _ HX3.out (he ▸ grown_over (w := Z3) e))
      clear he HX3
      gi_wp2
      rw [wpSegs_nil]
      gi_wp2
      go_ret
      exact .inr ⟨rfl, q, hq.trans (by simp [listT]), by simpa [List.append_assoc] using HX4.out⟩
end
end Go.Proofs.YtbnnkkojlclgjaaGreat
