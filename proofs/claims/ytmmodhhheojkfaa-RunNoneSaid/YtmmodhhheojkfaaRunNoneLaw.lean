/-
  The walk of the law RunNone.
-/
import Derived.Test.YtmmodhhheojkfaaRunNone
namespace Go.Proofs.Ytmmodhhheojkfaa
open Go.RowKit

def RN (w W : World) (x y t n : Int) : Prop :=
  Blk W w.heap.size 27 #[.int .u64 x, .int .u64 y, .int .u64 t, .int .u64 n] ∧
  Blk W (w.heap.size + 1) 90 #[.int .u64 0, .int .u64 0, .int .u64 0, .nilIface] ∧
  Blk W (w.heap.size + 1 + 1) 86 #[.pointer none, .pointer (some ⟨w.heap.size + 1, 0, none⟩)] ∧ Below w.heap.size w W
theorem RN.below {w W W' : World} {x y t n : Int} (h : RN w W x y t n) (hb : Below W.heap.size W W') : RN w W' x y t n :=
  ⟨h.1.below hb h.1.lt, h.2.1.below hb h.2.1.lt, h.2.2.1.below hb h.2.2.1.lt, h.2.2.2.trans (hb.mono h.2.2.2.size)⟩
theorem RN.facts {w W : World} {x y t n : Int} (h : RN w W x y t n) :
    W.cell? ⟨w.heap.size, 0, none⟩ = some (.int .u64 x) ∧ W.cell? ⟨w.heap.size, 1, none⟩ = some (.int .u64 y) ∧ W.cell? ⟨w.heap.size, 2, none⟩ = some (.int .u64 t) ∧ W.cell? ⟨w.heap.size, 3, none⟩ = some (.int .u64 n) ∧
    W.cell? ⟨w.heap.size + 1 + 1, 0, none⟩ = some (.pointer none) ∧ W.cell? ⟨w.heap.size + 1 + 1, 1, none⟩ = some (.pointer (some ⟨w.heap.size + 1, 0, none⟩)) ∧
    RNone W (some ⟨w.heap.size + 1, 0, none⟩) :=
  ⟨h.1.cell 0, h.1.cell 1, h.1.cell 2, h.1.cell 3, h.2.2.1.cell 0, h.2.2.1.cell 1, .inr ⟨_, rfl, h.2.1⟩⟩

set_option maxRecDepth 100000 in
set_option maxHeartbeats 1000000 in
/-- the law -/
theorem run_none_walk (x y t n : Int) (w : World) :
    Calls Try.prog 14 #[.agg #[.int .u64 x, .int .u64 y, .int .u64 t, .int .u64 n]] w fun e w' => e = .returned (.bool true) ∧ Below w.heap.size w w' := by
  go_enter Try.func14, Try.ntmps14
  go_wp2
  go_loopw [5] (fun i W => ∃ k : Nat, k ≤ 2 ∧ i = .int .i64 k ∧ RN w W x y t n) (fun i _ => 2 - (intOf i).toNat)
  case atStart =>
    refine ⟨0, by omega, rfl, ?_, ?_, ?_, ?_⟩
    · have h := ((Blk.new w 27 #[.int .u64 x, .int .u64 y, .int .u64 t, .int .u64 n]).alloc (.cells #[.int .u64 0, .int .u64 0, .int .u64 0, .nilIface] 90)).alloc (.cells #[.pointer none, .pointer (some ⟨w.heap.size + 1, 0, none⟩)] 86)
      exact h
    · have h := (Blk.new (w.alloc (.cells #[.int .u64 x, .int .u64 y, .int .u64 t, .int .u64 n] 27)) 90 #[.int .u64 0, .int .u64 0, .int .u64 0, .nilIface]).alloc (.cells #[.pointer none, .pointer (some ⟨w.heap.size + 1, 0, none⟩)] 86)
      simpa using h
    · have h := Blk.new ((w.alloc (.cells #[.int .u64 x, .int .u64 y, .int .u64 t, .int .u64 n] 27)).alloc (.cells #[.int .u64 0, .int .u64 0, .int .u64 0, .nilIface] 90)) 86 #[.pointer none, .pointer (some ⟨w.heap.size + 1, 0, none⟩)]
      simpa using h
    · go_grown
  case round =>
    obtain ⟨k, hk, rfl, hs⟩ := hrel
    obtain ⟨a0, a1, a2, a3, s0, s1, hz⟩ := hs.facts
    have hN := hs.1.lt; have hZ := hs.2.1.lt; have hS := hs.2.2.1.lt
    have HS := Lib.hid hs; clear hs
    by_cases h2 : k = 2
    · subst h2
      go_wp2_with (go_at_call 59; refine (rcopy_nil _).mono ?_; rintro e w' ⟨rfl, rfl⟩)
      go_ret
      exact ⟨rfl, HS.out.2.2.2⟩
    · by_cases h1 : k = 1
      · subst h1
        have hno : RNone wr (some ⟨w.heap.size + 1, 0, none⟩) := hz
        have hvb : ∃ v, nev n = v ∧ ((n = 0 ∧ v = 0) ∨ ((n == 0) = false ∧ v = 9223372036854775808)) := by
          by_cases h0 : n = 0
          · exact ⟨0, by simp [nev, h0], .inl ⟨h0, rfl⟩⟩
          · exact ⟨9223372036854775808, by simp [nev, h0], .inr ⟨by simpa using h0, rfl⟩⟩
        obtain ⟨v, hv, hvn⟩ := hvb
        go_wp2_with (first
          | (go_at_call 51; refine (rstart_none _ _ _ _ hno).mono ?_; rintro e w' ⟨rfl, rfl⟩)
          | (go_at_call 52; refine (rlast_none _ _ hno).mono ?_; rintro e w' ⟨rfl, rfl⟩))
        have on := fun e => (over_cell (w := wr) (e := e) (o := 3) hN).trans a3
        refine wp_region_over (by kernel_rfl) (by kernel_rfl) ?_
        repeat (first | go_big_quiet_skip | (go_big_quiet_want; go_big_quiet_op; first | go_big_quiet_on | (apply Exists.intro; refine ⟨fun e => ?_, ?_⟩; (focus (first | (go_at_call 53; exact calls_over (rreach_none _ _ _ (hno.below (over_below wr e)))) | (go_at_call 54; exact calls_over (religible_none _ _ _ (hno.below (over_below wr e)))))); go_big_quiet_on)))
        refine wpQuiet_nil ?_
        rintro W2 ⟨e, he⟩
        have hb2 : Below wr.heap.size wr W2 := by rw [he]; exact over_below wr e
        clear he on
        have hs2 := HS.out.below hb2
        have hno2 := hno.below hb2
        obtain ⟨b0, b1, b2, b3, t0, t1, hz2⟩ := hs2.facts
        have hN2 := hs2.1.lt
        have HS2 := Lib.hid hs2
        clear a0 a1 a2 a3 s0 s1 hz hN hZ hS hs2 b0 b1 t0 t1 hz2
        rcases hvn with ⟨rfl, rfl⟩ | ⟨hn0, rfl⟩
        all_goals
          go_wp2_with (first
            | (go_at_call 55; refine (rcurve_none _ _ hno2).mono ?_; rintro e W3 ⟨rfl, hb3⟩; have hno3 := hno2.below hb3; have hs3 := HS2.out.below hb3; have d2 := hs3.1.cell 2; have d3 := hs3.1.cell 3; simp only [List.getElem?_toArray, List.getElem?_cons_zero, List.getElem?_cons_succ] at d2 d3; have HS3 := Lib.hid hs3; clear hs3)
            | (go_at_call 56; refine (rat_none _ _ _ hno3).mono ?_; rintro e W4 ⟨rfl, hb4⟩; have hno4 := hno3.below hb4; have hs4 := HS3.out.below hb4; have e2 := hs4.1.cell 2; have e3 := hs4.1.cell 3; simp only [List.getElem?_toArray, List.getElem?_cons_zero, List.getElem?_cons_succ] at e2 e3; have HS4 := Lib.hid hs4; clear hs4)
            | (go_at_call 57; refine (rahead_none _ _ _ hno4).mono ?_; rintro e W5 ⟨rfl, hb5⟩; have hno5 := hno4.below hb5; have hs5 := HS4.out.below hb5; have f3 := hs5.1.cell 3; simp only [List.getElem?_toArray, List.getElem?_cons_zero, List.getElem?_cons_succ] at f3; have HS5 := Lib.hid hs5; clear hs5)
            | (go_at_call 58; refine (rmany_none _ _ hno5).mono ?_; rintro e w' ⟨rfl, rfl⟩))
          go_roundw
          case rel => exact ⟨2, by omega, by go_num, HS5.out⟩
          case measure => simp [intOf]
      · obtain rfl : k = 0 := by omega
        have hno : RNone wr (none) := Or.inl rfl
        have hvb : ∃ v, nev n = v ∧ ((n = 0 ∧ v = 0) ∨ ((n == 0) = false ∧ v = 9223372036854775808)) := by
          by_cases h0 : n = 0
          · exact ⟨0, by simp [nev, h0], .inl ⟨h0, rfl⟩⟩
          · exact ⟨9223372036854775808, by simp [nev, h0], .inr ⟨by simpa using h0, rfl⟩⟩
        obtain ⟨v, hv, hvn⟩ := hvb
        go_wp2_with (first
          | (go_at_call 51; refine (rstart_none _ _ _ _ hno).mono ?_; rintro e w' ⟨rfl, rfl⟩)
          | (go_at_call 52; refine (rlast_none _ _ hno).mono ?_; rintro e w' ⟨rfl, rfl⟩))
        have on := fun e => (over_cell (w := wr) (e := e) (o := 3) hN).trans a3
        refine wp_region_over (by kernel_rfl) (by kernel_rfl) ?_
        repeat (first | go_big_quiet_skip | (go_big_quiet_want; go_big_quiet_op; first | go_big_quiet_on | (apply Exists.intro; refine ⟨fun e => ?_, ?_⟩; (focus (first | (go_at_call 53; exact calls_over (rreach_none _ _ _ (hno.below (over_below wr e)))) | (go_at_call 54; exact calls_over (religible_none _ _ _ (hno.below (over_below wr e)))))); go_big_quiet_on)))
        refine wpQuiet_nil ?_
        rintro W2 ⟨e, he⟩
        have hb2 : Below wr.heap.size wr W2 := by rw [he]; exact over_below wr e
        clear he on
        have hs2 := HS.out.below hb2
        have hno2 := hno.below hb2
        obtain ⟨b0, b1, b2, b3, t0, t1, hz2⟩ := hs2.facts
        have hN2 := hs2.1.lt
        have HS2 := Lib.hid hs2
        clear a0 a1 a2 a3 s0 s1 hz hN hZ hS hs2 b0 b1 t0 t1 hz2
        rcases hvn with ⟨rfl, rfl⟩ | ⟨hn0, rfl⟩
        all_goals
          go_wp2_with (first
            | (go_at_call 55; refine (rcurve_none _ _ hno2).mono ?_; rintro e W3 ⟨rfl, hb3⟩; have hno3 := hno2.below hb3; have hs3 := HS2.out.below hb3; have d2 := hs3.1.cell 2; have d3 := hs3.1.cell 3; simp only [List.getElem?_toArray, List.getElem?_cons_zero, List.getElem?_cons_succ] at d2 d3; have HS3 := Lib.hid hs3; clear hs3)
            | (go_at_call 56; refine (rat_none _ _ _ hno3).mono ?_; rintro e W4 ⟨rfl, hb4⟩; have hno4 := hno3.below hb4; have hs4 := HS3.out.below hb4; have e2 := hs4.1.cell 2; have e3 := hs4.1.cell 3; simp only [List.getElem?_toArray, List.getElem?_cons_zero, List.getElem?_cons_succ] at e2 e3; have HS4 := Lib.hid hs4; clear hs4)
            | (go_at_call 57; refine (rahead_none _ _ _ hno4).mono ?_; rintro e W5 ⟨rfl, hb5⟩; have hno5 := hno4.below hb5; have hs5 := HS4.out.below hb5; have f3 := hs5.1.cell 3; simp only [List.getElem?_toArray, List.getElem?_cons_zero, List.getElem?_cons_succ] at f3; have HS5 := Lib.hid hs5; clear hs5)
            | (go_at_call 58; refine (rmany_none _ _ hno5).mono ?_; rintro e w' ⟨rfl, rfl⟩))
          go_roundw
          case rel => exact ⟨1, by omega, by go_num, HS5.out⟩
          case measure => simp [intOf]

end Go.Proofs.Ytmmodhhheojkfaa
