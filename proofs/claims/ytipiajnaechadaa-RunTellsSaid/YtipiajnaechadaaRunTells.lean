/-
  The law RunTells: a run of any curve tells what the document's tells, whatever copies start; a copy goes on alone; its walk.
-/
import Derived.Test.YtipiajnaechadaaRunSame
import Derived.Test.YtipiajnaechadaaRunStarted
import Derived.Test.YtipiajnaechadaaRunCopy
namespace Go.Proofs.Ytipiajnaechadaa
set_option linter.unusedVariables false
open Go.RowKit
attribute [local go_sem] quietR quietAtR quietUponR midAt midUpon

theorem tells_long (F L R at' : Int) (a : Option Addr) (len cap : Nat) (w : World) (h40 : 40 < len) (hlen : len ≤ 9223372036854775807) :
    Calls Try.prog 3 #[.agg #[.int .u64 F, .int .u64 L, .int .u64 R], .slice a len cap, .int .i64 at'] w fun e' w' => e' = .returned (.bool true) ∧ Below w.heap.size w w' := by
  go_enter Try.func3, Try.ntmps3
  go_wp2
  go_ret
  exact ⟨rfl, by go_grown⟩

set_option maxHeartbeats 1000000 in
theorem tells_nil (F L R at' : Int) (a : Option Addr) (len cap : Nat) (w : World) (hL : 0 ≤ L) (h40 : len ≤ 40) (h : mayB F L R = false) :
    Calls Try.prog 3 #[.agg #[.int .u64 F, .int .u64 L, .int .u64 R], .slice a len cap, .int .i64 at'] w fun e' w' => e' = .returned (.bool true) ∧ Below w.heap.size w w' := by
  have nb := Blk.new w 24 #[.int .u64 F, .int .u64 L, .int .u64 R]
  have hal := (Below.refl w.heap.size w).alloc (Nat.le_refl _) (.cells #[.int .u64 F, .int .u64 L, .int .u64 R] 24)
  have o0 := fun e => (over_cell (e := e) (o := 0) nb.lt).trans (nb.cell 0)
  have o1 := fun e => (over_cell (e := e) (o := 1) nb.lt).trans (nb.cell 1)
  have o2 := fun e => (over_cell (e := e) (o := 2) nb.lt).trans (nb.cell 2)
  simp only [List.getElem?_toArray, List.getElem?_cons_zero, List.getElem?_cons_succ] at o0 o1 o2
  have H := Lib.hid h; clear nb h
  go_enter Try.func3, Try.ntmps3
  go_wp2
  refine wp_region_over (by kernel_rfl) (by kernel_rfl) ?_
  repeat (first | go_big_quiet_skip | (go_big_quiet_want; go_big_quiet_op; first | go_big_quiet_on | (apply Exists.intro; refine ⟨fun e => ?_, ?_⟩; (focus (first | (go_at_call 6; exact calls_over (run_new_no F L R _ hL H.out)) | (go_at_call 7; exact calls_over (refnew_no F L R _ hL H.out)))); go_big_quiet_on)))
  refine wpQuiet_nil ?_
  rintro W2 ⟨e, he⟩
  have hb2 := over_below (w.alloc (.cells #[.int .u64 F, .int .u64 L, .int .u64 R] 24)) e
  rw [← he] at hb2
  clear he o0 o1 o2
  go_wp2
  go_ret
  exact ⟨rfl, hal.trans (hb2.mono hal.size)⟩

/-- a new run; the document's -/
def MkRun (n : Nat) (F L R : Int) (u : Value) (W' : World) : Prop := ∃ r g, u = .pointer (some ⟨r, 0, none⟩) ∧ n ≤ g ∧ RunAt W' r g F L R 0 []
def MkRef (n : Nat) (F L R : Int) (u : Value) (W' : World) : Prop := ∃ q, u = .pointer (some ⟨q, 0, none⟩) ∧ RefAt W' q n F L R 0 []
/-- both runs as the loop finds them -/
def Both (w W : World) (r g q : Nat) (F L R : Int) (z : List Act4) : Prop :=
  RunAt W r g F L R (runA z).1 (runA z).2 ∧ RefAt W q w.heap.size F L R (runA z).1 (runA z).2 ∧ Below w.heap.size w W
theorem Both.below {w W W' : World} {r g q : Nat} {F L R : Int} {z : List Act4} (h : Both w W r g q F L R z) (hb : Below W.heap.size W W') : Both w W' r g q F L R z :=
  ⟨h.1.below hb, h.2.1.below hb, h.2.2.trans (hb.mono h.2.2.size)⟩
/-- another run starts -/
theorem Both.stay {w W W' : World} {r g q r2 g2 : Nat} {F L R x2 : Int} {z : List Act4} {A2 : List (Int × Int)} (h : Both w W r g q F L R z) (h2 : RunAt W r2 g2 F L R x2 A2) (hg : g2 ≠ g) (hw2 : w.heap.size ≤ g2) (hw : W.grownBy W' (some g2)) : Both w W' r g q F L R z :=
  ⟨h.1.stay h2 hg hw, h.2.1.stay h2 hw, h.2.2.grown hw h.2.2.size (fun j hj => by injection hj with hj; omega)⟩

set_option maxRecDepth 100000 in
set_option maxHeartbeats 4000000 in
theorem tells_some (F L R at' : Int) (a : Option Addr) (len cap : Nat) (z : List Act4) (w : World) (hF : U F) (hL : U L) (hR : U R) (hz : ActsAt w a len z) (h40 : len ≤ 40) (h1 : mayB F L R = true) :
    Calls Try.prog 3 #[.agg #[.int .u64 F, .int .u64 L, .int .u64 R], .slice a len cap, .int .i64 at'] w fun e' w' => e' = .returned (.bool true) ∧ Below w.heap.size w w' := by
  have nb := Blk.new w 24 #[.int .u64 F, .int .u64 L, .int .u64 R]
  have hal := (Below.refl w.heap.size w).alloc (Nat.le_refl _) (.cells #[.int .u64 F, .int .u64 L, .int .u64 R] 24)
  have HAL := Lib.hid hal
  have H := Lib.hid h1
  have HZ := Lib.hid hz
  obtain ⟨Wa, hWa⟩ : ∃ Wa, w.alloc (.cells #[.int .u64 F, .int .u64 L, .int .u64 R] 24) = Wa := ⟨_, rfl⟩
  rw [hWa] at nb hal
  have o0 := fun e => (over_cell (e := e) (o := 0) nb.lt).trans (nb.cell 0)
  have o1 := fun e => (over_cell (e := e) (o := 1) nb.lt).trans (nb.cell 1)
  have o2 := fun e => (over_cell (e := e) (o := 2) nb.lt).trans (nb.cell 2)
  simp only [List.getElem?_toArray, List.getElem?_cons_zero, List.getElem?_cons_succ] at o0 o1 o2
  have hF0 := hF.1; have hL0 := hL.1; have hR0 := hR.1
  clear nb h1 hz hF hL hR HAL
  go_enter Try.func3, Try.ntmps3
  go_wp2
  refine wp_region_mid (w := Wa) 4 2 [1, 3] [] [(1, fun u W' => MkRun w.heap.size F L R u W'), (3, fun u W' => MkRef w.heap.size F L R u W')] rfl (by kernel_rfl) (by kernel_rfl) (by kernel_rfl) (by kernel_rfl) (fun _ _ _ _ _ h => h) ⟨?st1, ?st2, trivial⟩ ?_
  case st1 => exact fun v W1 W2 ⟨r, g, h1, h2, h3⟩ hb => ⟨r, g, h1, h2, h3.below hb⟩
  case st2 => exact fun v W1 W2 ⟨q, h1, h3⟩ hb => ⟨q, h1, h3.below hb⟩
  intro LL hL
  have HL := Lib.hid hL
  clear hL
  simp only [List.take_succ_cons, List.take_zero, putL]
  repeat (first | refine wpHead_skip (by decide) ?_ | (refine wpHead_step (by decide) (fun K hK => ?_); go_simp; first | (refine hK _ ?_; clear hK K) | (apply Exists.intro; refine ⟨fun _ => ?_, hK _ ?_⟩; (fail); clear hK K)))
  refine wpHead_nil (HL.out _ ⟨?_, ?_, trivial⟩ ?_)
  · intro vs W1 hb1 hf
    clear hf HL
    change midAt _ _ (Act.put (Act.put _ (some 16) (vs 1)) (some 18) (vs 3)) _ _
    go_simp
    exact (run_new F L R W1 hF0 hL0 hR0 H.out).mono fun e W2 ⟨r, g, he, hg, hs, hb⟩ => ⟨_, he, hb, r, g, rfl, Nat.le_trans (Nat.le_trans hal.size hb1.size) hg, hs⟩
  · intro vs W1 hb1 hf
    clear hf HL
    change midAt _ _ (Act.put (Act.put _ (some 16) (vs 1)) (some 18) (vs 3)) _ _
    go_simp
    exact (refnew_some F L R W1 w.heap.size hF0 hL0 hR0 (Nat.le_trans hal.size hb1.size) H.out).mono fun e W2 ⟨q, he, hs, hb⟩ => ⟨_, he, hb, q, rfl, hs⟩
  · intro vs W1 hb1 hf
    obtain ⟨⟨r, g, hf1, hgw, hrun⟩, ⟨q, hf2, href⟩, hff⟩ := hf
    clear hff
    clear HL o0 o1 o2
    change wpList _ _ _ _ (Act.put (Act.put _ (some 16) (vs 1)) (some 18) (vs 3)) _
    rw [hf1, hf2]
    clear hf1 hf2
    simp only [List.drop_succ_cons, List.drop_zero, List.take_succ_cons, List.take_zero]
    have hboth : Both w W1 r g q F L R (z.take 0) := ⟨hrun, href, hal.trans (hb1.mono hal.size)⟩
    have HBO := Lib.hid hboth
    clear hrun href hboth hb1 hal hWa
    go_wp2
    go_loopw [9] (fun i W => ∃ (k : Nat), k ≤ len ∧ i = .int .i64 k ∧ Both w W r g q F L R (z.take k)) (fun i _ => len - (intOf i).toNat)
    case atStart => exact ⟨0, by omega, rfl, HBO.out⟩
    case round =>
      clear HBO
      obtain ⟨wo, rfl⟩ : ∃ wo : World, wo = wr := ⟨_, rfl⟩
      obtain ⟨k, hk, rfl, hbo⟩ := hrel
      have HBO := Lib.hid hbo; clear hbo
      by_cases hlt : k < len
      · obtain ⟨⟨X, Y, T, N⟩, hq⟩ : ∃ q, z[k]? = some q := ⟨_, List.getElem?_eq_getElem (by have := HZ.out.1; omega)⟩
        have hu := HZ.out.2.1 _ (List.mem_of_getElem? hq)
        obtain ⟨b, off, hab, hbl, hcl⟩ := HZ.out.2.2.resolve_left (by omega)
        subst hab
        have hcells := hcl k _ hq
        have HC := Lib.hid hcells
        have hsn := runA_snoc hq
        have HN := Lib.hid hsn
        have hfew : (runA (z.take k)).2.length < 900000 := by rw [runA_len, List.length_take]; omega
        have hfk : (runA (z.take k)).2.length ≤ k := by rw [runA_len, List.length_take]; omega
        have HCL := Lib.hid hcl
        have HQ := Lib.hid hq
        clear hcells hsn hcl hq
        go_upto_if 33 with fail
        go_cut [9] from 25 to 106 (fun s9 wx => s9 = .int .i64 k ∧ Both w wx r g q F L R (z.take k))
        case first =>
          by_cases hat : (k : Int) = at'
          · subst hat
            have TC := Lib.hid (show True from trivial)
            go_wp2_with (first
              | (go_at_call 8; refine (run_copy HBO.out.1).mono ?_; rintro e W1 ⟨r2, g2, rfl, hg2, hr2, hb1⟩; have HB1 := Lib.hid (HBO.out.below hb1); have HR2 := Lib.hid hr2; have HG2 := Lib.hid hg2; have d0 := (HB1.out.2.2.cell (p := ⟨b, off + k * 4, none⟩) hbl).trans HC.out.1; have d1 := (HB1.out.2.2.cell (p := ⟨b, off + k * 4 + 1, none⟩) hbl).trans HC.out.2.1; have d2 := (HB1.out.2.2.cell (p := ⟨b, off + k * 4 + 2, none⟩) hbl).trans HC.out.2.2.1; have d3 := (HB1.out.2.2.cell (p := ⟨b, off + k * 4 + 3, none⟩) hbl).trans HC.out.2.2.2; clear hr2 hg2)
              | (go_at_call 9; refine (same_any HR2.out HB1.out.2.1 X Y T N hu.2.2.1 hu.2.2.2).mono ?_; rintro e W2 ⟨rfl, hb2⟩; have HB2 := Lib.hid (HB1.out.below hb2); have HR3 := Lib.hid (HR2.out.below hb2); clear d0 d1 d2 d3))
            have hgn : g2 ≠ g := by have h1 := HBO.out.1.lt; have h2 := HG2.out; omega
            have hgw2 : w.heap.size ≤ g2 := Nat.le_trans HBO.out.2.2.size HG2.out
            go_loopw [11] (fun i W => ∃ (j : Nat) (x2 : Int) (A2 : List (Int × Int)), k ≤ j ∧ j ≤ len ∧ i = .int .i64 j ∧ A2.length ≤ j ∧ RunAt W r2 g2 F L R x2 A2 ∧ Both w W r g q F L R (z.take k)) (fun i _ => len - (intOf i).toNat)
            case atStart => exact ⟨k, _, _, Nat.le_refl _, hk, rfl, hfk, HR3.out, HB2.out⟩
            case round =>
              obtain ⟨j, x2, A2, hkj, hjl, rfl, hA2, hr2, hbo⟩ := hrel
              have HR4 := Lib.hid hr2; have HBO4 := Lib.hid hbo; clear hr2 hbo
              by_cases hlt2 : j < len
              · obtain ⟨⟨X2, Y2, T2, N2⟩, hq2⟩ : ∃ q, z[j]? = some q := ⟨_, List.getElem?_eq_getElem (by have := HZ.out.1; omega)⟩
                have hu2 := HZ.out.2.1 _ (List.mem_of_getElem? hq2)
                obtain ⟨c0, c1, _, _⟩ := HCL.out j _ hq2
                have hbw := Nat.lt_of_lt_of_le hbl HBO4.out.2.2.size
                have o0 := fun e => (over_cell (w := wr) (e := e) hbw).trans ((HBO4.out.2.2.cell (p := ⟨b, off + j * 4, none⟩) hbl).trans c0)
                have o1 := fun e => (over_cell (w := wr) (e := e) hbw).trans ((HBO4.out.2.2.cell (p := ⟨b, off + j * 4 + 1, none⟩) hbl).trans c1)
                clear hq2 c0 c1
                go_wp2
                refine wp_region_over_tail 11 (by kernel_rfl) (by kernel_rfl) ?_
                simp only [List.take_succ_cons, List.take_zero, List.drop_succ_cons, List.drop_zero]
                repeat (first | go_big_quiet_skip | (go_big_quiet_want; go_big_quiet_op; go_big_quiet_on))
                refine wpQuiet_nil ?_
                rintro W3 ⟨e, he⟩
                have hb33 := over_below wr e
                rw [← he] at hb33
                clear he o0 o1
                have HR5 := Lib.hid (HR4.out.below hb33); have HBO5 := Lib.hid (HBO4.out.below hb33)
                go_wp2_with (go_at_call 10; refine (run_start HR5.out Y2 X2 _ _ hu2.2.1 hu2.1 rfl rfl (by omega)).mono ?_; rintro e W4 ⟨rfl, hl4, hg4⟩; have HR6 := Lib.hid hl4; clear hl4)
                go_roundw
                case rel => exact ⟨j + 1, _, _, by omega, by omega, by go_num, by simp; omega, HR6.out, HBO5.out.stay HR5.out hgn hgw2 hg4⟩
                case measure => simp [intOf]; omega
              · obtain rfl : j = len := by omega
                go_wp2
                go_meet
                exact ⟨rfl, HBO4.out⟩
          · have hne : ((k : Int) == at') = false := by simpa using hat
            go_wp2
            go_meet
            exact ⟨rfl, HBO.out⟩
        case rest =>
          obtain ⟨rfl, hbo⟩ := hcut
          have HB0 := Lib.hid hbo; clear hbo HBO
          have d0 := (HB0.out.2.2.cell (p := ⟨b, off + k * 4, none⟩) hbl).trans HC.out.1; have d1 := (HB0.out.2.2.cell (p := ⟨b, off + k * 4 + 1, none⟩) hbl).trans HC.out.2.1; have d2 := (HB0.out.2.2.cell (p := ⟨b, off + k * 4 + 2, none⟩) hbl).trans HC.out.2.2.1; have d3 := (HB0.out.2.2.cell (p := ⟨b, off + k * 4 + 3, none⟩) hbl).trans HC.out.2.2.2
          go_wp2_with (go_at_call 9; refine (same_any HB0.out.1 HB0.out.2.1 X Y T N hu.2.2.1 hu.2.2.2).mono ?_; rintro e W1 ⟨rfl, hb1⟩; have HB1 := Lib.hid (HB0.out.below hb1); clear d0 d1 d2 d3)
          have hbw2 := Nat.lt_of_lt_of_le hbl HB1.out.2.2.size
          have o0 := fun e => (over_cell (w := W1) (e := e) hbw2).trans ((HB1.out.2.2.cell (p := ⟨b, off + k * 4, none⟩) hbl).trans HC.out.1)
          have o1 := fun e => (over_cell (w := W1) (e := e) hbw2).trans ((HB1.out.2.2.cell (p := ⟨b, off + k * 4 + 1, none⟩) hbl).trans HC.out.2.1)
          refine wp_region_over_tail 11 (by kernel_rfl) (by kernel_rfl) ?_
          simp only [List.take_succ_cons, List.take_zero, List.drop_succ_cons, List.drop_zero]
          repeat (first | go_big_quiet_skip | (go_big_quiet_want; go_big_quiet_op; go_big_quiet_on))
          refine wpQuiet_nil ?_
          rintro W2 ⟨e, he⟩
          have hb2 := over_below W1 e
          rw [← he] at hb2
          clear he o0 o1
          have HB2 := Lib.hid (HB1.out.below hb2)
          go_wp2_with (go_at_call 10; refine (run_start HB2.out.1 X Y _ _ hu.1 hu.2.1 rfl rfl hfew).mono ?_; rintro e W3 ⟨rfl, hl3, hg3⟩; have HR3 := Lib.hid hl3; have HQ3 := Lib.hid (HB2.out.2.1.stay HB2.out.1 hg3); have HW3 := Lib.hid (HB2.out.2.2.grown hg3 HB2.out.2.2.size (fun j hj => by injection hj with hj; omega)); clear hl3)
          have hb3s := HW3.out.size
          have hbwx := Nat.lt_of_lt_of_le hbl hb3s
          have o0 := fun e => (over_cell (w := W3) (e := e) hbwx).trans ((HW3.out.cell (p := ⟨b, off + k * 4, none⟩) hbl).trans HC.out.1)
          have o1 := fun e => (over_cell (w := W3) (e := e) hbwx).trans ((HW3.out.cell (p := ⟨b, off + k * 4 + 1, none⟩) hbl).trans HC.out.2.1)
          refine wp_region_over_tail 11 (by kernel_rfl) (by kernel_rfl) ?_
          simp only [List.take_succ_cons, List.take_zero, List.drop_succ_cons, List.drop_zero]
          repeat (first | go_big_quiet_skip | (go_big_quiet_want; go_big_quiet_op; go_big_quiet_on))
          refine wpQuiet_nil ?_
          rintro W4 ⟨e, he⟩
          have hb4 := over_below W3 e
          rw [← he] at hb4
          clear he o0 o1
          have HR4 := Lib.hid (HR3.out.below hb4); have HQ4 := Lib.hid (HQ3.out.below hb4); have HW4 := Lib.hid (HW3.out.trans (hb4.mono hb3s))
          have TS := Lib.hid (show True from trivial)
          go_wp2_with (first
            | (go_at_call 11; refine (ref_start HQ4.out HW4.out.size X Y _ _ hu.1 hu.2.1 rfl rfl hfew).mono ?_; rintro e W5 ⟨rfl, hl5, hg5⟩; obtain ⟨vx, vy, hqb, _⟩ := HQ4.out.at_; have HR5 := Lib.hid (HR4.out.ref hg5 hqb); have HW5 := Lib.hid (HW4.out.trans (hg5.low HQ4.out.low HW4.out.size)); have HQ5 := Lib.hid hl5; clear hl5 hqb; have d0 := (HW5.out.cell (p := ⟨b, off + k * 4, none⟩) hbl).trans HC.out.1; have d1 := (HW5.out.cell (p := ⟨b, off + k * 4 + 1, none⟩) hbl).trans HC.out.2.1; have d2 := (HW5.out.cell (p := ⟨b, off + k * 4 + 2, none⟩) hbl).trans HC.out.2.2.1; have d3 := (HW5.out.cell (p := ⟨b, off + k * 4 + 3, none⟩) hbl).trans HC.out.2.2.2)
            | (go_at_call 9; refine (same_any HR5.out HQ5.out X Y T N hu.2.2.1 hu.2.2.2).mono ?_; rintro e W6 ⟨rfl, hb6⟩; have HR6 := Lib.hid (HR5.out.below hb6); have HQ6 := Lib.hid (HQ5.out.below hb6); have HW6 := Lib.hid (HW5.out.trans (hb6.mono HW5.out.size)); clear d0 d1 d2 d3))
          have fin : Both w W6 r g q F L R (z.take (k + 1)) := by
            refine ⟨?_, ?_, HW6.out⟩
            · rw [HN.out]; exact HR6.out
            · rw [HN.out]; exact HQ6.out
          go_roundw
          case rel => exact ⟨k + 1, by omega, by go_num, fin⟩
          case measure => simp [intOf]; omega
      · obtain rfl : k = len := by omega
        go_wp2
        go_ret
        exact ⟨rfl, HBO.out.2.2⟩

theorem tells_walk (F L R at' : Int) (a : Option Addr) (len cap : Nat) (z : List (List Value)) (w : World) (hF : U F) (hL : U L) (hR : U R) (hz : IsRows [some .u64, some .u64, some .u64, some .u64] w a len cap z) :
    Calls Try.prog 3 #[.agg #[.int .u64 F, .int .u64 L, .int .u64 R], .slice a len cap, .int .i64 at'] w fun e' w' => e' = .returned (.bool true) ∧ Below w.heap.size w w' := by
  obtain ⟨hlen, l, hl⟩ := acts_of hz
  by_cases h40 : 40 < len
  · exact tells_long F L R at' a len cap w h40 hlen
  · cases h1 : mayB F L R with
    | false => exact tells_nil F L R at' a len cap w hL.1 (by omega) h1
    | true => exact tells_some F L R at' a len cap l w hF hL hR hl (by omega) h1

end Go.Proofs.Ytipiajnaechadaa
