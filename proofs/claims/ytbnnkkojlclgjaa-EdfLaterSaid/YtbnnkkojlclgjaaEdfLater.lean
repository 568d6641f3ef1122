/-
  Law 19: who is next later is due no later; at the next tick somebody is next, ahead of it nobody. (Printed by wip/mkedflater.py.)
-/
import Derived.Test.YtbnnkkojlclgjaaEdfState
namespace Go.Proofs.Ytbnnkkojlclgjaa
set_option linter.unusedVariables false
open Go.RowKit Go.Maps
attribute [local go_sem ↓] Go.wp_at_zero Go.wp_at_succ
attribute [local go_sem] quietR quietAtR quietUponR midAt midUpon plain plainUpon

theorem tick_wf {L : List En} (h : OkE L) (hn : L ≠ []) : 0 ≤ tickL L ∧ tickL L < 18446744073709551616 := by
  cases L with
  | nil => exact absurd rfl hn
  | cons e L =>
    have := (h e (.head _)).1
    simp [Lit.wf, IntKind.min, IntKind.max, IntKind.signed, IntKind.bits] at this
    exact ⟨this.1, by show e.1.1 < _; omega⟩
set_option maxRecDepth 100000 in
set_option maxHeartbeats 4000000 in
theorem edfLater_any (a0 : Option Addr) (len cap : Nat) (z : List EAct) (now more : Int) (w : World) (hz : EActsAt w a0 len z) (hn : 0 ≤ now ∧ now < 18446744073709551616) (hmo : 0 ≤ more ∧ more < 18446744073709551616) :
    Calls Try.prog 3 #[.slice a0 len cap, .int .u64 now, .int .u64 more] w fun e w' => e = .returned (.bool true) ∧ Below w.heap.size w w' := by
  have HZ := Lib.hid hz
  have hzl : z.length = len := hz.1
  clear hz
  go_enter Try.func3, Try.ntmps3
  go_wp2_with fail
  refine (eawake_any w).mono ?_
  rintro e w1 ⟨rfl, hb1⟩
  have HB1 := Lib.hid hb1
  clear hb1
  go_wp2_with fail
  refine (elong_any a0 len cap w1).mono ?_
  rintro e w1' ⟨rfl, rfl⟩
  by_cases hlong : 200 < len
  · have hd : decide (200 < len) = true := decide_eq_true hlong
    rw [hd]
    clear hlong hd
    go_wp2_with fail
    go_ret
    exact ⟨rfl, HB1.out⟩
  have hd : decide (200 < len) = false := decide_eq_false hlong
  rw [hd]
  clear hd
  subst hzl
  have hpl := eplayed_any a0 cap z w1' (HZ.out.later HB1.out) (by omega)
  have hinv := (playE_inv z).1
  have hok := playE_ok (z := z) HZ.out.2.1
  have hle := (playE_inv z).2
  go_wp2_with fail
  refine hpl.mono ?_
  clear hpl
  rintro e W1 ⟨r, rfl, hT⟩
  generalize playE z = L at hT hinv hok hle
  have H := Lib.hid hT
  have HL := Lib.hid (And.intro hinv (And.intro hok (show L.length ≤ 200 by omega)))
  clear hT hinv hok hle hlong HZ
  obtain ⟨m, hm⟩ : ∃ m, (if 18446744073709551615 - now < more then 18446744073709551615 - now else more) = m := ⟨_, rfl⟩
  have hw1 : IntKind.u64.wrap (18446744073709551615 - now) = 18446744073709551615 - now := by rw [IntKind.wrap_u64]; omega
  have hmm : 0 ≤ m ∧ m ≤ 18446744073709551615 - now := by rw [← hm]; split <;> omega
  obtain ⟨now2, hN2⟩ : ∃ x, x = now + m := ⟨_, rfl⟩
  have hw2 : IntKind.u64.wrap (now + m) = now2 := by rw [IntKind.wrap_u64]; omega
  have HLE2 := Lib.hid (show now ≤ now2 by omega)
  clear hN2 hmm hn hmo
  have ha := H.out.next now
  go_wp2_with fail
  refine ha.mono ?_
  clear ha H
  rintro e W1 ⟨rfl, hT⟩
  have H := Lib.hid hT
  clear hT
  have ha := H.out.next now2
  go_wp2_with fail
  refine ha.mono ?_
  clear ha H
  rintro e W1 ⟨rfl, hT⟩
  have H := Lib.hid hT
  clear hT
  clear hw1 hm hw2
  have ha := H.out.get (nextId now L) (nextId_wf HL.out.2.1 HL.out.1 now)
  go_wp2_with fail
  refine ha.mono ?_
  clear ha H
  rintro e W1 ⟨rfl, hT⟩
  have H := Lib.hid hT
  clear hT
  have ha := H.out.get (nextId now2 L) (nextId_wf HL.out.2.1 HL.out.1 now2)
  go_wp2_with fail
  refine ha.mono ?_
  clear ha H
  rintro e W1 ⟨rfl, hT⟩
  have H := Lib.hid hT
  clear hT
  generalize getIs L (nextId now L) = g1
  generalize getIs L (nextId now2 L) = g2
  generalize getA L (nextId now L) = g3
  generalize getA L (nextId now2 L) = g4
  cases hi : nextIs now L with
  | true =>
    have hlat := later_ok HL.out.1 HLE2.out hi
    have hi2 := hlat.1
    have hnlt : ¬ getB L (nextId now L) < getB L (nextId now2 L) := by have := hlat.2; omega
    rw [hi2]
    have HI := Lib.hid hi
    clear hi hi2 hlat
    have ha := H.out.tick HL.out.2.1
    go_wp2_with fail
    refine ha.mono ?_
    clear ha H
    rintro e W1 ⟨rfl, hT⟩
    have H := Lib.hid hT
    clear hT
    have ha := H.out.len
    by_cases hnil : L = []
    · exfalso; have := HI.out; rw [hnil, nextIs_nil] at this; cases this
    · have hn1 : ¬ ((L.length : Nat) : Int) = 0 := by
        have := List.length_pos_iff.2 hnil
        omega
      have hne2 : (((L.length : Nat) : Int) == 0) = false := by simpa using hn1
      have hat := tick_next HL.out.1 hnil
      have hwf := tick_wf HL.out.2.1 hnil
      have hbef := fun t ht => tick_before (t := t) HL.out.1 ht
      have HBEF := Lib.hid hbef
      have HWF := Lib.hid hwf
      clear hnil hbef hwf
      go_wp2_with fail
      refine ha.mono ?_
      clear ha H
      rintro e W1 ⟨rfl, hT⟩
      have H := Lib.hid hT
      clear hT
      have ha := H.out.next (tickL L)
      rw [hat] at ha
      go_wp2_with fail
      refine ha.mono ?_
      clear ha H
      rintro e W1 ⟨rfl, hT⟩
      have H := Lib.hid hT
      clear hT
      by_cases hpos : 0 < tickL L
      · have hw : IntKind.u64.wrap (tickL L - 1) = tickL L - 1 := by have := HWF.out; rw [IntKind.wrap_u64]; omega
        have ha := H.out.next (tickL L - 1)
        rw [HBEF.out _ (by omega)] at ha
        go_wp2_with fail
        refine ha.mono ?_
        clear ha H
        rintro e W1 ⟨rfl, hT⟩
        have H := Lib.hid hT
        clear hT
        go_wp2_with fail
        go_ret
        exact ⟨rfl, HB1.out.trans (H.out.below.mono HB1.out.size)⟩
      · go_wp2_with fail
        go_ret
        exact ⟨rfl, HB1.out.trans (H.out.below.mono HB1.out.size)⟩
  | false =>
    have ha := H.out.tick HL.out.2.1
    go_wp2_with fail
    refine ha.mono ?_
    clear ha H
    rintro e W1 ⟨rfl, hT⟩
    have H := Lib.hid hT
    clear hT
    have ha := H.out.len
    by_cases hnil : L = []
    · subst hnil
      go_wp2_with fail
      refine ha.mono ?_
      clear ha H
      rintro e W1 ⟨rfl, hT⟩
      have H := Lib.hid hT
      clear hT
      have hn1 : nextIs now [] = false := nextIs_nil _
      have hn2 : nextIs now2 [] = false := nextIs_nil _
      have ht : tickL [] = 9223372036854775808 := rfl
      rw [hn2, ht]
      go_wp2_with fail
      go_ret
      exact ⟨rfl, HB1.out.trans (H.out.below.mono HB1.out.size)⟩
    · have hn1 : ¬ ((L.length : Nat) : Int) = 0 := by
        have := List.length_pos_iff.2 hnil
        omega
      have hne2 : (((L.length : Nat) : Int) == 0) = false := by simpa using hn1
      have hat := tick_next HL.out.1 hnil
      have hwf := tick_wf HL.out.2.1 hnil
      have hbef := fun t ht => tick_before (t := t) HL.out.1 ht
      have HBEF := Lib.hid hbef
      have HWF := Lib.hid hwf
      clear hnil hbef hwf
      go_wp2_with fail
      refine ha.mono ?_
      clear ha H
      rintro e W1 ⟨rfl, hT⟩
      have H := Lib.hid hT
      clear hT
      have ha := H.out.next (tickL L)
      rw [hat] at ha
      go_wp2_with fail
      refine ha.mono ?_
      clear ha H
      rintro e W1 ⟨rfl, hT⟩
      have H := Lib.hid hT
      clear hT
      by_cases hpos : 0 < tickL L
      · have hw : IntKind.u64.wrap (tickL L - 1) = tickL L - 1 := by have := HWF.out; rw [IntKind.wrap_u64]; omega
        have ha := H.out.next (tickL L - 1)
        rw [HBEF.out _ (by omega)] at ha
        go_wp2_with fail
        refine ha.mono ?_
        clear ha H
        rintro e W1 ⟨rfl, hT⟩
        have H := Lib.hid hT
        clear hT
        go_wp2_with fail
        go_ret
        exact ⟨rfl, HB1.out.trans (H.out.below.mono HB1.out.size)⟩
      · go_wp2_with fail
        go_ret
        exact ⟨rfl, HB1.out.trans (H.out.below.mono HB1.out.size)⟩
end Go.Proofs.Ytbnnkkojlclgjaa
