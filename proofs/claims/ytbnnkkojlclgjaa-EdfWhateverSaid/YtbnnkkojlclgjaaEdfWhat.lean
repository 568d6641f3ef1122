/-
  Law 19: leaves noted in whatever order, and anew, make the same row. (Printed by wip/mkedfwhat.py.)
-/
import Derived.Test.YtbnnkkojlclgjaaEdfTwo
namespace Go.Proofs.Ytbnnkkojlclgjaa
set_option linter.unusedVariables false
open Go.RowKit Go.Maps
attribute [local go_sem ↓] Go.wp_at_zero Go.wp_at_succ
attribute [local go_sem] quietR quietAtR quietUponR midAt midUpon plain plainUpon

theorem wf77 : (Lit.int .i64 (-77)).wf = true := by decide
set_option maxRecDepth 100000 in
set_option maxHeartbeats 8000000 in
theorem edfWhat_any (a0 : Option Addr) (len cap : Nat) (z : List EAct) (now : Int) (w : World) (hz : EActsAt w a0 len z) (hn : 0 ≤ now ∧ now < 18446744073709551616) :
    Calls Try.prog 5 #[.slice a0 len cap, .int .u64 now] w fun e w' => e = .returned (.bool true) ∧ Below w.heap.size w w' := by
  have HZ := Lib.hid hz
  have hzl : z.length = len := hz.1
  clear hz
  go_enter Try.func5, Try.ntmps5
  go_wp2_with fail
  refine (eawake_any w).mono ?_
  rintro e w1 ⟨rfl, hb1⟩
  have HB1 := Lib.hid hb1
  clear hb1
  go_wp2_with fail
  refine (elong_any a0 len cap w1).mono ?_
  rintro e w1' ⟨rfl, rfl⟩
  by_cases hlong : 200 < len
  · have hd : decide (200 < len) = true := decide_eq_true hlong
    rw [hd]
    clear hlong hd
    go_wp2_with fail
    go_ret
    exact ⟨rfl, HB1.out⟩
  have hd : decide (200 < len) = false := decide_eq_false hlong
  rw [hd]
  clear hd
  subst hzl
  have hpl := eplayed_any a0 cap z w1' (HZ.out.later HB1.out) (by omega)
  have hinv := (playE_inv z).1
  have hok := playE_ok (z := z) HZ.out.2.1
  have hle := (playE_inv z).2
  go_wp2_with fail
  refine hpl.mono ?_
  clear hpl
  rintro e W1 ⟨r, rfl, hT⟩
  generalize playE z = L at hT hinv hok hle
  have H := Lib.hid hT
  have HL := Lib.hid (And.intro hinv (And.intro hok (show L.length ≤ 200 by omega)))
  clear hT hinv hok hle hlong HZ
  have hnw := H.out.two
  go_wp2_with fail
  refine hnw.mono ?_
  clear hnw H
  rintro e W1 ⟨s, S, T, rfl, h1, h2, h3, h4, h5⟩
  have hll := HL.out.2.2
  have ha := RB2.ids h1 h2 h3 h4 h5 (by omega)
  clear h1 h2 h3 h4 h5
  go_wp2_with fail
  refine ha.mono ?_
  clear ha
  rintro e W1 ⟨av, cv, B, o, rfl, hav, htold, hT⟩
  have H := Lib.hid hT
  have HV := Lib.hid hav
  have HTO := Lib.hid htold
  have hwl : IntKind.i64.wrap (((L.length : Nat) : Int) - 1) = ((L.length : Nat) : Int) - 1 := by rw [IntKind.wrap_i64]; omega
  clear hT hav htold
  go_wp2_with fail
  clear hwl
  go_loopw [8] (fun v8 wr => ∃ j : Nat, v8 = .int .i64 ((j : Int) - 1) ∧ j ≤ L.length ∧ RB2 w1' wr r L s (L.drop j) B o) (fun v8 _ => (Go.RowKit.intOf v8 + 1).toNat)
  case atStart => exact ⟨L.length, rfl, Nat.le_refl _, by rw [List.drop_length]; exact H.out⟩
  case round =>
    obtain ⟨j, rfl, hj, hrs⟩ := hrel
    clear H
    have H := Lib.hid hrs
    clear hrs
    cases j with
    | zero =>
      have e0 : (((0 : Nat) : Int) - 1) = -1 := rfl
      rw [e0]
      clear e0
      have H2 := Lib.hid (show RB2 w1' wr r L s L B o from by have := H.out; rwa [List.drop_zero] at this)
      clear H hj
      have H := Lib.hid H2.out
      clear H2
      have ha := H.out.put (-77) now 0 wf77 (by omega)
      go_wp2_with fail
      refine ha.mono ?_
      clear ha H
      rintro e9 W1 ⟨rfl, hT⟩
      have H := Lib.hid hT
      clear hT
      have ha := H.out.get (-77) wf77
      go_wp2_with fail
      refine ha.mono ?_
      clear ha H
      rintro e9 W1 ⟨rfl, hT⟩
      have H := Lib.hid hT
      clear hT
      have ha := H.out.drop (-77) wf77 (by have := put_le L (-77) now 0; omega)
      rw [show getIs (putI L (-77) now 0) (-77) = true by unfold getIs; rw [get_put HL.out.1, if_pos rfl]; rfl, drop_put2] at ha
      go_wp2_with fail
      refine ha.mono ?_
      clear ha H
      rintro e9 W1 ⟨rfl, hT⟩
      have H := Lib.hid hT
      clear hT
      cases hm : getIs L (-77) with
      | true =>
        have hback := get_back HL.out.1 hm
        have HM := Lib.hid hm
        have HBK := Lib.hid hback
        clear hm hback
        have ha := H.out.get (-77) wf77
        rw [HM.out] at ha
        go_wp2_with fail
        refine ha.mono ?_
        clear ha H
        rintro e9 W1 ⟨rfl, hT⟩
        have H := Lib.hid hT
        clear hT
        have ha := H.out.put (-77) (getA L (-77)) (getB L (-77)) wf77 (by have := drop_le L (-77); omega)
        rw [HBK.out] at ha
        go_wp2_with fail
        refine ha.mono ?_
        clear ha H
        rintro e9 W1 ⟨rfl, hT⟩
        have H := Lib.hid hT
        clear hT
        have ha := H.out.next now
        go_wp2_with fail
        refine ha.mono ?_
        clear ha H
        rintro e9 W1 ⟨rfl, hT⟩
        have H := Lib.hid hT
        clear hT
        have ha := H.out.next2 now
        go_wp2_with fail
        refine ha.mono ?_
        clear ha H
        rintro e9 W1 ⟨rfl, hT⟩
        have H := Lib.hid hT
        clear hT
        have ha := H.out.ids2 (by omega)
        go_wp2_with fail
        refine ha.mono ?_
        clear ha H
        rintro e9 W1 ⟨v2, rfl, hids, hT⟩
        have H := Lib.hid hT
        obtain ⟨av2, cv2, rfl, h3⟩ := hids
        have HV2 := Lib.hid h3
        clear hT h3
        generalize nextId now L = x1
        generalize nextIs now L = x2
        have ha := H.out.tick HL.out.2.1
        go_wp2_with fail
        refine ha.mono ?_
        clear ha H
        rintro e9 W2 ⟨rfl, hT, hb2⟩
        have H := Lib.hid hT
        have HI := Lib.hid (show IdsAt W2 (.slice av2 L.length cv2) L from IdsAt.later ⟨av2, cv2, rfl, HV2.out⟩ hb2)
        clear hT hb2 HV2
        have ha := H.out.tick2 HL.out.2.1
        go_wp2_with fail
        refine ha.mono ?_
        clear ha H
        rintro e9 W3 ⟨rfl, hT, hb3⟩
        have H := Lib.hid hT
        have HI3 := Lib.hid (HI.out.later hb3)
        clear hT hb3 HI
        generalize tickL L = x3
        go_wp2_with fail
        go_loopw [23] (fun v23 wr => ∃ i : Nat, v23 = .int .i64 i ∧ i ≤ L.length ∧ RB2 w1' wr r L s L B o ∧ IdsAt wr (.slice av2 L.length cv2) L) (fun v23 _ => (L.length - Go.RowKit.intOf v23).toNat)
        case atStart => exact ⟨0, rfl, Nat.zero_le _, H.out, HI3.out⟩
        case round =>
          obtain ⟨i, rfl, hi, hrs, hids⟩ := hrel
          clear H HI3
          have H := Lib.hid (And.intro hrs hids)
          clear hrs
          by_cases hlt : i < L.length
          · obtain ⟨e, he⟩ : ∃ e, L[i]? = some e := ⟨_, List.getElem?_eq_getElem hlt⟩
            obtain ⟨rfl, hcap⟩ := HV.out (by intro h; rw [h] at hlt; cases hlt)
            obtain ⟨a', cap', e1, h3⟩ := hids
            cases e1
            obtain ⟨b2, rfl, hbl, hcap2, hc⟩ := h3.resolve_left (fun h => by rw [h] at hlt; cases hlt)
            have c0 := HTO.out wr H.out.1.obj i e he
            have c2 := hc i e he
            have hbB := (Array.getElem?_eq_some_iff.1 H.out.1.obj).1
            have o0 := fun w9 => (over_cell (w := wr) (e := w9) (o := i) hbB).trans c0
            have o2 := fun w9 => (over_cell (w := wr) (e := w9) (o := i) hbl).trans c2
            clear he c0 c2 hc h3 hbB hbl
            go_upto_region 28 with fail
            refine wp_region_over (by kernel_rfl) (by kernel_rfl) ?_
            repeat (first | go_big_quiet_skip | (go_big_quiet_want; go_big_quiet_op; go_big_quiet_on))
            refine wpQuiet_nil ?_
            rintro W4 ⟨e4, he4⟩
            have hb4 := over_below wr e4
            rw [← he4] at hb4
            have HF := Lib.hid (And.intro (H.out.1.later hb4) (H.out.2.later hb4))
            clear he4 hb4 o0 o2 H
            go_wp2_with fail
            go_roundw
            case measure => (simp [Go.RowKit.intOf]; try omega)
            case rel => exact ⟨i + 1, by go_num, by omega, HF.out⟩
          · have he : i = L.length := by omega
            subst he
            clear hids
            go_wp2_with fail
            go_ret
            exact ⟨rfl, HB1.out.trans (H.out.1.below.mono HB1.out.size)⟩
      | false =>
        have hback := get_not hm
        clear hm
        rw [hback] at H
        clear hback
        have ha := H.out.next now
        go_wp2_with fail
        refine ha.mono ?_
        clear ha H
        rintro e9 W1 ⟨rfl, hT⟩
        have H := Lib.hid hT
        clear hT
        have ha := H.out.next2 now
        go_wp2_with fail
        refine ha.mono ?_
        clear ha H
        rintro e9 W1 ⟨rfl, hT⟩
        have H := Lib.hid hT
        clear hT
        have ha := H.out.ids2 (by omega)
        go_wp2_with fail
        refine ha.mono ?_
        clear ha H
        rintro e9 W1 ⟨v2, rfl, hids, hT⟩
        have H := Lib.hid hT
        obtain ⟨av2, cv2, rfl, h3⟩ := hids
        have HV2 := Lib.hid h3
        clear hT h3
        generalize nextId now L = x1
        generalize nextIs now L = x2
        have ha := H.out.tick HL.out.2.1
        go_wp2_with fail
        refine ha.mono ?_
        clear ha H
        rintro e9 W2 ⟨rfl, hT, hb2⟩
        have H := Lib.hid hT
        have HI := Lib.hid (show IdsAt W2 (.slice av2 L.length cv2) L from IdsAt.later ⟨av2, cv2, rfl, HV2.out⟩ hb2)
        clear hT hb2 HV2
        have ha := H.out.tick2 HL.out.2.1
        go_wp2_with fail
        refine ha.mono ?_
        clear ha H
        rintro e9 W3 ⟨rfl, hT, hb3⟩
        have H := Lib.hid hT
        have HI3 := Lib.hid (HI.out.later hb3)
        clear hT hb3 HI
        generalize tickL L = x3
        go_wp2_with fail
        go_loopw [23] (fun v23 wr => ∃ i : Nat, v23 = .int .i64 i ∧ i ≤ L.length ∧ RB2 w1' wr r L s L B o ∧ IdsAt wr (.slice av2 L.length cv2) L) (fun v23 _ => (L.length - Go.RowKit.intOf v23).toNat)
        case atStart => exact ⟨0, rfl, Nat.zero_le _, H.out, HI3.out⟩
        case round =>
          obtain ⟨i, rfl, hi, hrs, hids⟩ := hrel
          clear H HI3
          have H := Lib.hid (And.intro hrs hids)
          clear hrs
          by_cases hlt : i < L.length
          · obtain ⟨e, he⟩ : ∃ e, L[i]? = some e := ⟨_, List.getElem?_eq_getElem hlt⟩
            obtain ⟨rfl, hcap⟩ := HV.out (by intro h; rw [h] at hlt; cases hlt)
            obtain ⟨a', cap', e1, h3⟩ := hids
            cases e1
            obtain ⟨b2, rfl, hbl, hcap2, hc⟩ := h3.resolve_left (fun h => by rw [h] at hlt; cases hlt)
            have c0 := HTO.out wr H.out.1.obj i e he
            have c2 := hc i e he
            have hbB := (Array.getElem?_eq_some_iff.1 H.out.1.obj).1
            have o0 := fun w9 => (over_cell (w := wr) (e := w9) (o := i) hbB).trans c0
            have o2 := fun w9 => (over_cell (w := wr) (e := w9) (o := i) hbl).trans c2
            clear he c0 c2 hc h3 hbB hbl
            go_upto_region 28 with fail
            refine wp_region_over (by kernel_rfl) (by kernel_rfl) ?_
            repeat (first | go_big_quiet_skip | (go_big_quiet_want; go_big_quiet_op; go_big_quiet_on))
            refine wpQuiet_nil ?_
            rintro W4 ⟨e4, he4⟩
            have hb4 := over_below wr e4
            rw [← he4] at hb4
            have HF := Lib.hid (And.intro (H.out.1.later hb4) (H.out.2.later hb4))
            clear he4 hb4 o0 o2 H
            go_wp2_with fail
            go_roundw
            case measure => (simp [Go.RowKit.intOf]; try omega)
            case rel => exact ⟨i + 1, by go_num, by omega, HF.out⟩
          · have he : i = L.length := by omega
            subst he
            clear hids
            go_wp2_with fail
            go_ret
            exact ⟨rfl, HB1.out.trans (H.out.1.below.mono HB1.out.size)⟩
    | succ j =>
      obtain ⟨e, he⟩ : ∃ e, L[j]? = some e := ⟨_, List.getElem?_eq_getElem (by omega)⟩
      have hav := HV.out (by intro h; rw [h] at hj; simp at hj)
      obtain ⟨rfl, hcap⟩ := hav
      have c0 := HTO.out wr H.out.obj j e he
      have hem := List.mem_of_getElem? he
      have hge := get_at HL.out.1 he
      have hdr : L.drop j = e :: L.drop (j + 1) := by
        obtain ⟨h1, h2⟩ := List.getElem?_eq_some_iff.1 he
        rw [List.drop_eq_getElem_cons h1, h2]
      have hpf : putI (putI (L.drop (j + 1)) e.1.2 e.2 e.1.1) e.1.2 e.1.1 e.2 = L.drop j := by
        rw [hdr]
        refine put_first ?_ _ _
        rw [← hdr]
        exact ⟨List.Pairwise.sublist (List.drop_sublist _ _) HL.out.1.sort, List.Pairwise.sublist (List.drop_sublist _ _) HL.out.1.ids⟩
      have hl2 : (L.drop (j + 1)).length ≤ L.length := by rw [List.length_drop]; omega
      have hl3 := put_le (L.drop (j + 1)) e.1.2 e.2 e.1.1
      have hwj : (((j + 1 : Nat) : Int) - 1) = (j : Int) := by omega
      have hwf := (HL.out.2.1 e hem).2.1
      have HPF := Lib.hid hpf
      have HE := Lib.hid he
      rw [hwj]
      clear hwj hem hdr hpf he
      have hg := H.out.get e.1.2 hwf
      rw [hge.1, hge.2.1, hge.2.2] at hg
      clear hge
      go_wp2_with fail
      refine hg.mono ?_
      clear hg H c0
      rintro e9 W2 ⟨rfl, hT⟩
      have H := Lib.hid hT
      have c0 := HTO.out W2 H.out.obj j e HE.out
      clear hT
      have ha := H.out.put e.1.2 e.2 e.1.1 hwf (by omega)
      go_wp2_with fail
      refine ha.mono ?_
      clear ha H c0
      rintro e9 W3 ⟨rfl, hT⟩
      have H := Lib.hid hT
      have c0 := HTO.out W3 H.out.obj j e HE.out
      clear hT
      have ha := H.out.put e.1.2 e.1.1 e.2 hwf (by omega)
      rw [HPF.out] at ha
      go_wp2_with fail
      refine ha.mono ?_
      clear ha H c0
      rintro e9 W4 ⟨rfl, hT⟩
      have H := Lib.hid hT
      have hwj2 : IntKind.i64.wrap ((j : Int) - 1) = (j : Int) - 1 := by rw [IntKind.wrap_i64]; omega
      clear hT
      go_wp2_with fail
      go_roundw
      case measure => (simp [Go.RowKit.intOf]; try omega)
      case rel => exact ⟨j, rfl, by omega, H.out⟩
end Go.Proofs.Ytbnnkkojlclgjaa
