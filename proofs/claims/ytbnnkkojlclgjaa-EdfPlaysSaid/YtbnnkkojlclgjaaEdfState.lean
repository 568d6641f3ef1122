/-
  A row of leaves between a law's calls; the chapter's example; acts played. (Printed by wip/mkedfstate.py.)
-/
import Derived.Test.YtbnnkkojlclgjaaEdfTell
namespace Go.Proofs.Ytbnnkkojlclgjaa
set_option linter.unusedVariables false
open Go.RowKit Go.Maps
attribute [local go_sem ↓] Go.wp_at_zero Go.wp_at_succ
attribute [local go_sem] quietR quietAtR quietUponR midAt midUpon plain plainUpon

/-- a row made since w0 -/
def RS (w0 w : World) (r : Nat) (L : List En) : Prop := ∃ S, RowX w r S L ∧ (∀ b, S b → w0.heap.size ≤ b) ∧ Below w0.heap.size w0 w
section
variable {w0 w w' : World} {r : Nat} {L : List En}
theorem RS.below (h : RS w0 w r L) : Below w0.heap.size w0 w := h.choose_spec.2.2
theorem RS.inv (h : RS w0 w r L) : InvE L := h.choose_spec.1.inv
theorem RS.later (h : RS w0 w r L) (hb : Below w.heap.size w w') : RS w0 w' r L := by
  obtain ⟨S, h1, h2, h3⟩ := h
  exact ⟨S, h1.later hb, h2, h3.trans (hb.mono h3.size)⟩
theorem RS.turn {S : Nat → Prop} {M : List En} (h1 : RowX w r S L) (h2 : ∀ b, S b → w0.heap.size ≤ b) (h3 : Below w0.heap.size w0 w) (ht : TurnE w r S M w') : RS w0 w' r M := by
  obtain ⟨S', k1, k2, k3⟩ := ht
  have hs := h3.size
  exact ⟨S', k1, fun b hb => (k2 b hb).elim (h2 b) fun h => by omega, h3.trans (k3.below h2 hs)⟩
theorem RS.new (w : World) : Calls Try.prog 15 #[] w fun e w' => ∃ r, e = .returned (.pointer (some ⟨r, 0, none⟩)) ∧ RS w w' r [] :=
  (rnew_any w).mono fun e w' ⟨r, S, h1, h2, h3, h4⟩ => ⟨r, h1, S, h2, h4, h3⟩
theorem RS.put (h : RS w0 w r L) (i a b : Int) (hi : (Lit.int .i64 i).wf = true) (hfew : L.length < 900000) :
    Calls Try.prog 16 #[.pointer (some ⟨r, 0, none⟩), .int .i64 i, .int .u64 a, .int .u64 b] w fun e w' => e = .returned (.tuple #[]) ∧ RS w0 w' r (putI L i a b) := by
  obtain ⟨S, h1, h2, h3⟩ := h
  exact (rput_any r S L i a b w h1 hi hfew).mono fun e w' ⟨k1, k2⟩ => ⟨k1, RS.turn h1 h2 h3 k2⟩
theorem RS.drop (h : RS w0 w r L) (i : Int) (hi : (Lit.int .i64 i).wf = true) (hfew : L.length < 900000) :
    Calls Try.prog 17 #[.pointer (some ⟨r, 0, none⟩), .int .i64 i] w fun e w' => e = .returned (.bool (getIs L i)) ∧ RS w0 w' r (dropI L i) := by
  obtain ⟨S, h1, h2, h3⟩ := h
  exact (rdrop_any r S L i w h1 hi hfew).mono fun e w' ⟨k1, k2⟩ => ⟨k1, RS.turn h1 h2 h3 k2⟩
theorem RS.next (h : RS w0 w r L) (now : Int) :
    Calls Try.prog 10 #[.pointer (some ⟨r, 0, none⟩), .int .u64 now] w fun e w' => e = .returned (.tuple #[.int .i64 (nextId now L), .bool (nextIs now L)]) ∧ RS w0 w' r L := by
  obtain ⟨S, h1, h2, h3⟩ := h
  exact (rnext_any r S L now w h1).mono fun e w' ⟨k1, k2⟩ => ⟨k1, RS.later ⟨S, h1, h2, h3⟩ k2⟩
theorem RS.get (h : RS w0 w r L) (i : Int) (hi : (Lit.int .i64 i).wf = true) :
    Calls Try.prog 11 #[.pointer (some ⟨r, 0, none⟩), .int .i64 i] w fun e w' => e = .returned (.tuple #[.int .u64 (getA L i), .int .u64 (getB L i), .bool (getIs L i)]) ∧ RS w0 w' r L := by
  obtain ⟨S, h1, h2, h3⟩ := h
  exact (rget_any r S L i w h1 hi).mono fun e w' ⟨k1, k2⟩ => ⟨k1, RS.later ⟨S, h1, h2, h3⟩ k2⟩
theorem RS.tick (h : RS w0 w r L) (hok : OkE L) :
    Calls Try.prog 12 #[.pointer (some ⟨r, 0, none⟩)] w fun e w' => e = .returned (.int .u64 (tickL L)) ∧ RS w0 w' r L := by
  obtain ⟨S, h1, h2, h3⟩ := h
  exact (rtick_any r S L w h1 hok).mono fun e w' ⟨k1, k2⟩ => ⟨k1, RS.later ⟨S, h1, h2, h3⟩ k2⟩
theorem RS.len (h : RS w0 w r L) :
    Calls Try.prog 13 #[.pointer (some ⟨r, 0, none⟩)] w fun e w' => e = .returned (.int .i64 L.length) ∧ RS w0 w' r L := by
  obtain ⟨S, h1, h2, h3⟩ := h
  exact (rlen_any r S L w h1).mono fun e w' ⟨k1, k2⟩ => ⟨k1, S, k2 ▸ h1, h2, k2 ▸ h3⟩
theorem RS.ids (h : RS w0 w r L) (hfew : L.length < 1000000) :
    Calls Try.prog 14 #[.pointer (some ⟨r, 0, none⟩)] w fun e w' => ∃ v, e = .returned v ∧ w'.ownsRow w.heap.size 3 1 v L.length (idsV L) ∧ RS w0 w' r L := by
  obtain ⟨S, h1, h2, h3⟩ := h
  exact (rids_any r S L w h1 hfew).mono fun e w' ⟨v, k1, k2, _, k3⟩ => ⟨v, k1, k2, RS.later ⟨S, h1, h2, h3⟩ k3⟩
end

theorem elong_any (a : Option Addr) (len cap : Nat) (w : World) :
    Calls Try.prog 8 #[.slice a len cap] w fun e w' => e = .returned (.bool (decide (200 < len))) ∧ w' = w := by
  by_cases h : 200 < len
  · have e : decide (200 < len) = true := decide_eq_true h
    rw [e]
    clear e
    go_enter Try.func8, Try.ntmps8
    go_wp2
    go_ret
    exact ⟨by simp; omega, rfl⟩
  · have e : decide (200 < len) = false := decide_eq_false h
    rw [e]
    clear e
    go_enter Try.func8, Try.ntmps8
    go_wp2
    go_ret
    exact ⟨by simp; omega, rfl⟩

set_option maxRecDepth 100000 in
set_option maxHeartbeats 2000000 in
theorem eawake_any (w : World) : Calls Try.prog 7 #[] w fun e w' => e = .returned (.bool true) ∧ Below w.heap.size w w' := by
  have hn := RS.new w
  go_enter Try.func7, Try.ntmps7
  go_wp2_with fail
  refine hn.mono ?_
  clear hn
  rintro e w1 ⟨r, rfl, hT⟩
  have H := Lib.hid hT
  clear hT
  have ha := H.out.tick OkE.nil
  rw [show tickL ([] : List En) = 9223372036854775808 by decide] at ha
  go_wp2_with fail
  refine ha.mono ?_
  clear ha H
  rintro e W1 ⟨rfl, hT⟩
  have H := Lib.hid hT
  clear hT
  have ha := H.out.put 2 6 20 (by decide) (by decide)
  rw [show putI ([] : List En) 2 6 20 = ([((6, 2), 20)] : List En) by decide] at ha
  go_wp2_with fail
  refine ha.mono ?_
  clear ha H
  rintro e W1 ⟨rfl, hT⟩
  have H := Lib.hid hT
  clear hT
  have ha := H.out.put 1 5 30 (by decide) (by decide)
  rw [show putI ([((6, 2), 20)] : List En) 1 5 30 = ([((5, 1), 30), ((6, 2), 20)] : List En) by decide] at ha
  go_wp2_with fail
  refine ha.mono ?_
  clear ha H
  rintro e W1 ⟨rfl, hT⟩
  have H := Lib.hid hT
  clear hT
  have ha := H.out.next 4
  rw [show nextId 4 ([((5, 1), 30), ((6, 2), 20)] : List En) = 0 by decide] at ha
  rw [show nextIs 4 ([((5, 1), 30), ((6, 2), 20)] : List En) = false by decide] at ha
  go_wp2_with fail
  refine ha.mono ?_
  clear ha H
  rintro e W1 ⟨rfl, hT⟩
  have H := Lib.hid hT
  clear hT
  have ha := H.out.next 5
  rw [show nextId 5 ([((5, 1), 30), ((6, 2), 20)] : List En) = 1 by decide] at ha
  rw [show nextIs 5 ([((5, 1), 30), ((6, 2), 20)] : List En) = true by decide] at ha
  go_wp2_with fail
  refine ha.mono ?_
  clear ha H
  rintro e W1 ⟨rfl, hT⟩
  have H := Lib.hid hT
  clear hT
  have ha := H.out.next 6
  rw [show nextId 6 ([((5, 1), 30), ((6, 2), 20)] : List En) = 2 by decide] at ha
  rw [show nextIs 6 ([((5, 1), 30), ((6, 2), 20)] : List En) = true by decide] at ha
  go_wp2_with fail
  refine ha.mono ?_
  clear ha H
  rintro e W1 ⟨rfl, hT⟩
  have H := Lib.hid hT
  clear hT
  have ha := H.out.tick (by intro e he; simp at he; first | (rcases he with rfl | rfl <;> decide) | (subst he; decide))
  rw [show tickL ([((5, 1), 30), ((6, 2), 20)] : List En) = 5 by decide] at ha
  go_wp2_with fail
  refine ha.mono ?_
  clear ha H
  rintro e W1 ⟨rfl, hT⟩
  have H := Lib.hid hT
  clear hT
  have ha := H.out.put 1 9 10 (by decide) (by decide)
  rw [show putI ([((5, 1), 30), ((6, 2), 20)] : List En) 1 9 10 = ([((6, 2), 20), ((9, 1), 10)] : List En) by decide] at ha
  go_wp2_with fail
  refine ha.mono ?_
  clear ha H
  rintro e W1 ⟨rfl, hT⟩
  have H := Lib.hid hT
  clear hT
  have ha := H.out.next 8
  rw [show nextId 8 ([((6, 2), 20), ((9, 1), 10)] : List En) = 2 by decide] at ha
  rw [show nextIs 8 ([((6, 2), 20), ((9, 1), 10)] : List En) = true by decide] at ha
  go_wp2_with fail
  refine ha.mono ?_
  clear ha H
  rintro e W1 ⟨rfl, hT⟩
  have H := Lib.hid hT
  clear hT
  have ha := H.out.tick (by intro e he; simp at he; first | (rcases he with rfl | rfl <;> decide) | (subst he; decide))
  rw [show tickL ([((6, 2), 20), ((9, 1), 10)] : List En) = 6 by decide] at ha
  go_wp2_with fail
  refine ha.mono ?_
  clear ha H
  rintro e W1 ⟨rfl, hT⟩
  have H := Lib.hid hT
  clear hT
  have ha := H.out.len
  rw [show ((([((6, 2), 20), ((9, 1), 10)] : List En).length : Nat) : Int) = 2 by decide] at ha
  go_wp2_with fail
  refine ha.mono ?_
  clear ha H
  rintro e W1 ⟨rfl, hT⟩
  have H := Lib.hid hT
  clear hT
  have ha := H.out.drop 2 (by decide) (by decide)
  rw [show getIs ([((6, 2), 20), ((9, 1), 10)] : List En) 2 = true by decide] at ha
  rw [show dropI ([((6, 2), 20), ((9, 1), 10)] : List En) 2 = ([((9, 1), 10)] : List En) by decide] at ha
  go_wp2_with fail
  refine ha.mono ?_
  clear ha H
  rintro e W1 ⟨rfl, hT⟩
  have H := Lib.hid hT
  clear hT
  have ha := H.out.drop 2 (by decide) (by decide)
  rw [show getIs ([((9, 1), 10)] : List En) 2 = false by decide] at ha
  rw [show dropI ([((9, 1), 10)] : List En) 2 = ([((9, 1), 10)] : List En) by decide] at ha
  go_wp2_with fail
  refine ha.mono ?_
  clear ha H
  rintro e W1 ⟨rfl, hT⟩
  have H := Lib.hid hT
  clear hT
  go_wp2_with fail
  go_ret
  exact ⟨rfl, H.out.below⟩

def PlayedW (w : World) (z : List EAct) (e : Ending) (w' : World) : Prop := ∃ r, e = .returned (.pointer (some ⟨r, 0, none⟩)) ∧ RS w w' r (playE z)
set_option maxRecDepth 100000 in
set_option maxHeartbeats 4000000 in
theorem eplayed_any (a0 : Option Addr) (cap : Nat) (z : List EAct) (w : World) (hz : EActsAt w a0 z.length z) (hlen : z.length ≤ 200) :
    Calls Try.prog 9 #[.slice a0 z.length cap] w (PlayedW w z) := by
  have hnw := RS.new w
  have HZ := Lib.hid hz
  clear hz
  go_enter Try.func9, Try.ntmps9
  go_wp2_with fail
  refine hnw.mono ?_
  clear hnw
  rintro e w2 ⟨r, rfl, hT⟩
  have HS := Lib.hid hT
  clear hT
  go_wp2_with fail
  go_loopw [4] (fun v4 W => ∃ i : Nat, v4 = .int .i64 i ∧ i ≤ z.length ∧ RS w W r (playE (z.take i))) (fun v4 _ => (z.length - Go.RowKit.intOf v4).toNat)
  case atStart => exact ⟨0, rfl, Nat.zero_le _, by simpa [playE] using HS.out⟩
  case round =>
    obtain ⟨i, rfl, hi, hrs⟩ := hrel
    by_cases hlt : i < z.length
    · obtain ⟨hzl, hzu, hzc⟩ := HZ.out.later hrs.below
      obtain ⟨b, off, rfl, hbl, hcl⟩ := hzc.resolve_left (by omega)
      obtain ⟨q, hq⟩ : ∃ q, z[i]? = some q := ⟨_, List.getElem?_eq_getElem hlt⟩
      have hfit := hzu q (List.mem_of_getElem? hq)
      have hsn := playE_snoc hq
      have hle := (playE_inv (z.take i)).2
      rw [List.length_take] at hle
      obtain ⟨c0, c1, c2, c3⟩ := hcl i q hq
      generalize playE (z.take i) = LL at hrs hsn hle
      have hfew : LL.length < 900000 := by omega
      obtain ⟨⟨hk0, hk1⟩, hid, hU⟩ := hfit
      have o1 := fun e => (over_cell (w := wr) (e := e) hbl).trans c1
      have o2 := fun e => (over_cell (w := wr) (e := e) hbl).trans c2
      have o3 := fun e => (over_cell (w := wr) (e := e) hbl).trans c3
      have HSN := Lib.hid hsn; have HRS := Lib.hid hrs; have HFEW := Lib.hid hfew; have HU := Lib.hid hU; have HID := Lib.hid hid
      clear hzl hzu hzc hcl hq hsn hrs hfew hU hid hle c2 c3
      obtain ⟨k, id, A, B⟩ := q
      dsimp only at hk0 hk1 HSN HU HID o1 o2 o3 c0 c1
      by_cases hkk : k % 3 = 0
      · have hst : playE1 LL ⟨k, id, A, B⟩ = putI LL id A B := by
          unfold playE1
          dsimp only
          rw [if_pos (by rw [Int.tmod_eq_emod_of_nonneg hk0]; exact hkk)]
        have HST := Lib.hid hst
        clear hst
        go_upto_region 6 with fail
        refine wp_region_over_tail 16 (by kernel_rfl) (by kernel_rfl) ?_
        simp only [List.take_succ_cons, List.take_zero, List.drop_succ_cons, List.drop_zero]
        repeat (first | go_big_quiet_skip | (go_big_quiet_want; go_big_quiet_op; go_big_quiet_on))
        refine wpQuiet_nil ?_
        rintro W2 ⟨e, he⟩
        have hb22 := over_below wr e
        rw [← he] at hb22
        have hcall := (HRS.out.later hb22).put id A B HID.out HFEW.out
        clear he o1 o2 o3 c0 c1 hb22 hkk
        go_wp2_with fail
        refine hcall.mono ?_
        clear hcall
        rintro e w3 ⟨rfl, h3⟩
        have HF := Lib.hid h3
        clear h3
        go_wp2_with fail
        go_roundw
        case measure => (simp [Go.RowKit.intOf]; try omega)
        case rel => exact ⟨i + 1, by go_num, by omega, by rw [HSN.out, HST.out]; exact HF.out⟩
      · have hst : playE1 LL ⟨k, id, A, B⟩ = dropI LL id := by
          unfold playE1
          dsimp only
          rw [if_neg (by rw [Int.tmod_eq_emod_of_nonneg hk0]; exact hkk)]
        have HST := Lib.hid hst
        have hcall := HRS.out.drop id HID.out HFEW.out
        clear hst o1 o2 o3
        go_wp2_with fail
        refine hcall.mono ?_
        clear hcall c0 c1
        rintro e w3 ⟨rfl, h3⟩
        have HF := Lib.hid h3
        clear h3
        go_wp2_with fail
        go_roundw
        case measure => (simp [Go.RowKit.intOf]; try omega)
        case rel => exact ⟨i + 1, by go_num, by omega, by rw [HSN.out, HST.out]; exact HF.out⟩
    · have he : i = z.length := by omega
      subst he
      rw [List.take_length] at hrs
      have HRS := Lib.hid hrs
      clear hrs
      go_wp2_with fail
      go_ret
      exact ⟨r, rfl, HRS.out⟩
end Go.Proofs.Ytbnnkkojlclgjaa
