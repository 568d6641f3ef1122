/-
  Law 19: of those that are eligible none is due ahead of who is next. (Printed by wip/mkedfnone.py.)
-/
import Derived.Test.YtbnnkkojlclgjaaEdfState
import Derived.Deep.CutRange
import Derived.Deep.DeepCutAuto
namespace Go.Proofs.Ytbnnkkojlclgjaa
set_option linter.unusedVariables false
open Go.RowKit Go.Maps
attribute [local go_sem ↓] Go.wp_at_zero Go.wp_at_succ
attribute [local go_sem] quietR quietAtR quietUponR midAt midUpon plain plainUpon

section
variable {w0 w w' : World} {r : Nat} {L : List En}
theorem RS.getB (h : RS w0 w r L) (i : Int) (hi : (Lit.int .i64 i).wf = true) :
    Calls Try.prog 11 #[.pointer (some ⟨r, 0, none⟩), .int .i64 i] w fun e w' => e = .returned (.tuple #[.int .u64 (getA L i), .int .u64 (getB L i), .bool (getIs L i)]) ∧ RS w0 w' r L ∧ Below w.heap.size w w' := by
  obtain ⟨S, h1, h2, h3⟩ := h
  exact (rget_any r S L i w h1 hi).mono fun e w' ⟨k1, k2⟩ => ⟨k1, RS.later ⟨S, h1, h2, h3⟩ k2, k2⟩
end
/-- ids in a row that may be read -/
def IdsAt (w : World) (v : Value) (L : List En) : Prop :=
  ∃ a cap, v = .slice a L.length cap ∧ (L = [] ∨ ∃ b, a = some ⟨b, 0, none⟩ ∧ b < w.heap.size ∧ L.length ≤ cap ∧ ∀ (i : Nat) e, L[i]? = some e → w.cell? ⟨b, i, none⟩ = some (.int .i64 e.1.2))
theorem IdsAt.later {w w' : World} {v : Value} {L : List En} (h : IdsAt w v L) (hb : Below w.heap.size w w') : IdsAt w' v L := by
  obtain ⟨a, cap, e, h3⟩ := h
  refine ⟨a, cap, e, ?_⟩
  rcases h3 with h3 | ⟨b, e2, hbl, hcap, hc⟩
  · exact .inl h3
  · exact .inr ⟨b, e2, Nat.lt_of_lt_of_le hbl hb.size, hcap, fun i x hx => (hb.cell (p := ⟨b, i, none⟩) hbl).trans (hc i x hx)⟩
theorem IdsAt.of_owns {w : World} {base : Nat} {v : Value} {L : List En} (h : w.ownsRow base 3 1 v L.length (idsV L)) : IdsAt w v L := by
  rcases h.2 with ⟨rfl, h0⟩ | ⟨g, cap, cur, rfl, h1, h2, h3, h4⟩
  · obtain rfl : L = [] := List.eq_nil_of_length_eq_zero h0
    exact ⟨none, 0, rfl, .inl rfl⟩
  · refine ⟨_, _, rfl, .inr ⟨g, rfl, (Array.getElem?_eq_some_iff.1 h2).1, h3, fun i x hx => ?_⟩⟩
    rw [h.cellAt i (by have := (List.getElem?_eq_some_iff.1 hx).1; omega)]
    unfold idsV
    rw [List.getElem?_map, hx]; rfl
theorem get_at {L : List En} (h : InvE L) {i : Nat} {e : En} (hx : L[i]? = some e) : getA L e.1.2 = e.1.1 ∧ getB L e.1.2 = e.2 ∧ getIs L e.1.2 = true := by
  have := getE_mem h.ids (List.mem_of_getElem? hx)
  unfold getA getB getIs
  rw [this]
  exact ⟨rfl, rfl, rfl⟩
theorem order_at {L : List En} (h : InvE L) {i : Nat} {x e : En} (hx : L[i]? = some x) (he : L[i + 1]? = some e) : x.1.1 < e.1.1 ∨ (x.1.1 = e.1.1 ∧ x.1.2 < e.1.2) := by
  obtain ⟨h1, e1⟩ := List.getElem?_eq_some_iff.1 hx
  obtain ⟨h2, e2⟩ := List.getElem?_eq_some_iff.1 he
  have := List.pairwise_iff_getElem.1 h.sort i (i + 1) h1 h2 (by omega)
  rw [e1, e2] at this
  exact lessK_iff.1 this
set_option maxRecDepth 100000 in
set_option maxHeartbeats 8000000 in
theorem edfNone_any (a0 : Option Addr) (len cap : Nat) (z : List EAct) (now : Int) (w : World) (hz : EActsAt w a0 len z) (hn : 0 ≤ now ∧ now < 18446744073709551616) :
    Calls Try.prog 4 #[.slice a0 len cap, .int .u64 now] w fun e w' => e = .returned (.bool true) ∧ Below w.heap.size w w' := by
  have HZ := Lib.hid hz
  have hzl : z.length = len := hz.1
  clear hz
  go_enter Try.func4, Try.ntmps4
  go_wp2_with fail
  refine (eawake_any w).mono ?_
  rintro e w1 ⟨rfl, hb1⟩
  have HB1 := Lib.hid hb1
  clear hb1
  go_wp2_with fail
  refine (elong_any a0 len cap w1).mono ?_
  rintro e w1' ⟨rfl, rfl⟩
  by_cases hlong : 200 < len
  · have hd : decide (200 < len) = true := decide_eq_true hlong
    rw [hd]
    clear hlong hd
    go_wp2_with fail
    go_ret
    exact ⟨rfl, HB1.out⟩
  have hd : decide (200 < len) = false := decide_eq_false hlong
  rw [hd]
  clear hd
  subst hzl
  have hpl := eplayed_any a0 cap z w1' (HZ.out.later HB1.out) (by omega)
  have hinv := (playE_inv z).1
  have hok := playE_ok (z := z) HZ.out.2.1
  have hle := (playE_inv z).2
  go_wp2_with fail
  refine hpl.mono ?_
  clear hpl
  rintro e W1 ⟨r, rfl, hT⟩
  generalize playE z = L at hT hinv hok hle
  have H := Lib.hid hT
  have HL := Lib.hid (And.intro hinv (And.intro hok (show L.length ≤ 200 by omega)))
  clear hT hinv hok hle hlong HZ
  have ha := H.out.next now
  go_wp2_with fail
  refine ha.mono ?_
  clear ha H
  rintro e W1 ⟨rfl, hT⟩
  have H := Lib.hid hT
  clear hT
  have ha := H.out.get (nextId now L) (nextId_wf HL.out.2.1 HL.out.1 now)
  go_wp2_with fail
  refine ha.mono ?_
  clear ha H
  rintro e W1 ⟨rfl, hT⟩
  have H := Lib.hid hT
  clear hT
  have hnx : nextIs now L = true → getIs L (nextId now L) = true ∧ getA L (nextId now L) ≤ now ∧ ∀ e ∈ L, e.1.1 ≤ now → ¬ (e.2 < getB L (nextId now L) ∨ (e.2 = getB L (nextId now L) ∧ e.1.2 < nextId now L)) := fun h => by
    obtain ⟨h1, h2, _, h3⟩ := next_get HL.out.1 h
    exact ⟨h1, h2, h3⟩
  have hno : nextIs now L = false → ∀ e ∈ L, now < e.1.1 := fun h => next_not h
  have HNX := Lib.hid (And.intro hnx hno)
  clear hnx hno
  generalize getIs L (nextId now L) = g1 at HNX ⊢
  generalize getA L (nextId now L) = g3 at HNX ⊢
  generalize getB L (nextId now L) = due at HNX ⊢
  generalize nextId now L = id at HNX ⊢
  generalize nextIs now L = is at HNX ⊢
  go_upto_region 8 with fail
  go_cut [47] from 38 to 47 (fun vc wx => vc = .bool false ∧ RS w1' wx r L)
  case first =>
    cases is with
    | true =>
      have h1 := (HNX.out.1 rfl).1
      have h2 : ¬ now < g3 := by have := (HNX.out.1 rfl).2.1; omega
      subst h1
      go_wp2_with fail
      go_meet
      exact ⟨rfl, H.out⟩
    | false =>
      go_wp2_with fail
      go_meet
      exact ⟨rfl, H.out⟩
  case rest =>
    obtain ⟨hvc, hrt⟩ := hcut
    rw [hvc]
    clear H hvc
    have H := Lib.hid hrt
    clear hrt
    have ha := H.out.ids (by have := HL.out.2.2; omega)
    go_wp2_with fail
    refine ha.mono ?_
    clear ha H
    rintro e W1 ⟨v, rfl, ho, hT⟩
    have H := Lib.hid hT
    have hrow := IdsAt.of_owns ho
    obtain ⟨av, cv, rfl, hrow2⟩ : ∃ a c, v = .slice a L.length c ∧ IdsAt W1 (.slice a L.length c) L := by
      obtain ⟨a, c, e, h3⟩ := hrow
      exact ⟨a, c, e, a, c, rfl, h3⟩
    have HR := Lib.hid hrow2
    have HS := Lib.hid (Below.refl W1.heap.size W1)
    obtain ⟨W2, hW2⟩ : ∃ W, W = W1 := ⟨_, rfl⟩
    clear hT ho hrow hrow2
    go_wp2_with fail
    go_loopw [12] (fun v12 wr => ∃ i : Nat, v12 = .int .i64 i ∧ i ≤ L.length ∧ RS w1' wr r L ∧ IdsAt wr (.slice av L.length cv) L) (fun v12 _ => (L.length - Go.RowKit.intOf v12).toNat)
    case atStart => exact ⟨0, rfl, Nat.zero_le _, H.out, HR.out⟩
    case round =>
      obtain ⟨i, rfl, hi, hrs, hids⟩ := hrel
      clear H HR HS
      have H := Lib.hid hrs
      have HI := Lib.hid hids
      clear hrs
      have hll := HL.out.2.2
      by_cases hlt : i < L.length
      · obtain ⟨e, he⟩ : ∃ e, L[i]? = some e := ⟨_, List.getElem?_eq_getElem hlt⟩
        obtain ⟨a, cap', e1, h3⟩ := hids
        cases e1
        obtain ⟨b, rfl, hbl, hcap, hc⟩ := h3.resolve_left (fun h => by rw [h] at hlt; cases hlt)
        have c0 := hc i e he
        have hem := List.mem_of_getElem? he
        have hge := get_at HL.out.1 he
        have hg := H.out.getB e.1.2 (HL.out.2.1 e hem).2.1
        rw [hge.1, hge.2.1, hge.2.2] at hg
        have HE := Lib.hid (And.intro he hem)
        have HC := Lib.hid (And.intro hbl (And.intro hcap hc))
        clear he hem hge hc h3
        go_wp2_with fail
        refine hg.mono ?_
        clear hg H c0
        rintro e9 W2 ⟨rfl, hT, hb2⟩
        have H := Lib.hid hT
        have HI2 := Lib.hid (HI.out.later hb2)
        have hbl2 : b < W2.heap.size := Nat.lt_of_lt_of_le HC.out.1 hb2.size
        have hc2 : ∀ (i : Nat) e, L[i]? = some e → W2.cell? ⟨b, i, none⟩ = some (.int .i64 e.1.2) := fun i e he => (hb2.cell (p := ⟨b, i, none⟩) HC.out.1).trans (HC.out.2.2 i e he)
        have HC2 := Lib.hid (And.intro hbl2 hc2)
        clear hT hb2 HI
        clear hbl2 hc2
        go_upto_region 17 with fail
        go_cut [92] from 66 to 92 (fun vc wx => vc = .bool false ∧ wx = W2)
        case first =>
          have c0 := HC2.out.2 i e HE.out.1
          obtain ⟨⟨ea, ei⟩, eb⟩ := e
          dsimp only at c0
          by_cases h1 : ea ≤ now
          · cases is with
            | false => exact absurd (HNX.out.2 rfl _ HE.out.2) (by dsimp only; omega)
            | true =>
              have h2 := (HNX.out.1 rfl).2.2 _ HE.out.2 h1
              dsimp only at h2
              have h3 : ¬ eb < due := fun h => h2 (.inl h)
              by_cases h4 : eb = due
              · have h5 : ¬ ei < id := fun h => h2 (.inr ⟨h4, h⟩)
                have h6 : (eb == due) = true := by simpa using h4
                clear h2 h4
                go_wp2_with fail
                go_meet
                exact ⟨rfl, rfl⟩
              · have h6 : (eb == due) = false := by simpa using h4
                clear h2
                go_wp2_with fail
                go_meet
                exact ⟨rfl, rfl⟩
          · go_wp2_with fail
            go_meet
            exact ⟨rfl, rfl⟩
        case rest =>
          obtain ⟨hvc, hwc⟩ := hcut
          rw [hvc, hwc]
          clear hvc hwc
          by_cases hpos : i = 0
          · subst hpos
            go_wp2_with fail
            go_roundw
            case measure => (simp [Go.RowKit.intOf]; try omega)
            case rel => exact ⟨0 + 1, by go_num, by omega, H.out, HI2.out⟩
          · obtain ⟨x, hx⟩ : ∃ x, L[i - 1]? = some x := ⟨_, List.getElem?_eq_getElem (by omega)⟩
            have hxm := List.mem_of_getElem? hx
            have hgx := get_at HL.out.1 hx
            have hg := H.out.getB x.1.2 (HL.out.2.1 x hxm).2.1
            rw [hgx.1, hgx.2.1, hgx.2.2] at hg
            have hord := order_at HL.out.1 hx (by rw [show i - 1 + 1 = i by omega]; exact HE.out.1)
            obtain ⟨j, hj⟩ : ∃ j, i = j + 1 := ⟨i - 1, by omega⟩
            subst hj
            rw [show j + 1 - 1 = j by omega] at hx
            have cx := HC2.out.2 j x hx
            have hwj : IntKind.i64.wrap (((j + 1 : Nat) : Int) - 1) = (j : Int) := by rw [IntKind.wrap_i64]; omega
            have hnn : (0 : Int) < ((j + 1 : Nat) : Int) := by omega
            have HO := Lib.hid (And.intro hord hx)
            clear hgx hxm hord hx
            go_wp2_with fail
            refine hg.mono ?_
            clear hg H cx
            rintro e9 W3 ⟨rfl, hT, hb3⟩
            have H := Lib.hid hT
            have HI3 := Lib.hid (HI2.out.later hb3)
            have hbl3 : b < W3.heap.size := Nat.lt_of_lt_of_le HC2.out.1 hb3.size
            have cx := (hb3.cell (p := ⟨b, j, none⟩) HC2.out.1).trans (HC2.out.2 j x HO.out.2)
            have ce := (hb3.cell (p := ⟨b, j + 1, none⟩) HC2.out.1).trans (HC2.out.2 (j + 1) e HE.out.1)
            have ox := fun w9 => (over_cell (w := W3) (e := w9) (o := j) hbl3).trans cx
            have oe := fun w9 => (over_cell (w := W3) (e := w9) (o := j + 1) hbl3).trans ce
            clear hT hb3 cx ce hbl3
            go_upto_region 21 with fail
            go_cut [125] from 106 to 125 (fun vc wx => vc = .bool false ∧ Below W3.heap.size W3 wx)
            case first =>
              obtain ⟨⟨xa, xi⟩, xb⟩ := x
              obtain ⟨⟨ea, ei⟩, eb⟩ := e
              (try dsimp only at ox); (try dsimp only at oe)
              have hor := HO.out.1
              (try dsimp only at hor)
              rcases hor with h1 | ⟨h1, h2⟩
              · have h3 : ¬ ea < xa := by omega
                have h4 : (xa == ea) = false := by simp; omega
                clear h1
                refine wp_region_over (by kernel_rfl) (by kernel_rfl) ?_
                repeat (first | go_big_quiet_skip | (go_big_quiet_want; go_big_quiet_op; go_big_quiet_on))
                refine wpQuiet_nil ?_
                rintro W4 ⟨e4, he4⟩
                have hb4 := over_below W3 e4
                rw [← he4] at hb4
                clear he4
                go_wp2_with fail
                go_meet
                exact ⟨rfl, hb4⟩
              · have h3 : ¬ ea < xa := by omega
                have h4 : (xa == ea) = true := by simp; omega
                have h5 : ¬ ei ≤ xi := by omega
                clear h1 h2
                refine wp_region_over (by kernel_rfl) (by kernel_rfl) ?_
                repeat (first | go_big_quiet_skip | (go_big_quiet_want; go_big_quiet_op; go_big_quiet_on))
                refine wpQuiet_nil ?_
                rintro W4 ⟨e4, he4⟩
                have hb4 := over_below W3 e4
                rw [← he4] at hb4
                clear he4
                go_wp2_with fail
                go_meet
                exact ⟨rfl, hb4⟩
            case rest =>
              obtain ⟨hvc, hbc⟩ := hcut
              rw [hvc]
              have HF := Lib.hid (And.intro (H.out.later hbc) (HI3.out.later hbc))
              clear hvc hbc
              go_wp2_with fail
              go_roundw
              case measure => (simp [Go.RowKit.intOf]; try omega)
              case rel => exact ⟨j + 1 + 1, by go_num, by omega, HF.out⟩
      · have he : i = L.length := by omega
        subst he
        have ha := H.out.len
        clear hids
        go_wp2_with fail
        refine ha.mono ?_
        clear ha H
        rintro e W1 ⟨rfl, hT⟩
        have H := Lib.hid hT
        clear hT
        go_wp2_with fail
        go_ret
        exact ⟨rfl, HB1.out.trans (H.out.below.mono HB1.out.size)⟩
end Go.Proofs.Ytbnnkkojlclgjaa
