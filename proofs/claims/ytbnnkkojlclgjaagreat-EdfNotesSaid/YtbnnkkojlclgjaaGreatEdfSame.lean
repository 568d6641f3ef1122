/-
  The law's word: does a row of leaves show what the document's does?
-/
import Derived.Test.YtbnnkkojlclgjaaGreatRfTell
namespace Go.Proofs.YtbnnkkojlclgjaaGreat
set_option linter.unusedVariables false
open Go.RowKit Go.Maps
attribute [local go_sem ↓] Go.wp_at_zero Go.wp_at_succ
attribute [local go_sem] quietR quietAtR quietUponR midAt midUpon plain plainUpon

/-- ids in a row of one's own, from the i-th on -/
def IdFrom (base : Nat) (w : World) (av : Option Addr) (cv : Nat) (L : List En) (i : Nat) : Prop :=
  L = [] ∨ ∃ g cs, av = some ⟨g, 0, none⟩ ∧ base ≤ g ∧ Blk w g 3 cs ∧ L.length ≤ cv ∧ L.length ≤ cs.size ∧ ∀ (j : Nat) e, i ≤ j → L[j]? = some e → cs[j]? = some (.int .i64 e.1.2)
theorem IdFrom.of_owns {w : World} {base : Nat} {v : Value} {L : List En} (h : w.ownsRow base 3 1 v L.length (idsV L)) : ∃ av cv, v = .slice av L.length cv ∧ IdFrom base w av cv L 0 := by
  rcases h.2 with ⟨rfl, h0⟩ | ⟨g, cap, cur, rfl, h1, h2, h3, h4, h5, h6⟩
  · obtain rfl : L = [] := List.eq_nil_of_length_eq_zero h0
    exact ⟨none, 0, rfl, .inl rfl⟩
  · refine ⟨_, _, rfl, .inr ⟨g, cur, rfl, h1, h2, h3, by omega, fun j e _ hj => ?_⟩⟩
    have hlt := (List.getElem?_eq_some_iff.1 hj).1
    rw [← Blk.cell (w := w) (t := 3) h2 j, h.cellAt j (by omega)]
    unfold idsV
    rw [List.getElem?_map, hj]; rfl
theorem IdFrom.later {base : Nat} {w w' : World} {av : Option Addr} {cv : Nat} {L : List En} {i : Nat} (h : IdFrom base w av cv L i) (hb : Below w.heap.size w w') : IdFrom base w' av cv L i := by
  rcases h with h | ⟨g, cs, h1, h2, h3, h4⟩
  · exact .inl h
  · exact .inr ⟨g, cs, h1, h2, h3.below hb h3.lt, h4⟩
set_option maxRecDepth 100000 in
set_option maxHeartbeats 8000000 in
theorem esame_any (r : Nat) (S : Nat → Prop) (p : Nat) (v : Value) (L : List En) (now id : Int) (w : World) (h : RowX w r S L) (hf : RfAt w p v L) (hok : OkE L) (hid : (Lit.int .i64 id).wf = true) (hfew : L.length < 900000) :
    Calls Tryz.prog 14 #[.pointer (some ⟨r, 0, none⟩), .pointer (some ⟨p, 0, none⟩), .int .u64 now, .int .i64 id] w fun e w' => e = .returned (.bool true) ∧ Below w.heap.size w w' := by
  have hn := rnext_any r S L now w h
  have H := Lib.hid (And.intro h hf)
  have HOK := Lib.hid (And.intro hok h.inv)
  clear h hf hok
  go_enter Tryz.func14, Tryz.ntmps14
  go_wp2_with fail
  refine hn.mono ?_
  clear hn
  rintro e W1 ⟨rfl, hb1⟩
  have H1 := Lib.hid (And.intro (H.out.1.later hb1) (H.out.2.later hb1))
  have HB := Lib.hid hb1
  clear H hb1
  have hn := rfnext_any p v L now W1 H1.out.2
  go_wp2_with fail
  refine hn.mono ?_
  clear hn
  rintro e W2 ⟨rfl, hb2⟩
  have H2 := Lib.hid (And.intro (H1.out.1.later hb2) (H1.out.2.later hb2))
  have HB2 := Lib.hid (HB.out.trans (hb2.mono HB.out.size))
  clear H1 hb2 HB
  generalize nextId now L = x1
  generalize nextIs now L = x2
  have hn := rget_any r S L id W2 H2.out.1 hid
  go_wp2_with fail
  refine hn.mono ?_
  clear hn
  rintro e W3 ⟨rfl, hb3⟩
  have H3 := Lib.hid (And.intro (H2.out.1.later hb3) (H2.out.2.later hb3))
  have HB3 := Lib.hid (HB2.out.trans (hb3.mono HB2.out.size))
  clear H2 hb3 HB2
  have hn := rfget_any p v L id W3 H3.out.2 HOK.out.2
  go_wp2_with fail
  refine hn.mono ?_
  clear hn
  rintro e W4 ⟨rfl, hb4⟩
  have H4 := Lib.hid (And.intro (H3.out.1.later hb4) (H3.out.2.later hb4))
  have HB4 := Lib.hid (HB3.out.trans (hb4.mono HB3.out.size))
  clear H3 hb4 HB3
  generalize getA L id = x3
  generalize getB L id = x4
  generalize getIs L id = x5
  have hn := rids_any r S L W4 H4.out.1 (by omega)
  go_wp2_with fail
  refine hn.mono ?_
  clear hn
  rintro e W5 ⟨vi, rfl, hown, -, hb5⟩
  obtain ⟨av, cv, rfl, hids⟩ := IdFrom.of_owns hown
  have H5 := Lib.hid (And.intro (H4.out.1.later hb5) (H4.out.2.later hb5))
  have HB5 := Lib.hid hb5
  have HI := Lib.hid hids
  clear hown hids hb5
  obtain ⟨hl, a, cap, hv, h3⟩ := H5.out.2.lf
  have c0 := H5.out.2.blk.cell 0
  simp only [List.getElem?_toArray, List.getElem?_cons_zero, List.getElem?_cons_succ] at c0
  rw [hv] at c0
  have o0 := fun e9 => (over_cell (w := W5) (e := e9) (o := 0) H5.out.2.blk.lt).trans c0
  have htk := fun e9 => rtick_any r S L _ (H5.out.1.later (over_below W5 e9)) HOK.out.1
  have hrt := fun e9 => rftick_any p v L _ (H5.out.2.later (over_below W5 e9))
  have hrl := fun e9 => rlen_any r S L _ (H5.out.1.later (over_below W5 e9))
  have HC := Lib.hid (And.intro htk (And.intro hrt hrl))
  clear htk hrt hrl h3 c0
  generalize tickL L = x6 at HC
  go_upto_region 6 with fail
  refine wp_region_over (by kernel_rfl) (by kernel_rfl) ?_
  repeat (first | go_big_quiet_skip | (go_big_quiet_want; go_big_quiet_op; first | go_big_quiet_on | (apply Exists.intro; refine ⟨fun e => ?_, ?_⟩; (focus (first | (go_at_call 38; with_reducible exact calls_over (HC.out.1 _)) | (go_at_call 39; with_reducible exact calls_over (HC.out.2.1 _)) | (go_at_call 40; with_reducible exact calls_over_same (HC.out.2.2 _)))); go_big_quiet_on)))
  refine wpQuiet_nil ?_
  rintro W6 ⟨e6, he6⟩
  have hb6 := over_below W5 e6
  rw [← he6] at hb6
  have HI6 := Lib.hid (HI.out.later hb6)
  have HB6 := Lib.hid (HB5.out.trans (hb6.mono HB5.out.size))
  clear he6 hb6 o0 HC HI HB5 H5
  go_wp2_with fail
  go_loopw [20] (fun v20 wr => ∃ i : Nat, v20 = .int .i64 i ∧ i ≤ L.length ∧ Below W4.heap.size W4 wr ∧ IdFrom W4.heap.size wr av cv L i) (fun v20 _ => (L.length - Go.RowKit.intOf v20).toNat)
  case atStart => exact ⟨0, rfl, Nat.zero_le _, HB6.out, HI6.out⟩
  case round =>
    obtain ⟨i, rfl, hi, hbr, hir⟩ := hrel
    clear HB6 HI6
    have HBR := Lib.hid hbr
    by_cases hlt : i < L.length
    · obtain ⟨e, he⟩ : ∃ e, L[i]? = some e := ⟨_, List.getElem?_eq_getElem hlt⟩
      obtain ⟨g, cs, rfl, hg, hblk, hcv, hcs, hat⟩ := hir.resolve_left (fun h => by rw [h] at hlt; cases hlt)
      have hrf := H4.out.2.later hbr
      obtain ⟨_, a', cap', e1, h3⟩ := hrf.lf
      rw [hv] at e1
      cases e1
      obtain ⟨b, off, rfl, hbl, hcap, hc⟩ := h3.resolve_left (fun h => by rw [h] at hlt; cases hlt)
      obtain ⟨k0, -, -⟩ := hc i e he
      have c0 := hrf.blk.cell 0
      simp only [List.getElem?_toArray, List.getElem?_cons_zero, List.getElem?_cons_succ] at c0
      rw [hv] at c0
      have c1 := (hblk.cell i).trans (hat i e (Nat.le_refl _) he)
      have o0 := fun w9 => (over_cell (w := wr) (e := w9) (o := 0) hrf.blk.lt).trans c0
      have o1 := fun w9 => (over_cell (w := wr) (e := w9) (o := off + i * 3) hbl).trans k0
      have o2 := fun w9 => (over_cell (w := wr) (e := w9) (o := i) hblk.lt).trans c1
      have HB := Lib.hid (And.intro hblk (And.intro hat (And.intro hg (And.intro he hcs))))
      clear h3 hc hrf k0 hblk hat c0 he hbr hir hg hcs
      go_upto_region 11 with fail
      refine wp_region_over (by kernel_rfl) (by kernel_rfl) ?_
      repeat (first | go_big_quiet_skip | (go_big_quiet_want; go_big_quiet_op; go_big_quiet_on))
      refine wpQuiet_nil ?_
      rintro W7 ⟨e7, he7⟩
      have hb7 := over_below wr e7
      rw [← he7] at hb7
      have HBR7 := Lib.hid (HBR.out.trans (hb7.mono HBR.out.size))
      have hB7 := HB.out.1.below hb7 HB.out.1.lt
      have s1 := (hB7.cell i).trans (HB.out.2.1 i e (Nat.le_refl _) HB.out.2.2.2.1)
      have s2 := hB7.frozen i
      have HF := Lib.hid (show IdFrom W4.heap.size (W7.setCell ⟨g, i, none⟩ (.int .i64 (-9))) (some ⟨g, 0, none⟩) cv L (i + 1) from .inr ⟨g, _, rfl, HB.out.2.2.1, hB7.set_ i _, hcv, by simpa using HB.out.2.2.2.2, fun j x hj hx => by
        rw [Array.getElem?_setIfInBounds_ne (by omega)]
        exact HB.out.2.1 j x (by omega) hx⟩)
      have HG := Lib.hid (HBR7.out.setCell (p := ⟨g, i, none⟩) HB.out.2.2.1 (.int .i64 (-9)))
      clear he7 hb7 o0 o1 o2 hB7 HB HBR c1
      go_wp2_with fail
      go_roundw
      case measure => (simp [Go.RowKit.intOf]; try omega)
      case rel => exact ⟨i + 1, by go_num, by omega, HG.out, HF.out⟩
    · obtain rfl : i = L.length := by omega
      clear hir
      go_wp2_with fail
      go_ret
      exact ⟨rfl, HB4.out.trans (HBR.out.mono HB4.out.size)⟩
end Go.Proofs.YtbnnkkojlclgjaaGreat
