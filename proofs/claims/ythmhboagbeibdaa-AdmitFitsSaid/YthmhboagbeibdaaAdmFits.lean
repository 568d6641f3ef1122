/-
  The law: whether a curve is admitted beside others is what the document says.
-/
import Derived.Test.YthmhboagbeibdaaAdmNew
namespace Go.Proofs.Ythmhboagbeibdaa
set_option linter.unusedVariables false
open Go.RowKit Go.Maps Go.Sort
attribute [local go_sem ↓] Go.wp_at_zero Go.wp_at_succ
attribute [local go_sem] quietR quietAtR quietUponR midAt midUpon
attribute [local irreducible] TStep HStep

/-- both books, of the same curves -/
structure Books (W : World) (g m p : Nat) (r : Int) (L : List (Int × Cv)) : Prop where
  mine : BkAt W g m r L [] (.slice none 0 0)
  ref : ∃ vi vl vg, RbAt W p r (L.map (·.1)) (L.map (·.2)) [] vi vl vg
theorem Books.later {W W' : World} {g m p : Nat} {r : Int} {L : List (Int × Cv)} (h : Books W g m p r L) (hb : Below W.heap.size W W') : Books W' g m p r L := by
  obtain ⟨h1, vi, vl, vg, h2⟩ := h
  exact ⟨h1.later hb, vi, vl, vg, h2.later hb⟩
/-- as they stand between the two puts -/
def BothJ (W : World) (g m p : Nat) (r : Int) (L L' : List (Int × Cv)) (vi vl vg : Value) : Prop := BkAt W g m r L [] (.slice none 0 0) ∧ RbAt W p r (L'.map (·.1)) (L'.map (·.2)) [] vi vl vg
theorem BothJ.later {W W' : World} {g m p : Nat} {r : Int} {L L' : List (Int × Cv)} {vi vl vg : Value} (h : BothJ W g m p r L L' vi vl vg) (hb : Below W.heap.size W W') : BothJ W' g m p r L L' vi vl vg := ⟨h.1.later hb, h.2.later hb⟩
theorem putBk_len (L : List (Int × Cv)) (G : List Cv) (id : Int) (c : Cv) (r : Int) : (putBk L G id c r).length ≤ L.length + 1 := by
  unfold putBk
  split
  · exact put_length id c L
  · omega
theorem i64_small (i : Nat) (h : i ≤ 1000) : (Lit.int .i64 (i : Int)).wf = true := by
  simp [Lit.wf, IntKind.min, IntKind.max, IntKind.signed, IntKind.bits]; omega

set_option maxRecDepth 100000 in
set_option maxHeartbeats 8000000 in
theorem fits_walk (a0 : Option Addr) (len cap : Nat) (zs : List (List Value)) (r F L0 R : Int) (w : World) (hr : U r) (hz : IsRows [some .u64, some .u64, some .u64] w a0 len cap zs) (hc : U F ∧ U L0 ∧ U R) :
    Calls Try.prog 3 #[.int .u64 r, .slice a0 len cap, .agg #[.int .u64 F, .int .u64 L0, .int .u64 R]] w fun e w' => e = .returned (.bool true) ∧ Below w.heap.size w w' := by
  have hlm : len ≤ 9223372036854775807 := by have := hz.1; have := hz.2.1; unfold maxLen at this; omega
  have hb0 := (Below.refl w.heap.size w).alloc (Nat.le_refl _) (.cells #[.int .u64 F, .int .u64 L0, .int .u64 R] 25)
  have hB0 := Blk.new w 25 #[.int .u64 F, .int .u64 L0, .int .u64 R]
  by_cases h20 : len ≤ 20
  · obtain ⟨l, rfl, hcv⟩ := cvs_of hz (by omega)
    have hgn : ¬ ((20 : Int) < (l.length : Int)) := by omega
    generalize hw1 : w.alloc (.cells #[.int .u64 F, .int .u64 L0, .int .u64 R] 25) = w1 at hb0 hB0
    have hcv1 := hcv.later hb0
    have H := Lib.hid (And.intro hb0 (And.intro hB0 hcv1))
    have hnw := new_any r w1 hr
    clear hcv hcv1 hz hlm hb0 hB0
    go_enter Try.func3, Try.ntmps3
    go_wp2_with fail
    clear hw1
    refine hnw.mono ?_
    clear hnw
    rintro e w2 ⟨hcase, hb2⟩
    have hrn := rnew_any r w2 hr
    rcases hcase with ⟨hbad, rfl⟩ | ⟨hgood, g, m, rfl, hbk, hg1, hm1⟩
    · have HB2 := Lib.hid hb2
      clear hb2
      go_wp2_with fail
      refine hrn.mono ?_
      clear hrn
      rintro e w3 ⟨hcase, hb3⟩
      have HB3 := Lib.hid ((H.out.1.trans (HB2.out.mono H.out.1.size)).trans (hb3.mono (by have := H.out.1.size; have := HB2.out.size; omega)))
      clear hb3
      rcases hcase with ⟨_, rfl⟩ | ⟨hgood, _⟩
      · go_wp2_with fail
        go_ret
        exact ⟨rfl, HB3.out⟩
      · exact absurd hgood hbad
    · have HB2 := Lib.hid hb2; have HBK := Lib.hid hbk
      clear hb2 hbk
      go_wp2_with fail
      refine hrn.mono ?_
      clear hrn
      rintro e w3 ⟨hcase, hb3⟩
      rcases hcase with ⟨hbad, rfl⟩ | ⟨_, p0, rfl, hrb⟩
      · exact absurd hgood hbad
      · have hbw3 := HB2.out.trans (hb3.mono HB2.out.size)
        have hbooks : Books w3 g m p0 r [] := ⟨HBK.out.later hb3, _, _, _, hrb⟩
        have HBO := Lib.hid hbooks; have HB3 := Lib.hid hbw3
        clear hb3 hbw3 hbooks hrb
        go_wp2_with fail
        go_loopw [9, 11, 12] (fun v9 v11 v12 W => ∃ (i p : Nat) (L : List (Int × Cv)), v11 = .int .i64 i ∧ v9 = .pointer (some ⟨p, 0, none⟩) ∧ i ≤ l.length ∧ L.length ≤ i ∧ Books W g m p r L ∧ Below w1.heap.size w1 W) (fun _ v11 _ _ => (l.length - Go.RowKit.intOf v11).toNat)
        case atStart => exact ⟨0, p0, [], rfl, rfl, Nat.zero_le _, Nat.le_refl _, HBO.out, HB3.out⟩
        case round =>
          obtain ⟨i, p, L, rfl, rfl, hi, hLi, hbo, hbr⟩ := hrel
          by_cases hlt : i < l.length
          · obtain ⟨⟨CF, CL, CR⟩, hic⟩ : ∃ c, l[i]? = some c := ⟨_, List.getElem?_eq_getElem hlt⟩
            have hcl := H.out.2.2.later hbr
            have huc := hcl.1 _ (List.mem_of_getElem? hic)
            obtain ⟨bl, off, hab, hcc⟩ : ∃ b off, a0 = some ⟨b, off, none⟩ ∧ ∀ W, Below w1.heap.size w1 W → W.cell? ⟨b, off + i * 3, none⟩ = some (.int .u64 CF) ∧ W.cell? ⟨b, off + i * 3 + 1, none⟩ = some (.int .u64 CL) ∧ W.cell? ⟨b, off + i * 3 + 2, none⟩ = some (.int .u64 CR) := by
              obtain ⟨_, _, a', cap', e, h3⟩ := H.out.2.2
              cases e
              rcases h3 with h3 | ⟨b, off, rfl, hbl, _, hcells⟩
              · rw [h3] at hlt; simp at hlt
              · refine ⟨b, off, rfl, fun W hW => ?_⟩
                obtain ⟨k0, k1, k2⟩ := hcells i _ hic
                exact ⟨(hW.cell (p := ⟨b, off + i * 3, none⟩) hbl).trans k0, (hW.cell (p := ⟨b, off + i * 3 + 1, none⟩) hbl).trans k1, (hW.cell (p := ⟨b, off + i * 3 + 2, none⟩) hbl).trans k2⟩
            subst hab
            obtain ⟨vi, vl, vg, hrb⟩ := hbo.ref
            have hrp := rput_any CF CL CR i p r L [] vi vl vg wr huc hr hrb (by simp; omega)
            have HBO2 := Lib.hid hbo.mine; have HBR := Lib.hid hbr; have HCC := Lib.hid hcc
            obtain ⟨k0, k1, k2⟩ := hcc wr hbr
            have hiw := i64_small i (by omega)
            clear hbo hbr hrb hcc hcl hic
            go_wp2_with fail
            clear k0 k1 k2
            refine hrp.mono ?_
            clear hrp
            rintro e w4 ⟨p', vi', vl', vg', rfl, hrb4, hb4⟩
            have hbw4 := HBR.out.trans (hb4.mono HBR.out.size)
            have hbk4 := HBO2.out.later hb4
            obtain ⟨L', hL'⟩ : ∃ L', putBk L [] i (CF, CL, CR) r = L' := ⟨_, rfl⟩
            obtain ⟨code, hcode⟩ : ∃ k, putC L [] i (CF, CL, CR) r = k := ⟨_, rfl⟩
            have hLl := putBk_len L [] i (CF, CL, CR) r
            rw [hL'] at hrb4 hLl
            rw [hcode]
            have HRB := Lib.hid hrb4; have HBW4 := Lib.hid hbw4; have HBK4 := Lib.hid hbk4; have HLP := Lib.hid hL'; have HCO := Lib.hid hcode
            clear hrb4 hb4 hbw4 hbk4 hL' hcode
            obtain ⟨fb, hfb⟩ : ∃ fb, fitsB (([] : List Cv) ++ L'.map (·.2)) (F, L0, R) r = fb := ⟨_, rfl⟩
            have HFB := Lib.hid hfb
            clear hfb
            have o0 := fun e => (HCC.out (over w1 e) (over_below w1 e)).1
            have o1 := fun e => (HCC.out (over w1 e) (over_below w1 e)).2.1
            have o2 := fun e => (HCC.out (over w1 e) (over_below w1 e)).2.2
            go_upto_region 12 with fail
            refine wp_region_hot0 (w := w1) (ws := w4) 16 2 [6, 8, 9, 10, 11, 12, 13, 14, 15] [] [(6, fun u W' => u = .int .i64 code ∧ Books W' g m p' r L'), (8, fun u W' => u = .bool false ∧ Books W' g m p' r L'), (9, fun u W' => u = .bool false ∧ Books W' g m p' r L'), (10, fun u W' => u = .pointer (some ⟨g, 0, none⟩) ∧ Books W' g m p' r L'), (11, fun u W' => u = .agg #[.int .u64 F, .int .u64 L0, .int .u64 R]), (12, fun u W' => u = .bool fb), (13, fun u W' => u = .pointer (some ⟨p', 0, none⟩) ∧ Books W' g m p' r L'), (14, fun u W' => u = .agg #[.int .u64 F, .int .u64 L0, .int .u64 R]), (15, fun u W' => u = .bool fb)] [] [6] [] rfl (by decide) (by decide) HBW4.out (J := fun W => BothJ W g m p' r L L' vi' vl' vg') (jend := 6) ⟨HBK4.out, HRB.out⟩ (fun W W' h hb => BothJ.later h hb) (.inr (by kernel_rfl)) (by kernel_rfl) (by kernel_rfl) (by kernel_rfl) (by kernel_rfl) (by kernel_rfl) (fun _ _ _ _ _ h => h) ⟨fun v W1 W2 h hb => ⟨h.1, h.2.later hb⟩, fun v W1 W2 h hb => ⟨h.1, h.2.later hb⟩, fun v W1 W2 h hb => ⟨h.1, h.2.later hb⟩, fun v W1 W2 h hb => ⟨h.1, h.2.later hb⟩, fun v W1 W2 h hb => h, fun v W1 W2 h hb => h, fun v W1 W2 h hb => ⟨h.1, h.2.later hb⟩, fun v W1 W2 h hb => h, fun v W1 W2 h hb => h, trivial⟩ ⟨fun h => by simp at h, fun h => by simp at h, fun h => by simp at h, fun h => by simp at h, fun h => by simp at h, fun h => by simp at h, fun h => by simp at h, fun h => by simp at h, fun h => by simp at h, trivial⟩ ?_
            intro LL hL
            have HL := Lib.hid hL
            clear hL
            simp only [List.take_succ_cons, List.take_zero, putL]
            iterate 16 (first | refine wpHead_skip (by decide) ?_ | (refine wpHead_step (by decide) (fun K hK => ?_); go_simp; refine hK _ ?_; clear hK K))
            refine wpHead_nil (HL.out _ ⟨?_, ?_, ?_, ?_, ?_, ?_, ?_, ?_, ?_, trivial⟩ ?_)
            · intro vs W2 hb2 hf hj
              clear HL
              change HStep _ _ _ _ (Act.put (Act.put (Act.put (Act.put (Act.put (Act.put (Act.put (Act.put (Act.put _ (some 57) (vs 6)) (some 59) (vs 8)) (some 60) (vs 9)) (some 61) (vs 10)) (some 62) (vs 11)) (some 63) (vs 12)) (some 64) (vs 13)) (some 65) (vs 14)) (some 66) (vs 15)) _ _
              refine hstep_yes (by kernel_rfl) ?_
              have hpu := put_any CF CL CR i g m r L [] _ W2 huc hiw (hj rfl).1 (by simp; omega)
              have hpu := hpu.mono (R' := fun e w' => ∃ v, e = .returned v ∧ Below w1.heap.size w1 w' ∧ v = .int .i64 code ∧ Books w' g m p' r L') fun e w' h => ⟨.int .i64 code, by rw [h.1, HCO.out], hb2.grown h.2.2 hb2.size (fun k e => by cases e; exact hm1), rfl, by rw [← HLP.out]; exact h.2.1, vi', vl', vg', rb_turned (hj rfl).2 (hj rfl).1.map h.2.2⟩
              unfold hotUpon
              go_simp
              try exact hpu
            · intro vs W2 hb2 hf _
              have hf := fits_cast (q := (vs 6 = .int .i64 code ∧ Books W2 g m p' r L') ∧ True) hf (by kernel_rfl)
              clear HL
              change TStep _ _ _ (Act.put (Act.put (Act.put (Act.put (Act.put (Act.put (Act.put (Act.put (Act.put _ (some 57) (vs 6)) (some 59) (vs 8)) (some 60) (vs 9)) (some 61) (vs 10)) (some 62) (vs 11)) (some 63) (vs 12)) (some 64) (vs 13)) (some 65) (vs 14)) (some 66) (vs 15)) _ _
              rw [hf.1.1]
              refine tstep_yes (by kernel_rfl) ?_
              go_simp
              first | exact Below.refl _ _ | exact ⟨Below.refl _ _, hf.1.2⟩
            · intro vs W2 hb2 hf _
              have hf := fits_cast (q := (vs 8 = .bool false ∧ Books W2 g m p' r L') ∧ True) hf (by kernel_rfl)
              clear HL
              change TStep _ _ _ (Act.put (Act.put (Act.put (Act.put (Act.put (Act.put (Act.put (Act.put (Act.put _ (some 57) (vs 6)) (some 59) (vs 8)) (some 60) (vs 9)) (some 61) (vs 10)) (some 62) (vs 11)) (some 63) (vs 12)) (some 64) (vs 13)) (some 65) (vs 14)) (some 66) (vs 15)) _ _
              rw [hf.1.1]
              refine tstep_yes (by kernel_rfl) ?_
              go_simp
              first | exact Below.refl _ _ | exact ⟨Below.refl _ _, hf.1.2⟩
            · intro vs W2 hb2 hf _
              have hf := fits_cast (q := (vs 9 = .bool false ∧ Books W2 g m p' r L') ∧ True) hf (by kernel_rfl)
              clear HL
              change TStep _ _ _ (Act.put (Act.put (Act.put (Act.put (Act.put (Act.put (Act.put (Act.put (Act.put _ (some 57) (vs 6)) (some 59) (vs 8)) (some 60) (vs 9)) (some 61) (vs 10)) (some 62) (vs 11)) (some 63) (vs 12)) (some 64) (vs 13)) (some 65) (vs 14)) (some 66) (vs 15)) _ _
              rw [hf.1.1]
              refine tstep_yes (by kernel_rfl) ?_
              go_simp
              first | exact Below.refl _ _ | exact ⟨Below.refl _ _, hf.1.2⟩
            · intro vs W2 hb2 hf _
              have hf := fits_cast (q := (vs 9 = .bool false ∧ Books W2 g m p' r L') ∧ True) hf (by kernel_rfl)
              clear HL
              change TStep _ _ _ (Act.put (Act.put (Act.put (Act.put (Act.put (Act.put (Act.put (Act.put (Act.put _ (some 57) (vs 6)) (some 59) (vs 8)) (some 60) (vs 9)) (some 61) (vs 10)) (some 62) (vs 11)) (some 63) (vs 12)) (some 64) (vs 13)) (some 65) (vs 14)) (some 66) (vs 15)) _ _
              rw [hf.1.1]
              refine tstep_yes (by kernel_rfl) ?_
              have hBx := H.out.2.1.below hb2 H.out.2.1.lt
              have c0 := hBx.cell 0; have c1 := hBx.cell 1; have c2 := hBx.cell 2
              simp only [List.getElem?_toArray, List.getElem?_cons_zero, List.getElem?_cons_succ] at c0 c1 c2
              clear hBx
              go_simp
              exact Below.refl _ _
            · intro vs W2 hb2 hf _
              have hf := fits_cast (q := (vs 9 = .bool false ∧ Books W2 g m p' r L') ∧ (vs 10 = .pointer (some ⟨g, 0, none⟩) ∧ Books W2 g m p' r L') ∧ (vs 11 = .agg #[.int .u64 F, .int .u64 L0, .int .u64 R]) ∧ True) hf (by kernel_rfl)
              clear HL
              change TStep _ _ _ (Act.put (Act.put (Act.put (Act.put (Act.put (Act.put (Act.put (Act.put (Act.put _ (some 57) (vs 6)) (some 59) (vs 8)) (some 60) (vs 9)) (some 61) (vs 10)) (some 62) (vs 11)) (some 63) (vs 12)) (some 64) (vs 13)) (some 65) (vs 14)) (some 66) (vs 15)) _ _
              rw [hf.1.1, hf.2.1.1, hf.2.2.1]
              refine tstep_yes (by kernel_rfl) ?_
              have hft := fits_any F L0 R g m r L' [] _ W2 hc hf.1.2.mine
              unfold FitsW at hft
              rw [HFB.out] at hft
              go_simp
              try exact hft
            · intro vs W2 hb2 hf _
              have hf := fits_cast (q := (vs 9 = .bool false ∧ Books W2 g m p' r L') ∧ True) hf (by kernel_rfl)
              clear HL
              change TStep _ _ _ (Act.put (Act.put (Act.put (Act.put (Act.put (Act.put (Act.put (Act.put (Act.put _ (some 57) (vs 6)) (some 59) (vs 8)) (some 60) (vs 9)) (some 61) (vs 10)) (some 62) (vs 11)) (some 63) (vs 12)) (some 64) (vs 13)) (some 65) (vs 14)) (some 66) (vs 15)) _ _
              rw [hf.1.1]
              refine tstep_yes (by kernel_rfl) ?_
              go_simp
              first | exact Below.refl _ _ | exact ⟨Below.refl _ _, hf.1.2⟩
            · intro vs W2 hb2 hf _
              have hf := fits_cast (q := (vs 9 = .bool false ∧ Books W2 g m p' r L') ∧ True) hf (by kernel_rfl)
              clear HL
              change TStep _ _ _ (Act.put (Act.put (Act.put (Act.put (Act.put (Act.put (Act.put (Act.put (Act.put _ (some 57) (vs 6)) (some 59) (vs 8)) (some 60) (vs 9)) (some 61) (vs 10)) (some 62) (vs 11)) (some 63) (vs 12)) (some 64) (vs 13)) (some 65) (vs 14)) (some 66) (vs 15)) _ _
              rw [hf.1.1]
              refine tstep_yes (by kernel_rfl) ?_
              have hBx := H.out.2.1.below hb2 H.out.2.1.lt
              have c0 := hBx.cell 0; have c1 := hBx.cell 1; have c2 := hBx.cell 2
              simp only [List.getElem?_toArray, List.getElem?_cons_zero, List.getElem?_cons_succ] at c0 c1 c2
              clear hBx
              go_simp
              exact Below.refl _ _
            · intro vs W2 hb2 hf _
              have hf := fits_cast (q := (vs 9 = .bool false ∧ Books W2 g m p' r L') ∧ (vs 13 = .pointer (some ⟨p', 0, none⟩) ∧ Books W2 g m p' r L') ∧ (vs 14 = .agg #[.int .u64 F, .int .u64 L0, .int .u64 R]) ∧ True) hf (by kernel_rfl)
              clear HL
              change TStep _ _ _ (Act.put (Act.put (Act.put (Act.put (Act.put (Act.put (Act.put (Act.put (Act.put _ (some 57) (vs 6)) (some 59) (vs 8)) (some 60) (vs 9)) (some 61) (vs 10)) (some 62) (vs 11)) (some 63) (vs 12)) (some 64) (vs 13)) (some 65) (vs 14)) (some 66) (vs 15)) _ _
              rw [hf.1.1, hf.2.1.1, hf.2.2.1]
              refine tstep_yes (by kernel_rfl) ?_
              refine Exists.elim hf.1.2.ref fun vi2 x2 => ?_
              refine Exists.elim x2 fun vl2 y2 => ?_
              refine Exists.elim y2 fun vg2 hrb2 => ?_
              have hft := rfits_any F L0 R p' r _ _ [] _ _ _ W2 hc hr hrb2 (by simp; omega)
              unfold FitsW at hft
              rw [HFB.out] at hft
              go_simp
              try exact hft
            · intro vs W2 hb2 hf
              have hf := fits_cast (q := (vs 6 = .int .i64 code ∧ Books W2 g m p' r L') ∧ (vs 8 = .bool false ∧ Books W2 g m p' r L') ∧ (vs 9 = .bool false ∧ Books W2 g m p' r L') ∧ (vs 10 = .pointer (some ⟨g, 0, none⟩) ∧ Books W2 g m p' r L') ∧ (vs 11 = .agg #[.int .u64 F, .int .u64 L0, .int .u64 R]) ∧ (vs 12 = .bool fb) ∧ (vs 13 = .pointer (some ⟨p', 0, none⟩) ∧ Books W2 g m p' r L') ∧ (vs 14 = .agg #[.int .u64 F, .int .u64 L0, .int .u64 R]) ∧ (vs 15 = .bool fb) ∧ True) hf (by kernel_rfl)
              clear HL
              change wpList _ _ _ _ (Act.put (Act.put (Act.put (Act.put (Act.put (Act.put (Act.put (Act.put (Act.put _ (some 57) (vs 6)) (some 59) (vs 8)) (some 60) (vs 9)) (some 61) (vs 10)) (some 62) (vs 11)) (some 63) (vs 12)) (some 64) (vs 13)) (some 65) (vs 14)) (some 66) (vs 15)) _
              rw [hf.1.1, hf.2.1.1, hf.2.2.1.1, hf.2.2.2.1.1, hf.2.2.2.2.1, hf.2.2.2.2.2.1, hf.2.2.2.2.2.2.1.1, hf.2.2.2.2.2.2.2.1, hf.2.2.2.2.2.2.2.2.1]
              have HBO5 := Lib.hid (And.intro hf.2.1.2 hb2)
              clear hf hb2 o0 o1 o2
              simp only [List.drop_succ_cons, List.drop_zero, List.take_succ_cons, List.take_zero]
              go_wp2_with fail
              go_roundw
              case measure => (simp [Go.RowKit.intOf]; try omega)
              case rel => exact ⟨i + 1, p', L', by go_num, rfl, by omega, by omega, HBO5.out.1, HBO5.out.2⟩
          · obtain rfl : i = l.length := by omega
            obtain ⟨fb, hfb⟩ : ∃ fb, fitsB (([] : List Cv) ++ L.map (·.2)) (F, L0, R) r = fb := ⟨_, rfl⟩
            have hf1 : ∀ W, Below wr.heap.size wr W → Calls Try.prog 11 #[.pointer (some ⟨g, 0, none⟩), .agg #[.int .u64 F, .int .u64 L0, .int .u64 R]] W fun e w' => e = .returned (.bool fb) ∧ Below W.heap.size W w' := fun W hW => by
              have h := fits_any F L0 R g m r L [] _ W hc (hbo.later hW).mine
              unfold FitsW at h
              rw [hfb] at h
              exact h
            have hf2 : ∀ W, Below wr.heap.size wr W → Calls Try.prog 12 #[.pointer (some ⟨p, 0, none⟩), .agg #[.int .u64 F, .int .u64 L0, .int .u64 R]] W fun e w' => e = .returned (.bool fb) ∧ Below W.heap.size W w' := fun W hW => by
              obtain ⟨vi2, vl2, vg2, hrb2⟩ := (hbo.later hW).ref
              have h := rfits_any F L0 R p r _ _ [] _ _ _ W hc hr hrb2 (by simp; omega)
              unfold FitsW at h
              rw [hfb] at h
              exact h
            have hf3 : ∀ W, Below wr.heap.size wr W → Calls Try.prog 11 #[.pointer (some ⟨g, 0, none⟩), .agg #[.int .u64 0, .int .u64 0, .int .u64 0]] W fun e w' => e = .returned (.bool true) ∧ Below W.heap.size W w' := fun W hW => by
              have h := fits_any 0 0 0 g m r L [] _ W ⟨⟨by decide, by decide⟩, ⟨by decide, by decide⟩, ⟨by decide, by decide⟩⟩ (hbo.later hW).mine
              unfold FitsW fitsB askB at h
              rw [show okC (0, 0, 0) = true by decide, decide_eq_true (rfl : ((0, 0, 0) : Cv) = (0, 0, 0))] at h
              exact h
            have hBx := H.out.2.1.below hbr H.out.2.1.lt
            have HF1 := Lib.hid hf1; have HF2 := Lib.hid hf2; have HF3 := Lib.hid hf3; have HBR := Lib.hid hbr
            have l0 := hBx.lt
            have o0 := fun e => (over_cell (w := wr) (e := e) (o := 0) l0).trans (hBx.cell 0)
            have o1 := fun e => (over_cell (w := wr) (e := e) (o := 1) l0).trans (hBx.cell 1)
            have o2 := fun e => (over_cell (w := wr) (e := e) (o := 2) l0).trans (hBx.cell 2)
            simp only [List.getElem?_toArray, List.getElem?_cons_zero, List.getElem?_cons_succ] at o0 o1 o2
            clear hf1 hf2 hf3 hfb hbo hBx hbr
            go_upto_region 14 with fail
            refine wp_region_mid (w := wr) 11 2 [] [] [] rfl (by kernel_rfl) (by kernel_rfl) (by kernel_rfl) (by kernel_rfl) (fun _ _ _ _ _ h => h) trivial ?_
            intro LL hL
            have HL := Lib.hid hL
            clear hL
            simp only [List.take_succ_cons, List.take_zero, putL]
            iterate 11 (first | refine wpHead_skip (by decide) ?_ | (refine wpHead_step (by decide) (fun K hK => ?_); go_simp; first | (refine hK _ ?_; clear hK K) | (apply Exists.intro; refine ⟨fun e => ?_, hK _ ?_⟩; (focus (first | (go_at_call 11; with_reducible exact HF1.out _ (over_below _ _)) | (go_at_call 12; with_reducible exact HF2.out _ (over_below _ _)) | (go_at_call 11; with_reducible exact HF3.out _ (over_below _ _)))); clear hK K)))
            refine wpHead_nil (HL.out _ trivial ?_)
            intro vs W4 hb4 _
            clear HL o0 o1 o2 l0
            simp only [putHd, List.drop_succ_cons, List.drop_zero, List.take_succ_cons, List.take_zero]
            have HB4 := Lib.hid (H.out.1.trans ((HBR.out.trans (hb4.mono HBR.out.size)).mono H.out.1.size))
            clear hb4
            go_wp2_with fail
            go_ret
            exact ⟨by first | rfl | simp, HB4.out⟩
  · clear hz
    have hgt : (20 : Int) < (len : Int) := by omega
    go_enter Try.func3, Try.ntmps3
    go_wp2_with fail
    go_ret
    exact ⟨rfl, hb0⟩
end Go.Proofs.Ythmhboagbeibdaa
