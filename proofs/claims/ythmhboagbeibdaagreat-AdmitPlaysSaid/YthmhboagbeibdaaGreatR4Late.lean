/-
  The document's first tick at which curves are late: ref04.Late; ref04.Kept.
-/
import Derived.Test.YthmhboagbeibdaaGreatR4Corners
import Derived.Test.YthmhboagbeibdaaGreatLateAll
namespace Go.Proofs.YthmhboagbeibdaaGreat
set_option linter.unusedVariables false
open Go.RowKit

/-- the corners and the far end in memory -/
structure R4E (W : World) (g m cap : Nat) (E : List Int) : Prop where
  len : E.length = m
  cell : ∀ (j : Nat) (x : Int), E[j]? = some x → W.cell? ⟨g, j, none⟩ = some (.int .u64 x)
  lt : g < W.heap.size
theorem R4E.later {W W' : World} {g m cap : Nat} {E : List Int} (h : R4E W g m cap E) (hb : Below W.heap.size W W') : R4E W' g m cap E :=
  ⟨h.len, fun j x hj => (hb.cell (p := ⟨g, j, none⟩) h.lt).trans (h.cell j x hj), Nat.lt_of_lt_of_le h.lt hb.size⟩

set_option maxRecDepth 100000 in
set_option maxHeartbeats 4000000 in
theorem r4lateall_any (v : Value) (l : List Cv) (r : Int) (w : World) (h : CvAt w v l) (hr : U r) :
    Calls Tryz.prog 48 #[v, .int .u64 r] w (LateW w l r) := by
  obtain ⟨a, cap0, rfl⟩ : ∃ a cap, v = .slice a l.length cap := by obtain ⟨_, _, a, cap, e, _⟩ := h; exact ⟨a, cap, e⟩
  have hlen := h.2.1
  have hcor := r4corners_any _ l w h
  have H := Lib.hid h
  clear h
  go_enter Tryz.func48, Tryz.ntmps48
  go_wp2_with fail
  refine hcor.mono ?_
  clear hcor
  rintro e w1 ⟨ve, ks, rfl, hIC, hrow, hb1⟩
  have hkl : ks.length ≤ 2000000 := by
    have hn : ks.Nodup := (List.pairwise_cons.1 hIC.up).2.imp fun {a b} h => by omega
    have hsub : ∀ x ∈ ks, x ∈ l.map (fun c => c.2.1) := fun x hx => by
      obtain ⟨c, hc, _, _, e⟩ := (hIC.mem x).1 hx
      exact List.mem_map.2 ⟨c, hc, e⟩
    have := List.Nodup.length_le_of_subset hn hsub
    rw [List.length_map] at this
    omega
  obtain ⟨g, cap, rfl, hg1, hg2⟩ := hrow.form (by omega)
  have hcap : ks.length + 1 ≤ cap := by
    rcases hrow.2 with ⟨h, _⟩ | ⟨g', cap', cur, e, q1, q2, q3, q4, q5⟩
    · cases h
    · cases e; omega
  have hal := hrow.alloc (.cells #[.int .u64 9223372036854775807] 22)
  have hab := (Below.refl w1.heap.size w1).alloc (Nat.le_refl _) (.cells #[.int .u64 9223372036854775807] 22)
  obtain ⟨g1, p1, w2, r1, own1, b1, hp1, gr1, lt1, at1⟩ := app_words 82 (base := w.heap.size) hal (by simp; have := hb1.size; omega) (some ⟨w1.heap.size, 0, none⟩) 1 1 [9223372036854775807] rfl (.inr ⟨_, 0, rfl, fun j y hj => by
    cases j with
    | zero => cases hj; exact (Blk.new w1 22 #[.int .u64 9223372036854775807]).cell 0
    | succ j => cases hj⟩) (by omega) ⟨_, cap, rfl, hcap, by simp; omega⟩
  obtain ⟨m, hm⟩ : ∃ m, ks.length + 1 + 1 = m := ⟨_, rfl⟩
  rw [hm] at r1 own1 hp1
  have hE : R4E w2 g1 m p1 (0 :: ks ++ [9223372036854775807]) := ⟨by simp; omega, fun j x hj => by
    have hj2 : j < m := by have := (List.getElem?_eq_some_iff.1 hj).1; simp at this; omega
    rw [own1.cellAt j (by omega), ← List.map_append, List.getElem?_map, hj]; rfl, lt1⟩
  have hch := hIC.chain
  have hle : ∀ x ∈ ks ++ [9223372036854775807], x ≤ 9223372036854775807 := fun x hx => by
    rcases List.mem_append.1 hx with hx | hx
    · have := hIC.le x (.tail _ hx); omega
    · simp at hx; omega
  have hb2 : Below w.heap.size w w2 := (hb1.trans (hab.mono hb1.size)).trans b1
  have HC := Lib.hid hch; have HE := Lib.hid hE; have HLE := Lib.hid hle; have HB2 := Lib.hid hb2; have HNZ := Lib.hid (late_zero (r := r) H.out.1.nn)
  have hcv := H.out.later hb2
  have HCV := Lib.hid hcv
  clear hal hab own1 b1 hp1 gr1 lt1 at1 hE hch hle hb2 hb1 hrow hIC hg1 hg2 hcap hcv
  have hm3 : m ≤ 3000000 := by omega
  go_wp2_with (at_builtin; refine wpList_append_runW rfl _ _ _ rfl _ _ _ rfl rfl r1 ?_; clear r1)
  go_loopw [4, 6, 7, 8, 9] (fun v4 v6 v7 v8 v9 W => ∃ (pre rest : List Int) (x : Int), v6 = .int .i64 ((pre.length : Int) + 1) ∧ 0 :: ks ++ [9223372036854775807] = pre ++ x :: rest ∧ Chain l x rest ∧ (∀ y ∈ rest, y ≤ 9223372036854775807) ∧ (rest = [] → x = 9223372036854775807) ∧ 0 ≤ x ∧ (∀ t, 0 ≤ t → t ≤ x → ¬ Lt l r t) ∧ Below w2.heap.size w2 W) (fun _ v6 _ _ _ _ => (m - Go.RowKit.intOf v6).toNat)
  case atStart => exact ⟨[], ks ++ [9223372036854775807], 0, by go_num, rfl, HC.out, HLE.out, by simp, Int.le_refl _, fun t t0 t1 => by (obtain rfl : t = 0 := by omega); exact HNZ.out, Below.refl _ _⟩
  case round =>
    obtain ⟨pre, rest, x, rfl, hsp, hch, hle, hlast, hx0, hno, hbr⟩ := hrel
    have hlen2 := congrArg List.length hsp
    have hEl := HE.out.len
    rw [hEl] at hlen2
    simp only [List.length_append, List.length_cons] at hlen2
    have hEr := HE.out.later hbr
    have hcvr := HCV.out.later hbr
    cases rest with
    | nil =>
      have hxe := hlast rfl
      simp at hlen2
      have hres : IsLate l r 9223372036854775808 := .inl ⟨rfl, fun t t0 t1 => hno t t0 (by omega)⟩
      have HRES := Lib.hid hres; have HBR := Lib.hid (HB2.out.trans (hbr.mono HB2.out.size))
      clear hres hbr hno hch hle hlast hsp hEl hEr hcvr hxe
      have hge : ¬ ((pre.length : Int) + 1 < (m : Int)) := by omega
      go_wp2
      go_ret
      exact ⟨_, rfl, HRES.out, HBR.out⟩
    | cons y rest =>
      simp only [List.length_cons] at hlen2
      have hlt : (pre.length : Int) + 1 < (m : Int) := by omega
      have hlt0 : (pre.length : Int) < (m : Int) := by omega
      clear hlen2
      have cx := hEr.cell pre.length x (by rw [hsp]; simp)
      have cy := hEr.cell (pre.length + 1) y (by rw [hsp]; simp)
      have hxy := hch.1
      have hy1 := hle y (.head _)
      have hla := r4late_any _ l r y wr hcvr hr (by unfold U; omega)
      have HBR := Lib.hid hbr; have HNO := Lib.hid hno; have HCH := Lib.hid hch; have HSP := Lib.hid hsp; have HER := Lib.hid hEr
      clear hbr hno hsp hEr hcvr hEl hch
      cases hdl : decide (Lt l r y)
      · rw [hdl] at hla
        have hnl : ¬ Lt l r y := of_decide_eq_false hdl
        have HNL := Lib.hid hnl; have HL2 := Lib.hid hle; have HLA := Lib.hid hlast
        clear hdl hnl hle hlast
        go_wp2_with fail
        refine hla.mono ?_
        clear hla
        rintro e w3 ⟨rfl, hb3⟩
        have HB3 := Lib.hid (HBR.out.trans (hb3.mono HBR.out.size))
        clear hb3 cx cy
        go_wp2_with fail
        go_roundw
        case measure => (simp [Go.RowKit.intOf]; try omega)
        case rel =>
          refine ⟨pre ++ [x], rest, y, by simp, by rw [HSP.out]; simp, HCH.out.2.2, fun z hz => HL2.out z (.tail _ hz), fun e => ?_, by omega, fun t t0 t1 => ?_, HB3.out⟩
          · subst e
            have := congrArg List.getLast? (show (0 :: ks) ++ [9223372036854775807] = pre ++ [x] ++ [y] by rw [HSP.out]; simp)
            rw [List.getLast?_concat, List.getLast?_concat] at this
            exact (Option.some.inj this).symm
          · by_cases c : t ≤ x
            · exact HNO.out t t0 c
            · exact late_no HCH.out.2.1 (HNO.out x hx0 (Int.le_refl _)) HNL.out (by omega) t1
      · rw [hdl] at hla
        have hyl : Lt l r y := of_decide_eq_true hdl
        have HYL := Lib.hid hyl
        clear hdl hyl hle hlast
        go_wp2_with fail
        refine hla.mono ?_
        clear hla
        rintro e w3 ⟨rfl, hb3⟩
        have HB3 := Lib.hid (HBR.out.trans (hb3.mono HBR.out.size))
        have cx3 := (HER.out.later hb3).cell pre.length x (by rw [HSP.out]; simp)
        have cy3 := (HER.out.later hb3).cell (pre.length + 1) y (by rw [HSP.out]; simp)
        clear hb3 cx cy
        go_wp2_with fail
        go_quiet (fail)
        go_wp2_with fail
        have HBQ := Lib.hid (below_drewN HB3.out nq)
        clear cx3 cy3
        go_loopw [7, 8, 9] (fun v7 v8 v9 W => ∃ lo hi : Int, v7 = .int .u64 lo ∧ v8 = .int .u64 hi ∧ x ≤ lo ∧ lo < hi ∧ hi ≤ y ∧ ¬ Lt l r lo ∧ Lt l r hi ∧ Below w2.heap.size w2 W) (fun v7 v8 _ _ => (Go.RowKit.intOf v8 - Go.RowKit.intOf v7).toNat)
        case atStart => exact ⟨x, y, rfl, rfl, Int.le_refl _, hxy, Int.le_refl _, HNO.out x hx0 (Int.le_refl _), HYL.out, HBQ.out⟩
        case round =>
          obtain ⟨lo, hi, rfl, rfl, h1, h2, h3, h4, h5, hbr⟩ := hrel
          have HBR2 := Lib.hid hbr; have H4 := Lib.hid h4; have H5 := Lib.hid h5
          clear hbr h4 h5
          by_cases hlh : lo + 1 < hi
          · have hmid : lo < lo + (hi - lo).tdiv 2 ∧ lo + (hi - lo).tdiv 2 < hi := by
              rw [Int.tdiv_eq_ediv_of_nonneg (by omega)]; omega
            obtain ⟨mid, hme⟩ : ∃ mid, lo + (hi - lo).tdiv 2 = mid := ⟨_, rfl⟩
            obtain ⟨hm1, hm2⟩ : lo < mid ∧ mid < hi := by rw [← hme]; exact hmid
            have hla := r4late_any _ l r mid wr (HCV.out.later HBR2.out) hr (by unfold U; omega)
            go_wp2_with fail
            refine hla.mono ?_
            clear hla
            rintro e w5 ⟨rfl, hb5⟩
            have HB5 := Lib.hid (HBR2.out.trans (hb5.mono HBR2.out.size))
            clear hb5
            by_cases hlm : Lt l r mid
            · have hdm : decide (Lt l r mid) = true := decide_eq_true hlm
              have HLM := Lib.hid hlm
              simp only [hdm]
              clear hlm hdm
              go_wp2_with fail
              go_roundw
              case measure => (simp [Go.RowKit.intOf]; try omega)
              case rel => exact ⟨lo, mid, rfl, rfl, h1, hm1, by omega, H4.out, HLM.out, HB5.out⟩
            · have hdm : decide (Lt l r mid) = false := decide_eq_false hlm
              have HLM := Lib.hid hlm
              simp only [hdm]
              clear hlm hdm
              go_wp2_with fail
              go_roundw
              case measure => (simp [Go.RowKit.intOf]; try omega)
              case rel => exact ⟨mid, hi, rfl, rfl, by omega, hm2, h3, HLM.out, H5.out, HB5.out⟩
          · have hhi : hi = lo + 1 := by omega
            have hres : IsLate l r hi := .inr ⟨by omega, by omega, H5.out, fun t t0 t1 => by
              by_cases c : t ≤ x
              · exact HNO.out t t0 c
              · exact fun hl => H4.out (late_up HCH.out.2.1 (HNO.out x hx0 (Int.le_refl _)) hl (by omega) (by omega) (by omega))⟩
            have HRES := Lib.hid hres; have HBR3 := Lib.hid (HB2.out.trans (HBR2.out.mono HB2.out.size))
            clear hres hhi HBR2 H4 H5
            go_wp2_with fail
            go_ret
            exact ⟨hi, rfl, HRES.out, HBR3.out⟩

theorem r4kept_any (v : Value) (l : List Cv) (r : Int) (w : World) (h : CvAt w v l) (hr : U r) :
    Calls Tryz.prog 42 #[v, .int .u64 r] w fun e w' => e = .returned (.bool (decide (Keep l r))) ∧ Below w.heap.size w w' := by
  have hl := r4lateall_any v l r w h hr
  clear h
  go_enter Tryz.func42, Tryz.ntmps42
  go_wp2_with fail
  refine hl.mono ?_
  clear hl
  rintro e w1 ⟨n, rfl, hn, hb⟩
  have hk : (n == 9223372036854775808) = decide (Keep l r) := by
    rw [Bool.eq_iff_iff]
    simpa using hn.keep
  have HB := Lib.hid hb; have HK := Lib.hid hk
  clear hb hn hk
  go_wp2_with fail
  go_ret
  exact ⟨by rw [HK.out]; rfl, HB.out⟩
end Go.Proofs.YthmhboagbeibdaaGreat
