/- Lemmas of the claim, merged: AdmShow. No conditions beyond those that each states. -/
import Derived.Test.YthmhboagbeibdaaGreatPL3
/-
  The law's word: a book shows what the document's does.
-/
namespace Go.Proofs.YthmhboagbeibdaaGreat
set_option linter.unusedVariables false
open Go.RowKit Go.Maps Go.Sort
attribute [local go_sem ↓] Go.wp_at_zero Go.wp_at_succ
attribute [local go_sem] quietR quietAtR quietUponR midAt midUpon
attribute [local irreducible] TStep HStep

/-- both books -/
structure Bth (W : World) (g m p : Nat) (r : Int) (L : List (Int × Cv)) (G : List Cv) : Prop where
  mine : ∃ vg, BkAt W g m r L G vg
  doc : ∃ vi vl vg, RbAt W p r (L.map (·.1)) (L.map (·.2)) G vi vl vg
theorem Bth.later {W W' : World} {g m p : Nat} {r : Int} {L : List (Int × Cv)} {G : List Cv} (h : Bth W g m p r L G) (hb : Below W.heap.size W W') : Bth W' g m p r L G := by
  obtain ⟨⟨vg, h1⟩, vi, vl, vg', h2⟩ := h
  exact ⟨⟨vg, h1.later hb⟩, vi, vl, vg', h2.later hb⟩
/-- a block that may be written -/
def ThereAt (W : World) (a : Option Addr) (t : TypeId) (B n : Nat) : Prop := n = 0 ∨ ∃ g cur, a = some ⟨g, 0, none⟩ ∧ B ≤ g ∧ Blk W g t cur ∧ n ≤ cur.size
theorem ThereAt.later {W W' : World} {a : Option Addr} {t : TypeId} {B n : Nat} (h : ThereAt W a t B n) (hb : Below W.heap.size W W') : ThereAt W' a t B n := by
  rcases h with h | ⟨g, cur, e, h1, h2, h3⟩
  · exact .inl h
  · exact .inr ⟨g, cur, e, h1, h2.below hb h2.lt, h3⟩
theorem ThereAt.of {W : World} {base n sz : Nat} {t : TypeId} {a : Option Addr} {cp : Nat} {xs : List Value} (h : W.ownsRow base t sz (.slice a n cp) n xs) : ThereAt W a t base (n * sz) := by
  rcases h.2 with ⟨e, h0⟩ | ⟨g, c, cur, e, h1, h2, h3, h4, h5, _⟩
  · left
    simp only [Value.slice.injEq] at e
    rw [e.2.1]; simp
  · simp only [Value.slice.injEq] at e
    refine .inr ⟨g, cur, e.1, h1, h2, ?_⟩
    rw [h5]
    exact Nat.mul_le_mul_right _ h3
theorem ThereAt.set {W : World} {g : Nat} {t t' : TypeId} {a : Option Addr} {B n o : Nat} {v : Value} {cur : Array Value} (h : ThereAt W a t B n) (hB : Blk W g t' cur) (hs : (∃ b, a = some ⟨b, 0, none⟩ ∧ b = g ∧ t = t') ∨ t ≠ t') : ThereAt (W.setCell ⟨g, o, none⟩ v) a t B n := by
  rcases h with h | ⟨g', cur', e, h1, h2, h3⟩
  · exact .inl h
  · right
    by_cases hg : g' = g
    · subst hg
      exact ⟨g', _, e, h1, h2.set_ o v, by simpa using h3⟩
    · exact ⟨g', cur', e, h1, h2.grown (grown_setAt W g o v) (fun h => hg (by cases h; rfl)), h3⟩

set_option maxRecDepth 100000 in
set_option maxHeartbeats 8000000 in
theorem show_any (g m p : Nat) (r id F L0 R0 : Int) (L : List (Int × Cv)) (G : List Cv) (w : World) (h : Bth w g m p r L G) (hc : U F ∧ U L0 ∧ U R0) (hid : (Lit.int .i64 id).wf = true) (hfl : L.length + G.length < 99999) :
    Calls Tryz.prog 16 #[.pointer (some ⟨g, 0, none⟩), .pointer (some ⟨p, 0, none⟩), .int .i64 id, .agg #[.int .u64 F, .int .u64 L0, .int .u64 R0]] w fun e w' => e = .returned (.bool true) ∧ Below w.heap.size w w' := by
  have hb0 := (Below.refl w.heap.size w).alloc (Nat.le_refl _) (.cells #[.int .u64 F, .int .u64 L0, .int .u64 R0] 25)
  have hB0 := Blk.new w 25 #[.int .u64 F, .int .u64 L0, .int .u64 R0]
  obtain ⟨vg0, hm0⟩ := h.mine
  have hrise := hm0.rising
  have hrr := hm0.rate
  have hids := ids_any g m r L G vg0 _ (hm0.later hb0)
  have H := Lib.hid h; have HB0 := Lib.hid (And.intro hb0 hB0); have HRI := Lib.hid hrise; have HC := Lib.hid hc; have HWF := Lib.hid hm0.wf; have HUU := Lib.hid hm0.u; have HR := Lib.hid (show U r from ⟨by omega, by omega⟩)
  clear h hb0 hB0 hm0 hrise hrr
  go_enter Tryz.func16, Tryz.ntmps16
  go_wp2_with fail
  refine hids.mono ?_
  clear hids
  rintro e w2 ⟨v1, rfl, hoi, hb2⟩
  obtain ⟨ai, ci, rfl⟩ := owns_slice hoi
  rw [List.length_map] at hoi
  have hbw2 := HB0.out.1.trans (hb2.mono HB0.out.1.size)
  have hbb := H.out.later hbw2
  obtain ⟨vg2, hm2⟩ := hbb.mine
  have hgh := ghosts_any g m r L G vg2 w2 hm2
  have HI := Lib.hid (And.intro (owns_base hoi HB0.out.1.size) (And.intro hbw2 (HB0.out.2.below hb2 HB0.out.2.lt)))
  simp only [List.length_map]
  clear hoi hb2 hbw2 hbb hm2 HB0
  go_wp2_with fail
  refine hgh.mono ?_
  clear hgh
  rintro e w3 ⟨v2, rfl, hog, hb3⟩
  obtain ⟨ag, cg, rfl⟩ := owns_slice hog
  have hbw3 := HI.out.2.1.trans (hb3.mono HI.out.2.1.size)
  have hS : Bth w3 g m p r L G ∧ w3.ownsRow w.heap.size 3 1 (.slice ai L.length ci) L.length ((L.map (·.1)).map (Value.int .i64)) ∧ w3.ownsRow w.heap.size 25 3 (.slice ag G.length cg) G.length (cvCells G) ∧ Below w.heap.size w w3 ∧ Blk w3 w.heap.size 25 #[.int .u64 F, .int .u64 L0, .int .u64 R0] := ⟨H.out.later hbw3, owns_later HI.out.1 hb3, owns_base hog HI.out.2.1.size, hbw3, HI.out.2.2.below hb3 HI.out.2.2.lt⟩
  have HS := Lib.hid hS
  clear hog hb3 hbw3 hS HI
  obtain ⟨fb, hfb⟩ : ∃ b, fitsB (G ++ L.map (·.2)) (F, L0, R0) r = b := ⟨_, rfl⟩
  obtain ⟨⟨vg3, hm3⟩, vi, vl, vgd, hd3⟩ := HS.out.1
  have l1 := hd3.blk.lt
  have o0 := fun e => (over_cell (w := w3) (e := e) (o := 0) l1).trans (hd3.blk.cell 0)
  have o1 := fun e => (over_cell (w := w3) (e := e) (o := 1) l1).trans (hd3.blk.cell 1)
  have o3 := fun e => (over_cell (w := w3) (e := e) (o := 3) l1).trans (hd3.blk.cell 3)
  have l2 := HS.out.2.2.2.2.lt
  have b0 := fun e => (over_cell (w := w3) (e := e) (o := 0) l2).trans (HS.out.2.2.2.2.cell 0)
  have b1 := fun e => (over_cell (w := w3) (e := e) (o := 1) l2).trans (HS.out.2.2.2.2.cell 1)
  have b2 := fun e => (over_cell (w := w3) (e := e) (o := 2) l2).trans (HS.out.2.2.2.2.cell 2)
  simp only [List.getElem?_toArray, List.getElem?_cons_zero, List.getElem?_cons_succ] at o0 o1 o3 b0 b1 b2
  have hrt := fun e => rate_any g m r L G vg3 (over w3 e) (hm3.later (over_below w3 e))
  have hs1 := fun e => same16_any (.slice ai L.length ci) vi (L.map (·.1)) (over w3 e) (IntAt.of_owns (by rw [List.length_map]; exact owns_later HS.out.2.1 (over_below w3 e)) (by rw [List.length_map]; omega)) (hd3.ids.later (over_below w3 e))
  have hs2 := fun e => same17_any (.slice ag G.length cg) vgd G (over w3 e) (CvAt.of_owns (owns_later HS.out.2.2.1 (over_below w3 e)) hd3.gh.1 (by omega)) (hd3.gh.later (over_below w3 e))
  have hf1 := fun e => fits_any F L0 R0 g m r L G vg3 (over w3 e) hc (hm3.later (over_below w3 e))
  have hf2 := fun e => rfits_any F L0 R0 p r _ _ G vi vl vgd (over w3 e) hc HR.out (hd3.later (over_below w3 e)) (by rw [List.length_map]; omega)
  unfold FitsW at hf1 hf2
  rw [hfb] at hf1 hf2
  have HF := Lib.hid (And.intro hrt (And.intro hs1 (And.intro hs2 (And.intro hf1 hf2))))
  clear hrt hs1 hs2 hf1 hf2 hm3 hd3 l1 l2 hfb
  go_upto_region 2 with fail
  refine wp_region_over (by kernel_rfl) (by kernel_rfl) ?_
  repeat (first | go_big_quiet_skip | (go_big_quiet_want; go_big_quiet_op; first | go_big_quiet_on | (apply Exists.intro; refine ⟨fun e => ?_, ?_⟩; (focus (first | (go_at_call 31; with_reducible exact calls_over (HF.out.1 _)) | (go_at_call 32; with_reducible exact calls_over (HF.out.2.1 _)) | (go_at_call 33; with_reducible exact calls_over (HF.out.2.2.1 _)) | (go_at_call 34; with_reducible exact calls_over (HF.out.2.2.2.1 _)) | (go_at_call 35; with_reducible exact calls_over (HF.out.2.2.2.2 _)))); go_big_quiet_on)))
  refine wpQuiet_nil ?_
  rintro W3 ⟨e3, he3⟩
  have hb3 := over_below w3 e3
  rw [← he3] at hb3
  clear he3 o0 o1 o3 b0 b1 b2 HF
  have hT : Bth W3 g m p r L G ∧ ThereAt W3 ai 3 w.heap.size L.length ∧ ThereAt W3 ag 25 w.heap.size (G.length * 3) ∧ Below w.heap.size w W3 := ⟨HS.out.1.later hb3, by have := (ThereAt.of HS.out.2.1).later hb3; rwa [Nat.mul_one] at this, (ThereAt.of HS.out.2.2.1).later hb3, HS.out.2.2.2.1.trans (hb3.mono HS.out.2.2.2.1.size)⟩
  have HT := Lib.hid hT
  clear hb3 hT HS
  go_wp2_with fail
  go_loopw [11] (fun v11 W => ∃ i : Nat, v11 = .int .i64 i ∧ i ≤ L.length ∧ ThereAt W ai 3 w.heap.size L.length ∧ ThereAt W ag 25 w.heap.size (G.length * 3) ∧ Below w.heap.size w W) (fun v11 _ => (L.length - Go.RowKit.intOf v11).toNat)
  case atStart => exact ⟨0, rfl, Nat.zero_le _, HT.out.2.1, HT.out.2.2.1, HT.out.2.2.2⟩
  case round =>
    obtain ⟨i, rfl, hi, hti, htg, hbr⟩ := hrel
    by_cases hlt : i < L.length
    · obtain ⟨⟨k, CF, CL, CR⟩, hic⟩ : ∃ q, L[i]? = some q := ⟨_, List.getElem?_eq_getElem hlt⟩
      have hIk : (L.map (·.1))[i]? = some k := by rw [List.getElem?_map, hic]; rfl
      have hVk : (L.map (·.2))[i]? = some (CF, CL, CR) := by rw [List.getElem?_map, hic]; rfl
      obtain ⟨⟨vgm, hm⟩, vi', vl', vgd', hd⟩ := H.out.later hbr
      obtain ⟨ii, cc, hvi⟩ : ∃ a cap, vi' = .slice a L.length cap := by obtain ⟨_, a, cap, e, _⟩ := hd.ids; exact ⟨a, cap, by rw [e, List.length_map]⟩
      subst hvi
      obtain ⟨jj, dd, hvl⟩ : ∃ a cap, vl' = .slice a L.length cap := by obtain ⟨_, _, a, cap, e, _⟩ := hd.live; exact ⟨a, cap, by rw [e, List.length_map]⟩
      subst hvl
      obtain ⟨ib, io, hii, hibl, hibc⟩ : ∃ b off, ii = some ⟨b, off, none⟩ ∧ b < wr.heap.size ∧ wr.cell? ⟨b, off + i, none⟩ = some (.int .i64 k) := by
        obtain ⟨_, a', cap', e, h3⟩ := hd.ids
        simp only [Value.slice.injEq] at e
        obtain ⟨rfl, _, rfl⟩ := e
        rcases h3 with h3 | ⟨b, off, rfl, hl, _, hcc⟩
        · rw [h3] at hIk; simp at hIk
        · exact ⟨b, off, rfl, hl, hcc i k hIk⟩
      subst hii
      obtain ⟨lb, lo, hjj, hlbl, c0, c1, c2⟩ := cv_at' hd.live hVk
      subst hjj
      have y1 := hd.blk.cell 1
      simp only [List.getElem?_toArray, List.getElem?_cons_zero, List.getElem?_cons_succ] at y1
      dsimp only at c0 c1 c2
      have hkw := HWF.out _ (List.mem_of_getElem? hic)
      have hlv := live_any k g m r L G vgm wr hkw hm
      unfold LiveW at hlv
      rw [look_at HRI.out hic] at hlv
      simp only [Option.getD_some, Option.isSome_some, cvV] at hlv
      have HST := Lib.hid (And.intro hti (And.intro htg (And.intro hbr (And.intro hd (And.intro hlbl (And.intro c0 (And.intro c1 c2)))))))
      clear hti htg hbr hd hlbl c0 c1 c2 hm hIk hVk hic hkw
      go_wp2_with fail
      refine hlv.mono ?_
      clear hlv y1 hibc
      rintro e w5 ⟨rfl, hb5⟩
      have hbx := hb5.trans (((Below.refl w5.heap.size w5).alloc (Nat.le_refl _) (.cells #[.int .u64 CF, .int .u64 CL, .int .u64 CR] 25)).mono hb5.size)
      have hBX := Blk.new w5 25 #[.int .u64 CF, .int .u64 CL, .int .u64 CR]
      have hd6 := HST.out.2.2.2.1.later hbx
      have hti6 := HST.out.1.later hbx
      have htg6 := HST.out.2.1.later hbx
      have hbr6 := HST.out.2.2.1.trans (hbx.mono HST.out.2.2.1.size)
      go_upto_region 8 with fail
      generalize w5.alloc (.cells #[.int .u64 CF, .int .u64 CL, .int .u64 CR] 25) = w6 at hBX hbx hd6 hti6 htg6 hbr6 ⊢
      have m0 := hBX.lt
      have m1 := hd6.blk.lt
      have m2 : lb < w6.heap.size := Nat.lt_of_lt_of_le HST.out.2.2.2.2.1 hbx.size
      have p0 := fun e => (over_cell (w := w6) (e := e) (o := 0) m0).trans (hBX.cell 0)
      have p1 := fun e => (over_cell (w := w6) (e := e) (o := 1) m0).trans (hBX.cell 1)
      have p2 := fun e => (over_cell (w := w6) (e := e) (o := 2) m0).trans (hBX.cell 2)
      have o2 := fun e => (over_cell (w := w6) (e := e) (o := 2) m1).trans (hd6.blk.cell 2)
      have q0 := fun e => (over_cell (w := w6) (e := e) m2).trans ((hbx.cell (p := ⟨lb, _, none⟩) HST.out.2.2.2.2.1).trans HST.out.2.2.2.2.2.1)
      have q1 := fun e => (over_cell (w := w6) (e := e) m2).trans ((hbx.cell (p := ⟨lb, _, none⟩) HST.out.2.2.2.2.1).trans HST.out.2.2.2.2.2.2.1)
      have q2 := fun e => (over_cell (w := w6) (e := e) m2).trans ((hbx.cell (p := ⟨lb, _, none⟩) HST.out.2.2.2.2.1).trans HST.out.2.2.2.2.2.2.2)
      simp only [List.getElem?_toArray, List.getElem?_cons_zero, List.getElem?_cons_succ] at p0 p1 p2 o2
      have hne := curve_ne_no CF CL CR
      have H6 := Lib.hid (And.intro hti6 (And.intro htg6 hbr6))
      have hi0 : (0 : Int) ≤ (i : Int) := by omega
      clear hBX hbx hd6 hti6 htg6 hbr6 m0 m1 m2 hb5
      refine wp_region_over (by kernel_rfl) (by kernel_rfl) ?_
      repeat (first | go_big_quiet_skip | (go_big_quiet_want; go_big_quiet_op; go_big_quiet_on))
      refine wpQuiet_nil ?_
      rintro W7 ⟨e7, he7⟩
      have hb7 := over_below w6 e7
      rw [← he7] at hb7
      clear he7 p0 p1 p2 o2 q0 q1 q2 hne
      have hti7 := H6.out.1.later hb7
      have htg7 := H6.out.2.1.later hb7
      have hbr7 := H6.out.2.2.trans (hb7.mono H6.out.2.2.size)
      obtain ⟨gi, cur, rfl, hgb, hB, hsz⟩ := hti7.resolve_left (by omega)
      have z0 := hB.frozen i
      obtain ⟨u, hu⟩ : ∃ u, cur[i]? = some u := ⟨_, Array.getElem?_eq_getElem (by omega)⟩
      have z1 := (hB.cell i).trans hu
      have hF : ThereAt (W7.setCell ⟨gi, i, none⟩ (.int .i64 (-1))) (some ⟨gi, 0, none⟩) 3 w.heap.size L.length ∧ ThereAt (W7.setCell ⟨gi, i, none⟩ (.int .i64 (-1))) ag 25 w.heap.size (G.length * 3) ∧ Below w.heap.size w (W7.setCell ⟨gi, i, none⟩ (.int .i64 (-1))) := ⟨hti7.set hB (.inl ⟨gi, rfl, rfl, rfl⟩), htg7.set hB (.inr (by decide)), hbr7.setCell (p := ⟨gi, i, none⟩) hgb _⟩
      have HF := Lib.hid hF
      clear hti7 htg7 hbr7 hb7 hB hu hF hsz
      go_wp2_with fail
      go_roundw
      case measure => (simp [Go.RowKit.intOf]; try omega)
      case rel => exact ⟨i + 1, by go_num, by omega, HF.out.1, HF.out.2.1, HF.out.2.2⟩
    · obtain rfl : i = L.length := by omega
      have HE := Lib.hid (And.intro htg hbr)
      clear hti htg hbr
      go_wp2_with fail
      obtain ⟨wo, rfl⟩ : ∃ wo : World, wo = wr := ⟨_, rfl⟩
      go_loopw [14] (fun v14 W => ∃ i : Nat, v14 = .int .i64 i ∧ i ≤ G.length ∧ ThereAt W ag 25 w.heap.size (G.length * 3) ∧ Below w.heap.size w W) (fun v14 _ => (G.length - Go.RowKit.intOf v14).toNat)
      case atStart => exact ⟨0, rfl, Nat.zero_le _, HE.out.1, HE.out.2⟩
      case round =>
        obtain ⟨i, rfl, hi, htg, hbr⟩ := hrel
        by_cases hlt : i < G.length
        · obtain ⟨gi, cur, hag, hgb, hB, hsz⟩ := htg.resolve_left (by omega)
          subst hag
          have z0 := hB.frozen (i * 3 + 2)
          obtain ⟨u, hu⟩ : ∃ u, cur[i * 3 + 2]? = some u := ⟨_, Array.getElem?_eq_getElem (by omega)⟩
          have z1 := (hB.cell (i * 3 + 2)).trans hu
          have HF := Lib.hid (And.intro (htg.set (o := i * 3 + 2) (v := .int .u64 999) hB (.inl ⟨gi, rfl, rfl, rfl⟩)) (hbr.setCell (p := ⟨gi, i * 3 + 2, none⟩) hgb (.int .u64 999)))
          have hi0 : (0 : Int) ≤ (i : Int) := by omega
          clear htg hbr hB hu hsz
          go_wp2_with fail
          go_roundw
          case measure => (simp [Go.RowKit.intOf]; try omega)
          case rel => exact ⟨i + 1, by go_num, by omega, HF.out.1, HF.out.2⟩
        · obtain rfl : i = G.length := by omega
          obtain ⟨⟨vgm, hm⟩, vi', vl', vgd', hd⟩ := H.out.later hbr
          have hlv := live_any id g m r L G vgm wr hid hm
          have hfi := fun W hW => rfind_any id p r L G vi' vl' vgd' W HRI.out (hd.later hW)
          unfold LiveW at hlv
          unfold FindW at hfi
          obtain ⟨is_, his⟩ : ∃ b, (lookM L id).isSome = b := ⟨_, rfl⟩
          obtain ⟨⟨X, Y, Z⟩, hxyz⟩ : ∃ c, (lookM L id).getD (0, 0, 0) = c := ⟨_, rfl⟩
          rw [his, hxyz] at hlv hfi
          unfold cvV at hlv hfi
          dsimp only at hlv hfi
          have HBR := Lib.hid hbr; have HFI := Lib.hid hfi
          clear htg hbr hm hd his hxyz hfi
          go_wp2_with fail
          refine hlv.mono ?_
          clear hlv
          rintro e w8 ⟨rfl, hb8⟩
          have hb9 := (Below.refl w8.heap.size w8).alloc (Nat.le_refl _) (.cells #[.int .u64 X, .int .u64 Y, .int .u64 Z] 25)
          have hB9 := Blk.new w8 25 #[.int .u64 X, .int .u64 Y, .int .u64 Z]
          have hbx := hb8.trans (hb9.mono hb8.size)
          have hfi := HFI.out _ hbx
          have H9 := Lib.hid (And.intro hB9 (HBR.out.trans (hbx.mono HBR.out.size)))
          clear hb8 hb9 hB9 hbx HFI
          go_wp2_with fail
          refine hfi.mono ?_
          clear hfi
          rintro e w10 ⟨rfl, hb10⟩
          have hBa := (H9.out.1.below hb10 H9.out.1.lt).alloc (.cells #[.int .u64 X, .int .u64 Y, .int .u64 Z] 25)
          have hBb := Blk.new w10 25 #[.int .u64 X, .int .u64 Y, .int .u64 Z]
          have hbw := (H9.out.2.trans (hb10.mono H9.out.2.size))
          have hbz := hbw.alloc hbw.size (.cells #[.int .u64 X, .int .u64 Y, .int .u64 Z] 25)
          have a0 := hBa.cell 0; have a1 := hBa.cell 1; have a2 := hBa.cell 2
          have b0 := hBb.cell 0; have b1 := hBb.cell 1; have b2 := hBb.cell 2
          simp only [List.getElem?_toArray, List.getElem?_cons_zero, List.getElem?_cons_succ] at a0 a1 a2 b0 b1 b2
          have hey := curve_eq_yes X Y Z
          have HZ := Lib.hid hbz
          clear hBa hBb hbw hbz hb10
          go_wp2_with fail
          go_ret
          exact ⟨by cases is_ <;> rfl, HZ.out⟩
end Go.Proofs.YthmhboagbeibdaaGreat
