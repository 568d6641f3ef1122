/-
  The book of curves: Put.
-/
import Derived.Test.YthmhboagbeibdaaGreatAdmDo
namespace Go.Proofs.YthmhboagbeibdaaGreat
set_option linter.unusedVariables false
open Go.RowKit Go.Maps Go.Sort
attribute [local go_sem ↓] Go.wp_at_zero Go.wp_at_succ
attribute [local go_sem] quietR quietAtR quietUponR midAt midUpon
attribute [local irreducible] TStep HStep

/-- what Put answers, what is live behind it -/
noncomputable def putC (L : List (Int × Cv)) (G : List Cv) (id : Int) (c : Cv) (r : Int) : Int :=
  if okC c = false then 30 else if (lookM L id).isSome then 80 else if askB (G ++ L.map (·.2)) c r = false then 170 else 0
noncomputable def putBk (L : List (Int × Cv)) (G : List Cv) (id : Int) (c : Cv) (r : Int) : List (Int × Cv) :=
  if putC L G id c r = 0 ∧ c ≠ (0, 0, 0) then putM L id c else L
def PutW (w : World) (g m : Nat) (r : Int) (L : List (Int × Cv)) (G : List Cv) (vg : Value) (id : Int) (c : Cv) (e : Ending) (w' : World) : Prop :=
  e = .returned (.int .i64 (putC L G id c r)) ∧ BkAt w' g m r (putBk L G id c r) G vg ∧ w.grownBy w' (some m)

theorem putM_mem2 {k : Int} {v : Cv} {M : List (Int × Cv)} (P : Int × Cv → Prop) (h : ∀ p ∈ M, P p) (hv : P (k, v)) : ∀ p ∈ putM M k v, P p := fun p hp => by
  rcases putM_mem hp with rfl | hp
  · exact hv
  · exact h p hp

theorem grown_any {w w' : World} {row : Option Nat} (h : Below w.heap.size w w') : w.grownBy w' row := ⟨h.os, h.tape, h.output, h.size, fun k hk _ => h.block k hk⟩
theorem BkAt.ne {w : World} {g m : Nat} {r : Int} {L : List (Int × Cv)} {G : List Cv} {vg : Value} (h : BkAt w g m r L G vg) : g ≠ m := by
  rintro rfl
  obtain ⟨es, clock, h1, _⟩ := h.map
  have h2 := h.blk
  unfold Blk at h2
  rw [h1] at h2
  cases h2
theorem cv_turned {w w' : World} {m : Nat} {v : Value} {G : List Cv} (h : CvAt w v G) (ht : w.mapTurned w' m) : CvAt w' v G := by
  have hg := ht.grown
  obtain ⟨es, clock, _, _, h1, _⟩ := ht
  obtain ⟨hu, hl, a, cap, e, h3⟩ := h
  refine ⟨hu, hl, a, cap, e, ?_⟩
  rcases h3 with h3 | ⟨b, off, e2, hbl, hcap, hc⟩
  · exact .inl h3
  · by_cases hn : G = []
    · exact .inl hn
    · refine .inr ⟨b, off, e2, Nat.lt_of_lt_of_le hbl hg.size, hcap, fun i c hi => ?_⟩
      have hbm : b ≠ m := by
        rintro rfl
        obtain ⟨c0, _⟩ := hc i c hi
        simp [World.cell?, h1] at c0
      obtain ⟨c0, c1, c2⟩ := hc i c hi
      have far := fun o => hg.cell_far ⟨b, o, none⟩ hbl (by simpa using hbm)
      exact ⟨(far _).trans c0, (far _).trans c1, (far _).trans c2⟩
theorem BkAt.store {w : World} {g m : Nat} {r : Int} {L : List (Int × Cv)} {G : List Cv} {vg : Value} {id : Int} {c : Cv} (h : BkAt w g m r L G vg) (hid : (Lit.int .i64 id).wf = true) (hc : U c.1 ∧ U c.2.1 ∧ U c.2.2) (hf : L.length + G.length < 100000) :
    ∃ w', (Instr.mapUpdate 53 (.map (some m)) (.int .i64 id) (cvV c)).run Tryz.prog w = .ok () w' ∧ BkAt w' g m r (putM L id c) G vg ∧ w.grownBy w' (some m) := by
  obtain ⟨w', hr, hM, ht⟩ := h.map.store (k := id) (E := 25) (T := 53) Tryz.underlying3 Tryz.underlying53 hid (by rw [mapV_length]; unfold maxLen; omega) (cvV c)
  rw [put_map] at hM
  have hl := put_length id c L
  refine ⟨w', hr, ⟨h.blk.grown ht.grown (by simp [h.ne]), hM, cv_turned h.gh ht, fun d hd => ?_, putM_mem2 _ h.wf hid, by omega, h.rate⟩, ht.grown⟩
  obtain ⟨p, hp, rfl⟩ := List.mem_map.1 hd
  exact putM_mem2 (fun p => U p.2.1 ∧ U p.2.2.1 ∧ U p.2.2.2) (fun p hp => h.u _ (List.mem_map.2 ⟨p, hp, rfl⟩)) hc p hp

set_option maxRecDepth 100000 in
set_option maxHeartbeats 4000000 in
theorem put_any (F0 L0 R0 id : Int) (g m : Nat) (r : Int) (L : List (Int × Cv)) (G : List Cv) (vg : Value) (w : World) (hc : U F0 ∧ U L0 ∧ U R0) (hid : (Lit.int .i64 id).wf = true) (h : BkAt w g m r L G vg) (hfew : L.length + G.length < 100000) :
    Calls Tryz.prog 7 #[.pointer (some ⟨g, 0, none⟩), .int .i64 id, .agg #[.int .u64 F0, .int .u64 L0, .int .u64 R0]] w (PutW w g m r L G vg id (F0, L0, R0)) := by
  have hmay := fun W => may_any F0 L0 R0 W hc.2.1.1
  rw [show mayB F0 L0 R0 = okC (F0, L0, R0) from rfl] at hmay
  have hb0 := (Below.refl w.heap.size w).alloc (Nat.le_refl _) (.cells #[.int .u64 F0, .int .u64 L0, .int .u64 R0] 25)
  have hB0 := Blk.new w 25 #[.int .u64 F0, .int .u64 L0, .int .u64 R0]
  have h0 := h.later hb0
  have hnone := fun W (hW : BkAt W g m r L G vg) => (bnone_no g r W (hW.blk.cell 0) hW.rate.1)
  have HM := Lib.hid hmay; have HN := Lib.hid hnone; have HK := Lib.hid h; have HB := Lib.hid (And.intro hb0 hB0)
  have hn1 := hnone _ h0
  clear hmay hnone h0 hb0 hB0 h
  go_enter Tryz.func7, Tryz.ntmps7
  go_wp2_with fail
  refine hn1.mono ?_
  clear hn1
  rintro e w1 ⟨rfl, rfl⟩
  have c0 := HB.out.2.cell 0; have c1 := HB.out.2.cell 1; have c2 := HB.out.2.cell 2
  go_wp2_with fail
  refine (HM.out _).mono ?_
  clear c0 c1 c2
  rintro e w2 ⟨rfl, hb2⟩
  have hbw2 := HB.out.1.trans (hb2.mono HB.out.1.size)
  have hB2 := HB.out.2.below hb2 HB.out.2.lt
  have HB2 := Lib.hid (And.intro hbw2 hB2)
  clear hb2 hbw2 hB2 HB
  cases ok : okC (F0, L0, R0)
  · have HOK := Lib.hid ok
    clear ok
    go_wp2_with fail
    go_ret
    have e1 : putC L G id (F0, L0, R0) r = 30 := by unfold putC; rw [if_pos HOK.out]
    exact ⟨by rw [e1]; rfl, by unfold putBk; rw [e1, if_neg (by simp)]; exact HK.out.later HB2.out.1, grown_any HB2.out.1⟩
  · have hk2 := HK.out.later HB2.out.1
    have hlook := hk2.map.look_ok (k := id) (E := 25) (T := 53) (z := cvV (0, 0, 0)) Tryz.underlying3 Tryz.underlying53 (by exact Tryz.zeroValue25 _) hid
    rw [look_map] at hlook
    have y0 := hk2.blk.cell 1
    simp only [List.getElem?_toArray, List.getElem?_cons_zero, List.getElem?_cons_succ] at y0
    have HOK := Lib.hid ok
    clear ok hk2
    cases hl : lookM L id with
    | some c' =>
      obtain ⟨CF, CL, CR⟩ := c'
      rw [hl] at hlook
      simp only [Option.map_some, Option.getD_some, Option.isSome_some, cvV] at hlook
      have HL := Lib.hid hl
      clear hl
      go_wp2_with fail
      go_ret
      have e1 : putC L G id (F0, L0, R0) r = 80 := by unfold putC; rw [if_neg (by rw [HOK.out]; simp), HL.out]; rfl
      have hbx := HB2.out.1.trans (((Below.refl w2.heap.size w2).alloc (Nat.le_refl _) (.cells #[.int .u64 CF, .int .u64 CL, .int .u64 CR] 25)).mono HB2.out.1.size)
      exact ⟨by rw [e1]; rfl, by unfold putBk; rw [e1, if_neg (by simp)]; exact HK.out.later hbx, grown_any hbx⟩
    | none =>
      rw [hl] at hlook
      simp only [Option.map_none, Option.getD_none, Option.isSome_none, cvV] at hlook
      have HL := Lib.hid hl
      clear hl
      go_upto_region 8 with fail
      clear hlook y0
      have hb3 := (Below.refl w2.heap.size w2).alloc (Nat.le_refl _) (.cells #[.int .u64 0, .int .u64 0, .int .u64 0] 25)
      have hbw3 := HB2.out.1.trans (hb3.mono HB2.out.1.size)
      have hB3 := HB2.out.2.below hb3 HB2.out.2.lt
      generalize w2.alloc (.cells #[.int .u64 0, .int .u64 0, .int .u64 0] 25) = w3 at hb3 hbw3 hB3 ⊢
      have hk3 := HK.out.later hbw3
      have H3 := Lib.hid (And.intro hbw3 (And.intro hB3 hk3))
      have l0 := hB3.lt
      have o0 := fun e => (over_cell (w := w3) (e := e) (o := 0) l0).trans (hB3.cell 0)
      have o1 := fun e => (over_cell (w := w3) (e := e) (o := 1) l0).trans (hB3.cell 1)
      have o2 := fun e => (over_cell (w := w3) (e := e) (o := 2) l0).trans (hB3.cell 2)
      simp only [List.getElem?_toArray, List.getElem?_cons_zero, List.getElem?_cons_succ] at o0 o1 o2
      clear hb3 hbw3 hB3 hk3 HB2
      refine wp_region_mid (w := w3) 4 2 [1, 3] [] [(1, fun u W' => ∃ B, u = .func (.func 38) #[] #[.pointer (some ⟨B, 0, none⟩), .pointer (some ⟨B + 1 + 1, 0, none⟩), .pointer (some ⟨B + 1, 0, none⟩)] ∧ Capt W' B g (.func (.func 20) #[] #[]) (.slice none 0 0)), (3, fun u W' => u = .bool (askB (G ++ L.map (·.2)) (F0, L0, R0) r))] rfl (by kernel_rfl) (by kernel_rfl) (by kernel_rfl) (by kernel_rfl) (fun _ _ _ _ _ h => h) ⟨fun v W1 W2 ⟨b, h1, h2⟩ hb => ⟨b, h1, h2.later hb⟩, fun v W1 W2 h hb => h, trivial⟩ ?_
      intro LL hL
      have HL2 := Lib.hid hL
      clear hL
      simp only [List.take_succ_cons, List.take_zero, putL]
      iterate 4 (first | refine wpHead_skip (by decide) ?_ | (refine wpHead_step (by decide) (fun K hK => ?_); go_simp; refine hK _ ?_; clear hK K))
      refine wpHead_nil (HL2.out _ ⟨?_, ?_, trivial⟩ ?_)
      · intro vs W2 hb2 hf
        clear hf HL2
        change midAt _ _ (Act.put (Act.put _ (some 29) (vs 1)) (some 31) (vs 3)) _ _
        have hft := (fitter_any g 20 0 0 #[] none W2).mono (R' := fun e w' => ∃ v, e = .returned v ∧ Below W2.heap.size W2 w' ∧ ∃ B, v = .func (.func 38) #[] #[.pointer (some ⟨B, 0, none⟩), .pointer (some ⟨B + 1 + 1, 0, none⟩), .pointer (some ⟨B + 1, 0, none⟩)] ∧ Capt w' B g (.func (.func 20) #[] #[]) (.slice none 0 0)) fun e w' ⟨B, he, h1, h2⟩ => ⟨_, he, h2, B, rfl, h1⟩
        go_simp
        try exact hft
      · intro vs W2 hb2 hf
        have hf := fits_cast (q := (∃ B, vs 1 = .func (.func 38) #[] #[.pointer (some ⟨B, 0, none⟩), .pointer (some ⟨B + 1 + 1, 0, none⟩), .pointer (some ⟨B + 1, 0, none⟩)] ∧ Capt W2 B g (.func (.func 20) #[] #[]) (.slice none 0 0)) ∧ True) hf (by kernel_rfl)
        clear HL2
        refine Exists.elim hf.1 fun B hB => ?_
        change midAt _ _ (Act.put (Act.put _ (some 29) (vs 1)) (some 31) (vs 3)) _ _
        rw [hB.1]
        have hak := asked_any F0 L0 R0 B g m r L G vg W2 hc (H3.out.2.2.later hb2) hB.2
        unfold AskW at hak
        go_simp
        try exact hak
      · intro vs W2 hb2 hf
        have hf := fits_cast (q := (∃ B, vs 1 = .func (.func 38) #[] #[.pointer (some ⟨B, 0, none⟩), .pointer (some ⟨B + 1 + 1, 0, none⟩), .pointer (some ⟨B + 1, 0, none⟩)] ∧ Capt W2 B g (.func (.func 20) #[] #[]) (.slice none 0 0)) ∧ (vs 3 = .bool (askB (G ++ L.map (·.2)) (F0, L0, R0) r)) ∧ True) hf (by kernel_rfl)
        clear HL2
        change wpList _ _ _ _ (Act.put (Act.put _ (some 29) (vs 1)) (some 31) (vs 3)) _
        rw [hf.2.1]
        have hb4 := H3.out.1.trans (hb2.mono H3.out.1.size)
        have hB4 := H3.out.2.1.below hb2 H3.out.2.1.lt
        have H4 := Lib.hid (And.intro hb4 (And.intro hB4 (HK.out.later hb4)))
        clear hf hb2 hb4 hB4 o0 o1 o2 l0 H3
        simp only [List.drop_succ_cons, List.drop_zero, List.take_succ_cons, List.take_zero]
        cases hkb : askB (G ++ L.map (·.2)) (F0, L0, R0) r
        · have HKB := Lib.hid hkb
          clear hkb
          go_wp2_with fail
          go_ret
          have e1 : putC L G id (F0, L0, R0) r = 170 := by unfold putC; rw [if_neg (by rw [HOK.out]; simp), HL.out, if_neg (by simp), if_pos HKB.out]
          exact ⟨by rw [e1]; rfl, by unfold putBk; rw [e1, if_neg (by simp)]; exact H4.out.2.2, grown_any H4.out.1⟩
        · have HKB := Lib.hid hkb
          clear hkb
          have e1 : putC L G id (F0, L0, R0) r = 0 := by unfold putC; rw [if_neg (by rw [HOK.out]; simp), HL.out, if_neg (by simp), if_neg (by rw [HKB.out]; simp)]
          have E1 := Lib.hid e1
          clear e1
          have c0 := H4.out.2.1.cell 0; have c1 := H4.out.2.1.cell 1; have c2 := H4.out.2.1.cell 2
          simp only [List.getElem?_toArray, List.getElem?_cons_zero, List.getElem?_cons_succ] at c0 c1 c2
          have hcn := cnone_any F0 L0 R0 W2
          go_wp2_with fail
          clear c0 c1 c2
          refine hcn.mono ?_
          clear hcn
          rintro e w5 ⟨rfl, hb5⟩
          have hb5' := H4.out.1.trans (hb5.mono H4.out.1.size)
          have hB5 := H4.out.2.1.below hb5 H4.out.2.1.lt
          by_cases hz : (F0, L0, R0) = ((0, 0, 0) : Cv)
          · have hd : decide ((F0, L0, R0) = ((0, 0, 0) : Cv)) = true := decide_eq_true hz
            have HB5 := Lib.hid hb5'; have HZ := Lib.hid hz
            simp only [hd]
            clear hd hz hb5 hb5' hB5 H4
            go_wp2_with fail
            go_ret
            exact ⟨by rw [E1.out]; rfl, by unfold putBk; rw [if_neg (by rw [HZ.out]; simp)]; exact HK.out.later HB5.out, grown_any HB5.out⟩
          · have hd : decide ((F0, L0, R0) = ((0, 0, 0) : Cv)) = false := decide_eq_false hz
            have HB5 := Lib.hid (And.intro hb5' hB5); have HZ := Lib.hid hz
            simp only [hd]
            have hk5 := HK.out.later hb5'
            have y1 := hk5.blk.cell 1
            simp only [List.getElem?_toArray, List.getElem?_cons_zero, List.getElem?_cons_succ] at y1
            have l5 := hB5.lt; have l6 := hk5.blk.lt
            have o0 := fun e => (over_cell (w := w5) (e := e) (o := 0) l5).trans (hB5.cell 0)
            have o1 := fun e => (over_cell (w := w5) (e := e) (o := 1) l5).trans (hB5.cell 1)
            have o2 := fun e => (over_cell (w := w5) (e := e) (o := 2) l5).trans (hB5.cell 2)
            have o3 := fun e => (over_cell (w := w5) (e := e) (o := 1) l6).trans y1
            simp only [List.getElem?_toArray, List.getElem?_cons_zero, List.getElem?_cons_succ] at o0 o1 o2
            clear hd hz hb5 hb5' hB5 H4 y1 hk5
            go_upto_region 11 with fail
            refine wp_region_mid (w := w5) 6 1 [] [] [] rfl (by kernel_rfl) (by kernel_rfl) (by kernel_rfl) (by kernel_rfl) (fun _ _ _ _ _ h => h) trivial ?_
            intro LL hL
            have HL2 := Lib.hid hL
            clear hL
            simp only [List.take_succ_cons, List.take_zero, putL]
            iterate 6 (first | refine wpHead_skip (by decide) ?_ | (refine wpHead_step (by decide) (fun K hK => ?_); go_simp; refine hK _ ?_; clear hK K))
            refine wpHead_nil (HL2.out _ trivial ?_)
            intro vs W6 hb6 _
            clear HL2 o0 o1 o2 o3
            simp only [putHd, List.drop_succ_cons, List.drop_zero, List.take_succ_cons, List.take_zero]
            have hb7 := HB5.out.1.trans (hb6.mono HB5.out.1.size)
            obtain ⟨w7, hr, hbk, hgr⟩ := (HK.out.later hb7).store (c := (F0, L0, R0)) hid hc hfew
            have H7 := Lib.hid (And.intro hb7 (And.intro hbk hgr))
            unfold cvV at hr
            clear hb6 hb7 hbk hgr
            go_wp2_with fail
            go_ret
            refine ⟨by rw [E1.out]; rfl, by unfold putBk; rw [if_pos ⟨E1.out, HZ.out⟩]; exact H7.out.2.1, ?_⟩
            exact (grown_any H7.out.1).trans H7.out.2.2
end Go.Proofs.YthmhboagbeibdaaGreat
