/-
  The document's book of curves: with.
-/
import Derived.Test.YthmhboagbeibdaaRbDo
namespace Go.Proofs.Ythmhboagbeibdaa
set_option linter.unusedVariables false
open Go.RowKit
attribute [local go_sem ↓] Go.wp_at_zero Go.wp_at_succ
attribute [local go_sem] quietR quietAtR quietUponR midAt midUpon
attribute [local irreducible] TStep HStep

def RwW (w : World) (r : Int) (I : List Int) (V G : List Cv) (id : Int) (c : Cv) (e : Ending) (w' : World) : Prop :=
  (c = (0, 0, 0) ∧ RcW w r I V G e w') ∨ (c ≠ (0, 0, 0) ∧ ∃ k, k ≤ I.length ∧ (∀ x ∈ I.take k, x < id) ∧ (∀ x, I[k]? = some x → id ≤ x) ∧ RcW w r (I.take k ++ [id] ++ I.drop k) (V.take k ++ [c] ++ V.drop k) G e w')

set_option maxRecDepth 100000 in
set_option maxHeartbeats 4000000 in
theorem rwith_any (F0 L0 R0 id : Int) (p : Nat) (r : Int) (I : List Int) (V G : List Cv) (vi vl vg : Value) (w : World) (hc : U F0 ∧ U L0 ∧ U R0) (h : RbAt w p r I V G vi vl vg) (hfl : V.length + G.length < 100000) :
    Calls Try.prog 27 #[.pointer (some ⟨p, 0, none⟩), .int .i64 id, .agg #[.int .u64 F0, .int .u64 L0, .int .u64 R0]] w (RwW w r I V G id (F0, L0, R0)) := by
  have hb0 := (Below.refl w.heap.size w).alloc (Nat.le_refl _) (.cells #[.int .u64 F0, .int .u64 L0, .int .u64 R0] 25)
  have hB0 := Blk.new w 25 #[.int .u64 F0, .int .u64 L0, .int .u64 R0]
  have hcp := rcopy_any p r I V G vi vl vg _ (h.later hb0)
  have H := Lib.hid h; have HB := Lib.hid (And.intro hb0 hB0)
  clear h hb0 hB0
  go_enter Try.func27, Try.ntmps27
  go_wp2_with fail
  refine hcp.mono ?_
  clear hcp
  rintro e w1 ⟨q, vi1, vl1, vg1, rfl, hq, hqs, hb1, hvg⟩
  have hbw1 := HB.out.1.trans (hb1.mono HB.out.1.size)
  have hB1 := HB.out.2.below hb1 HB.out.2.lt
  have c0 := hB1.cell 0; have c1 := hB1.cell 1; have c2 := hB1.cell 2
  simp only [List.getElem?_toArray, List.getElem?_cons_zero, List.getElem?_cons_succ] at c0 c1 c2
  have HQ := Lib.hid (And.intro hq (And.intro hqs (And.intro hbw1 (And.intro hB1 hvg))))
  clear hq hqs hb1 hbw1 hB1 hvg HB
  by_cases hz : (F0, L0, R0) = ((0, 0, 0) : Cv)
  · simp only [Prod.mk.injEq] at hz
    obtain ⟨rfl, rfl, rfl⟩ := hz
    go_wp2_with fail
    go_ret
    have hbq := HQ.out.1
    exact .inl ⟨rfl, q, vi1, vl1, vg1, rfl, HQ.out.1, by have := HQ.out.2.1; simp at this; omega, HQ.out.2.2.1, HQ.out.2.2.2.2⟩
  · go_upto_region 2 with fail
    go_cut [2, 13] from 11 to 12 (fun _ v wx => v = .bool false ∧ wx = w1)
    case first =>
      go_wp2_with fail
      all_goals first
        | (refine absurd ?_ hz; simp only [Prod.mk.injEq]; refine ⟨?_, ?_, ?_⟩ <;> assumption)
        | (go_meet; exact ⟨rfl, rfl⟩)
    case rest =>
      obtain ⟨rfl, rfl⟩ := hcut
      clear c0 c1 c2
      obtain ⟨w3, rfl⟩ : ∃ w', w' = wc := ⟨_, rfl⟩
      have hp3 := H.out.later HQ.out.2.2.1
      obtain ⟨ai, ci, rfl⟩ : ∃ a cap, vi = .slice a I.length cap := by obtain ⟨_, a, cap, e, _⟩ := hp3.ids; exact ⟨a, cap, e⟩
      obtain ⟨al, cl, rfl⟩ : ∃ a cap, vl = .slice a V.length cap := by obtain ⟨_, _, a, cap, e, _⟩ := hp3.live; exact ⟨a, cap, e⟩
      have hIl : I.length ≤ 100000 := by have h1 := hp3.same; have h2 := hp3.few; omega
      have HSAME := Lib.hid hp3.same; have hfew := hp3.few
      have HP3 := Lib.hid hp3; have HZ := Lib.hid hz
      have y1 := hp3.blk.cell 1
      simp only [List.getElem?_toArray, List.getElem?_cons_zero, List.getElem?_cons_succ] at y1
      clear hp3 hz
      go_wp2_with fail
      go_loopw [8] (fun v8 W => ∃ k : Nat, v8 = .int .i64 k ∧ k ≤ I.length ∧ W = w3 ∧ ∀ x ∈ I.take k, x < id) (fun v8 _ => (I.length - Go.RowKit.intOf v8).toNat)
      case atStart => exact ⟨0, rfl, Nat.zero_le _, rfl, fun x hx => by simp at hx⟩
      case round =>
        obtain ⟨k, rfl, hk, rfl, hlow⟩ := hrel
        have HLOW := Lib.hid hlow
        clear hlow
        by_cases hlt : k < I.length
        · obtain ⟨x, hx⟩ : ∃ x, I[k]? = some x := ⟨_, List.getElem?_eq_getElem hlt⟩
          obtain ⟨b, off, hab, hcx⟩ : ∃ b off, ai = some ⟨b, off, none⟩ ∧ wr.cell? ⟨b, off + k, none⟩ = some (.int .i64 x) := by
            obtain ⟨_, a', cap', e, h3⟩ := HP3.out.ids
            cases e
            rcases h3 with h3 | ⟨b, off, rfl, _, _, hcc⟩
            · rw [h3] at hlt; simp at hlt
            · exact ⟨b, off, rfl, hcc k x hx⟩
          subst hab
          have hT : I.take (k + 1) = I.take k ++ [x] := by rw [List.take_add_one, hx]; rfl
          have HT := Lib.hid hT; have HX := Lib.hid hx
          clear hT hx
          by_cases hxi : x < id
          · go_wp2_with fail
            go_roundw
            case measure => (simp [Go.RowKit.intOf]; try omega)
            case rel =>
              refine ⟨k + 1, by go_num, by omega, by first | rfl | trivial, fun z hz2 => ?_⟩
              rw [HT.out] at hz2
              rcases List.mem_append.1 hz2 with hz2 | hz2
              · exact HLOW.out z hz2
              · simp at hz2; omega
          · have hge : ∀ y, I[k]? = some y → id ≤ y := fun y hy => by rw [HX.out] at hy; cases hy; omega
            have HGE := Lib.hid hge
            clear hge
            go_upto_region 7 with fail
            clear y1
            obtain ⟨w0, rfl⟩ : ∃ w', w' = wr := ⟨_, rfl⟩
            have h0 := HP3.out
            have l0 := h0.blk.lt
            have o1 := fun e => (over_cell (w := w0) (e := e) (o := 1) l0).trans (h0.blk.cell 1)
            simp only [List.getElem?_toArray, List.getElem?_cons_zero, List.getElem?_cons_succ] at o1
            have hkc := int_cap h0.ids hk
            have hkV : k ≤ V.length := by have := HSAME.out; omega
            have hkl := cv_cap h0.live hkV
            have H0 := Lib.hid h0
            clear h0
            refine wp_region_hot (w := w0) 21 1 [1, 8, 10, 11, 18] [] [(1, fun u W' => ∃ g, u = .slice (some ⟨g, 0, none⟩) 0 0 ∧ W'.ownsRow w0.heap.size 3 1 u 0 []), (8, fun u W' => W'.ownsRow w0.heap.size 3 1 u (I.take k).length ((I.take k).map (Value.int .i64))), (10, fun u W' => ∃ B, u = .slice (some ⟨B, 0, none⟩) 1 1 ∧ Blk W' B 3 #[.int .i64 id]), (11, fun u W' => W'.ownsRow w0.heap.size 3 1 u (I.take k ++ [id]).length ((I.take k ++ [id]).map (Value.int .i64))), (18, fun u W' => W'.ownsRow w0.heap.size 3 1 u (I.take k ++ [id] ++ I.drop k).length ((I.take k ++ [id] ++ I.drop k).map (Value.int .i64)))] [(1, 8), (8, 11), (10, 11), (11, 18)] [11, 18] [] rfl (by decide) (by decide) (by kernel_rfl) (by kernel_rfl) (by kernel_rfl) (by kernel_rfl) (by kernel_rfl) (fun _ _ _ _ _ h => h) ⟨fun v W1 W2 ⟨b, h1, h2⟩ hb => ⟨b, h1, owns_later h2 hb⟩, fun v W1 W2 h hb => owns_later h hb, fun v W1 W2 ⟨b, h1, h2⟩ hb => ⟨b, h1, h2.below hb h2.lt⟩, fun v W1 W2 h hb => owns_later h hb, fun v W1 W2 h hb => owns_later h hb, trivial⟩ ⟨fun h => by simp at h, fun h => by simp at h, fun h => by simp at h, fun h => by simp at h, fun h => by simp at h, trivial⟩ ?_
            intro LL hL
            have HL := Lib.hid hL
            clear hL
            simp only [List.take_succ_cons, List.take_zero, putL]
            iterate 21 (first | refine wpHead_skip (by decide) ?_ | (refine wpHead_step (by decide) (fun K hK => ?_); go_simp; refine hK _ ?_; clear hK K))
            refine wpHead_nil (HL.out _ ⟨?_, ?_, ?_, ?_, ?_, trivial⟩ ?_)
            · intro vs W2 hb2 hf
              clear HL
              change TStep _ _ _ (Act.put (Act.put (Act.put (Act.put (Act.put _ (some 36) (vs 1)) (some 43) (vs 8)) (some 45) (vs 10)) (some 46) (vs 11)) (some 53) (vs 18)) _ _
              refine tstep_yes (by kernel_rfl) ?_
              go_simp
              exact ⟨(Below.refl _ _).alloc (Nat.le_refl _) _, World.ownsRow_made (base := w0.heap.size) (e := 3) (size := 1) W2 #[] 0 hb2.size (by decide) rfl⟩
            · intro vs W2 hb2 hf
              have hf := fits_cast (q := (∃ g, (vs 1) = .slice (some ⟨g, 0, none⟩) 0 0 ∧ W2.ownsRow w0.heap.size 3 1 (vs 1) 0 []) ∧ True) hf (by kernel_rfl)
              clear HL
              refine Exists.elim hf.1 fun B1 hB1 => ?_
              change TStep _ _ _ (Act.put (Act.put (Act.put (Act.put (Act.put _ (some 36) (vs 1)) (some 43) (vs 8)) (some 45) (vs 10)) (some 46) (vs 11)) (some 53) (vs 18)) _ _
              have hown := hB1.2
              rw [hB1.1] at hown
              have happ := app_ints0 59 (int_take (H0.out.ids.later hb2) hk) hown hb2.size
              refine Exists.elim happ fun v' ha1 => ?_
              refine Exists.elim ha1 fun w' ha2 => ?_
              rw [hB1.1]
              refine tstep_yes (by kernel_rfl) ?_
              exact midAt_app rfl (by kernel_rfl) (by kernel_rfl) ha2.1 ha2.2.2 ha2.2.1
            · intro vs W2 hb2 hf
              clear HL
              change TStep _ _ _ (Act.put (Act.put (Act.put (Act.put (Act.put _ (some 36) (vs 1)) (some 43) (vs 8)) (some 45) (vs 10)) (some 46) (vs 11)) (some 53) (vs 18)) _ _
              refine tstep_yes (by kernel_rfl) ?_
              go_simp
              exact ⟨(Below.refl _ _).alloc (Nat.le_refl _) _, Blk.new _ _ _⟩
            · intro vs W2 hb2 hf
              have hf := fits_cast (q := (W2.ownsRow w0.heap.size 3 1 (vs 8) (I.take k).length ((I.take k).map (Value.int .i64))) ∧ (∃ B, (vs 10) = .slice (some ⟨B, 0, none⟩) 1 1 ∧ Blk W2 B 3 #[.int .i64 id]) ∧ True) hf (by kernel_rfl)
              clear HL
              refine Exists.elim hf.2.1 fun B10 hB10 => ?_
              change HStep _ _ _ _ (Act.put (Act.put (Act.put (Act.put (Act.put _ (some 36) (vs 1)) (some 43) (vs 8)) (some 45) (vs 10)) (some 46) (vs 11)) (some 53) (vs 18)) _ _
              have happ := app_ints 59 (A := I.take k) (int_lit hB10.2) hf.1 hb2.size (by have h1 := HSAME.out; have h2 := hfew; simp; try omega)
              refine Exists.elim happ fun v' ha1 => ?_
              refine Exists.elim ha1 fun w' ha2 => ?_
              rw [hB10.1]
              refine hstep_yes (by kernel_rfl) ?_
              exact hotUpon_app rfl (by kernel_rfl) (by kernel_rfl) ha2.1 (hb2.trans ha2.2.2.1) (by simpa using ha2.2.1)
            · intro vs W2 hb2 hf
              have hf := fits_cast (q := (W2.ownsRow w0.heap.size 3 1 (vs 11) (I.take k ++ [id]).length ((I.take k ++ [id]).map (Value.int .i64))) ∧ True) hf (by kernel_rfl)
              clear HL
              change HStep _ _ _ _ (Act.put (Act.put (Act.put (Act.put (Act.put _ (some 36) (vs 1)) (some 43) (vs 8)) (some 45) (vs 10)) (some 46) (vs 11)) (some 53) (vs 18)) _ _
              have happ := app_ints 59 (A := I.take k ++ [id]) (int_dropS (H0.out.ids.later hb2) hk) hf.1 hb2.size (by have h1 := HSAME.out; have h2 := hfew; simp; try omega)
              refine Exists.elim happ fun v' ha1 => ?_
              refine Exists.elim ha1 fun w' ha2 => ?_
              refine hstep_yes (by kernel_rfl) ?_
              exact hotUpon_app rfl (by kernel_rfl) (by kernel_rfl) ha2.1 (hb2.trans ha2.2.2.1) (by simpa using ha2.2.1)
            · intro vs W2 hb2 hf
              have hf := fits_cast (q := (W2.ownsRow w0.heap.size 3 1 (vs 18) (I.take k ++ [id] ++ I.drop k).length ((I.take k ++ [id] ++ I.drop k).map (Value.int .i64))) ∧ True) hf (by kernel_rfl)
              clear HL
              change wpList _ _ _ _ (Act.put (Act.put (Act.put (Act.put (Act.put _ (some 36) (vs 1)) (some 43) (vs 8)) (some 45) (vs 10)) (some 46) (vs 11)) (some 53) (vs 18)) _
              refine Exists.elim (owns_slice hf.1) fun b1 x1 => ?_
              refine Exists.elim x1 fun d1 y1 => ?_
              refine Exists.elim (⟨_, rfl⟩ : ∃ n1, (I.take k ++ [id] ++ I.drop k).length = n1) fun n1 hn1 => ?_
              rw [hn1] at y1
              have hi := IntAt.of_owns hf.1 (by have h1 := HSAME.out; simp; omega)
              have hbi := fun b hb => (hf.1.lt b hb).1
              rw [y1] at hi hbi ⊢
              have hq2 := HQ.out.1.blk.below hb2 HQ.out.1.blk.lt
              have hg2 := HQ.out.1.gh.later hb2
              have hw2 := HQ.out.2.2.1.trans (hb2.mono HQ.out.2.2.1.size)
              have hc2 := HQ.out.2.2.2.1.below hb2 HQ.out.2.2.2.1.lt
              have z1 := hq2.frozen 1; have z2 := hq2.cell 1
              have HI := Lib.hid (And.intro hi (And.intro hbi (And.intro hq2 (And.intro hg2 (And.intro hw2 hc2))))); have HB2 := Lib.hid hb2
              clear hf hi hbi hq2 hg2 hw2 hc2 hb2 x1 y1 o1 l0
              simp only [List.drop_succ_cons, List.drop_zero, List.take_succ_cons, List.take_zero]
              go_upto_region 8 with fail
              clear z1 z2
              clear hn1 H0
              have hqw : w.heap.size < q := by have := HQ.out.2.1; simp at this; omega
              have hq0 : q < w0.heap.size := HQ.out.1.blk.lt
              have hw3 := HI.out.2.2.2.2.1.setCell (p := ⟨q, 1, none⟩) (Nat.le_of_lt hqw) (.slice b1 n1 d1)
              have hq3 := HI.out.2.2.1.set_ 1 (.slice b1 n1 d1)
              have hgs := grown_setAt W2 q 1 (.slice b1 n1 d1)
              have hi3 := HI.out.1.grown hgs (fun k e e2 => by cases e2; have := HI.out.2.1 _ e; omega)
              have hg3 := HI.out.2.2.2.1.grown hgs (fun k e e2 => by cases e2; have := HQ.out.2.2.2.2 _ e; omega)
              have hc3 := HI.out.2.2.2.2.2.far (p := ⟨q, 1, none⟩) (by show w.heap.size ≠ q; omega) (.slice b1 n1 d1)
              generalize W2.setCell ⟨q, 1, none⟩ (.slice b1 n1 d1) = w5 at hw3 hq3 hi3 hg3 hc3 ⊢
              have h8 := H.out.later hw3
              have l5 := h8.blk.lt; have l6 := hc3.lt
              have o2 := fun e => (over_cell (w := w5) (e := e) (o := 2) l5).trans (h8.blk.cell 2)
              have p0 := fun e => (over_cell (w := w5) (e := e) (o := 0) l6).trans (hc3.cell 0)
              have p1 := fun e => (over_cell (w := w5) (e := e) (o := 1) l6).trans (hc3.cell 1)
              have p2 := fun e => (over_cell (w := w5) (e := e) (o := 2) l6).trans (hc3.cell 2)
              simp only [List.getElem?_toArray, List.getElem?_cons_zero, List.getElem?_cons_succ] at o2 p0 p1 p2
              have H8 := Lib.hid h8; have H5 := Lib.hid (And.intro hw3 (And.intro hq3 (And.intro hi3 hg3)))
              have HBI := Lib.hid HI.out.2.1
              clear h8 hw3 hq3 hi3 hg3 hc3 hgs HI HB2 l5 l6
              refine wp_region_hot (w := w5) 21 1 [1, 8, 10, 11, 18] [] [(1, fun u W' => ∃ g, u = .slice (some ⟨g, 0, none⟩) 0 0 ∧ W'.ownsRow w5.heap.size 25 3 u 0 []), (8, fun u W' => W'.ownsRow w5.heap.size 25 3 u (V.take k).length (cvCells (V.take k))), (10, fun u W' => ∃ B, u = .slice (some ⟨B, 0, none⟩) 1 1 ∧ Blk W' B 25 #[.int .u64 F0, .int .u64 L0, .int .u64 R0]), (11, fun u W' => W'.ownsRow w5.heap.size 25 3 u (V.take k ++ [(F0, L0, R0)]).length (cvCells (V.take k ++ [(F0, L0, R0)]))), (18, fun u W' => W'.ownsRow w5.heap.size 25 3 u (V.take k ++ [(F0, L0, R0)] ++ V.drop k).length (cvCells (V.take k ++ [(F0, L0, R0)] ++ V.drop k)))] [(1, 8), (8, 11), (10, 11), (11, 18)] [11, 18] [] rfl (by decide) (by decide) (by kernel_rfl) (by kernel_rfl) (by kernel_rfl) (by kernel_rfl) (by kernel_rfl) (fun _ _ _ _ _ h => h) ⟨fun v W1 W2 ⟨b, h1, h2⟩ hb => ⟨b, h1, owns_later h2 hb⟩, fun v W1 W2 h hb => owns_later h hb, fun v W1 W2 ⟨b, h1, h2⟩ hb => ⟨b, h1, h2.below hb h2.lt⟩, fun v W1 W2 h hb => owns_later h hb, fun v W1 W2 h hb => owns_later h hb, trivial⟩ ⟨fun h => by simp at h, fun h => by simp at h, fun h => by simp at h, fun h => by simp at h, fun h => by simp at h, trivial⟩ ?_
              intro LL hL
              have HL := Lib.hid hL
              clear hL
              simp only [List.take_succ_cons, List.take_zero, putL]
              iterate 21 (first | refine wpHead_skip (by decide) ?_ | (refine wpHead_step (by decide) (fun K hK => ?_); go_simp; refine hK _ ?_; clear hK K))
              refine wpHead_nil (HL.out _ ⟨?_, ?_, ?_, ?_, ?_, trivial⟩ ?_)
              · intro vs W2 hb2 hf
                clear HL
                change TStep _ _ _ (Act.put (Act.put (Act.put (Act.put (Act.put _ (some 57) (vs 1)) (some 64) (vs 8)) (some 66) (vs 10)) (some 67) (vs 11)) (some 74) (vs 18)) _ _
                refine tstep_yes (by kernel_rfl) ?_
                go_simp
                exact ⟨(Below.refl _ _).alloc (Nat.le_refl _) _, World.ownsRow_made (base := w5.heap.size) (e := 25) (size := 3) W2 #[] 0 hb2.size (by decide) rfl⟩
              · intro vs W2 hb2 hf
                have hf := fits_cast (q := (∃ g, (vs 1) = .slice (some ⟨g, 0, none⟩) 0 0 ∧ W2.ownsRow w5.heap.size 25 3 (vs 1) 0 []) ∧ True) hf (by kernel_rfl)
                clear HL
                refine Exists.elim hf.1 fun B1 hB1 => ?_
                change TStep _ _ _ (Act.put (Act.put (Act.put (Act.put (Act.put _ (some 57) (vs 1)) (some 64) (vs 8)) (some 66) (vs 10)) (some 67) (vs 11)) (some 74) (vs 18)) _ _
                have hown := hB1.2
                rw [hB1.1] at hown
                have happ := app_all 23 (cv_take (H8.out.live.later hb2) hkV) hown hb2.size
                refine Exists.elim happ fun v' ha1 => ?_
                refine Exists.elim ha1 fun w' ha2 => ?_
                rw [hB1.1]
                refine tstep_yes (by kernel_rfl) ?_
                exact midAt_app rfl (by kernel_rfl) (by kernel_rfl) ha2.1 ha2.2.2 ha2.2.1
              · intro vs W2 hb2 hf
                clear HL
                change TStep _ _ _ (Act.put (Act.put (Act.put (Act.put (Act.put _ (some 57) (vs 1)) (some 64) (vs 8)) (some 66) (vs 10)) (some 67) (vs 11)) (some 74) (vs 18)) _ _
                refine tstep_yes (by kernel_rfl) ?_
                go_simp
                exact ⟨(Below.refl _ _).alloc (Nat.le_refl _) _, Blk.new _ _ _⟩
              · intro vs W2 hb2 hf
                have hf := fits_cast (q := (W2.ownsRow w5.heap.size 25 3 (vs 8) (V.take k).length (cvCells (V.take k))) ∧ (∃ B, (vs 10) = .slice (some ⟨B, 0, none⟩) 1 1 ∧ Blk W2 B 25 #[.int .u64 F0, .int .u64 L0, .int .u64 R0]) ∧ True) hf (by kernel_rfl)
                clear HL
                refine Exists.elim hf.2.1 fun B10 hB10 => ?_
                change HStep _ _ _ _ (Act.put (Act.put (Act.put (Act.put (Act.put _ (some 57) (vs 1)) (some 64) (vs 8)) (some 66) (vs 10)) (some 67) (vs 11)) (some 74) (vs 18)) _ _
                have happ := app_more 23 (A := V.take k) (cvat_lit (c := (F0, L0, R0)) hB10.2 hc) hf.1 hb2.size (by have h1 := HSAME.out; have h2 := hfew; simp; try omega)
                refine Exists.elim happ fun v' ha1 => ?_
                refine Exists.elim ha1 fun w' ha2 => ?_
                rw [hB10.1]
                refine hstep_yes (by kernel_rfl) ?_
                exact hotUpon_app rfl (by kernel_rfl) (by kernel_rfl) ha2.1 (hb2.trans ha2.2.2.1) (by simpa using ha2.2.1)
              · intro vs W2 hb2 hf
                have hf := fits_cast (q := (W2.ownsRow w5.heap.size 25 3 (vs 11) (V.take k ++ [(F0, L0, R0)]).length (cvCells (V.take k ++ [(F0, L0, R0)]))) ∧ True) hf (by kernel_rfl)
                clear HL
                change HStep _ _ _ _ (Act.put (Act.put (Act.put (Act.put (Act.put _ (some 57) (vs 1)) (some 64) (vs 8)) (some 66) (vs 10)) (some 67) (vs 11)) (some 74) (vs 18)) _ _
                have happ := app_more 23 (A := V.take k ++ [(F0, L0, R0)]) (cv_drop (H8.out.live.later hb2) hkV) hf.1 hb2.size (by have h1 := HSAME.out; have h2 := hfew; simp; try omega)
                refine Exists.elim happ fun v' ha1 => ?_
                refine Exists.elim ha1 fun w' ha2 => ?_
                refine hstep_yes (by kernel_rfl) ?_
                exact hotUpon_app rfl (by kernel_rfl) (by kernel_rfl) ha2.1 (hb2.trans ha2.2.2.1) (by simpa using ha2.2.1)
              · intro vs W2 hb2 hf
                have hf := fits_cast (q := (W2.ownsRow w5.heap.size 25 3 (vs 18) (V.take k ++ [(F0, L0, R0)] ++ V.drop k).length (cvCells (V.take k ++ [(F0, L0, R0)] ++ V.drop k))) ∧ True) hf (by kernel_rfl)
                clear HL
                change wpList _ _ _ _ (Act.put (Act.put (Act.put (Act.put (Act.put _ (some 57) (vs 1)) (some 64) (vs 8)) (some 66) (vs 10)) (some 67) (vs 11)) (some 74) (vs 18)) _
                refine Exists.elim (owns_slice hf.1) fun b2 x2 => ?_
                refine Exists.elim x2 fun d2 y2 => ?_
                refine Exists.elim (⟨_, rfl⟩ : ∃ n2, (V.take k ++ [(F0, L0, R0)] ++ V.drop k).length = n2) fun n2 hn2 => ?_
                have huv : UU (V.take k ++ [(F0, L0, R0)] ++ V.drop k) := fun d hd => by
                  rcases List.mem_append.1 hd with hd | hd
                  · rcases List.mem_append.1 hd with hd | hd
                    · exact H8.out.live.1 d (List.mem_of_mem_take hd)
                    · simp at hd; subst hd; exact hc
                  · exact H8.out.live.1 d (List.mem_of_mem_drop hd)
                have hv := CvAt.of_owns hf.1 huv (by simp; omega)
                have hbv := fun b hb => (hf.1.lt b hb).1
                rw [hn2] at y2
                rw [y2] at hv hbv ⊢
                have hq6 := H5.out.2.1.below hb2 H5.out.2.1.lt
                have hw6 := H5.out.1.trans (hb2.mono H5.out.1.size)
                have hi6 := H5.out.2.2.1.later hb2
                have hg6 := H5.out.2.2.2.later hb2
                have hq5 : q < w5.heap.size := H5.out.2.1.lt
                have z1 := hq6.frozen 2; have z2 := hq6.cell 2
                have HJ := Lib.hid (And.intro hv (And.intro hbv (And.intro hq6 (And.intro hw6 (And.intro hi6 hg6)))))
                clear hf huv hv hbv hq6 hw6 hi6 hg6 hb2 x2 y2 hn2 o2 p0 p1 p2 H8 H5
                have hgs := grown_setAt W2 q 2 (.slice b2 n2 d2)
                have hi7 := HJ.out.2.2.2.2.1.grown hgs (fun k e e2 => by cases e2; have := HBI.out _ e; omega)
                have hv7 := HJ.out.1.grown hgs (fun k e e2 => by cases e2; have := HJ.out.2.1 _ e; omega)
                have hg7 := HJ.out.2.2.2.2.2.grown hgs (fun k e e2 => by cases e2; have := HQ.out.2.2.2.2 _ e; omega)
                have hq7 := HJ.out.2.2.1.set_ 2 (.slice b2 n2 d2)
                have hw7 := HJ.out.2.2.2.1.setCell (p := ⟨q, 2, none⟩) (Nat.le_of_lt hqw) (.slice b2 n2 d2)
                have hfin : RwW w r I V G id (F0, L0, R0) (.returned (.pointer (some ⟨q, 0, none⟩))) (W2.setCell ⟨q, 2, none⟩ (.slice b2 n2 d2)) := .inr ⟨HZ.out, k, hk, HLOW.out, HGE.out, q, _, _, _, rfl, ⟨by simpa using hq7, hi7, hv7, hg7, by have := HSAME.out; simp; omega, by simp; omega⟩, Nat.le_of_lt hqw, hw7, HQ.out.2.2.2.2⟩
                have HF := Lib.hid hfin
                clear hgs hi7 hv7 hg7 hq7 hw7 hfin
                simp only [List.drop_succ_cons, List.drop_zero, List.take_succ_cons, List.take_zero]
                go_wp2_with fail
                all_goals go_ret
                all_goals exact HF.out
        · have hge : ∀ y, I[k]? = some y → id ≤ y := fun y hy => absurd (List.getElem?_eq_some_iff.1 hy).1 hlt
          have HGE := Lib.hid hge
          clear hge
          go_upto_region 7 with fail
          clear y1
          obtain ⟨w0, rfl⟩ : ∃ w', w' = wr := ⟨_, rfl⟩
          have h0 := HP3.out
          have l0 := h0.blk.lt
          have o1 := fun e => (over_cell (w := w0) (e := e) (o := 1) l0).trans (h0.blk.cell 1)
          simp only [List.getElem?_toArray, List.getElem?_cons_zero, List.getElem?_cons_succ] at o1
          have hkc := int_cap h0.ids hk
          have hkV : k ≤ V.length := by have := HSAME.out; omega
          have hkl := cv_cap h0.live hkV
          have H0 := Lib.hid h0
          clear h0
          refine wp_region_hot (w := w0) 21 1 [1, 8, 10, 11, 18] [] [(1, fun u W' => ∃ g, u = .slice (some ⟨g, 0, none⟩) 0 0 ∧ W'.ownsRow w0.heap.size 3 1 u 0 []), (8, fun u W' => W'.ownsRow w0.heap.size 3 1 u (I.take k).length ((I.take k).map (Value.int .i64))), (10, fun u W' => ∃ B, u = .slice (some ⟨B, 0, none⟩) 1 1 ∧ Blk W' B 3 #[.int .i64 id]), (11, fun u W' => W'.ownsRow w0.heap.size 3 1 u (I.take k ++ [id]).length ((I.take k ++ [id]).map (Value.int .i64))), (18, fun u W' => W'.ownsRow w0.heap.size 3 1 u (I.take k ++ [id] ++ I.drop k).length ((I.take k ++ [id] ++ I.drop k).map (Value.int .i64)))] [(1, 8), (8, 11), (10, 11), (11, 18)] [11, 18] [] rfl (by decide) (by decide) (by kernel_rfl) (by kernel_rfl) (by kernel_rfl) (by kernel_rfl) (by kernel_rfl) (fun _ _ _ _ _ h => h) ⟨fun v W1 W2 ⟨b, h1, h2⟩ hb => ⟨b, h1, owns_later h2 hb⟩, fun v W1 W2 h hb => owns_later h hb, fun v W1 W2 ⟨b, h1, h2⟩ hb => ⟨b, h1, h2.below hb h2.lt⟩, fun v W1 W2 h hb => owns_later h hb, fun v W1 W2 h hb => owns_later h hb, trivial⟩ ⟨fun h => by simp at h, fun h => by simp at h, fun h => by simp at h, fun h => by simp at h, fun h => by simp at h, trivial⟩ ?_
          intro LL hL
          have HL := Lib.hid hL
          clear hL
          simp only [List.take_succ_cons, List.take_zero, putL]
          iterate 21 (first | refine wpHead_skip (by decide) ?_ | (refine wpHead_step (by decide) (fun K hK => ?_); go_simp; refine hK _ ?_; clear hK K))
          refine wpHead_nil (HL.out _ ⟨?_, ?_, ?_, ?_, ?_, trivial⟩ ?_)
          · intro vs W2 hb2 hf
            clear HL
            change TStep _ _ _ (Act.put (Act.put (Act.put (Act.put (Act.put _ (some 36) (vs 1)) (some 43) (vs 8)) (some 45) (vs 10)) (some 46) (vs 11)) (some 53) (vs 18)) _ _
            refine tstep_yes (by kernel_rfl) ?_
            go_simp
            exact ⟨(Below.refl _ _).alloc (Nat.le_refl _) _, World.ownsRow_made (base := w0.heap.size) (e := 3) (size := 1) W2 #[] 0 hb2.size (by decide) rfl⟩
          · intro vs W2 hb2 hf
            have hf := fits_cast (q := (∃ g, (vs 1) = .slice (some ⟨g, 0, none⟩) 0 0 ∧ W2.ownsRow w0.heap.size 3 1 (vs 1) 0 []) ∧ True) hf (by kernel_rfl)
            clear HL
            refine Exists.elim hf.1 fun B1 hB1 => ?_
            change TStep _ _ _ (Act.put (Act.put (Act.put (Act.put (Act.put _ (some 36) (vs 1)) (some 43) (vs 8)) (some 45) (vs 10)) (some 46) (vs 11)) (some 53) (vs 18)) _ _
            have hown := hB1.2
            rw [hB1.1] at hown
            have happ := app_ints0 59 (int_take (H0.out.ids.later hb2) hk) hown hb2.size
            refine Exists.elim happ fun v' ha1 => ?_
            refine Exists.elim ha1 fun w' ha2 => ?_
            rw [hB1.1]
            refine tstep_yes (by kernel_rfl) ?_
            exact midAt_app rfl (by kernel_rfl) (by kernel_rfl) ha2.1 ha2.2.2 ha2.2.1
          · intro vs W2 hb2 hf
            clear HL
            change TStep _ _ _ (Act.put (Act.put (Act.put (Act.put (Act.put _ (some 36) (vs 1)) (some 43) (vs 8)) (some 45) (vs 10)) (some 46) (vs 11)) (some 53) (vs 18)) _ _
            refine tstep_yes (by kernel_rfl) ?_
            go_simp
            exact ⟨(Below.refl _ _).alloc (Nat.le_refl _) _, Blk.new _ _ _⟩
          · intro vs W2 hb2 hf
            have hf := fits_cast (q := (W2.ownsRow w0.heap.size 3 1 (vs 8) (I.take k).length ((I.take k).map (Value.int .i64))) ∧ (∃ B, (vs 10) = .slice (some ⟨B, 0, none⟩) 1 1 ∧ Blk W2 B 3 #[.int .i64 id]) ∧ True) hf (by kernel_rfl)
            clear HL
            refine Exists.elim hf.2.1 fun B10 hB10 => ?_
            change HStep _ _ _ _ (Act.put (Act.put (Act.put (Act.put (Act.put _ (some 36) (vs 1)) (some 43) (vs 8)) (some 45) (vs 10)) (some 46) (vs 11)) (some 53) (vs 18)) _ _
            have happ := app_ints 59 (A := I.take k) (int_lit hB10.2) hf.1 hb2.size (by have h1 := HSAME.out; have h2 := hfew; simp; try omega)
            refine Exists.elim happ fun v' ha1 => ?_
            refine Exists.elim ha1 fun w' ha2 => ?_
            rw [hB10.1]
            refine hstep_yes (by kernel_rfl) ?_
            exact hotUpon_app rfl (by kernel_rfl) (by kernel_rfl) ha2.1 (hb2.trans ha2.2.2.1) (by simpa using ha2.2.1)
          · intro vs W2 hb2 hf
            have hf := fits_cast (q := (W2.ownsRow w0.heap.size 3 1 (vs 11) (I.take k ++ [id]).length ((I.take k ++ [id]).map (Value.int .i64))) ∧ True) hf (by kernel_rfl)
            clear HL
            change HStep _ _ _ _ (Act.put (Act.put (Act.put (Act.put (Act.put _ (some 36) (vs 1)) (some 43) (vs 8)) (some 45) (vs 10)) (some 46) (vs 11)) (some 53) (vs 18)) _ _
            have happ := app_ints 59 (A := I.take k ++ [id]) (int_drop (H0.out.ids.later hb2) hk) hf.1 hb2.size (by have h1 := HSAME.out; have h2 := hfew; simp; try omega)
            refine Exists.elim happ fun v' ha1 => ?_
            refine Exists.elim ha1 fun w' ha2 => ?_
            refine hstep_yes (by kernel_rfl) ?_
            exact hotUpon_app rfl (by kernel_rfl) (by kernel_rfl) ha2.1 (hb2.trans ha2.2.2.1) (by simpa using ha2.2.1)
          · intro vs W2 hb2 hf
            have hf := fits_cast (q := (W2.ownsRow w0.heap.size 3 1 (vs 18) (I.take k ++ [id] ++ I.drop k).length ((I.take k ++ [id] ++ I.drop k).map (Value.int .i64))) ∧ True) hf (by kernel_rfl)
            clear HL
            change wpList _ _ _ _ (Act.put (Act.put (Act.put (Act.put (Act.put _ (some 36) (vs 1)) (some 43) (vs 8)) (some 45) (vs 10)) (some 46) (vs 11)) (some 53) (vs 18)) _
            refine Exists.elim (owns_slice hf.1) fun b1 x1 => ?_
            refine Exists.elim x1 fun d1 y1 => ?_
            refine Exists.elim (⟨_, rfl⟩ : ∃ n1, (I.take k ++ [id] ++ I.drop k).length = n1) fun n1 hn1 => ?_
            rw [hn1] at y1
            have hi := IntAt.of_owns hf.1 (by have h1 := HSAME.out; simp; omega)
            have hbi := fun b hb => (hf.1.lt b hb).1
            rw [y1] at hi hbi ⊢
            have hq2 := HQ.out.1.blk.below hb2 HQ.out.1.blk.lt
            have hg2 := HQ.out.1.gh.later hb2
            have hw2 := HQ.out.2.2.1.trans (hb2.mono HQ.out.2.2.1.size)
            have hc2 := HQ.out.2.2.2.1.below hb2 HQ.out.2.2.2.1.lt
            have z1 := hq2.frozen 1; have z2 := hq2.cell 1
            have HI := Lib.hid (And.intro hi (And.intro hbi (And.intro hq2 (And.intro hg2 (And.intro hw2 hc2))))); have HB2 := Lib.hid hb2
            clear hf hi hbi hq2 hg2 hw2 hc2 hb2 x1 y1 o1 l0
            simp only [List.drop_succ_cons, List.drop_zero, List.take_succ_cons, List.take_zero]
            go_upto_region 8 with fail
            clear z1 z2
            clear hn1 H0
            have hqw : w.heap.size < q := by have := HQ.out.2.1; simp at this; omega
            have hq0 : q < w0.heap.size := HQ.out.1.blk.lt
            have hw3 := HI.out.2.2.2.2.1.setCell (p := ⟨q, 1, none⟩) (Nat.le_of_lt hqw) (.slice b1 n1 d1)
            have hq3 := HI.out.2.2.1.set_ 1 (.slice b1 n1 d1)
            have hgs := grown_setAt W2 q 1 (.slice b1 n1 d1)
            have hi3 := HI.out.1.grown hgs (fun k e e2 => by cases e2; have := HI.out.2.1 _ e; omega)
            have hg3 := HI.out.2.2.2.1.grown hgs (fun k e e2 => by cases e2; have := HQ.out.2.2.2.2 _ e; omega)
            have hc3 := HI.out.2.2.2.2.2.far (p := ⟨q, 1, none⟩) (by show w.heap.size ≠ q; omega) (.slice b1 n1 d1)
            generalize W2.setCell ⟨q, 1, none⟩ (.slice b1 n1 d1) = w5 at hw3 hq3 hi3 hg3 hc3 ⊢
            have h8 := H.out.later hw3
            have l5 := h8.blk.lt; have l6 := hc3.lt
            have o2 := fun e => (over_cell (w := w5) (e := e) (o := 2) l5).trans (h8.blk.cell 2)
            have p0 := fun e => (over_cell (w := w5) (e := e) (o := 0) l6).trans (hc3.cell 0)
            have p1 := fun e => (over_cell (w := w5) (e := e) (o := 1) l6).trans (hc3.cell 1)
            have p2 := fun e => (over_cell (w := w5) (e := e) (o := 2) l6).trans (hc3.cell 2)
            simp only [List.getElem?_toArray, List.getElem?_cons_zero, List.getElem?_cons_succ] at o2 p0 p1 p2
            have H8 := Lib.hid h8; have H5 := Lib.hid (And.intro hw3 (And.intro hq3 (And.intro hi3 hg3)))
            have HBI := Lib.hid HI.out.2.1
            clear h8 hw3 hq3 hi3 hg3 hc3 hgs HI HB2 l5 l6
            refine wp_region_hot (w := w5) 21 1 [1, 8, 10, 11, 18] [] [(1, fun u W' => ∃ g, u = .slice (some ⟨g, 0, none⟩) 0 0 ∧ W'.ownsRow w5.heap.size 25 3 u 0 []), (8, fun u W' => W'.ownsRow w5.heap.size 25 3 u (V.take k).length (cvCells (V.take k))), (10, fun u W' => ∃ B, u = .slice (some ⟨B, 0, none⟩) 1 1 ∧ Blk W' B 25 #[.int .u64 F0, .int .u64 L0, .int .u64 R0]), (11, fun u W' => W'.ownsRow w5.heap.size 25 3 u (V.take k ++ [(F0, L0, R0)]).length (cvCells (V.take k ++ [(F0, L0, R0)]))), (18, fun u W' => W'.ownsRow w5.heap.size 25 3 u (V.take k ++ [(F0, L0, R0)] ++ V.drop k).length (cvCells (V.take k ++ [(F0, L0, R0)] ++ V.drop k)))] [(1, 8), (8, 11), (10, 11), (11, 18)] [11, 18] [] rfl (by decide) (by decide) (by kernel_rfl) (by kernel_rfl) (by kernel_rfl) (by kernel_rfl) (by kernel_rfl) (fun _ _ _ _ _ h => h) ⟨fun v W1 W2 ⟨b, h1, h2⟩ hb => ⟨b, h1, owns_later h2 hb⟩, fun v W1 W2 h hb => owns_later h hb, fun v W1 W2 ⟨b, h1, h2⟩ hb => ⟨b, h1, h2.below hb h2.lt⟩, fun v W1 W2 h hb => owns_later h hb, fun v W1 W2 h hb => owns_later h hb, trivial⟩ ⟨fun h => by simp at h, fun h => by simp at h, fun h => by simp at h, fun h => by simp at h, fun h => by simp at h, trivial⟩ ?_
            intro LL hL
            have HL := Lib.hid hL
            clear hL
            simp only [List.take_succ_cons, List.take_zero, putL]
            iterate 21 (first | refine wpHead_skip (by decide) ?_ | (refine wpHead_step (by decide) (fun K hK => ?_); go_simp; refine hK _ ?_; clear hK K))
            refine wpHead_nil (HL.out _ ⟨?_, ?_, ?_, ?_, ?_, trivial⟩ ?_)
            · intro vs W2 hb2 hf
              clear HL
              change TStep _ _ _ (Act.put (Act.put (Act.put (Act.put (Act.put _ (some 57) (vs 1)) (some 64) (vs 8)) (some 66) (vs 10)) (some 67) (vs 11)) (some 74) (vs 18)) _ _
              refine tstep_yes (by kernel_rfl) ?_
              go_simp
              exact ⟨(Below.refl _ _).alloc (Nat.le_refl _) _, World.ownsRow_made (base := w5.heap.size) (e := 25) (size := 3) W2 #[] 0 hb2.size (by decide) rfl⟩
            · intro vs W2 hb2 hf
              have hf := fits_cast (q := (∃ g, (vs 1) = .slice (some ⟨g, 0, none⟩) 0 0 ∧ W2.ownsRow w5.heap.size 25 3 (vs 1) 0 []) ∧ True) hf (by kernel_rfl)
              clear HL
              refine Exists.elim hf.1 fun B1 hB1 => ?_
              change TStep _ _ _ (Act.put (Act.put (Act.put (Act.put (Act.put _ (some 57) (vs 1)) (some 64) (vs 8)) (some 66) (vs 10)) (some 67) (vs 11)) (some 74) (vs 18)) _ _
              have hown := hB1.2
              rw [hB1.1] at hown
              have happ := app_all 23 (cv_take (H8.out.live.later hb2) hkV) hown hb2.size
              refine Exists.elim happ fun v' ha1 => ?_
              refine Exists.elim ha1 fun w' ha2 => ?_
              rw [hB1.1]
              refine tstep_yes (by kernel_rfl) ?_
              exact midAt_app rfl (by kernel_rfl) (by kernel_rfl) ha2.1 ha2.2.2 ha2.2.1
            · intro vs W2 hb2 hf
              clear HL
              change TStep _ _ _ (Act.put (Act.put (Act.put (Act.put (Act.put _ (some 57) (vs 1)) (some 64) (vs 8)) (some 66) (vs 10)) (some 67) (vs 11)) (some 74) (vs 18)) _ _
              refine tstep_yes (by kernel_rfl) ?_
              go_simp
              exact ⟨(Below.refl _ _).alloc (Nat.le_refl _) _, Blk.new _ _ _⟩
            · intro vs W2 hb2 hf
              have hf := fits_cast (q := (W2.ownsRow w5.heap.size 25 3 (vs 8) (V.take k).length (cvCells (V.take k))) ∧ (∃ B, (vs 10) = .slice (some ⟨B, 0, none⟩) 1 1 ∧ Blk W2 B 25 #[.int .u64 F0, .int .u64 L0, .int .u64 R0]) ∧ True) hf (by kernel_rfl)
              clear HL
              refine Exists.elim hf.2.1 fun B10 hB10 => ?_
              change HStep _ _ _ _ (Act.put (Act.put (Act.put (Act.put (Act.put _ (some 57) (vs 1)) (some 64) (vs 8)) (some 66) (vs 10)) (some 67) (vs 11)) (some 74) (vs 18)) _ _
              have happ := app_more 23 (A := V.take k) (cvat_lit (c := (F0, L0, R0)) hB10.2 hc) hf.1 hb2.size (by have h1 := HSAME.out; have h2 := hfew; simp; try omega)
              refine Exists.elim happ fun v' ha1 => ?_
              refine Exists.elim ha1 fun w' ha2 => ?_
              rw [hB10.1]
              refine hstep_yes (by kernel_rfl) ?_
              exact hotUpon_app rfl (by kernel_rfl) (by kernel_rfl) ha2.1 (hb2.trans ha2.2.2.1) (by simpa using ha2.2.1)
            · intro vs W2 hb2 hf
              have hf := fits_cast (q := (W2.ownsRow w5.heap.size 25 3 (vs 11) (V.take k ++ [(F0, L0, R0)]).length (cvCells (V.take k ++ [(F0, L0, R0)]))) ∧ True) hf (by kernel_rfl)
              clear HL
              change HStep _ _ _ _ (Act.put (Act.put (Act.put (Act.put (Act.put _ (some 57) (vs 1)) (some 64) (vs 8)) (some 66) (vs 10)) (some 67) (vs 11)) (some 74) (vs 18)) _ _
              have happ := app_more 23 (A := V.take k ++ [(F0, L0, R0)]) (cv_drop (H8.out.live.later hb2) hkV) hf.1 hb2.size (by have h1 := HSAME.out; have h2 := hfew; simp; try omega)
              refine Exists.elim happ fun v' ha1 => ?_
              refine Exists.elim ha1 fun w' ha2 => ?_
              refine hstep_yes (by kernel_rfl) ?_
              exact hotUpon_app rfl (by kernel_rfl) (by kernel_rfl) ha2.1 (hb2.trans ha2.2.2.1) (by simpa using ha2.2.1)
            · intro vs W2 hb2 hf
              have hf := fits_cast (q := (W2.ownsRow w5.heap.size 25 3 (vs 18) (V.take k ++ [(F0, L0, R0)] ++ V.drop k).length (cvCells (V.take k ++ [(F0, L0, R0)] ++ V.drop k))) ∧ True) hf (by kernel_rfl)
              clear HL
              change wpList _ _ _ _ (Act.put (Act.put (Act.put (Act.put (Act.put _ (some 57) (vs 1)) (some 64) (vs 8)) (some 66) (vs 10)) (some 67) (vs 11)) (some 74) (vs 18)) _
              refine Exists.elim (owns_slice hf.1) fun b2 x2 => ?_
              refine Exists.elim x2 fun d2 y2 => ?_
              refine Exists.elim (⟨_, rfl⟩ : ∃ n2, (V.take k ++ [(F0, L0, R0)] ++ V.drop k).length = n2) fun n2 hn2 => ?_
              have huv : UU (V.take k ++ [(F0, L0, R0)] ++ V.drop k) := fun d hd => by
                rcases List.mem_append.1 hd with hd | hd
                · rcases List.mem_append.1 hd with hd | hd
                  · exact H8.out.live.1 d (List.mem_of_mem_take hd)
                  · simp at hd; subst hd; exact hc
                · exact H8.out.live.1 d (List.mem_of_mem_drop hd)
              have hv := CvAt.of_owns hf.1 huv (by simp; omega)
              have hbv := fun b hb => (hf.1.lt b hb).1
              rw [hn2] at y2
              rw [y2] at hv hbv ⊢
              have hq6 := H5.out.2.1.below hb2 H5.out.2.1.lt
              have hw6 := H5.out.1.trans (hb2.mono H5.out.1.size)
              have hi6 := H5.out.2.2.1.later hb2
              have hg6 := H5.out.2.2.2.later hb2
              have hq5 : q < w5.heap.size := H5.out.2.1.lt
              have z1 := hq6.frozen 2; have z2 := hq6.cell 2
              have HJ := Lib.hid (And.intro hv (And.intro hbv (And.intro hq6 (And.intro hw6 (And.intro hi6 hg6)))))
              clear hf huv hv hbv hq6 hw6 hi6 hg6 hb2 x2 y2 hn2 o2 p0 p1 p2 H8 H5
              have hgs := grown_setAt W2 q 2 (.slice b2 n2 d2)
              have hi7 := HJ.out.2.2.2.2.1.grown hgs (fun k e e2 => by cases e2; have := HBI.out _ e; omega)
              have hv7 := HJ.out.1.grown hgs (fun k e e2 => by cases e2; have := HJ.out.2.1 _ e; omega)
              have hg7 := HJ.out.2.2.2.2.2.grown hgs (fun k e e2 => by cases e2; have := HQ.out.2.2.2.2 _ e; omega)
              have hq7 := HJ.out.2.2.1.set_ 2 (.slice b2 n2 d2)
              have hw7 := HJ.out.2.2.2.1.setCell (p := ⟨q, 2, none⟩) (Nat.le_of_lt hqw) (.slice b2 n2 d2)
              have hfin : RwW w r I V G id (F0, L0, R0) (.returned (.pointer (some ⟨q, 0, none⟩))) (W2.setCell ⟨q, 2, none⟩ (.slice b2 n2 d2)) := .inr ⟨HZ.out, k, hk, HLOW.out, HGE.out, q, _, _, _, rfl, ⟨by simpa using hq7, hi7, hv7, hg7, by have := HSAME.out; simp; omega, by simp; omega⟩, Nat.le_of_lt hqw, hw7, HQ.out.2.2.2.2⟩
              have HF := Lib.hid hfin
              clear hgs hi7 hv7 hg7 hq7 hw7 hfin
              simp only [List.drop_succ_cons, List.drop_zero, List.take_succ_cons, List.take_zero]
              go_wp2_with fail
              all_goals go_ret
              all_goals exact HF.out
end Go.Proofs.Ythmhboagbeibdaa
