/- Lemmas of the claim, merged: AdmSwap, RbDrop, RbSwap, AdmSame. No conditions beyond those that each states. -/
import Derived.Test.YthmhboagbeibdaaGreatPL2
/-
  The book of curves: Swap.
-/
namespace Go.Proofs.YthmhboagbeibdaaGreat
set_option linter.unusedVariables false
open Go.RowKit Go.Maps Go.Sort
attribute [local go_sem ↓] Go.wp_at_zero Go.wp_at_succ
attribute [local go_sem] quietR quietAtR quietUponR midAt midUpon
attribute [local irreducible] TStep HStep

/-- the closure: another one's Id -/
theorem same_id (x id : Int) (b : Nat) (W : World) (hb : W.cell? ⟨b, 0, none⟩ = some (.int .i64 id)) :
    Calls Tryz.prog 26 (#[.int .i64 x] ++ #[.pointer (some ⟨b, 0, none⟩)]) W fun e w' => e = .returned (.bool (x == id)) ∧ Below W.heap.size W w' := by
  go_enter Tryz.func26, Tryz.ntmps26
  go_wp2_with fail
  go_ret
  exact ⟨rfl, Below.refl _ _⟩

/-- the ghost that a swap makes, if it is to -/
def swapM (L : List (Int × Cv)) (id : Int) (keep : Bool) : List Cv := if keep then (lookM L id).toList else []
noncomputable def swapC (L : List (Int × Cv)) (G : List Cv) (id : Int) (c : Cv) (keep : Bool) (r : Int) : Int :=
  if okC c = false then 30 else if askB (G ++ swapM L id keep ++ liveBut L (fun x => x == id)) c r = false then 170 else 0
noncomputable def swapL (L : List (Int × Cv)) (G : List Cv) (id : Int) (c : Cv) (keep : Bool) (r : Int) : List (Int × Cv) :=
  if swapC L G id c keep r = 0 then (if c = (0, 0, 0) then delM L id else putM (delM L id) id c) else L
noncomputable def swapG (L : List (Int × Cv)) (G : List Cv) (id : Int) (c : Cv) (keep : Bool) (r : Int) : List Cv :=
  if swapC L G id c keep r = 0 then G ++ swapM L id keep else G
def SwapW (w : World) (base g m : Nat) (r : Int) (L : List (Int × Cv)) (G : List Cv) (vg : Value) (id : Int) (c : Cv) (keep : Bool) (e : Ending) (w' : World) : Prop :=
  e = .returned (.int .i64 (swapC L G id c keep r)) ∧ (∃ vg', BkO w' base g m r (swapL L G id c keep r) (swapG L G id c keep r) vg' ∧ (keep = false → vg' = vg) ∧ Fr w vg vg') ∧ Below base w w' ∧ Spare w w' g m vg
theorem swapM_len (L : List (Int × Cv)) (id : Int) (keep : Bool) : (swapM L id keep).length ≤ 1 := by
  unfold swapM
  cases keep
  · simp
  · cases h : lookM L id <;> simp

theorem BkO.far {w : World} {base g m : Nat} {r : Int} {L : List (Int × Cv)} {G : List Cv} {vg : Value} (h : BkO w base g m r L G vg) (k : Nat) (hk : w.heap.size ≤ k) : k ≠ g ∧ k ≠ m ∧ vg.ownBlock ≠ some k := by
  have h1 := h.bk.blk.lt
  refine ⟨by omega, ?_, ?_⟩
  · obtain ⟨es, clock, h2, _⟩ := h.bk.map
    have := (Array.getElem?_eq_some_iff.1 h2).1
    omega
  · rcases h.own.2 with ⟨rfl, _⟩ | ⟨g', c, cur, rfl, _, h3, _⟩
    · simp [Value.ownBlock]
    · have := (Array.getElem?_eq_some_iff.1 h3).1
      intro e
      simp [Value.ownBlock] at e
      omega

set_option maxRecDepth 100000 in
set_option maxHeartbeats 4000000 in
theorem swap_any (F0 L0 R0 id : Int) (keep : Bool) (base g m : Nat) (r : Int) (L : List (Int × Cv)) (G : List Cv) (vg : Value) (w : World) (hc : U F0 ∧ U L0 ∧ U R0) (hid : (Lit.int .i64 id).wf = true) (h : BkO w base g m r L G vg) (hfew : L.length + G.length < 99999) :
    Calls Tryz.prog 9 #[.pointer (some ⟨g, 0, none⟩), .int .i64 id, .agg #[.int .u64 F0, .int .u64 L0, .int .u64 R0], .bool keep] w (SwapW w base g m r L G vg id (F0, L0, R0) keep) := by
  have hmay := fun W => may_any F0 L0 R0 W hc.2.1.1
  rw [show mayB F0 L0 R0 = okC (F0, L0, R0) from rfl] at hmay
  have hb0 := ((Below.refl w.heap.size w).alloc (Nat.le_refl _) (.cells #[.int .i64 id] 3)).alloc (by simp) (.cells #[.int .u64 F0, .int .u64 L0, .int .u64 R0] 25)
  have hI := (Blk.new w 3 #[.int .i64 id]).alloc (.cells #[.int .u64 F0, .int .u64 L0, .int .u64 R0] 25)
  have hB := Blk.new (w.alloc (.cells #[.int .i64 id] 3)) 25 #[.int .u64 F0, .int .u64 L0, .int .u64 R0]
  rw [World.size_alloc] at hB
  have h0 := h.later hb0
  have hn := bnone_no g r _ (h0.bk.blk.cell 0) h.bk.rate.1
  have H := Lib.hid (And.intro h (And.intro hb0 (And.intro hI hB)))
  have HU := Lib.hid (fun (c : Cv) (hl : lookM L id = some c) => look_u h.bk.u hl)
  have c0 := hB.cell 0; have c1 := hB.cell 1; have c2 := hB.cell 2
  simp only [List.getElem?_toArray, List.getElem?_cons_zero, List.getElem?_cons_succ] at c0 c1 c2
  clear h hb0 hI hB h0
  go_enter Tryz.func9, Tryz.ntmps9
  go_wp2_with (go_at_call 17; refine hn.mono ?_; rintro e w1 ⟨rfl, rfl⟩)
  refine (hmay _).mono ?_
  clear c0 c1 c2 hn hmay
  rintro e w2 ⟨rfl, hb2⟩
  have hb02 : Below w.heap.size w w2 := H.out.2.1.trans (hb2.mono H.out.2.1.size)
  have hI2 := H.out.2.2.1.below hb2 H.out.2.2.1.lt
  have hB2 := H.out.2.2.2.below hb2 H.out.2.2.2.lt
  have h2 := H.out.1.later hb02
  have H2 := Lib.hid (And.intro h2 (And.intro hb02 (And.intro hI2 hB2)))
  clear hb02 hI2 hB2 hb2
  have hla : ∀ W, Below w2.heap.size w2 W → (Instr.lookup 53 (.map (some m)) (.int .i64 id) true).run Tryz.prog W = .ok (.tuple #[cvV ((lookM L id).getD (0, 0, 0)), .bool (lookM L id).isSome]) W ∧ W.cell? ⟨g, 1, none⟩ = some (.map (some m)) ∧ W.cell? ⟨w.heap.size, 0, none⟩ = some (.int .i64 id) := fun W hW => by
    have hk := h2.later hW
    have h1 := hk.bk.map.look_ok (k := id) (E := 25) (T := 53) (z := cvV (0, 0, 0)) Tryz.underlying3 Tryz.underlying53 (by exact Tryz.zeroValue25 _) hid
    have hval : (lookM (mapV cvV L) id).getD (cvV (0, 0, 0)) = cvV ((lookM L id).getD (0, 0, 0)) := by rw [look_map]; cases lookM L id <;> rfl
    have hsm : (lookM (mapV cvV L) id).isSome = (lookM L id).isSome := by rw [look_map]; cases lookM L id <;> rfl
    rw [hval, hsm] at h1
    exact ⟨h1, hk.bk.blk.cell 1, (H2.out.2.2.1.below hW H2.out.2.2.1.lt).cell 0⟩
  clear h2
  obtain ⟨bs, hbs⟩ : ∃ bs, (lookM L id).isSome = bs := ⟨_, rfl⟩
  obtain ⟨⟨CF, CL, CR⟩, hcc⟩ : ∃ c, (lookM L id).getD (0, 0, 0) = c := ⟨_, rfl⟩
  have hMs : swapM L id keep = if bs && keep then [((CF, CL, CR) : Cv)] else [] := by
    unfold swapM
    rw [← hbs, ← hcc]
    cases lookM L id <;> cases keep <;> rfl
  have hUc : bs = true → U CF ∧ U CL ∧ U CR := fun hs => by
    cases hl : lookM L id with
    | none => rw [hl] at hbs; rw [← hbs] at hs; cases hs
    | some c => rw [hl] at hcc; have := HU.out c hl; cases hcc; exact this
  rw [hbs, hcc] at hla
  have HMS := Lib.hid hMs; have HUC := Lib.hid hUc
  clear hbs hcc hMs hUc HU
  unfold cvV at hla
  dsimp only at hla
  obtain ⟨a1, a2, a3⟩ := hla w2.drew (Below.refl _ w2).drew
  obtain ⟨b1, b2, b3⟩ := hla (w2.alloc (.cells #[.int .u64 0, .int .u64 0, .int .u64 0] 25)).drew ((Below.refl _ w2).alloc (Nat.le_refl _) _).drew
  cases ok : okC (F0, L0, R0)
  · have e1 : swapC L G id (F0, L0, R0) keep r = 30 := by unfold swapC; rw [if_pos ok]
    have E1 := Lib.hid e1
    clear e1 ok a1 a2 a3 b1 b2 b3 hla
    go_wp2_with fail
    go_ret
    exact ⟨by rw [E1.out]; rfl, ⟨vg, by unfold swapL swapG; rw [if_neg (by rw [E1.out]; simp), if_neg (by rw [E1.out]; simp)]; exact H2.out.1, fun _ => rfl, Fr.refl _ _⟩, H2.out.2.1.mono H.out.1.base_le, Spare.below g m vg H2.out.2.1⟩
  · have HOK := Lib.hid ok
    clear ok hla
    go_upto_region 6 with fail
    go_cut [10, 11] from 19 to 27 (fun v10 v11 wx => v10 = .pointer (some ⟨w2.heap.size, 0, none⟩) ∧ v11 = .bool bs ∧ Blk wx w2.heap.size 25 #[.int .u64 CF, .int .u64 CL, .int .u64 CR] ∧ Below w2.heap.size w2 wx)
    case first =>
      go_region
      all_goals ((try go_wp2); go_meet; exact ⟨rfl, rfl, by first | exact Blk.new w2 _ _ | exact Blk.new w2.drew _ _, by first | exact ((Below.refl _ w2).alloc (Nat.le_refl _) _).drew | exact ((Below.refl _ w2).drew).alloc (Nat.le_refl _) _⟩)
    case rest =>
      obtain ⟨rfl, rfl, hO, hb3⟩ := hcut
      have hb03 := H2.out.2.1.trans (hb3.mono H2.out.2.1.size)
      have hI3 := H2.out.2.2.1.below hb3 H2.out.2.2.1.lt
      have hB3 := H2.out.2.2.2.below hb3 H2.out.2.2.2.lt
      have h3 := H2.out.1.later hb3
      have H3 := Lib.hid (And.intro h3 (And.intro hb03 (And.intro hI3 hB3)))
      have HO := Lib.hid hO
      clear hb3 hO a1 a2 a3 b1 b2 b3 hb03 hI3 hB3 h3 H2
      go_upto_region 7 with fail
      go_cut [31] from 28 to 31 (fun v31 wx => v31 = .bool (bs && keep) ∧ wx = wc)
      case first =>
        cases bs
        · go_wp2_with fail
          go_meet
          exact ⟨rfl, rfl⟩
        · go_wp2_with fail
          go_meet
          exact ⟨by simp, rfl⟩
      case rest =>
        obtain ⟨rfl, rfl⟩ := hcut
        have hbk : (bs && keep) = true → bs = true := fun h => by cases bs <;> simp_all
        have HBK := Lib.hid hbk
        clear hbk
        generalize (bs && keep) = bk at HMS HBK ⊢
        obtain ⟨M, hM⟩ : ∃ M : List Cv, (if bk then [((CF, CL, CR) : Cv)] else []) = M := ⟨_, rfl⟩
        have HM := Lib.hid hM
        clear hM
        go_upto_if 31 with fail
        go_cut [9] from 32 to 35 (fun v9 wx => ∃ am cn, v9 = .slice am M.length cn ∧ CvAt wx v9 M ∧ Below wc.heap.size wc wx)
        case first =>
          cases bk
          · go_wp2_with fail
            go_meet
            have hM := HM.out
            exact ⟨none, 0, by rw [← hM]; rfl, by rw [← hM]; exact ⟨fun c hc => by simp at hc, by simp, none, 0, rfl, .inl rfl⟩, Below.refl _ _⟩
          · have x0 := HO.out.cell 0; have x1 := HO.out.cell 1; have x2 := HO.out.cell 2
            simp only [List.getElem?_toArray, List.getElem?_cons_zero, List.getElem?_cons_succ] at x0 x1 x2
            have hbl := (Below.refl wc.heap.size wc).alloc (Nat.le_refl _) (.cells #[.int .u64 CF, .int .u64 CL, .int .u64 CR] 25)
            obtain ⟨v', w', hr, ho, hb, hg⟩ := app_more (A := []) (v := .slice none 0 0) (base := wc.heap.size) 45 (cvat_lit (c := (CF, CL, CR)) (Blk.new wc 25 #[.int .u64 CF, .int .u64 CL, .int .u64 CR]) (HUC.out (HBK.out (by first | rfl | trivial)))) (World.ownsRow_nil _ _ _ _) hbl.size (by simp)
            obtain ⟨av, cv, rfl⟩ := owns_slice ho
            have hM := HM.out
            simp only [if_true] at hM
            have HH := Lib.hid (And.intro ho (hbl.trans hb))
            clear hbl ho hb hg hM
            go_wp2_with (at_builtin; refine wpList_append_runW rfl _ _ _ rfl _ _ _ rfl rfl hr ?_; clear hr)
            go_meet
            have hM := HM.out
            simp only [if_true] at hM
            refine ⟨av, cv, by rw [← hM]; rfl, ?_, HH.out.2⟩
            rw [← hM]
            exact CvAt.of_owns HH.out.1 (fun d hd => by simp at hd; subst hd; exact HUC.out (HBK.out (by first | rfl | trivial))) (by simp)
        case rest =>
          obtain ⟨am, cn, rfl, hCM, hb4⟩ := hcut
          have hMM : swapM L id keep = M := by rw [HMS.out]; exact HM.out
          have hb04 := H3.out.2.1.trans (hb4.mono H3.out.2.1.size)
          have hI4 := H3.out.2.2.1.below hb4 H3.out.2.2.1.lt
          have hB4 := H3.out.2.2.2.below hb4 H3.out.2.2.2.lt
          have h4 := H3.out.1.later hb4
          have l0 := hB4.lt
          have o0 := fun e => (over_cell (w := wc) (e := e) (o := 0) l0).trans (hB4.cell 0)
          have o1 := fun e => (over_cell (w := wc) (e := e) (o := 1) l0).trans (hB4.cell 1)
          have o2 := fun e => (over_cell (w := wc) (e := e) (o := 2) l0).trans (hB4.cell 2)
          simp only [List.getElem?_toArray, List.getElem?_cons_zero, List.getElem?_cons_succ] at o0 o1 o2
          have hMl : M.length ≤ 100000 := by have := swapM_len L id keep; rw [hMM] at this; omega
          have H4 := Lib.hid (And.intro h4 (And.intro hb04 (And.intro hI4 (And.intro hB4 hCM))))
          have HMM := Lib.hid hMM; have HML := Lib.hid hMl
          clear hb04 hI4 hB4 h4 hCM hb4 hMM hMl H3 HM HMS HUC HBK HO
          go_upto_region 9 with fail
          refine wp_region_midg (w := wc) 6 1 [3, 5] [] [(3, fun u W' => ∃ B, u = .func (.func 38) #[] #[.pointer (some ⟨B, 0, none⟩), .pointer (some ⟨B + 1 + 1, 0, none⟩), .pointer (some ⟨B + 1, 0, none⟩)] ∧ Capt W' B g (.func (.func 26) #[] #[.pointer (some ⟨w.heap.size, 0, none⟩)]) (.slice am M.length cn)), (5, fun u W' => u = .bool (askB (G ++ M ++ liveBut L (fun x => x == id)) (F0, L0, R0) r))] rfl (by kernel_rfl) (by kernel_rfl) (by kernel_rfl) (by kernel_rfl) (fun _ _ _ _ _ h => h) ⟨fun v W1 W2 ⟨b, h1, h2⟩ hb => ⟨b, h1, h2.later hb⟩, fun v W1 W2 h hb => h, trivial⟩ ?_
          intro LL hL
          have HL2 := Lib.hid hL
          clear hL
          simp only [List.take_succ_cons, List.take_zero, putL]
          iterate 6 (first | refine wpHead_skip (by decide) ?_ | (refine wpHead_step (by decide) (fun K hK => ?_); go_simp; refine hK _ ?_; clear hK K))
          refine wpHead_nil (HL2.out _ ⟨?_, ?_, trivial⟩ ?_)
          · intro vs W2 hb2 hf
            clear hf HL2
            change TStep _ _ _ (Act.put (Act.put _ (some 39) (vs 3)) (some 41) (vs 5)) _ _
            refine tstep_yes (by kernel_rfl) ?_
            have hft := (fitter_any g 26 M.length cn #[.pointer (some ⟨w.heap.size, 0, none⟩)] am W2).mono (R' := fun e w' => ∃ v, e = .returned v ∧ Below W2.heap.size W2 w' ∧ ∃ B, v = .func (.func 38) #[] #[.pointer (some ⟨B, 0, none⟩), .pointer (some ⟨B + 1 + 1, 0, none⟩), .pointer (some ⟨B + 1, 0, none⟩)] ∧ Capt w' B g (.func (.func 26) #[] #[.pointer (some ⟨w.heap.size, 0, none⟩)]) (.slice am M.length cn)) fun e w' ⟨B, he, h1, h2⟩ => ⟨_, he, h2, B, rfl, h1⟩
            go_simp
            try exact hft
          · intro vs W2 hb2 hf
            have hf := fits_cast (q := (∃ B, vs 3 = .func (.func 38) #[] #[.pointer (some ⟨B, 0, none⟩), .pointer (some ⟨B + 1 + 1, 0, none⟩), .pointer (some ⟨B + 1, 0, none⟩)] ∧ Capt W2 B g (.func (.func 26) #[] #[.pointer (some ⟨w.heap.size, 0, none⟩)]) (.slice am M.length cn)) ∧ True) hf (by kernel_rfl)
            clear HL2
            refine Exists.elim hf.1 fun B hB => ?_
            change TStep _ _ _ (Act.put (Act.put _ (some 39) (vs 3)) (some 41) (vs 5)) _ _
            rw [hB.1]
            refine tstep_yes (by kernel_rfl) ?_
            have hak := fitask_any F0 L0 R0 B (B + 1 + 1) (B + 1) g m 26 r L G M vg (.slice am M.length cn) #[.pointer (some ⟨w.heap.size, 0, none⟩)] (fun x => x == id) W2 hc (H4.out.1.later hb2).bk hB.2.b0 hB.2.b2 hB.2.b1 (H4.out.2.2.2.2.later hb2) HML.out (enters_of Tryz.func26 (by kernel_rfl) rfl) (fun W x hW => same_id x id w.heap.size W (((H4.out.2.2.1.below hb2 H4.out.2.2.1.lt).below hW (H4.out.2.2.1.below hb2 H4.out.2.2.1.lt).lt).cell 0))
            unfold AskW at hak
            go_simp
            try (first | exact hak | (rw [List.append_assoc] at hak; exact hak))
          · intro vs W2 hb2 hf
            have hf := fits_cast (q := (∃ B, vs 3 = .func (.func 38) #[] #[.pointer (some ⟨B, 0, none⟩), .pointer (some ⟨B + 1 + 1, 0, none⟩), .pointer (some ⟨B + 1, 0, none⟩)] ∧ Capt W2 B g (.func (.func 26) #[] #[.pointer (some ⟨w.heap.size, 0, none⟩)]) (.slice am M.length cn)) ∧ (vs 5 = .bool (askB (G ++ M ++ liveBut L (fun x => x == id)) (F0, L0, R0) r)) ∧ True) hf (by kernel_rfl)
            clear HL2
            change wpList _ _ _ _ (Act.put (Act.put _ (some 39) (vs 3)) (some 41) (vs 5)) _
            rw [hf.2.1]
            have hb5 := H4.out.2.1.trans (hb2.mono H4.out.2.1.size)
            have hI5 := H4.out.2.2.1.below hb2 H4.out.2.2.1.lt
            have hB5 := H4.out.2.2.2.1.below hb2 H4.out.2.2.2.1.lt
            have h5 := H4.out.1.later hb2
            have H5 := Lib.hid (And.intro h5 (And.intro hb5 (And.intro hI5 hB5)))
            clear hf hb2 o0 o1 o2 l0 h5 hb5 hI5 hB5 H4
            simp only [List.drop_succ_cons, List.drop_zero, List.take_succ_cons, List.take_zero]
            have e0 : swapC L G id (F0, L0, R0) keep r = if askB (G ++ M ++ liveBut L (fun x => x == id)) (F0, L0, R0) r = false then 170 else 0 := by unfold swapC; rw [if_neg (by rw [HOK.out]; simp), HMM.out]
            have E0 := Lib.hid e0
            clear e0
            cases hkb : askB (G ++ M ++ liveBut L (fun x => x == id)) (F0, L0, R0) r
            · have e1 : swapC L G id (F0, L0, R0) keep r = 170 := by rw [E0.out, if_pos hkb]
              have E1 := Lib.hid e1
              clear hkb e1 E0
              go_wp2_with fail
              go_ret
              exact ⟨by rw [E1.out]; rfl, ⟨vg, by unfold swapL swapG; rw [if_neg (by rw [E1.out]; simp), if_neg (by rw [E1.out]; simp)]; exact H5.out.1, fun _ => rfl, Fr.refl _ _⟩, H5.out.2.1.mono H.out.1.base_le, Spare.below g m vg H5.out.2.1⟩
            · have e1 : swapC L G id (F0, L0, R0) keep r = 0 := by rw [E0.out, if_neg (by rw [hkb]; simp)]
              have E1 := Lib.hid e1
              clear hkb e1 E0
              have hdrop := drop_any id keep base g m r L G vg W2 hid H5.out.1 (by omega)
              have i0 := H5.out.2.2.1.cell 0
              simp only [List.getElem?_toArray, List.getElem?_cons_zero] at i0
              go_wp2_with fail
              refine hdrop.mono ?_
              clear hdrop i0
              rintro e w6 ⟨rfl, ⟨vg', hbo, hvv, hfr⟩, hbb, hsp⟩
              have HVV := Lib.hid (And.intro hvv (show Fr w vg vg' from hfr.imp (fun h => h) fun ⟨k, e, hk⟩ => ⟨k, e, Nat.le_trans H5.out.2.1.size hk⟩))
              clear hvv hfr
              have hfar := H.out.1.far (w.heap.size + 1) (by omega)
              have hB6 := hsp.blk H5.out.2.2.2 hfar.1 hfar.2.1 hfar.2.2
              have hfar0 := H.out.1.far w.heap.size (Nat.le_refl _)
              have hI6 := hsp.blk H5.out.2.2.1 hfar0.1 hfar0.2.1 hfar0.2.2
              have hb6 : Below base w w6 := (H5.out.2.1.mono H.out.1.base_le).trans hbb
              have hs6 := (Spare.below g m vg H5.out.2.1).trans hsp
              have hG : swapG L G id (F0, L0, R0) keep r = if keep then G ++ (lookM L id).toList else G := by
                unfold swapG swapM
                rw [if_pos E1.out]
                cases keep <;> simp
              rw [← hG] at hbo
              have H6 := Lib.hid (And.intro hbo (And.intro hb6 (And.intro hB6 (And.intro hs6 hI6)))); have HG := Lib.hid hG
              have c0 := hB6.cell 0; have c1 := hB6.cell 1; have c2 := hB6.cell 2
              simp only [List.getElem?_toArray, List.getElem?_cons_zero, List.getElem?_cons_succ] at c0 c1 c2
              have hcn := cnone_any F0 L0 R0 w6
              clear hfar hfar0 hI6 hB6 hb6 hs6 hG hbo hbb hsp
              go_wp2_with fail
              clear c0 c1 c2
              refine hcn.mono ?_
              clear hcn
              rintro e w7 ⟨rfl, hb7⟩
              have hbo7 := H6.out.1.later hb7
              have hB7 := H6.out.2.2.1.below hb7 H6.out.2.2.1.lt
              have hlow : Below base w w7 := H6.out.2.1.trans (hb7.mono H6.out.1.base_le)
              have hI7 := (H6.out.2.2.2.2.below hb7 H6.out.2.2.2.2.lt)
              have hs7 := H6.out.2.2.2.1.trans (Spare.below g m vg hb7)
              by_cases hz : (F0, L0, R0) = ((0, 0, 0) : Cv)
              · have hd : decide ((F0, L0, R0) = ((0, 0, 0) : Cv)) = true := decide_eq_true hz
                have hL : swapL L G id (F0, L0, R0) keep r = delM L id := by unfold swapL; rw [if_pos E1.out, if_pos hz]
                rw [← hL] at hbo7
                have H7 := Lib.hid (And.intro hbo7 (And.intro hlow hs7))
                simp only [hd]
                clear hd hz hb7 hbo7 hB7 hI7 hlow hs7 hL H6 H5
                go_wp2_with fail
                go_ret
                exact ⟨by rw [E1.out]; rfl, ⟨vg', H7.out.1, HVV.out⟩, H7.out.2⟩
              · have hd : decide ((F0, L0, R0) = ((0, 0, 0) : Cv)) = false := decide_eq_false hz
                have hL : swapL L G id (F0, L0, R0) keep r = putM (delM L id) id (F0, L0, R0) := by unfold swapL; rw [if_pos E1.out, if_neg hz]
                have y1 := hbo7.bk.blk.cell 1
                simp only [List.getElem?_toArray, List.getElem?_cons_zero, List.getElem?_cons_succ] at y1
                have l5 := hB7.lt; have l6 := hbo7.bk.blk.lt
                have l7 := hI7.lt
                have H7 := Lib.hid (And.intro hbo7 (And.intro hlow hs7)); have HLL := Lib.hid hL
                have o0 := fun e => (over_cell (w := w7) (e := e) (o := 0) l5).trans (hB7.cell 0)
                have o1 := fun e => (over_cell (w := w7) (e := e) (o := 1) l5).trans (hB7.cell 1)
                have o2 := fun e => (over_cell (w := w7) (e := e) (o := 2) l5).trans (hB7.cell 2)
                have o3 := fun e => (over_cell (w := w7) (e := e) (o := 1) l6).trans y1
                have o4 := fun e => (over_cell (w := w7) (e := e) (o := 0) l7).trans (hI7.cell 0)
                simp only [List.getElem?_toArray, List.getElem?_cons_zero, List.getElem?_cons_succ] at o0 o1 o2 o4
                simp only [hd]
                clear hd hz hb7 hbo7 hB7 hlow hs7 hL H6 H5 y1 hI7
                go_upto_region 13 with fail
                refine wp_region_mid (w := w7) 6 1 [] [] [] rfl (by kernel_rfl) (by kernel_rfl) (by kernel_rfl) (by kernel_rfl) (fun _ _ _ _ _ h => h) trivial ?_
                intro LL hL
                have HL2 := Lib.hid hL
                clear hL
                simp only [List.take_succ_cons, List.take_zero, putL]
                iterate 6 (first | refine wpHead_skip (by decide) ?_ | (refine wpHead_step (by decide) (fun K hK => ?_); go_simp; refine hK _ ?_; clear hK K))
                refine wpHead_nil (HL2.out _ trivial ?_)
                intro vs W8 hb8 _
                clear HL2 o0 o1 o2 o3 o4 l5 l6 l7
                simp only [putHd, List.drop_succ_cons, List.drop_zero, List.take_succ_cons, List.take_zero]
                have h8 := H7.out.1.later hb8
                have hlen : (delM L id).length + (swapG L G id (F0, L0, R0) keep r).length < 100000 := by
                  have h1 := del_length id L
                  have h2 := swapM_len L id keep
                  unfold swapG
                  rw [if_pos E1.out, List.length_append]
                  omega
                obtain ⟨w9, hr, hbk, hgr⟩ := h8.bk.store (c := (F0, L0, R0)) hid hc hlen
                have h9 := h8.grownM hbk hgr
                rw [← HLL.out] at h9
                have H9 := Lib.hid (And.intro h9.1 (And.intro ((H7.out.2.1.trans (hb8.mono H7.out.1.base_le)).trans h9.2) ((H7.out.2.2.trans (Spare.below g m vg hb8)).trans (Spare.atM g m vg hgr))))
                unfold cvV at hr
                clear hb8 h8 hlen hbk hgr h9
                go_wp2_with fail
                go_ret
                exact ⟨by rw [E1.out]; rfl, ⟨vg', H9.out.1, HVV.out⟩, H9.out.2⟩
end Go.Proofs.YthmhboagbeibdaaGreat
/-
  The document's book of curves: Drop. (Printed by wip/mkrbdrop2.py.)
-/
namespace Go.Proofs.YthmhboagbeibdaaGreat
set_option linter.unusedVariables false
open Go.RowKit Go.Maps
attribute [local go_sem ↓] Go.wp_at_zero Go.wp_at_succ
attribute [local go_sem] quietR quietAtR quietUponR midAt midUpon
attribute [local irreducible] TStep HStep

theorem owns_takeN {w : World} {base g cap m sz at_ : Nat} {e : TypeId} {xs : List Value} (h : w.ownsRow base e sz (.slice (some ⟨g, 0, none⟩) m cap) m xs) (ha : at_ ≤ m) :
    w.ownsRow base e sz (.slice (some ⟨g, 0, none⟩) at_ cap) at_ (xs.take (at_ * sz)) := by
  obtain ⟨h1, h2⟩ := h
  have hm : at_ * sz ≤ m * sz := Nat.mul_le_mul_right sz ha
  refine ⟨by rw [List.length_take]; omega, ?_⟩
  rcases h2 with ⟨h2, _⟩ | ⟨g', c', cur, e', h3, h4, h5, h6, h7, h8⟩
  · cases h2
  · simp only [Value.slice.injEq, Option.some.injEq, Addr.mk.injEq, and_true, true_and] at e'
    obtain ⟨rfl, rfl⟩ := e'
    exact .inr ⟨_, _, cur, rfl, h3, h4, by omega, h6, h7, by rw [← h8, List.take_take, Nat.min_eq_left hm]⟩
theorem cvCells_take (l : List Cv) : ∀ k, (cvCells l).take (k * 3) = cvCells (l.take k) := by
  induction l with
  | nil => intro k; simp [cvCells]
  | cons c l ih =>
    intro k
    cases k with
    | zero => simp [cvCells]
    | succ k =>
      rw [List.take_succ_cons, cvCells_cons, cvCells_cons, show (k + 1) * 3 = k * 3 + 1 + 1 + 1 by omega]
      simp only [List.take_succ_cons, ih]
theorem map_take_int (l : List Int) (k : Nat) : (l.map (Value.int .i64)).take (k * 1) = (l.take k).map (Value.int .i64) := by rw [Nat.mul_one, List.map_take]

/-- a copy that is being cut -/
structure DrpAt (w W : World) (q : Nat) (r : Int) (I : List Int) (V G : List Cv) (si sl sg vi vl vg : Value) : Prop where
  blk : Blk W q 47 #[.int .u64 r, si, sl, sg]
  ids : W.ownsRow w.heap.size 3 1 vi I.length (I.map (Value.int .i64))
  live : W.ownsRow w.heap.size 25 3 vl V.length (cvCells V)
  gh : W.ownsRow w.heap.size 25 3 vg G.length (cvCells G)
  ap : ∀ b, vl.ownBlock = some b → vg.ownBlock = some b → False
  q0 : w.heap.size ≤ q
  below : Below w.heap.size w W
section
variable {w W W' : World} {q : Nat} {r : Int} {I I' : List Int} {V V' G G' : List Cv} {si sl sg vi vl vg v' : Value}
theorem DrpAt.later (h : DrpAt w W q r I V G si sl sg vi vl vg) (hb : Below W.heap.size W W') : DrpAt w W' q r I V G si sl sg vi vl vg :=
  ⟨h.blk.below hb h.blk.lt, owns_later h.ids hb, owns_later h.live hb, owns_later h.gh hb, h.ap, h.q0, h.below.trans (hb.mono h.below.size)⟩
theorem own_ne_some {v : Value} {g : Nat} (h : v.ownBlock = none ∨ v.ownBlock ≠ some g) : some g ≠ v.ownBlock := by
  rcases h with h | h
  · rw [h]; simp
  · exact fun e => h e.symm
theorem DrpAt.appI (h : DrpAt w W q r I V G si sl sg vi vl vg) (ho : W'.ownsRow w.heap.size 3 1 v' I'.length (I'.map (Value.int .i64))) (hg : W.grownBy W' vi.ownBlock) : DrpAt w W' q r I' V G si sl sg v' vl vg :=
  ⟨h.blk.grown hg (own_ne_some (own_blk h.ids h.blk (by decide))), ho, h.live.kept hg (rows_apart h.live h.ids (by decide)), h.gh.kept hg (rows_apart h.gh h.ids (by decide)), h.ap, h.q0,
    h.below.trans ((Below.refl w.heap.size W).grown hg h.below.size fun k hk => (h.ids.lt k hk).1)⟩
theorem ap_ne {a b : Value} (h : ∀ k, a.ownBlock = some k → b.ownBlock = some k → False) : a.ownBlock = none ∨ a.ownBlock ≠ b.ownBlock := by
  cases e : a.ownBlock with
  | none => exact .inl rfl
  | some k => exact .inr fun e2 => h k e e2.symm
theorem DrpAt.appL (h : DrpAt w W q r I V G si sl sg vi vl vg) (ho : W'.ownsRow w.heap.size 25 3 v' V'.length (cvCells V')) (hg : W.grownBy W' vl.ownBlock) (hat : v'.ownBlock = vl.ownBlock ∨ v'.ownBlock = some W.heap.size) : DrpAt w W' q r I V' G si sl sg vi v' vg :=
  ⟨h.blk.grown hg (own_ne_some (own_blk h.live h.blk (by decide))), h.ids.kept hg (rows_apart h.ids h.live (by decide)), ho, h.gh.kept hg (ap_ne fun k h1 h2 => h.ap k h2 h1), fun b h1 h2 => by
    rcases hat with hat | hat
    · exact h.ap b (by rw [← hat]; exact h1) h2
    · have := (h.gh.lt b h2).2
      rw [hat] at h1
      cases h1
      omega, h.q0, h.below.trans ((Below.refl w.heap.size W).grown hg h.below.size fun k hk => (h.live.lt k hk).1)⟩
theorem DrpAt.appG (h : DrpAt w W q r I V G si sl sg vi vl vg) (ho : W'.ownsRow w.heap.size 25 3 v' G'.length (cvCells G')) (hg : W.grownBy W' vg.ownBlock) (hat : v'.ownBlock = vg.ownBlock ∨ v'.ownBlock = some W.heap.size) : DrpAt w W' q r I V G' si sl sg vi vl v' :=
  ⟨h.blk.grown hg (own_ne_some (own_blk h.gh h.blk (by decide))), h.ids.kept hg (rows_apart h.ids h.gh (by decide)), h.live.kept hg (ap_ne h.ap), ho, fun b h1 h2 => by
    rcases hat with hat | hat
    · exact h.ap b h1 (by rw [← hat]; exact h2)
    · have := (h.live.lt b h1).2
      rw [hat] at h2
      cases h2
      omega, h.q0, h.below.trans ((Below.refl w.heap.size W).grown hg h.below.size fun k hk => (h.gh.lt k hk).1)⟩
theorem DrpAt.set (h : DrpAt w W q r I V G si sl sg vi vl vg) (o : Nat) (v : Value) {si' sl' sg' : Value} (he : (#[Value.int .u64 r, si, sl, sg] : Array Value).setIfInBounds o v = #[.int .u64 r, si', sl', sg']) : DrpAt w (W.setCell ⟨q, o, none⟩ v) q r I V G si' sl' sg' vi vl vg := by
  have hg := grown_setAt W q o v
  have hB := h.blk.set_ o v
  rw [he] at hB
  exact ⟨hB, h.ids.kept hg (own_blk h.ids h.blk (by decide)), h.live.kept hg (own_blk h.live h.blk (by decide)), h.gh.kept hg (own_blk h.gh h.blk (by decide)), h.ap, h.q0, h.below.setCell (p := ⟨q, o, none⟩) h.q0 v⟩
end

theorem cv_dropS {w : World} {b off cap k : Nat} {l : List Cv} (h : CvAt w (.slice (some ⟨b, off, none⟩) l.length cap) l) (hk : k ≤ l.length) : CvAt w (.slice (if cap = k then some ⟨b, off, none⟩ else some ⟨b, off + k * 3, none⟩) (l.length - k) (cap - k)) (l.drop k) := by
  have := cv_drop h hk
  simpa [Addr.add_lit] using this
theorem owns_form {w : World} {base n sz : Nat} {e : TypeId} {v : Value} {xs : List Value} (h : w.ownsRow base e sz v n xs) (hn : 0 < n) : ∃ g c, v = .slice (some ⟨g, 0, none⟩) n c ∧ n ≤ c ∧ g < w.heap.size := by
  rcases h.2 with ⟨_, h0⟩ | ⟨g, c, cur, e, _, h3, h4, _⟩
  · omega
  · exact ⟨g, c, e, h4, (Array.getElem?_eq_some_iff.1 h3).1⟩
theorem cut_cell {w W : World} (hB : w.heap.size ≤ W.heap.size) (hb : Below w.heap.size w W) {b o : Nat} (hl : b < w.heap.size) : (cutW W w.heap.size).cell? ⟨b, o, none⟩ = w.cell? ⟨b, o, none⟩ := by
  have h1 := (below_cut hB (Below.refl w.heap.size W)).cell (p := ⟨b, o, none⟩) (by rw [cutW_size hB]; exact hl)
  exact h1.symm.trans (hb.cell (p := ⟨b, o, none⟩) hl)
theorem cv_at' {w : World} {a : Option Addr} {n cap k : Nat} {l : List Cv} {c : Cv} (h : CvAt w (.slice a n cap) l) (hc : l[k]? = some c) : ∃ b off, a = some ⟨b, off, none⟩ ∧ b < w.heap.size ∧ w.cell? ⟨b, off + k * 3, none⟩ = some (.int .u64 c.1) ∧ w.cell? ⟨b, off + k * 3 + 1, none⟩ = some (.int .u64 c.2.1) ∧ w.cell? ⟨b, off + k * 3 + 2, none⟩ = some (.int .u64 c.2.2) := by
  obtain ⟨_, _, a', cap', e, h3⟩ := h
  cases e
  rcases h3 with rfl | ⟨b, off, rfl, hl, hcap, hcc⟩
  · simp at hc
  · exact ⟨b, off, rfl, hl, hcc k c hc⟩
def RdropW (w : World) (r : Int) (L : List (Int × Cv)) (G : List Cv) (vi0 vl0 vg0 : Value) (id : Int) (keep : Bool) (e : Ending) (w' : World) : Prop :=
  ∃ p' vi vl vg, e = .returned (.tuple #[.pointer (some ⟨p', 0, none⟩), .bool (lookM L id).isSome]) ∧ RbAt w' p' r ((delM L id).map (·.1)) ((delM L id).map (·.2)) (if keep then G ++ (lookM L id).toList else G) vi vl vg ∧ Below w.heap.size w w' ∧ FrX w (L.map (·.1)) (L.map (·.2)) G vi0 vl0 vg0 ((delM L id).map (·.1)) ((delM L id).map (·.2)) (if keep then G ++ (lookM L id).toList else G) vi vl vg

theorem del_at {α : Type} {id : Int} : ∀ {L : List (Int × α)} {k : Nat} {p : Int × α}, Rising L → L[k]? = some p → p.1 = id → delM L id = L.take k ++ L.drop (k + 1)
  | [], k, p, _, h, _ => by simp at h
  | x :: r, 0, p, hr, h, e => by
    simp at h
    subst h
    have h1 := (List.pairwise_cons.1 hr).1
    rw [show delM (x :: r) id = delM r id by simp [delM, e], delM_none id r fun y hy => by have := h1 y hy; omega]
    rfl
  | x :: r, k + 1, p, hr, h, e => by
    have h1 := (List.pairwise_cons.1 hr).1
    have hp : p ∈ r := List.mem_of_getElem? (by simpa using h)
    have := h1 p hp
    have hx : x.1 ≠ id := by omega
    rw [show delM (x :: r) id = x :: delM r id by simp [delM, hx], del_at (List.pairwise_cons.1 hr).2 (by simpa using h) e]
    rfl
theorem RbAt_of {w W : World} {q : Nat} {r : Int} {I : List Int} {V G : List Cv} {vi vl vg : Value} (h : DrpAt w W q r I V G vi vl vg vi vl vg) (hs : I.length = V.length) (hu : UU V) (hug : UU G) (hf : V.length + G.length ≤ 100000) : RbAt W q r I V G vi vl vg :=
  ⟨h.blk, IntAt.of_owns h.ids (by omega), CvAt.of_owns h.live hu (by omega), CvAt.of_owns h.gh hug (by omega), hs, hf⟩

set_option maxRecDepth 100000 in
set_option maxHeartbeats 8000000 in
theorem rdrop_any (id : Int) (keep : Bool) (p : Nat) (r : Int) (L : List (Int × Cv)) (G : List Cv) (vi vl vg : Value) (w : World) (hrise : Rising L) (h : RbAt w p r (L.map (·.1)) (L.map (·.2)) G vi vl vg) (hfl : L.length + G.length < 100000) :
    Calls Tryz.prog 11 #[.pointer (some ⟨p, 0, none⟩), .int .i64 id, .bool keep] w (RdropW w r L G vi vl vg id keep) := by
  have hat := rat2_any id p r _ _ _ _ _ _ w h
  have H := Lib.hid h; have HRI := Lib.hid hrise
  clear h hrise
  go_enter Tryz.func11, Tryz.ntmps11
  go_wp2_with fail
  refine hat.mono ?_
  clear hat
  rintro e w1 ⟨⟨k, rfl, hk, hkl⟩ | ⟨rfl, hno⟩, hb1⟩
  rotate_left
  · have hn : lookM L id = none := look_none.2 fun q hq e => hno (List.mem_map.2 ⟨q, hq, e⟩)
    have HN := Lib.hid (And.intro hn hb1)
    clear hno hn hb1
    go_wp2_with fail
    go_ret2
    have e1 : delM L id = L := delM_none id L (look_none.1 HN.out.1)
    exact ⟨p, vi, vl, vg, by rw [HN.out.1]; rfl, by rw [HN.out.1, e1]; cases keep <;> simpa using H.out.later HN.out.2, HN.out.2, by rw [HN.out.1, e1]; exact FrX.same rfl rfl (by cases keep <;> simp)⟩
  · rw [List.length_map] at hkl
    obtain ⟨⟨id', CF, CL, CR⟩, hkL⟩ : ∃ q, L[k]? = some q := ⟨_, List.getElem?_eq_getElem hkl⟩
    obtain rfl : id' = id := by
      rw [List.getElem?_map, hkL] at hk
      simpa using hk
    have hVk : (L.map (·.2))[k]? = some (CF, CL, CR) := by rw [List.getElem?_map, hkL]; rfl
    have hlook : lookM L id' = some (CF, CL, CR) := look_at HRI.out hkL
    have hdel := del_at HRI.out hkL rfl
    have huc := H.out.live.1 _ (List.mem_of_getElem? hVk)
    have hD1 : (L.map (·.1)).take k ++ (L.map (·.1)).drop (k + 1) = (delM L id').map (·.1) := by rw [hdel]; simp [List.map_take, List.map_drop]
    have hD2 : (L.map (·.2)).take k ++ (L.map (·.2)).drop (k + 1) = (delM L id').map (·.2) := by rw [hdel]; simp [List.map_take, List.map_drop]
    have hVl : (L.map (·.2)).length = L.length := by simp
    have hIl : (L.map (·.1)).length = L.length := by simp
    have hH1 := H.out.later hb1
    have HLK := Lib.hid hlook
    generalize L.map (·.1) = IL at H hH1 hD1 hIl hk
    generalize L.map (·.2) = VL at H hH1 hD2 hVl hVk
    generalize hn : L.length = n at *
    have hcp := rcopyO p r _ _ _ _ _ _ w1 hH1 (by intro h; rw [h] at hVk; simp at hVk)
    unfold RcO at hcp
    rw [hIl, hVl] at hcp
    have HP := Lib.hid (And.intro hD1 (And.intro hD2 (And.intro huc (And.intro hVk (And.intro hb1 (And.intro hIl hVl))))))
    have hk0 : (0 : Int) ≤ (k : Int) := by omega
    have HNN := Lib.hid hn
    clear hk hVk hlook hdel hD1 hD2 huc hH1 hIl hVl hkL hn
    go_wp2_with fail
    refine hcp.mono ?_
    clear hcp
    rintro e w2 ⟨q, bi, ci, bl, cl, bg, cg, rfl, hblk, hoi, hol, hog, hap, hq0, hb2, _⟩
    have hs1 := HP.out.2.2.2.2.1.size
    have hd : DrpAt w w2 q r IL VL G (.slice bi n ci) (.slice bl n cl) (.slice bg G.length cg) (.slice bi n ci) (.slice bl n cl) (.slice bg G.length cg) := ⟨hblk, by rw [HP.out.2.2.2.2.2.1]; exact owns_base hoi hs1, by rw [HP.out.2.2.2.2.2.2]; exact owns_base hol hs1, owns_base hog hs1, hap, by omega, HP.out.2.2.2.2.1.trans (hb2.mono hs1)⟩
    clear hblk hoi hol hog hap hq0 hb2
    have HW2 := Lib.hid hd
    clear hd hb1
    obtain ⟨Gk, hGk⟩ : ∃ Gk, (if keep then G ++ [(CF, CL, CR)] else G) = Gk := ⟨_, rfl⟩
    have HGK := Lib.hid hGk
    clear hGk
    go_upto_if 18 with fail
    go_cut [18] from 19 to 34 (fun v18 wx => ∃ bg' cg', v18 = .bool keep ∧ DrpAt w wx q r IL VL Gk (.slice bi n ci) (.slice bl n cl) (.slice bg' Gk.length cg') (.slice bi n ci) (.slice bl n cl) (.slice bg' Gk.length cg'))
    case first =>
      cases keep
      · go_wp2_with fail
        go_meet
        have hgk := HGK.out
        simp only [Bool.false_eq_true, if_false] at hgk
        subst hgk
        exact ⟨bg, cg, rfl, HW2.out⟩
      · go_upto_region 6 with fail
        have hgk := HGK.out
        simp only [if_true] at hgk
        have HGK2 := Lib.hid hgk
        clear hgk
        have hbl : w.heap.size ≤ w2.heap.size := HW2.out.below.size
        have hcs := cutW_size hbl
        have hpl : p < (cutW w2 w.heap.size).heap.size := by rw [hcs]; exact H.out.blk.lt
        obtain ⟨al, cl0, rfl⟩ : ∃ a cap, vl = .slice a n cap := by obtain ⟨_, _, a, cap, e, _⟩ := H.out.live; exact ⟨a, cap, by rw [e, HP.out.2.2.2.2.2.2]⟩
        obtain ⟨lb, lo, rfl, hll, c0, c1, c2⟩ := cv_at' H.out.live HP.out.2.2.2.1
        have hlc : lb < (cutW w2 w.heap.size).heap.size := by rw [hcs]; exact hll
        have o2 := fun e => (over_cell (w := cutW w2 w.heap.size) (e := e) (o := 2) hpl).trans ((cut_cell hbl HW2.out.below H.out.blk.lt).trans (H.out.blk.cell 2))
        have q0 := fun e => (over_cell (w := cutW w2 w.heap.size) (e := e) (o := lo + k * 3) hlc).trans ((cut_cell hbl HW2.out.below hll).trans c0)
        have q1 := fun e => (over_cell (w := cutW w2 w.heap.size) (e := e) (o := lo + k * 3 + 1) hlc).trans ((cut_cell hbl HW2.out.below hll).trans c1)
        have q2 := fun e => (over_cell (w := cutW w2 w.heap.size) (e := e) (o := lo + k * 3 + 2) hlc).trans ((cut_cell hbl HW2.out.below hll).trans c2)
        simp only [List.getElem?_toArray, List.getElem?_cons_zero, List.getElem?_cons_succ] at o2
        dsimp only at q0 q1 q2
        clear c0 c1 c2
        refine wp_region_hot0 (w := cutW w2 w.heap.size) (ws := w2) 16 1 [4, 12, 13] [] [(4, fun u W' => u = .slice bg G.length cg), (12, fun u W' => ∃ B, u = .slice (some ⟨B, 0, none⟩) 1 1 ∧ Blk W' B 25 #[.int .u64 CF, .int .u64 CL, .int .u64 CR]), (13, fun u W' => DrpAt w W' q r IL VL (G ++ [(CF, CL, CR)]) (.slice bi n ci) (.slice bl n cl) (.slice bg G.length cg) (.slice bi n ci) (.slice bl n cl) u)] [(12, 13)] [13] [4] rfl (by decide) (by decide) (below_cut hbl (Below.refl _ _)) (J := fun W => DrpAt w W q r IL VL G (.slice bi n ci) (.slice bl n cl) (.slice bg G.length cg) (.slice bi n ci) (.slice bl n cl) (.slice bg G.length cg)) (jend := 13) HW2.out (fun W W' h hb => h.later hb) (.inr (by kernel_rfl)) (by kernel_rfl) (by kernel_rfl) (by kernel_rfl) (by kernel_rfl) (by kernel_rfl) (fun _ _ _ _ _ h => h) ⟨fun v W1 W2 h hb => h, fun v W1 W2 ⟨b, h1, h2⟩ hb => ⟨b, h1, h2.below hb h2.lt⟩, fun v W1 W2 h hb => h.later hb, trivial⟩ ⟨fun _ v W1 W2 h => h, fun h => by simp at h, fun h => by simp at h, trivial⟩ ?_
        intro LL hL
        have HL2 := Lib.hid hL
        clear hL
        simp only [List.take_succ_cons, List.take_zero, putL]
        iterate 16 (first | refine wpHead_skip (by decide) ?_ | (refine wpHead_step (by decide) (fun K hK => ?_); go_simp; refine hK _ ?_; clear hK K))
        refine wpHead_nil (HL2.out _ ⟨?_, ?_, ?_, trivial⟩ ?_)
        · intro vs W2 hb2 hf hj
          clear HL2
          have hjj := hj (.inr ⟨by decide, by kernel_rfl⟩)
          clear hj
          have x0 := hjj.blk.cell 3
          simp only [List.getElem?_toArray, List.getElem?_cons_zero, List.getElem?_cons_succ] at x0
          clear hjj
          change TStep _ _ _ (Act.put (Act.put (Act.put _ (some 23) (vs 4)) (some 31) (vs 12)) (some 32) (vs 13)) _ _
          refine tstep_yes (by kernel_rfl) ?_
          go_simp
          exact Below.refl _ _
        · intro vs W2 hb2 hf hj
          clear HL2
          have hjj := hj (.inr ⟨by decide, by kernel_rfl⟩)
          clear hj
          clear hjj
          change TStep _ _ _ (Act.put (Act.put (Act.put _ (some 23) (vs 4)) (some 31) (vs 12)) (some 32) (vs 13)) _ _
          refine tstep_yes (by kernel_rfl) ?_
          go_simp
          exact ⟨(Below.refl _ _).alloc (Nat.le_refl _) _, Blk.new _ _ _⟩
        · intro vs W2 hb2 hf hj
          have hf := fits_cast (q := (vs 4 = .slice bg G.length cg) ∧ (∃ B, vs 12 = .slice (some ⟨B, 0, none⟩) 1 1 ∧ Blk W2 B 25 #[.int .u64 CF, .int .u64 CL, .int .u64 CR]) ∧ True) hf (by kernel_rfl)
          clear HL2
          have hjj := hj (.inl rfl)
          clear hj
          refine Exists.elim hf.2.1 fun B hB => ?_
          change HStep _ _ _ _ (Act.put (Act.put (Act.put _ (some 23) (vs 4)) (some 31) (vs 12)) (some 32) (vs 13)) _ _
          rw [hf.1, hB.1]
          have happ := app_more3 45 (A := G) (cvat_lit (c := (CF, CL, CR)) hB.2 HP.out.2.2.1) hjj.gh hjj.below.size (by simp only [List.length_cons, List.length_nil]; omega)
          refine Exists.elim happ fun v' ha1 => ?_
          refine Exists.elim ha1 fun w' ha2 => ?_
          refine hstep_yes (by kernel_rfl) ?_
          exact hotUpon_app rfl (by kernel_rfl) (by kernel_rfl) ha2.1 (hb2.trans (by rw [hcs]; exact ha2.2.2.1)) (hjj.appG ha2.2.1 ha2.2.2.2.1 ha2.2.2.2.2)
        · intro vs W2 hb2 hf
          have hf := fits_cast (q := (vs 4 = .slice bg G.length cg) ∧ (DrpAt w W2 q r IL VL (G ++ [(CF, CL, CR)]) (.slice bi n ci) (.slice bl n cl) (.slice bg G.length cg) (.slice bi n ci) (.slice bl n cl) (vs 13)) ∧ True) hf (by kernel_rfl)
          clear HL2
          change wpList _ _ _ _ (Act.put (Act.put (Act.put _ (some 23) (vs 4)) (some 31) (vs 12)) (some 32) (vs 13)) _
          have h7 := hf.2.1
          refine Exists.elim (owns_slice h7.gh) fun b1 x1 => ?_
          refine Exists.elim x1 fun d1 y1 => ?_
          rw [y1] at h7
          have hset := h7.set 3 (.slice b1 (G ++ [(CF, CL, CR)]).length d1) (si' := .slice bi n ci) (sl' := .slice bl n cl) (sg' := .slice b1 (G ++ [(CF, CL, CR)]).length d1) rfl
          rw [HGK2.out] at hset y1
          have z1 := h7.blk.frozen 3; have z2 := h7.blk.cell 3
          have HF := Lib.hid hset
          rw [hf.1, y1]
          clear hf h7 x1 y1 hset hb2 o2 q0 q1 q2 hpl hlc
          simp only [List.drop_succ_cons, List.drop_zero, List.take_succ_cons, List.take_zero]
          go_wp2_with fail
          go_meet
          exact ⟨b1, d1, rfl, HF.out⟩
    case rest =>
      obtain ⟨bg', cg', rfl, hd⟩ := hcut
      have hIf := hd.ids
      have hLf := hd.live
      rw [HP.out.2.2.2.2.2.1] at hIf
      rw [HP.out.2.2.2.2.2.2] at hLf
      obtain ⟨gi, ci', e1, hcI, _⟩ := owns_form hIf (by omega)
      obtain ⟨gl, cl', e2, hcL, _⟩ := owns_form hLf (by omega)
      simp only [Value.slice.injEq, true_and] at e1 e2
      obtain ⟨rfl, rfl⟩ := e1
      obtain ⟨rfl, rfl⟩ := e2
      have hki : k ≤ ci := by omega
      have hki1 : k + 1 ≤ ci := by omega
      have hkl0 : k ≤ cl := by omega
      have hkl1 : k + 1 ≤ cl := by omega
      have HWC := Lib.hid hd
      have HGK3 := HGK
      clear hd HW2 HGK
      go_upto_region 7 with fail
      have hbl : w.heap.size ≤ wc.heap.size := HWC.out.below.size
      have hcs := cutW_size hbl
      have kI0 : (0 : Int) ≤ (k : Int) + 1 := by omega
      have kI1 : (k : Int) + 1 ≤ (n : Int) := by omega
      have wk1 : IntKind.i64.wrap ((k : Int) + 1) = (k : Int) + 1 := IntWalk.i64_in _ (by omega)
      refine wp_region_hot0 (w := cutW wc w.heap.size) (ws := wc) 17 1 [4, 6, 10, 13, 14] [] [(4, fun u W' => u = .slice (some ⟨gi, 0, none⟩) n ci), (6, fun u W' => u = .slice (some ⟨gi, 0, none⟩) k ci), (10, fun u W' => u = .slice (some ⟨gi, 0, none⟩) n ci), (13, fun u W' => u = .slice (if ci = k + 1 then some ⟨gi, 0, none⟩ else some ⟨gi, 0 + (k + 1), none⟩) (n - (k + 1)) (ci - (k + 1))), (14, fun u W' => DrpAt w W' q r (IL.take k ++ IL.drop (k + 1)) VL Gk (.slice (some ⟨gi, 0, none⟩) n ci) (.slice (some ⟨gl, 0, none⟩) n cl) (.slice bg' Gk.length cg') u (.slice (some ⟨gl, 0, none⟩) n cl) (.slice bg' Gk.length cg'))] [] [14] [4, 6, 10, 13] rfl (by decide) (by decide) (below_cut hbl (Below.refl _ _)) (J := fun W => DrpAt w W q r IL VL Gk (.slice (some ⟨gi, 0, none⟩) n ci) (.slice (some ⟨gl, 0, none⟩) n cl) (.slice bg' Gk.length cg') (.slice (some ⟨gi, 0, none⟩) n ci) (.slice (some ⟨gl, 0, none⟩) n cl) (.slice bg' Gk.length cg')) (jend := 14) HWC.out (fun W W' h hb => h.later hb) (.inr (by kernel_rfl)) (by kernel_rfl) (by kernel_rfl) (by kernel_rfl) (by kernel_rfl) (by kernel_rfl) (fun _ _ _ _ _ h => h) ⟨fun v W1 W2 h hb => h, fun v W1 W2 h hb => h, fun v W1 W2 h hb => h, fun v W1 W2 h hb => h, fun v W1 W2 h hb => h.later hb, trivial⟩ ⟨fun _ v W1 W2 h => h, fun _ v W1 W2 h => h, fun _ v W1 W2 h => h, fun _ v W1 W2 h => h, fun h => by simp at h, trivial⟩ ?_
      intro LL hL
      have HL2 := Lib.hid hL
      clear hL
      simp only [List.take_succ_cons, List.take_zero, putL]
      iterate 17 (first | refine wpHead_skip (by decide) ?_ | (refine wpHead_step (by decide) (fun K hK => ?_); go_simp; refine hK _ ?_; clear hK K))
      refine wpHead_nil (HL2.out _ ⟨?_, ?_, ?_, ?_, ?_, trivial⟩ ?_)
      · intro vs W2 hb2 hf hj
        clear HL2
        have hjj := hj (.inr ⟨by decide, by kernel_rfl⟩)
        clear hj
        have x0 := hjj.blk.cell 1
        simp only [List.getElem?_toArray, List.getElem?_cons_zero, List.getElem?_cons_succ] at x0
        clear hjj
        change TStep _ _ _ (Act.put (Act.put (Act.put (Act.put (Act.put _ (some 39) (vs 4)) (some 41) (vs 6)) (some 45) (vs 10)) (some 48) (vs 13)) (some 49) (vs 14)) _ _
        refine tstep_yes (by kernel_rfl) ?_
        go_simp
        exact Below.refl _ _
      · intro vs W2 hb2 hf hj
        have hf := fits_cast (q := (vs 4 = .slice (some ⟨gi, 0, none⟩) n ci) ∧ True) hf (by kernel_rfl)
        clear HL2
        have hjj := hj (.inr ⟨by decide, by kernel_rfl⟩)
        clear hj
        clear hjj
        change TStep _ _ _ (Act.put (Act.put (Act.put (Act.put (Act.put _ (some 39) (vs 4)) (some 41) (vs 6)) (some 45) (vs 10)) (some 48) (vs 13)) (some 49) (vs 14)) _ _
        rw [hf.1]
        refine tstep_yes (by kernel_rfl) ?_
        clear hf
        go_simp
        exact Below.refl _ _
      · intro vs W2 hb2 hf hj
        clear HL2
        have hjj := hj (.inr ⟨by decide, by kernel_rfl⟩)
        clear hj
        have x0 := hjj.blk.cell 1
        simp only [List.getElem?_toArray, List.getElem?_cons_zero, List.getElem?_cons_succ] at x0
        clear hjj
        change TStep _ _ _ (Act.put (Act.put (Act.put (Act.put (Act.put _ (some 39) (vs 4)) (some 41) (vs 6)) (some 45) (vs 10)) (some 48) (vs 13)) (some 49) (vs 14)) _ _
        refine tstep_yes (by kernel_rfl) ?_
        go_simp
        exact Below.refl _ _
      · intro vs W2 hb2 hf hj
        have hf := fits_cast (q := (vs 10 = .slice (some ⟨gi, 0, none⟩) n ci) ∧ True) hf (by kernel_rfl)
        clear HL2
        have hjj := hj (.inr ⟨by decide, by kernel_rfl⟩)
        clear hj
        clear hjj
        change TStep _ _ _ (Act.put (Act.put (Act.put (Act.put (Act.put _ (some 39) (vs 4)) (some 41) (vs 6)) (some 45) (vs 10)) (some 48) (vs 13)) (some 49) (vs 14)) _ _
        rw [hf.1]
        refine tstep_yes (by kernel_rfl) ?_
        clear hf
        go_simp
        exact Below.refl _ _
      · intro vs W2 hb2 hf hj
        have hf := fits_cast (q := (vs 6 = .slice (some ⟨gi, 0, none⟩) k ci) ∧ (vs 13 = .slice (if ci = k + 1 then some ⟨gi, 0, none⟩ else some ⟨gi, 0 + (k + 1), none⟩) (n - (k + 1)) (ci - (k + 1))) ∧ True) hf (by kernel_rfl)
        clear HL2
        have hjj := hj (.inl rfl)
        clear hj
        change HStep _ _ _ _ (Act.put (Act.put (Act.put (Act.put (Act.put _ (some 39) (vs 4)) (some 41) (vs 6)) (some 45) (vs 10)) (some 48) (vs 13)) (some 49) (vs 14)) _ _
        rw [hf.1, hf.2.1]
        have hids := hjj.ids
        rw [HP.out.2.2.2.2.2.1] at hids
        have hown := owns_takeN hids (show k ≤ n by omega)
        rw [map_take_int] at hown
        have hat : IntAt W2 (.slice (some ⟨gi, 0, none⟩) IL.length ci) IL := IntAt.of_owns (by rw [HP.out.2.2.2.2.2.1]; exact hids) (by rw [HP.out.2.2.2.2.2.1]; omega)
        have hdr := int_dropS hat (k := k + 1) (by rw [HP.out.2.2.2.2.2.1]; omega)
        rw [HP.out.2.2.2.2.2.1] at hdr
        have hlk : (IL.take k).length = k := by rw [List.length_take, HP.out.2.2.2.2.2.1]; omega
        have happ := app_ints 44 (A := IL.take k) hdr (by rw [hlk]; exact hown) hjj.below.size (by have := HP.out.2.2.2.2.2.1; simp; omega)
        refine Exists.elim happ fun v' ha1 => ?_
        refine Exists.elim ha1 fun w' ha2 => ?_
        refine hstep_yes (by kernel_rfl) ?_
        exact hotUpon_app rfl (by kernel_rfl) (by kernel_rfl) ha2.1 (hb2.trans (by rw [hcs]; exact ha2.2.2.1)) (hjj.appI ha2.2.1 ha2.2.2.2)
      · intro vs W2 hb2 hf
        have hf := fits_cast (q := (vs 4 = .slice (some ⟨gi, 0, none⟩) n ci) ∧ (vs 6 = .slice (some ⟨gi, 0, none⟩) k ci) ∧ (vs 10 = .slice (some ⟨gi, 0, none⟩) n ci) ∧ (vs 13 = .slice (if ci = k + 1 then some ⟨gi, 0, none⟩ else some ⟨gi, 0 + (k + 1), none⟩) (n - (k + 1)) (ci - (k + 1))) ∧ (DrpAt w W2 q r (IL.take k ++ IL.drop (k + 1)) VL Gk (.slice (some ⟨gi, 0, none⟩) n ci) (.slice (some ⟨gl, 0, none⟩) n cl) (.slice bg' Gk.length cg') (vs 14) (.slice (some ⟨gl, 0, none⟩) n cl) (.slice bg' Gk.length cg')) ∧ True) hf (by kernel_rfl)
        clear HL2
        change wpList _ _ _ _ (Act.put (Act.put (Act.put (Act.put (Act.put _ (some 39) (vs 4)) (some 41) (vs 6)) (some 45) (vs 10)) (some 48) (vs 13)) (some 49) (vs 14)) _
        have h7 := hf.2.2.2.2.1
        refine Exists.elim (owns_slice h7.ids) fun b1 x1 => ?_
        refine Exists.elim x1 fun d1 y1 => ?_
        refine Exists.elim (⟨_, rfl⟩ : ∃ n1, (IL.take k ++ IL.drop (k + 1)).length = n1) fun n1 hn1 => ?_
        rw [hn1] at y1
        rw [y1] at h7
        have hset := h7.set 1 (.slice b1 n1 d1) (si' := .slice b1 n1 d1) (sl' := .slice (some ⟨gl, 0, none⟩) n cl) (sg' := .slice bg' Gk.length cg') rfl
        have z1 := h7.blk.frozen 1; have z2 := h7.blk.cell 1
        have HF := Lib.hid hset; have HN1 := Lib.hid hn1
        rw [y1]
        clear hf h7 x1 y1 hset hb2 hn1
        simp only [List.drop_succ_cons, List.drop_zero, List.take_succ_cons, List.take_zero]
        go_upto_region 8 with fail
        clear z1 z2
        generalize W2.setCell ⟨q, 1, none⟩ (.slice b1 n1 d1) = w5 at HF ⊢
        have hbl : w.heap.size ≤ w5.heap.size := HF.out.below.size
        have hcs := cutW_size hbl
        have HW5 := HF
        refine wp_region_hot0 (w := cutW w5 w.heap.size) (ws := w5) 17 1 [4, 6, 10, 13, 14] [] [(4, fun u W' => u = .slice (some ⟨gl, 0, none⟩) n cl), (6, fun u W' => u = .slice (some ⟨gl, 0, none⟩) k cl), (10, fun u W' => u = .slice (some ⟨gl, 0, none⟩) n cl), (13, fun u W' => u = .slice (if cl = k + 1 then some ⟨gl, 0, none⟩ else some ⟨gl, 0 + (k + 1) * 3, none⟩) (n - (k + 1)) (cl - (k + 1))), (14, fun u W' => DrpAt w W' q r (IL.take k ++ IL.drop (k + 1)) (VL.take k ++ VL.drop (k + 1)) Gk (.slice b1 n1 d1) (.slice (some ⟨gl, 0, none⟩) n cl) (.slice bg' Gk.length cg') (.slice b1 n1 d1) u (.slice bg' Gk.length cg'))] [] [14] [4, 6, 10, 13] rfl (by decide) (by decide) (below_cut hbl (Below.refl _ _)) (J := fun W => DrpAt w W q r (IL.take k ++ IL.drop (k + 1)) VL Gk (.slice b1 n1 d1) (.slice (some ⟨gl, 0, none⟩) n cl) (.slice bg' Gk.length cg') (.slice b1 n1 d1) (.slice (some ⟨gl, 0, none⟩) n cl) (.slice bg' Gk.length cg')) (jend := 14) HW5.out (fun W W' h hb => h.later hb) (.inr (by kernel_rfl)) (by kernel_rfl) (by kernel_rfl) (by kernel_rfl) (by kernel_rfl) (by kernel_rfl) (fun _ _ _ _ _ h => h) ⟨fun v W1 W2 h hb => h, fun v W1 W2 h hb => h, fun v W1 W2 h hb => h, fun v W1 W2 h hb => h, fun v W1 W2 h hb => h.later hb, trivial⟩ ⟨fun _ v W1 W2 h => h, fun _ v W1 W2 h => h, fun _ v W1 W2 h => h, fun _ v W1 W2 h => h, fun h => by simp at h, trivial⟩ ?_
        intro LL hL
        have HL2 := Lib.hid hL
        clear hL
        simp only [List.take_succ_cons, List.take_zero, putL]
        iterate 17 (first | refine wpHead_skip (by decide) ?_ | (refine wpHead_step (by decide) (fun K hK => ?_); go_simp; refine hK _ ?_; clear hK K))
        refine wpHead_nil (HL2.out _ ⟨?_, ?_, ?_, ?_, ?_, trivial⟩ ?_)
        · intro vs W2 hb2 hf hj
          clear HL2
          have hjj := hj (.inr ⟨by decide, by kernel_rfl⟩)
          clear hj
          have x0 := hjj.blk.cell 2
          simp only [List.getElem?_toArray, List.getElem?_cons_zero, List.getElem?_cons_succ] at x0
          clear hjj
          change TStep _ _ _ (Act.put (Act.put (Act.put (Act.put (Act.put _ (some 56) (vs 4)) (some 58) (vs 6)) (some 62) (vs 10)) (some 65) (vs 13)) (some 66) (vs 14)) _ _
          refine tstep_yes (by kernel_rfl) ?_
          go_simp
          exact Below.refl _ _
        · intro vs W2 hb2 hf hj
          have hf := fits_cast (q := (vs 4 = .slice (some ⟨gl, 0, none⟩) n cl) ∧ True) hf (by kernel_rfl)
          clear HL2
          have hjj := hj (.inr ⟨by decide, by kernel_rfl⟩)
          clear hj
          clear hjj
          change TStep _ _ _ (Act.put (Act.put (Act.put (Act.put (Act.put _ (some 56) (vs 4)) (some 58) (vs 6)) (some 62) (vs 10)) (some 65) (vs 13)) (some 66) (vs 14)) _ _
          rw [hf.1]
          refine tstep_yes (by kernel_rfl) ?_
          clear hf
          go_simp
          exact Below.refl _ _
        · intro vs W2 hb2 hf hj
          clear HL2
          have hjj := hj (.inr ⟨by decide, by kernel_rfl⟩)
          clear hj
          have x0 := hjj.blk.cell 2
          simp only [List.getElem?_toArray, List.getElem?_cons_zero, List.getElem?_cons_succ] at x0
          clear hjj
          change TStep _ _ _ (Act.put (Act.put (Act.put (Act.put (Act.put _ (some 56) (vs 4)) (some 58) (vs 6)) (some 62) (vs 10)) (some 65) (vs 13)) (some 66) (vs 14)) _ _
          refine tstep_yes (by kernel_rfl) ?_
          go_simp
          exact Below.refl _ _
        · intro vs W2 hb2 hf hj
          have hf := fits_cast (q := (vs 10 = .slice (some ⟨gl, 0, none⟩) n cl) ∧ True) hf (by kernel_rfl)
          clear HL2
          have hjj := hj (.inr ⟨by decide, by kernel_rfl⟩)
          clear hj
          clear hjj
          change TStep _ _ _ (Act.put (Act.put (Act.put (Act.put (Act.put _ (some 56) (vs 4)) (some 58) (vs 6)) (some 62) (vs 10)) (some 65) (vs 13)) (some 66) (vs 14)) _ _
          rw [hf.1]
          refine tstep_yes (by kernel_rfl) ?_
          clear hf
          go_simp
          exact Below.refl _ _
        · intro vs W2 hb2 hf hj
          have hf := fits_cast (q := (vs 6 = .slice (some ⟨gl, 0, none⟩) k cl) ∧ (vs 13 = .slice (if cl = k + 1 then some ⟨gl, 0, none⟩ else some ⟨gl, 0 + (k + 1) * 3, none⟩) (n - (k + 1)) (cl - (k + 1))) ∧ True) hf (by kernel_rfl)
          clear HL2
          have hjj := hj (.inl rfl)
          clear hj
          change HStep _ _ _ _ (Act.put (Act.put (Act.put (Act.put (Act.put _ (some 56) (vs 4)) (some 58) (vs 6)) (some 62) (vs 10)) (some 65) (vs 13)) (some 66) (vs 14)) _ _
          rw [hf.1, hf.2.1]
          have hliv := hjj.live
          rw [HP.out.2.2.2.2.2.2] at hliv
          have hown := owns_takeN hliv (show k ≤ n by omega)
          rw [cvCells_take] at hown
          have hat : CvAt W2 (.slice (some ⟨gl, 0, none⟩) VL.length cl) VL := CvAt.of_owns (by rw [HP.out.2.2.2.2.2.2]; exact hliv) H.out.live.1 (by rw [HP.out.2.2.2.2.2.2]; omega)
          have hdr := cv_dropS hat (k := k + 1) (by rw [HP.out.2.2.2.2.2.2]; omega)
          rw [HP.out.2.2.2.2.2.2] at hdr
          have hlk : (VL.take k).length = k := by rw [List.length_take, HP.out.2.2.2.2.2.2]; omega
          have happ := app_more3 45 (A := VL.take k) hdr (by rw [hlk]; exact hown) hjj.below.size (by have := HP.out.2.2.2.2.2.2; simp; omega)
          refine Exists.elim happ fun v' ha1 => ?_
          refine Exists.elim ha1 fun w' ha2 => ?_
          refine hstep_yes (by kernel_rfl) ?_
          exact hotUpon_app rfl (by kernel_rfl) (by kernel_rfl) ha2.1 (hb2.trans (by rw [hcs]; exact ha2.2.2.1)) (hjj.appL ha2.2.1 ha2.2.2.2.1 ha2.2.2.2.2)
        · intro vs W2 hb2 hf
          have hf := fits_cast (q := (vs 4 = .slice (some ⟨gl, 0, none⟩) n cl) ∧ (vs 6 = .slice (some ⟨gl, 0, none⟩) k cl) ∧ (vs 10 = .slice (some ⟨gl, 0, none⟩) n cl) ∧ (vs 13 = .slice (if cl = k + 1 then some ⟨gl, 0, none⟩ else some ⟨gl, 0 + (k + 1) * 3, none⟩) (n - (k + 1)) (cl - (k + 1))) ∧ (DrpAt w W2 q r (IL.take k ++ IL.drop (k + 1)) (VL.take k ++ VL.drop (k + 1)) Gk (.slice b1 n1 d1) (.slice (some ⟨gl, 0, none⟩) n cl) (.slice bg' Gk.length cg') (.slice b1 n1 d1) (vs 14) (.slice bg' Gk.length cg')) ∧ True) hf (by kernel_rfl)
          clear HL2
          change wpList _ _ _ _ (Act.put (Act.put (Act.put (Act.put (Act.put _ (some 56) (vs 4)) (some 58) (vs 6)) (some 62) (vs 10)) (some 65) (vs 13)) (some 66) (vs 14)) _
          have h7 := hf.2.2.2.2.1
          refine Exists.elim (owns_slice h7.live) fun b2 x2 => ?_
          refine Exists.elim x2 fun d2 y2 => ?_
          refine Exists.elim (⟨_, rfl⟩ : ∃ n2, (VL.take k ++ VL.drop (k + 1)).length = n2) fun n2 hn2 => ?_
          rw [hn2] at y2
          rw [y2] at h7
          have hset := h7.set 2 (.slice b2 n2 d2) (si' := .slice b1 n1 d1) (sl' := .slice b2 n2 d2) (sg' := .slice bg' Gk.length cg') rfl
          have z1 := h7.blk.frozen 2; have z2 := h7.blk.cell 2
          have HF8 := Lib.hid hset
          rw [y2]
          clear hf h7 x2 y2 hset hb2 hn2
          simp only [List.drop_succ_cons, List.drop_zero, List.take_succ_cons, List.take_zero]
          go_wp2_with fail
          go_ret2
          have hfin := HF8.out
          rw [HP.out.1, HP.out.2.1] at hfin
          have hgk : (if keep then G ++ (lookM L id').toList else G) = Gk := by rw [HLK.out]; exact HGK3.out
          have huV : UU ((delM L id').map (·.2)) := by
            rw [← HP.out.2.1]
            intro d hd
            rcases List.mem_append.1 hd with hd | hd
            · exact H.out.live.1 d (List.mem_of_mem_take hd)
            · exact H.out.live.1 d (List.mem_of_mem_drop hd)
          have huG : UU Gk := by
            rw [← HGK3.out]
            intro d hd
            cases keep
            · exact H.out.gh.1 d (by simpa using hd)
            · simp at hd
              rcases hd with hd | hd
              · exact H.out.gh.1 d hd
              · subst hd; exact HP.out.2.2.1
          have hGl : Gk.length ≤ G.length + 1 := by rw [← HGK3.out]; cases keep <;> simp
          have hdl := del_length id' L
          refine ⟨q, _, _, _, by rw [HLK.out]; rfl, by rw [hgk]; exact RbAt_of hfin (by simp) huV huG (by have := HNN.out; simp; omega), hfin.below, FrX.new (fun b hb => (hfin.ids.lt b hb).1) (fun b hb => (hfin.live.lt b hb).1) (fun b hb => (hfin.gh.lt b hb).1)⟩
end Go.Proofs.YthmhboagbeibdaaGreat
/-
  The document's book of curves: Swap, Find.
-/
namespace Go.Proofs.YthmhboagbeibdaaGreat
set_option linter.unusedVariables false
open Go.RowKit Go.Maps
attribute [local go_sem ↓] Go.wp_at_zero Go.wp_at_succ
attribute [local go_sem] quietR quietAtR quietUponR midAt midUpon
attribute [local irreducible] TStep HStep

theorem curve_ne (F L R : Int) (h : ¬ (F = 0 ∧ L = 0 ∧ R = 0)) (W : World) : (binOp .neq 25 (.agg #[.int .u64 F, .int .u64 L, .int .u64 R]) (.agg #[.int .u64 0, .int .u64 0, .int .u64 0])).run Tryz.prog W = .ok (.bool true) W := by
  have e1 : (F == 0) = decide (F = 0) := rfl
  have e2 : (L == 0) = decide (L = 0) := rfl
  have e3 : (R == 0) = decide (R = 0) := rfl
  by_cases h1 : F = 0
  · subst h1
    by_cases h2 : L = 0
    · subst h2
      have h3 : R ≠ 0 := by omega
      go_simp
    · go_simp
  · go_simp

def RswapW (w : World) (r : Int) (L : List (Int × Cv)) (G : List Cv) (vi0 vl0 vg0 : Value) (id : Int) (c : Cv) (keep : Bool) (e : Ending) (w' : World) : Prop :=
  ∃ p' vi vl vg, e = .returned (.tuple #[.pointer (some ⟨p', 0, none⟩), .int .i64 (swapC L G id c keep r)]) ∧ RbAt w' p' r ((swapL L G id c keep r).map (·.1)) ((swapL L G id c keep r).map (·.2)) (swapG L G id c keep r) vi vl vg ∧ Below w.heap.size w w' ∧ FrX w (L.map (·.1)) (L.map (·.2)) G vi0 vl0 vg0 ((swapL L G id c keep r).map (·.1)) ((swapL L G id c keep r).map (·.2)) (swapG L G id c keep r) vi vl vg

theorem swap_live (L : List (Int × Cv)) (id : Int) : liveBut L (fun x => x == id) = (delM L id).map (·.2) := by
  unfold liveBut delM
  congr 1
theorem swap_ghosts (L : List (Int × Cv)) (G : List Cv) (id : Int) (b : Bool) : (if b then G ++ (lookM L id).toList else G) = G ++ swapM L id b := by
  unfold swapM
  cases b <;> simp

set_option maxRecDepth 100000 in
set_option maxHeartbeats 8000000 in
theorem rswap_any (F0 L0 R0 id : Int) (keep : Bool) (p : Nat) (r : Int) (L : List (Int × Cv)) (G : List Cv) (vi vl vg : Value) (w : World) (hc : U F0 ∧ U L0 ∧ U R0) (hr : U r) (hrise : Rising L) (h : RbAt w p r (L.map (·.1)) (L.map (·.2)) G vi vl vg) (hfl : L.length + G.length < 99999) :
    Calls Tryz.prog 10 #[.pointer (some ⟨p, 0, none⟩), .int .i64 id, .agg #[.int .u64 F0, .int .u64 L0, .int .u64 R0], .bool keep] w (RswapW w r L G vi vl vg id (F0, L0, R0) keep) := by
  have hmay := fun W => rmay_any F0 L0 R0 W hc.2.1.1
  rw [show mayB F0 L0 R0 = okC (F0, L0, R0) from rfl] at hmay
  have hb0 := (Below.refl w.heap.size w).alloc (Nat.le_refl _) (.cells #[.int .u64 F0, .int .u64 L0, .int .u64 R0] 25)
  have hB0 := Blk.new w 25 #[.int .u64 F0, .int .u64 L0, .int .u64 R0]
  have H := Lib.hid h; have HB := Lib.hid (And.intro hb0 hB0); have HM := Lib.hid hmay; have HRI := Lib.hid hrise
  clear h hmay hb0 hB0 hrise
  go_enter Tryz.func10, Tryz.ntmps10
  go_wp2_with fail
  refine (HM.out _).mono ?_
  rintro e w2 ⟨rfl, hb2⟩
  have hbw2 := HB.out.1.trans (hb2.mono HB.out.1.size)
  have hB2 := HB.out.2.below hb2 HB.out.2.lt
  have HB2 := Lib.hid (And.intro hbw2 hB2)
  clear hb2 hbw2 hB2 HB
  cases ok : okC (F0, L0, R0)
  · have HOK := Lib.hid ok
    clear ok
    go_wp2_with fail
    go_ret2
    have e1 : swapC L G id (F0, L0, R0) keep r = 30 := by unfold swapC; rw [if_pos HOK.out]
    refine ⟨p, vi, vl, vg, by rw [e1]; rfl, ?_, HB2.out.1, by unfold swapL swapG; rw [e1, if_neg (by simp), if_neg (by simp)]; exact FrX.same rfl rfl rfl⟩
    unfold swapL swapG
    rw [e1, if_neg (by simp), if_neg (by simp)]
    exact H.out.later HB2.out.1
  · have HOK := Lib.hid ok
    clear ok
    have hdr := rdrop_any id keep p r L G vi vl vg w2 HRI.out (H.out.later HB2.out.1) (by omega)
    go_wp2_with fail
    refine hdr.mono ?_
    clear hdr
    rintro e w3 ⟨q, vi1, vl1, vg1, rfl, hq, hb3, _⟩
    obtain ⟨D, hD⟩ : ∃ D, delM L id = D := ⟨_, rfl⟩
    obtain ⟨Gk, hGk⟩ : ∃ Gk, (if keep then G ++ (lookM L id).toList else G) = Gk := ⟨_, rfl⟩
    rw [hD, hGk] at hq
    have hno : id ∉ D.map (·.1) := fun hm => by
      have h1 := look_iff.2 hm
      rw [← hD, look_del_same] at h1
      cases h1
    have hlen : D.length + Gk.length < 100000 := by
      have h1 := del_length id L
      have h2 := swapM_len L id keep
      rw [← hD, ← hGk, swap_ghosts, List.length_append]
      omega
    have hw3 := HB2.out.1.trans (hb3.mono HB2.out.1.size)
    have hB3 := HB2.out.2.below hb3 HB2.out.2.lt
    have HB3 := Lib.hid (And.intro hw3 (And.intro hB3 hq)); have HD := Lib.hid (And.intro hD (And.intro hGk (And.intro hno hlen)))
    have hwi := rwith_any F0 L0 R0 id q r _ _ _ _ _ _ w3 hc hq (by simpa using hlen)
    have c0 := hB3.cell 0; have c1 := hB3.cell 1; have c2 := hB3.cell 2
    simp only [List.getElem?_toArray, List.getElem?_cons_zero, List.getElem?_cons_succ] at c0 c1 c2
    clear hD hGk hno hlen hw3 hB3 hq hb3 HB2
    go_wp2_with fail
    clear c0 c1 c2
    refine hwi.mono ?_
    clear hwi
    rintro e w4 hw4
    have e0 : swapC L G id (F0, L0, R0) keep r = if askB (Gk ++ D.map (·.2)) (F0, L0, R0) r = false then 170 else 0 := by
      unfold swapC
      rw [if_neg (by rw [HOK.out]; simp), swap_live, ← swap_ghosts, HD.out.1, HD.out.2.1]
    have E0 := Lib.hid e0
    clear e0
    by_cases hz : (F0, L0, R0) = ((0, 0, 0) : Cv)
    · rcases hw4 with ⟨_, q2, vi2, vl2, vg2, rfl, hq, hqs, hb4, hvg⟩ | ⟨hne, _⟩
      · have hbw4 := HB3.out.1.trans (hb4.mono HB3.out.1.size)
        have hB4 := HB3.out.2.1.below hb4 HB3.out.2.1.lt
        have c0 := hB4.cell 0; have c1 := hB4.cell 1; have c2 := hB4.cell 2
        simp only [List.getElem?_toArray, List.getElem?_cons_zero, List.getElem?_cons_succ] at c0 c1 c2
        have HQ := Lib.hid hq; have HB4 := Lib.hid hbw4
        have HLO := Lib.hid (show (∀ b, vi2.ownBlock = some b → w.heap.size ≤ b) ∧ (∀ b, vl2.ownBlock = some b → w.heap.size ≤ b) ∧ (∀ b, vg2.ownBlock = some b → w.heap.size ≤ b) from ⟨fun b hb => Nat.le_trans HB3.out.1.size (hvg.2.2.2 b hb), fun b hb => Nat.le_trans HB3.out.1.size (hvg.2.1 b hb), fun b hb => Nat.le_trans HB3.out.1.size (hvg.2.2.1 b hb)⟩)
        clear hq hqs hb4 hvg hbw4 hB4
        have hz2 := hz
        simp only [Prod.mk.injEq] at hz2
        obtain ⟨rfl, rfl, rfl⟩ := hz2
        have e1 : swapC L G id (0, 0, 0) keep r = 0 := by rw [E0.out, if_neg (by unfold askB; simp)]
        have E1 := Lib.hid e1
        clear e1
        go_wp2_with fail
        go_ret2
        refine ⟨q2, vi2, vl2, vg2, by rw [E1.out]; rfl, ?_, HB4.out, FrX.new HLO.out.1 HLO.out.2.1 HLO.out.2.2⟩
        unfold swapL swapG
        rw [if_pos E1.out, if_pos E1.out, if_pos rfl, ← swap_ghosts, HD.out.1, HD.out.2.1]
        exact HQ.out
      · exact absurd hz hne
    · rcases hw4 with ⟨h0, _⟩ | ⟨_, k, hk, hlo, hhi, q2, vi2, vl2, vg2, rfl, hq, hqs, hb4, hvg⟩
      · exact absurd h0 hz
      · have hbw4 := HB3.out.1.trans (hb4.mono HB3.out.1.size)
        have hB4 := HB3.out.2.1.below hb4 HB3.out.2.1.lt
        have c0 := hB4.cell 0; have c1 := hB4.cell 1; have c2 := hB4.cell 2
        simp only [List.getElem?_toArray, List.getElem?_cons_zero, List.getElem?_cons_succ] at c0 c1 c2
        have hsp := putM_split (c := (F0, L0, R0)) HD.out.2.2.1 (by simpa using hk) hlo hhi
        have hi : (D.map (·.1)).take k ++ [id] ++ (D.map (·.1)).drop k = (putM D id (F0, L0, R0)).map (·.1) := by rw [hsp]; simp [List.map_take, List.map_drop]
        have hv : (D.map (·.2)).take k ++ [(F0, L0, R0)] ++ (D.map (·.2)).drop k = (putM D id (F0, L0, R0)).map (·.2) := by rw [hsp]; simp [List.map_take, List.map_drop]
        have hkeep : decide (Keep ((putM D id (F0, L0, R0)).map (·.2) ++ Gk) r) = askB (Gk ++ D.map (·.2)) (F0, L0, R0) r := by
          unfold askB
          rw [decide_eq_false hz, Bool.false_or, ← hv]
          have hcat : (D.map (·.2)).take k ++ (D.map (·.2)).drop k = D.map (·.2) := List.take_append_drop _ _
          rw [Bool.eq_iff_iff, decide_eq_true_eq, decide_eq_true_eq, keep_ins, hcat]
        rw [hi, hv] at hq
        have hkp := rkept_any q2 r _ _ _ _ _ _ w4 hq hr
        rw [hkeep] at hkp
        have HQ := Lib.hid hq; have HB4 := Lib.hid hbw4; have HZ := Lib.hid hz
        have HLO := Lib.hid (show (∀ b, vi2.ownBlock = some b → w.heap.size ≤ b) ∧ (∀ b, vl2.ownBlock = some b → w.heap.size ≤ b) ∧ (∀ b, vg2.ownBlock = some b → w.heap.size ≤ b) from ⟨fun b hb => Nat.le_trans HB3.out.1.size (hvg.2.2.2 b hb), fun b hb => Nat.le_trans HB3.out.1.size (hvg.2.1 b hb), fun b hb => Nat.le_trans HB3.out.1.size (hvg.2.2.1 b hb)⟩)
        have hne := curve_ne F0 L0 R0 (fun h => hz (by rw [h.1, h.2.1, h.2.2]))
        clear hq hqs hb4 hvg hbw4 hB4 hsp hi hv hkeep hlo hhi hk hz
        obtain ⟨kb, hkb⟩ : ∃ kb, askB (Gk ++ D.map (·.2)) (F0, L0, R0) r = kb := ⟨_, rfl⟩
        rw [hkb] at hkp
        have HKB := Lib.hid hkb
        clear hkb
        go_wp2_with fail
        refine hkp.mono ?_
        clear hkp c0 c1 c2 hne
        rintro e w5 ⟨rfl, hb5⟩
        have HB5 := Lib.hid (HB4.out.trans (hb5.mono HB4.out.size)); have HQ5 := Lib.hid (HQ.out.later hb5)
        clear hb5
        cases kb
        · have e1 : swapC L G id (F0, L0, R0) keep r = 170 := by rw [E0.out, HKB.out]; rfl
          have E1 := Lib.hid e1
          clear e1
          go_wp2_with fail
          go_ret2
          refine ⟨p, vi, vl, vg, by rw [E1.out]; rfl, ?_, HB5.out, by unfold swapL swapG; rw [E1.out, if_neg (by simp), if_neg (by simp)]; exact FrX.same rfl rfl rfl⟩
          unfold swapL swapG
          rw [E1.out, if_neg (by simp), if_neg (by simp)]
          exact H.out.later HB5.out
        · have e1 : swapC L G id (F0, L0, R0) keep r = 0 := by rw [E0.out, HKB.out]; rfl
          have E1 := Lib.hid e1
          clear e1
          go_wp2_with fail
          go_ret2
          refine ⟨q2, vi2, vl2, vg2, by rw [E1.out]; rfl, ?_, HB5.out, FrX.new HLO.out.1 HLO.out.2.1 HLO.out.2.2⟩
          unfold swapL swapG
          rw [if_pos E1.out, if_pos E1.out, if_neg HZ.out, ← swap_ghosts, HD.out.1, HD.out.2.1]
          exact HQ5.out

def FindW (w : World) (L : List (Int × Cv)) (id : Int) (e : Ending) (w' : World) : Prop :=
  e = .returned (.tuple #[cvV ((lookM L id).getD (0, 0, 0)), .bool (lookM L id).isSome]) ∧ Below w.heap.size w w'
set_option maxRecDepth 100000 in
theorem rfind_any (id : Int) (p : Nat) (r : Int) (L : List (Int × Cv)) (G : List Cv) (vi vl vg : Value) (w : World) (hrise : Rising L) (h : RbAt w p r (L.map (·.1)) (L.map (·.2)) G vi vl vg) :
    Calls Tryz.prog 37 #[.pointer (some ⟨p, 0, none⟩), .int .i64 id] w (FindW w L id) := by
  have hb0 := (Below.refl w.heap.size w).alloc (Nat.le_refl _) (.cells #[.int .u64 0, .int .u64 0, .int .u64 0] 25)
  have hB := Blk.new w 25 #[.int .u64 0, .int .u64 0, .int .u64 0]
  have h0 := h.later hb0
  have hat := rat2_any id p r _ _ _ _ _ _ _ h0
  have H := Lib.hid (And.intro h0 (And.intro hb0 hB)); have HRI := Lib.hid hrise
  clear h h0 hb0 hB hrise
  go_enter Tryz.func37, Tryz.ntmps37
  go_wp2_with fail
  refine hat.mono ?_
  clear hat
  rintro e w1 ⟨⟨k, rfl, hk, hkl⟩ | ⟨rfl, hno⟩, hb1⟩
  · rw [List.length_map] at hkl
    obtain ⟨⟨id', CF, CL, CR⟩, hkL⟩ : ∃ q, L[k]? = some q := ⟨_, List.getElem?_eq_getElem hkl⟩
    obtain rfl : id' = id := by
      rw [List.getElem?_map, hkL] at hk
      simpa using hk
    have hVk : (L.map (·.2))[k]? = some (CF, CL, CR) := by rw [List.getElem?_map, hkL]; rfl
    have hlook : lookM L id' = some (CF, CL, CR) := look_at HRI.out hkL
    have h1 := H.out.1.later hb1
    have hB1 := H.out.2.2.below hb1 H.out.2.2.lt
    have hbw := H.out.2.1.trans (hb1.mono H.out.2.1.size)
    obtain ⟨al, cl, rfl⟩ : ∃ a cap, vl = .slice a L.length cap := by obtain ⟨_, _, a, cap, e, _⟩ := h1.live; exact ⟨a, cap, by rw [e, List.length_map]⟩
    obtain ⟨b, off, rfl, hbl, c0, c1, c2⟩ := cv_at' h1.live hVk
    have y2 := h1.blk.cell 2
    have z0 := hB1.cell 0; have z1 := hB1.cell 1; have z2 := hB1.cell 2; have f0 := hB1.frozen 0; have f1 := hB1.frozen 1; have f2 := hB1.frozen 2
    simp only [List.getElem?_toArray, List.getElem?_cons_zero, List.getElem?_cons_succ] at y2 z0 z1 z2
    dsimp only at c0 c1 c2
    have HL := Lib.hid hlook; have HBW := Lib.hid hbw; have HB1 := Lib.hid hB1
    have hk0 : (0 : Int) ≤ (k : Int) := by omega
    clear hVk hlook h1 hB1 hbw hkL hk
    go_wp2_with fail
    have hE := ((HB1.out.set_ 0 (.int .u64 CF)).set_ 1 (.int .u64 CL)).set_ 2 (.int .u64 CR)
    have q0 := hE.cell 0; have q1 := hE.cell 1; have q2 := hE.cell 2
    simp at q0 q1 q2
    refine bodyPost_ret (v := .tuple #[.agg #[.int .u64 CF, .int .u64 CL, .int .u64 CR], .bool true]) (by simp [results, Tryz.results37, go_sem, q0, q1, q2]) rfl ⟨by rw [HL.out]; rfl, ((HBW.out.setCell (p := ⟨w.heap.size, 0, none⟩) (Nat.le_refl _) _).setCell (p := ⟨w.heap.size, 1, none⟩) (Nat.le_refl _) _).setCell (p := ⟨w.heap.size, 2, none⟩) (Nat.le_refl _) _⟩
  · have hn : lookM L id = none := look_none.2 fun q hq e => hno (List.mem_map.2 ⟨q, hq, e⟩)
    have hB1 := H.out.2.2.below hb1 H.out.2.2.lt
    have hbw := H.out.2.1.trans (hb1.mono H.out.2.1.size)
    have z0 := hB1.cell 0; have z1 := hB1.cell 1; have z2 := hB1.cell 2; have f0 := hB1.frozen 0; have f1 := hB1.frozen 1; have f2 := hB1.frozen 2
    simp only [List.getElem?_toArray, List.getElem?_cons_zero, List.getElem?_cons_succ] at z0 z1 z2
    have HN := Lib.hid hn; have HBW := Lib.hid hbw; have HB1 := Lib.hid hB1
    clear hno hn hB1 hbw
    go_wp2_with fail
    have hE := ((HB1.out.set_ 0 (.int .u64 0)).set_ 1 (.int .u64 0)).set_ 2 (.int .u64 0)
    have q0 := hE.cell 0; have q1 := hE.cell 1; have q2 := hE.cell 2
    simp at q0 q1 q2
    refine bodyPost_ret (v := .tuple #[.agg #[.int .u64 0, .int .u64 0, .int .u64 0], .bool false]) (by simp [results, Tryz.results37, go_sem, q0, q1, q2]) rfl ⟨by rw [HN.out]; rfl, ((HBW.out.setCell (p := ⟨w.heap.size, 0, none⟩) (Nat.le_refl _) _).setCell (p := ⟨w.heap.size, 1, none⟩) (Nat.le_refl _) _).setCell (p := ⟨w.heap.size, 2, none⟩) (Nat.le_refl _) _⟩
end Go.Proofs.YthmhboagbeibdaaGreat
/-
  The law's word: does a book show what the document's does?
-/
namespace Go.Proofs.YthmhboagbeibdaaGreat
set_option linter.unusedVariables false
open Go.RowKit Go.Maps Go.Sort
attribute [local go_sem ↓] Go.wp_at_zero Go.wp_at_succ
attribute [local go_sem] quietR quietAtR quietUponR midAt midUpon
attribute [local irreducible] TStep HStep

/-- rows of numbers that are the same -/
theorem same16_any (va vb : Value) (ks : List Int) (w : World) (ha : IntAt w va ks) (hb : IntAt w vb ks) :
    Calls Tryz.prog 32 #[va, vb] w fun e w' => e = .returned (.bool true) ∧ Below w.heap.size w w' := by
  obtain ⟨hl, a, cap, rfl, ha⟩ := ha
  obtain ⟨_, a2, cap2, rfl, hb⟩ := hb
  obtain ⟨n, hn⟩ : ∃ n, n = ks.length := ⟨_, rfl⟩
  rw [← hn] at hl ⊢
  have HN := Lib.hid hn; have HA := Lib.hid ha; have HB0 := Lib.hid hb
  clear hn ha hb
  go_enter Tryz.func32, Tryz.ntmps32
  go_wp2_with fail
  go_loopw [5] (fun vi W => ∃ k : Nat, vi = .int .i64 k ∧ k ≤ n ∧ Below w.heap.size w W) (fun vi _ => (n - Go.RowKit.intOf vi).toNat)
  case atStart => exact ⟨0, rfl, by omega, Below.refl _ _⟩
  case round =>
    obtain ⟨k, rfl, hk, hB⟩ := hrel
    have HB := Lib.hid hB
    by_cases hlt : k < n
    · obtain ⟨x, hx⟩ : ∃ x, ks[k]? = some x := ⟨_, List.getElem?_eq_getElem (by have := HN.out; omega)⟩
      rcases HA.out with h0 | ⟨g, off, rfl, hg, _, hc⟩
      · rw [h0] at hx; simp at hx
      rcases HB0.out with h0 | ⟨g2, off2, rfl, hg2, _, hc2⟩
      · rw [h0] at hx; simp at hx
      have c1 := (hB.cell (p := ⟨g, off + k, none⟩) hg).trans (hc k x hx)
      have c2 := (hB.cell (p := ⟨g2, off2 + k, none⟩) hg2).trans (hc2 k x hx)
      clear hB hx hc hc2
      go_wp2
      go_quiet (fail)
      go_wp2
      go_roundw
      case measure => (simp [Go.RowKit.intOf]; try omega)
      case rel => exact ⟨k + 1, by go_num, by omega, below_drewN HB.out _⟩
    · obtain rfl : k = n := by omega
      clear hB
      go_wp2
      go_ret
      exact ⟨rfl, HB.out⟩
theorem curve_ne_no (F L R : Int) (W : World) : (binOp .neq 25 (.agg #[.int .u64 F, .int .u64 L, .int .u64 R]) (.agg #[.int .u64 F, .int .u64 L, .int .u64 R])).run Tryz.prog W = .ok (.bool false) W := by go_simp
theorem curve_eq_yes (F L R : Int) (W : World) : (binOp .eql 25 (.agg #[.int .u64 F, .int .u64 L, .int .u64 R]) (.agg #[.int .u64 F, .int .u64 L, .int .u64 R])).run Tryz.prog W = .ok (.bool true) W := by go_simp
/-- rows of curves that are the same -/
theorem same17_any (va vb : Value) (ks : List Cv) (w : World) (ha : CvAt w va ks) (hb : CvAt w vb ks) :
    Calls Tryz.prog 33 #[va, vb] w fun e w' => e = .returned (.bool true) ∧ Below w.heap.size w w' := by
  obtain ⟨a, cap, rfl⟩ : ∃ a cap, va = .slice a ks.length cap := by obtain ⟨_, _, a, cap, e, _⟩ := ha; exact ⟨a, cap, e⟩
  obtain ⟨a2, cap2, rfl⟩ : ∃ a cap, vb = .slice a ks.length cap := by obtain ⟨_, _, a, cap, e, _⟩ := hb; exact ⟨a, cap, e⟩
  have hl := ha.2.1
  obtain ⟨n, hn⟩ : ∃ n, n = ks.length := ⟨_, rfl⟩
  rw [← hn] at hl ha hb ⊢
  have HN := Lib.hid hn; have HA := Lib.hid ha; have HB0 := Lib.hid hb
  clear hn ha hb
  go_enter Tryz.func33, Tryz.ntmps33
  go_wp2_with fail
  go_loopw [5] (fun vi W => ∃ k : Nat, vi = .int .i64 k ∧ k ≤ n ∧ Below w.heap.size w W) (fun vi _ => (n - Go.RowKit.intOf vi).toNat)
  case atStart => exact ⟨0, rfl, by omega, Below.refl _ _⟩
  case round =>
    obtain ⟨k, rfl, hk, hB⟩ := hrel
    have HB := Lib.hid hB
    by_cases hlt : k < n
    · obtain ⟨⟨F, L, R⟩, hx⟩ : ∃ x, ks[k]? = some x := ⟨_, List.getElem?_eq_getElem (by have := HN.out; omega)⟩
      obtain ⟨g, off, rfl, hg, c0, c1, c2⟩ := cv_at' HA.out hx
      obtain ⟨g2, off2, rfl, hg2, d0, d1, d2⟩ := cv_at' HB0.out hx
      have c0 := (hB.cell (p := ⟨g, off + k * 3, none⟩) hg).trans c0
      have c1 := (hB.cell (p := ⟨g, off + k * 3 + 1, none⟩) hg).trans c1
      have c2 := (hB.cell (p := ⟨g, off + k * 3 + 2, none⟩) hg).trans c2
      have d0 := (hB.cell (p := ⟨g2, off2 + k * 3, none⟩) hg2).trans d0
      have d1 := (hB.cell (p := ⟨g2, off2 + k * 3 + 1, none⟩) hg2).trans d1
      have d2 := (hB.cell (p := ⟨g2, off2 + k * 3 + 2, none⟩) hg2).trans d2
      dsimp only at c0 c1 c2 d0 d1 d2
      have hne := curve_ne_no F L R
      clear hB hx
      go_wp2
      go_quiet (fail)
      go_wp2
      go_roundw
      case measure => (simp [Go.RowKit.intOf]; try omega)
      case rel => exact ⟨k + 1, by go_num, by omega, below_drewN HB.out _⟩
    · obtain rfl : k = n := by omega
      clear hB
      go_wp2
      go_ret
      exact ⟨rfl, HB.out⟩
theorem rate_any (g m : Nat) (r : Int) (L : List (Int × Cv)) (G : List Cv) (vg : Value) (w : World) (h : BkAt w g m r L G vg) :
    Calls Tryz.prog 31 #[.pointer (some ⟨g, 0, none⟩)] w fun e w' => e = .returned (.int .u64 r) ∧ Below w.heap.size w w' := by
  have hn := bnone_no g r w (h.blk.cell 0) h.rate.1
  have y0 := h.blk.cell 0
  simp only [List.getElem?_toArray, List.getElem?_cons_zero, List.getElem?_cons_succ] at y0
  clear h
  go_enter Tryz.func31, Tryz.ntmps31
  go_wp2_with (go_at_call 17; refine hn.mono ?_; rintro e w1 ⟨rfl, rfl⟩)
  go_ret
  exact ⟨rfl, Below.refl _ _⟩
end Go.Proofs.YthmhboagbeibdaaGreat
