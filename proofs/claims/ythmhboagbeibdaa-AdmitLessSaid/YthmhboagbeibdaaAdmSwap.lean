/-
  The book of curves: Swap.
-/
import Derived.Test.YthmhboagbeibdaaAdmO
namespace Go.Proofs.Ythmhboagbeibdaa
set_option linter.unusedVariables false
open Go.RowKit Go.Maps Go.Sort
attribute [local go_sem ↓] Go.wp_at_zero Go.wp_at_succ
attribute [local go_sem] quietR quietAtR quietUponR midAt midUpon
attribute [local irreducible] TStep HStep

/-- the closure: another one's Id -/
theorem same_id (x id : Int) (b : Nat) (W : World) (hb : W.cell? ⟨b, 0, none⟩ = some (.int .i64 id)) :
    Calls Try.prog 38 (#[.int .i64 x] ++ #[.pointer (some ⟨b, 0, none⟩)]) W fun e w' => e = .returned (.bool (x == id)) ∧ Below W.heap.size W w' := by
  go_enter Try.func38, Try.ntmps38
  go_wp2_with fail
  go_ret
  exact ⟨rfl, Below.refl _ _⟩

/-- the ghost that a swap makes, if it is to -/
def swapM (L : List (Int × Cv)) (id : Int) (keep : Bool) : List Cv := if keep then (lookM L id).toList else []
noncomputable def swapC (L : List (Int × Cv)) (G : List Cv) (id : Int) (c : Cv) (keep : Bool) (r : Int) : Int :=
  if okC c = false then 30 else if askB (G ++ swapM L id keep ++ liveBut L (fun x => x == id)) c r = false then 170 else 0
noncomputable def swapL (L : List (Int × Cv)) (G : List Cv) (id : Int) (c : Cv) (keep : Bool) (r : Int) : List (Int × Cv) :=
  if swapC L G id c keep r = 0 then (if c = (0, 0, 0) then delM L id else putM (delM L id) id c) else L
noncomputable def swapG (L : List (Int × Cv)) (G : List Cv) (id : Int) (c : Cv) (keep : Bool) (r : Int) : List Cv :=
  if swapC L G id c keep r = 0 then G ++ swapM L id keep else G
def SwapW (w : World) (base g m : Nat) (r : Int) (L : List (Int × Cv)) (G : List Cv) (vg : Value) (id : Int) (c : Cv) (keep : Bool) (e : Ending) (w' : World) : Prop :=
  e = .returned (.int .i64 (swapC L G id c keep r)) ∧ (∃ vg', BkO w' base g m r (swapL L G id c keep r) (swapG L G id c keep r) vg' ∧ (keep = false → vg' = vg)) ∧ Below base w w' ∧ Spare w w' g m vg
theorem swapM_len (L : List (Int × Cv)) (id : Int) (keep : Bool) : (swapM L id keep).length ≤ 1 := by
  unfold swapM
  cases keep
  · simp
  · cases h : lookM L id <;> simp

theorem BkO.far {w : World} {base g m : Nat} {r : Int} {L : List (Int × Cv)} {G : List Cv} {vg : Value} (h : BkO w base g m r L G vg) (k : Nat) (hk : w.heap.size ≤ k) : k ≠ g ∧ k ≠ m ∧ vg.ownBlock ≠ some k := by
  have h1 := h.bk.blk.lt
  refine ⟨by omega, ?_, ?_⟩
  · obtain ⟨es, clock, h2, _⟩ := h.bk.map
    have := (Array.getElem?_eq_some_iff.1 h2).1
    omega
  · rcases h.own.2 with ⟨rfl, _⟩ | ⟨g', c, cur, rfl, _, h3, _⟩
    · simp [Value.ownBlock]
    · have := (Array.getElem?_eq_some_iff.1 h3).1
      intro e
      simp [Value.ownBlock] at e
      omega

set_option maxRecDepth 100000 in
set_option maxHeartbeats 4000000 in
theorem swap_any (F0 L0 R0 id : Int) (keep : Bool) (base g m : Nat) (r : Int) (L : List (Int × Cv)) (G : List Cv) (vg : Value) (w : World) (hc : U F0 ∧ U L0 ∧ U R0) (hid : (Lit.int .i64 id).wf = true) (h : BkO w base g m r L G vg) (hfew : L.length + G.length < 99999) :
    Calls Try.prog 22 #[.pointer (some ⟨g, 0, none⟩), .int .i64 id, .agg #[.int .u64 F0, .int .u64 L0, .int .u64 R0], .bool keep] w (SwapW w base g m r L G vg id (F0, L0, R0) keep) := by
  have hmay := fun W => may_any F0 L0 R0 W hc.2.1.1
  rw [show mayB F0 L0 R0 = okC (F0, L0, R0) from rfl] at hmay
  have hb0 := ((Below.refl w.heap.size w).alloc (Nat.le_refl _) (.cells #[.int .i64 id] 3)).alloc (by simp) (.cells #[.int .u64 F0, .int .u64 L0, .int .u64 R0] 25)
  have hI := (Blk.new w 3 #[.int .i64 id]).alloc (.cells #[.int .u64 F0, .int .u64 L0, .int .u64 R0] 25)
  have hB := Blk.new (w.alloc (.cells #[.int .i64 id] 3)) 25 #[.int .u64 F0, .int .u64 L0, .int .u64 R0]
  rw [World.size_alloc] at hB
  have h0 := h.later hb0
  have hn := bnone_no g r _ (h0.bk.blk.cell 0) h.bk.rate.1
  have H := Lib.hid (And.intro h (And.intro hb0 (And.intro hI hB)))
  have HU := Lib.hid (fun (c : Cv) (hl : lookM L id = some c) => look_u h.bk.u hl)
  have c0 := hB.cell 0; have c1 := hB.cell 1; have c2 := hB.cell 2
  simp only [List.getElem?_toArray, List.getElem?_cons_zero, List.getElem?_cons_succ] at c0 c1 c2
  clear h hb0 hI hB h0
  go_enter Try.func22, Try.ntmps22
  go_wp2_with (go_at_call 29; refine hn.mono ?_; rintro e w1 ⟨rfl, rfl⟩)
  refine (hmay _).mono ?_
  clear c0 c1 c2 hn hmay
  rintro e w2 ⟨rfl, hb2⟩
  have hb02 : Below w.heap.size w w2 := H.out.2.1.trans (hb2.mono H.out.2.1.size)
  have hI2 := H.out.2.2.1.below hb2 H.out.2.2.1.lt
  have hB2 := H.out.2.2.2.below hb2 H.out.2.2.2.lt
  have h2 := H.out.1.later hb02
  have H2 := Lib.hid (And.intro h2 (And.intro hb02 (And.intro hI2 hB2)))
  clear hb02 hI2 hB2 hb2
  have hla : ∀ W, Below w2.heap.size w2 W → (Instr.lookup 56 (.map (some m)) (.int .i64 id) true).run Try.prog W = .ok (.tuple #[cvV ((lookM L id).getD (0, 0, 0)), .bool (lookM L id).isSome]) W ∧ W.cell? ⟨g, 1, none⟩ = some (.map (some m)) ∧ W.cell? ⟨w.heap.size, 0, none⟩ = some (.int .i64 id) := fun W hW => by
    have hk := h2.later hW
    have h1 := hk.bk.map.look_ok (k := id) (E := 25) (T := 56) (z := cvV (0, 0, 0)) Try.underlying3 Try.underlying56 (by exact Try.zeroValue25 _) hid
    have hval : (lookM (mapV cvV L) id).getD (cvV (0, 0, 0)) = cvV ((lookM L id).getD (0, 0, 0)) := by rw [look_map]; cases lookM L id <;> rfl
    have hsm : (lookM (mapV cvV L) id).isSome = (lookM L id).isSome := by rw [look_map]; cases lookM L id <;> rfl
    rw [hval, hsm] at h1
    exact ⟨h1, hk.bk.blk.cell 1, (H2.out.2.2.1.below hW H2.out.2.2.1.lt).cell 0⟩
  clear h2
  obtain ⟨bs, hbs⟩ : ∃ bs, (lookM L id).isSome = bs := ⟨_, rfl⟩
  obtain ⟨⟨CF, CL, CR⟩, hcc⟩ : ∃ c, (lookM L id).getD (0, 0, 0) = c := ⟨_, rfl⟩
  have hMs : swapM L id keep = if bs && keep then [((CF, CL, CR) : Cv)] else [] := by
    unfold swapM
    rw [← hbs, ← hcc]
    cases lookM L id <;> cases keep <;> rfl
  have hUc : bs = true → U CF ∧ U CL ∧ U CR := fun hs => by
    cases hl : lookM L id with
    | none => rw [hl] at hbs; rw [← hbs] at hs; cases hs
    | some c => rw [hl] at hcc; have := HU.out c hl; cases hcc; exact this
  rw [hbs, hcc] at hla
  have HMS := Lib.hid hMs; have HUC := Lib.hid hUc
  clear hbs hcc hMs hUc HU
  unfold cvV at hla
  dsimp only at hla
  obtain ⟨a1, a2, a3⟩ := hla w2.drew (Below.refl _ w2).drew
  obtain ⟨b1, b2, b3⟩ := hla (w2.alloc (.cells #[.int .u64 0, .int .u64 0, .int .u64 0] 25)).drew ((Below.refl _ w2).alloc (Nat.le_refl _) _).drew
  cases ok : okC (F0, L0, R0)
  · have e1 : swapC L G id (F0, L0, R0) keep r = 30 := by unfold swapC; rw [if_pos ok]
    have E1 := Lib.hid e1
    clear e1 ok a1 a2 a3 b1 b2 b3 hla
    go_wp2_with fail
    go_ret
    exact ⟨by rw [E1.out]; rfl, ⟨vg, by unfold swapL swapG; rw [if_neg (by rw [E1.out]; simp), if_neg (by rw [E1.out]; simp)]; exact H2.out.1, fun _ => rfl⟩, H2.out.2.1.mono H.out.1.base_le, Spare.below g m vg H2.out.2.1⟩
  · have HOK := Lib.hid ok
    clear ok hla
    go_upto_region 6 with fail
    go_cut [10, 11] from 19 to 27 (fun v10 v11 wx => v10 = .pointer (some ⟨w2.heap.size, 0, none⟩) ∧ v11 = .bool bs ∧ Blk wx w2.heap.size 25 #[.int .u64 CF, .int .u64 CL, .int .u64 CR] ∧ Below w2.heap.size w2 wx)
    case first =>
      go_region
      all_goals ((try go_wp2); go_meet; exact ⟨rfl, rfl, by first | exact Blk.new w2 _ _ | exact Blk.new w2.drew _ _, by first | exact ((Below.refl _ w2).alloc (Nat.le_refl _) _).drew | exact ((Below.refl _ w2).drew).alloc (Nat.le_refl _) _⟩)
    case rest =>
      obtain ⟨rfl, rfl, hO, hb3⟩ := hcut
      have hb03 := H2.out.2.1.trans (hb3.mono H2.out.2.1.size)
      have hI3 := H2.out.2.2.1.below hb3 H2.out.2.2.1.lt
      have hB3 := H2.out.2.2.2.below hb3 H2.out.2.2.2.lt
      have h3 := H2.out.1.later hb3
      have H3 := Lib.hid (And.intro h3 (And.intro hb03 (And.intro hI3 hB3)))
      have HO := Lib.hid hO
      clear hb3 hO a1 a2 a3 b1 b2 b3 hb03 hI3 hB3 h3 H2
      go_upto_region 7 with fail
      go_cut [31] from 28 to 31 (fun v31 wx => v31 = .bool (bs && keep) ∧ wx = wc)
      case first =>
        cases bs
        · go_wp2_with fail
          go_meet
          exact ⟨rfl, rfl⟩
        · go_wp2_with fail
          go_meet
          exact ⟨by simp, rfl⟩
      case rest =>
        obtain ⟨rfl, rfl⟩ := hcut
        have hbk : (bs && keep) = true → bs = true := fun h => by cases bs <;> simp_all
        have HBK := Lib.hid hbk
        clear hbk
        generalize (bs && keep) = bk at HMS HBK ⊢
        obtain ⟨M, hM⟩ : ∃ M : List Cv, (if bk then [((CF, CL, CR) : Cv)] else []) = M := ⟨_, rfl⟩
        have HM := Lib.hid hM
        clear hM
        go_upto_if 31 with fail
        go_cut [9] from 32 to 35 (fun v9 wx => ∃ am cn, v9 = .slice am M.length cn ∧ CvAt wx v9 M ∧ Below wc.heap.size wc wx)
        case first =>
          cases bk
          · go_wp2_with fail
            go_meet
            have hM := HM.out
            exact ⟨none, 0, by rw [← hM]; rfl, by rw [← hM]; exact ⟨fun c hc => by simp at hc, by simp, none, 0, rfl, .inl rfl⟩, Below.refl _ _⟩
          · have x0 := HO.out.cell 0; have x1 := HO.out.cell 1; have x2 := HO.out.cell 2
            simp only [List.getElem?_toArray, List.getElem?_cons_zero, List.getElem?_cons_succ] at x0 x1 x2
            have hbl := (Below.refl wc.heap.size wc).alloc (Nat.le_refl _) (.cells #[.int .u64 CF, .int .u64 CL, .int .u64 CR] 25)
            obtain ⟨v', w', hr, ho, hb, hg⟩ := app_more (A := []) (v := .slice none 0 0) (base := wc.heap.size) 23 (cvat_lit (c := (CF, CL, CR)) (Blk.new wc 25 #[.int .u64 CF, .int .u64 CL, .int .u64 CR]) (HUC.out (HBK.out (by first | rfl | trivial)))) (World.ownsRow_nil _ _ _ _) hbl.size (by simp)
            obtain ⟨av, cv, rfl⟩ := owns_slice ho
            have hM := HM.out
            simp only [if_true] at hM
            have HH := Lib.hid (And.intro ho (hbl.trans hb))
            clear hbl ho hb hg hM
            go_wp2_with (at_builtin; refine wpList_append_runW rfl _ _ _ rfl _ _ _ rfl rfl hr ?_; clear hr)
            go_meet
            have hM := HM.out
            simp only [if_true] at hM
            refine ⟨av, cv, by rw [← hM]; rfl, ?_, HH.out.2⟩
            rw [← hM]
            exact CvAt.of_owns HH.out.1 (fun d hd => by simp at hd; subst hd; exact HUC.out (HBK.out (by first | rfl | trivial))) (by simp)
        case rest =>
          obtain ⟨am, cn, rfl, hCM, hb4⟩ := hcut
          have hMM : swapM L id keep = M := by rw [HMS.out]; exact HM.out
          have hb04 := H3.out.2.1.trans (hb4.mono H3.out.2.1.size)
          have hI4 := H3.out.2.2.1.below hb4 H3.out.2.2.1.lt
          have hB4 := H3.out.2.2.2.below hb4 H3.out.2.2.2.lt
          have h4 := H3.out.1.later hb4
          have l0 := hB4.lt
          have o0 := fun e => (over_cell (w := wc) (e := e) (o := 0) l0).trans (hB4.cell 0)
          have o1 := fun e => (over_cell (w := wc) (e := e) (o := 1) l0).trans (hB4.cell 1)
          have o2 := fun e => (over_cell (w := wc) (e := e) (o := 2) l0).trans (hB4.cell 2)
          simp only [List.getElem?_toArray, List.getElem?_cons_zero, List.getElem?_cons_succ] at o0 o1 o2
          have hMl : M.length ≤ 100000 := by have := swapM_len L id keep; rw [hMM] at this; omega
          have H4 := Lib.hid (And.intro h4 (And.intro hb04 (And.intro hI4 (And.intro hB4 hCM))))
          have HMM := Lib.hid hMM; have HML := Lib.hid hMl
          clear hb04 hI4 hB4 h4 hCM hb4 hMM hMl H3 HM HMS HUC HBK HO
          go_upto_region 9 with fail
          refine wp_region_midg (w := wc) 6 1 [3, 5] [] [(3, fun u W' => ∃ B, u = .func (.func 45) #[] #[.pointer (some ⟨B, 0, none⟩), .pointer (some ⟨B + 1 + 1, 0, none⟩), .pointer (some ⟨B + 1, 0, none⟩)] ∧ Capt W' B g (.func (.func 38) #[] #[.pointer (some ⟨w.heap.size, 0, none⟩)]) (.slice am M.length cn)), (5, fun u W' => u = .bool (askB (G ++ M ++ liveBut L (fun x => x == id)) (F0, L0, R0) r))] rfl (by kernel_rfl) (by kernel_rfl) (by kernel_rfl) (by kernel_rfl) (fun _ _ _ _ _ h => h) ⟨fun v W1 W2 ⟨b, h1, h2⟩ hb => ⟨b, h1, h2.later hb⟩, fun v W1 W2 h hb => h, trivial⟩ ?_
          intro LL hL
          have HL2 := Lib.hid hL
          clear hL
          simp only [List.take_succ_cons, List.take_zero, putL]
          iterate 6 (first | refine wpHead_skip (by decide) ?_ | (refine wpHead_step (by decide) (fun K hK => ?_); go_simp; refine hK _ ?_; clear hK K))
          refine wpHead_nil (HL2.out _ ⟨?_, ?_, trivial⟩ ?_)
          · intro vs W2 hb2 hf
            clear hf HL2
            change TStep _ _ _ (Act.put (Act.put _ (some 39) (vs 3)) (some 41) (vs 5)) _ _
            refine tstep_yes (by kernel_rfl) ?_
            have hft := (fitter_any g 38 M.length cn #[.pointer (some ⟨w.heap.size, 0, none⟩)] am W2).mono (R' := fun e w' => ∃ v, e = .returned v ∧ Below W2.heap.size W2 w' ∧ ∃ B, v = .func (.func 45) #[] #[.pointer (some ⟨B, 0, none⟩), .pointer (some ⟨B + 1 + 1, 0, none⟩), .pointer (some ⟨B + 1, 0, none⟩)] ∧ Capt w' B g (.func (.func 38) #[] #[.pointer (some ⟨w.heap.size, 0, none⟩)]) (.slice am M.length cn)) fun e w' ⟨B, he, h1, h2⟩ => ⟨_, he, h2, B, rfl, h1⟩
            go_simp
            try exact hft
          · intro vs W2 hb2 hf
            have hf := fits_cast (q := (∃ B, vs 3 = .func (.func 45) #[] #[.pointer (some ⟨B, 0, none⟩), .pointer (some ⟨B + 1 + 1, 0, none⟩), .pointer (some ⟨B + 1, 0, none⟩)] ∧ Capt W2 B g (.func (.func 38) #[] #[.pointer (some ⟨w.heap.size, 0, none⟩)]) (.slice am M.length cn)) ∧ True) hf (by kernel_rfl)
            clear HL2
            refine Exists.elim hf.1 fun B hB => ?_
            change TStep _ _ _ (Act.put (Act.put _ (some 39) (vs 3)) (some 41) (vs 5)) _ _
            rw [hB.1]
            refine tstep_yes (by kernel_rfl) ?_
            have hak := fitask_any F0 L0 R0 B (B + 1 + 1) (B + 1) g m 38 r L G M vg (.slice am M.length cn) #[.pointer (some ⟨w.heap.size, 0, none⟩)] (fun x => x == id) W2 hc (H4.out.1.later hb2).bk hB.2.b0 hB.2.b2 hB.2.b1 (H4.out.2.2.2.2.later hb2) HML.out (enters_of Try.func38 (by kernel_rfl) rfl) (fun W x hW => same_id x id w.heap.size W (((H4.out.2.2.1.below hb2 H4.out.2.2.1.lt).below hW (H4.out.2.2.1.below hb2 H4.out.2.2.1.lt).lt).cell 0))
            unfold AskW at hak
            go_simp
            try (first | exact hak | (rw [List.append_assoc] at hak; exact hak))
          · intro vs W2 hb2 hf
            have hf := fits_cast (q := (∃ B, vs 3 = .func (.func 45) #[] #[.pointer (some ⟨B, 0, none⟩), .pointer (some ⟨B + 1 + 1, 0, none⟩), .pointer (some ⟨B + 1, 0, none⟩)] ∧ Capt W2 B g (.func (.func 38) #[] #[.pointer (some ⟨w.heap.size, 0, none⟩)]) (.slice am M.length cn)) ∧ (vs 5 = .bool (askB (G ++ M ++ liveBut L (fun x => x == id)) (F0, L0, R0) r)) ∧ True) hf (by kernel_rfl)
            clear HL2
            change wpList _ _ _ _ (Act.put (Act.put _ (some 39) (vs 3)) (some 41) (vs 5)) _
            rw [hf.2.1]
            have hb5 := H4.out.2.1.trans (hb2.mono H4.out.2.1.size)
            have hI5 := H4.out.2.2.1.below hb2 H4.out.2.2.1.lt
            have hB5 := H4.out.2.2.2.1.below hb2 H4.out.2.2.2.1.lt
            have h5 := H4.out.1.later hb2
            have H5 := Lib.hid (And.intro h5 (And.intro hb5 (And.intro hI5 hB5)))
            clear hf hb2 o0 o1 o2 l0 h5 hb5 hI5 hB5 H4
            simp only [List.drop_succ_cons, List.drop_zero, List.take_succ_cons, List.take_zero]
            have e0 : swapC L G id (F0, L0, R0) keep r = if askB (G ++ M ++ liveBut L (fun x => x == id)) (F0, L0, R0) r = false then 170 else 0 := by unfold swapC; rw [if_neg (by rw [HOK.out]; simp), HMM.out]
            have E0 := Lib.hid e0
            clear e0
            cases hkb : askB (G ++ M ++ liveBut L (fun x => x == id)) (F0, L0, R0) r
            · have e1 : swapC L G id (F0, L0, R0) keep r = 170 := by rw [E0.out, if_pos hkb]
              have E1 := Lib.hid e1
              clear hkb e1 E0
              go_wp2_with fail
              go_ret
              exact ⟨by rw [E1.out]; rfl, ⟨vg, by unfold swapL swapG; rw [if_neg (by rw [E1.out]; simp), if_neg (by rw [E1.out]; simp)]; exact H5.out.1, fun _ => rfl⟩, H5.out.2.1.mono H.out.1.base_le, Spare.below g m vg H5.out.2.1⟩
            · have e1 : swapC L G id (F0, L0, R0) keep r = 0 := by rw [E0.out, if_neg (by rw [hkb]; simp)]
              have E1 := Lib.hid e1
              clear hkb e1 E0
              have hdrop := drop_any id keep base g m r L G vg W2 hid H5.out.1 (by omega)
              have i0 := H5.out.2.2.1.cell 0
              simp only [List.getElem?_toArray, List.getElem?_cons_zero] at i0
              go_wp2_with fail
              refine hdrop.mono ?_
              clear hdrop i0
              rintro e w6 ⟨rfl, hex, hbb, hsp, hkf⟩
              obtain ⟨vg', hbo, hvv⟩ : ∃ vg', BkO w6 base g m r (delM L id) (if keep then G ++ (lookM L id).toList else G) vg' ∧ (keep = false → vg' = vg) := by
                cases keep
                · exact ⟨vg, by simpa using hkf rfl, fun _ => rfl⟩
                · obtain ⟨v, hv⟩ := hex; exact ⟨v, hv, fun h => by cases h⟩
              have HVV := Lib.hid hvv
              clear hex hkf hvv
              have hfar := H.out.1.far (w.heap.size + 1) (by omega)
              have hB6 := hsp.blk H5.out.2.2.2 hfar.1 hfar.2.1 hfar.2.2
              have hfar0 := H.out.1.far w.heap.size (Nat.le_refl _)
              have hI6 := hsp.blk H5.out.2.2.1 hfar0.1 hfar0.2.1 hfar0.2.2
              have hb6 : Below base w w6 := (H5.out.2.1.mono H.out.1.base_le).trans hbb
              have hs6 := (Spare.below g m vg H5.out.2.1).trans hsp
              have hG : swapG L G id (F0, L0, R0) keep r = if keep then G ++ (lookM L id).toList else G := by
                unfold swapG swapM
                rw [if_pos E1.out]
                cases keep <;> simp
              rw [← hG] at hbo
              have H6 := Lib.hid (And.intro hbo (And.intro hb6 (And.intro hB6 (And.intro hs6 hI6)))); have HG := Lib.hid hG
              have c0 := hB6.cell 0; have c1 := hB6.cell 1; have c2 := hB6.cell 2
              simp only [List.getElem?_toArray, List.getElem?_cons_zero, List.getElem?_cons_succ] at c0 c1 c2
              have hcn := cnone_any F0 L0 R0 w6
              clear hfar hfar0 hI6 hB6 hb6 hs6 hG hbo hbb hsp
              go_wp2_with fail
              clear c0 c1 c2
              refine hcn.mono ?_
              clear hcn
              rintro e w7 ⟨rfl, hb7⟩
              have hbo7 := H6.out.1.later hb7
              have hB7 := H6.out.2.2.1.below hb7 H6.out.2.2.1.lt
              have hlow : Below base w w7 := H6.out.2.1.trans (hb7.mono H6.out.1.base_le)
              have hI7 := (H6.out.2.2.2.2.below hb7 H6.out.2.2.2.2.lt)
              have hs7 := H6.out.2.2.2.1.trans (Spare.below g m vg hb7)
              by_cases hz : (F0, L0, R0) = ((0, 0, 0) : Cv)
              · have hd : decide ((F0, L0, R0) = ((0, 0, 0) : Cv)) = true := decide_eq_true hz
                have hL : swapL L G id (F0, L0, R0) keep r = delM L id := by unfold swapL; rw [if_pos E1.out, if_pos hz]
                rw [← hL] at hbo7
                have H7 := Lib.hid (And.intro hbo7 (And.intro hlow hs7))
                simp only [hd]
                clear hd hz hb7 hbo7 hB7 hI7 hlow hs7 hL H6 H5
                go_wp2_with fail
                go_ret
                exact ⟨by rw [E1.out]; rfl, ⟨vg', H7.out.1, HVV.out⟩, H7.out.2⟩
              · have hd : decide ((F0, L0, R0) = ((0, 0, 0) : Cv)) = false := decide_eq_false hz
                have hL : swapL L G id (F0, L0, R0) keep r = putM (delM L id) id (F0, L0, R0) := by unfold swapL; rw [if_pos E1.out, if_neg hz]
                have y1 := hbo7.bk.blk.cell 1
                simp only [List.getElem?_toArray, List.getElem?_cons_zero, List.getElem?_cons_succ] at y1
                have l5 := hB7.lt; have l6 := hbo7.bk.blk.lt
                have l7 := hI7.lt
                have H7 := Lib.hid (And.intro hbo7 (And.intro hlow hs7)); have HLL := Lib.hid hL
                have o0 := fun e => (over_cell (w := w7) (e := e) (o := 0) l5).trans (hB7.cell 0)
                have o1 := fun e => (over_cell (w := w7) (e := e) (o := 1) l5).trans (hB7.cell 1)
                have o2 := fun e => (over_cell (w := w7) (e := e) (o := 2) l5).trans (hB7.cell 2)
                have o3 := fun e => (over_cell (w := w7) (e := e) (o := 1) l6).trans y1
                have o4 := fun e => (over_cell (w := w7) (e := e) (o := 0) l7).trans (hI7.cell 0)
                simp only [List.getElem?_toArray, List.getElem?_cons_zero, List.getElem?_cons_succ] at o0 o1 o2 o4
                simp only [hd]
                clear hd hz hb7 hbo7 hB7 hlow hs7 hL H6 H5 y1 hI7
                go_upto_region 13 with fail
                refine wp_region_mid (w := w7) 6 1 [] [] [] rfl (by kernel_rfl) (by kernel_rfl) (by kernel_rfl) (by kernel_rfl) (fun _ _ _ _ _ h => h) trivial ?_
                intro LL hL
                have HL2 := Lib.hid hL
                clear hL
                simp only [List.take_succ_cons, List.take_zero, putL]
                iterate 6 (first | refine wpHead_skip (by decide) ?_ | (refine wpHead_step (by decide) (fun K hK => ?_); go_simp; refine hK _ ?_; clear hK K))
                refine wpHead_nil (HL2.out _ trivial ?_)
                intro vs W8 hb8 _
                clear HL2 o0 o1 o2 o3 o4 l5 l6 l7
                simp only [putHd, List.drop_succ_cons, List.drop_zero, List.take_succ_cons, List.take_zero]
                have h8 := H7.out.1.later hb8
                have hlen : (delM L id).length + (swapG L G id (F0, L0, R0) keep r).length < 100000 := by
                  have h1 := del_length id L
                  have h2 := swapM_len L id keep
                  unfold swapG
                  rw [if_pos E1.out, List.length_append]
                  omega
                obtain ⟨w9, hr, hbk, hgr⟩ := h8.bk.store (c := (F0, L0, R0)) hid hc hlen
                have h9 := h8.grownM hbk hgr
                rw [← HLL.out] at h9
                have H9 := Lib.hid (And.intro h9.1 (And.intro ((H7.out.2.1.trans (hb8.mono H7.out.1.base_le)).trans h9.2) ((H7.out.2.2.trans (Spare.below g m vg hb8)).trans (Spare.atM g m vg hgr))))
                unfold cvV at hr
                clear hb8 h8 hlen hbk hgr h9
                go_wp2_with fail
                go_ret
                exact ⟨by rw [E1.out]; rfl, ⟨vg', H9.out.1, HVV.out⟩, H9.out.2⟩
end Go.Proofs.Ythmhboagbeibdaa
