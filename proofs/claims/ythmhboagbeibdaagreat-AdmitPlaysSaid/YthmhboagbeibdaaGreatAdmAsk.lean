/-
  The book's question: can a curve be kept beside the ghosts, more ones, and those that are live, but for some.
-/
import Derived.Test.YthmhboagbeibdaaGreatAdmFit
namespace Go.Proofs.YthmhboagbeibdaaGreat
set_option linter.unusedVariables false
open Go.RowKit Go.Maps Go.Sort
attribute [local go_sem ↓] Go.wp_at_zero Go.wp_at_succ
attribute [local go_sem] quietR quietAtR quietUponR midAt midUpon
attribute [local irreducible] TStep HStep

theorem liveBut_snoc {L : List (Int × Cv)} {q : Int → Bool} {i : Nat} {k : Int} {c : Cv} (h : L[i]? = some (k, c)) : liveBut (L.take (i + 1)) q = liveBut (L.take i) q ++ (if q k then [] else [c]) := by
  rw [List.take_add_one, h]
  unfold liveBut
  cases hq : q k <;> simp [List.filter_append, hq]
theorem liveBut_le (L : List (Int × Cv)) (q : Int → Bool) : (liveBut L q).length ≤ L.length := by
  unfold liveBut; rw [List.length_map]; exact List.length_filter_le _ _
theorem owns_slice {w : World} {base sz n : Nat} {e : TypeId} {v : Value} {xs : List Value} (h : w.ownsRow base e sz v n xs) : ∃ a cap, v = .slice a n cap := by
  rcases h.2 with ⟨rfl, rfl⟩ | ⟨g, c, cur, rfl, _⟩
  · exact ⟨none, 0, rfl⟩
  · exact ⟨_, _, rfl⟩

theorem midAt_app {P : Program} {o : Oper} {a : Act} {W W' : World} {T : Value → World → Prop} {s x : Operand} {t : TypeId} {va vx v : Value}
    (ho : o.op = .call { callee := .builtin .append, args := #[s, x], argTypes := #[t, t] }) (hs : a.eval s = va) (hx : a.eval x = vx)
    (hr : (Builtin.append_ #[t, t] o.type #[va, vx]).run P W = .ok v W') (hb : Below W.heap.size W W') (hT : T v W') : midAt P o a W T := by
  unfold midAt execOp
  simp only [ho, resolve, invoke, builtin, Sem.run_bind, Sem.run_pure, Result.andThen_ok, List.map_toArray, List.map_cons, List.map_nil, hs, hx, hr]
  exact ⟨hb, hT⟩
theorem hotUpon_app {P : Program} {o : Oper} {a : Act} {w W W' : World} {T : Value → World → Prop} {s x : Operand} {t : TypeId} {va vx v : Value}
    (ho : o.op = .call { callee := .builtin .append, args := #[s, x], argTypes := #[t, t] }) (hs : a.eval s = va) (hx : a.eval x = vx)
    (hr : (Builtin.append_ #[t, t] o.type #[va, vx]).run P W = .ok v W') (hb : Below w.heap.size w W') (hT : T v W') : hotUpon P w W T ((execOp a.eval o).run P W) := by
  unfold execOp
  simp only [ho, resolve, invoke, builtin, Sem.run_bind, Sem.run_pure, Result.andThen_ok, List.map_toArray, List.map_cons, List.map_nil, hs, hx, hr]
  exact ⟨hb, hT⟩

/-- the answer -/
noncomputable def askB (l : List Cv) (c : Cv) (r : Int) : Bool := decide (c = (0, 0, 0)) || decide (Keep (l ++ [c]) r)
def AskW (w : World) (l : List Cv) (c : Cv) (r : Int) (e : Ending) (w' : World) : Prop := e = .returned (.bool (askB l c r)) ∧ Below w.heap.size w w'

set_option maxRecDepth 100000 in
set_option maxHeartbeats 4000000 in
theorem fitask_any (F0 L0 R0 : Int) (pb pm pf g m f : Nat) (r : Int) (L : List (Int × Cv)) (G M : List Cv) (vg vm : Value) (cb : Array Value) (q : Int → Bool) (w : World)
    (hc : U F0 ∧ U L0 ∧ U R0) (h : BkAt w g m r L G vg) (hpb : Boxed w pb 27 (.pointer (some ⟨g, 0, none⟩))) (hpm : Boxed w pm 45 vm) (hpf : Boxed w pf 60 (.func (.func f) #[] cb)) (hM : CvAt w vm M) (hMl : M.length ≤ 100000)
    (ef : ∀ args w, (callFunc f args).run Tryz.prog w = .ok (.enter f args) w)
    (hq : ∀ (W : World) (id : Int), Below w.heap.size w W → Calls Tryz.prog f (#[.int .i64 id] ++ cb) W fun e w' => e = .returned (.bool (q id)) ∧ Below W.heap.size W w') :
    Calls Tryz.prog 38 (#[.agg #[.int .u64 F0, .int .u64 L0, .int .u64 R0]] ++ #[.pointer (some ⟨pb, 0, none⟩), .pointer (some ⟨pm, 0, none⟩), .pointer (some ⟨pf, 0, none⟩)]) w (AskW w (G ++ M ++ liveBut L q) (F0, L0, R0) r) := by
  obtain ⟨ag, cg, rfl⟩ : ∃ a cap, vg = .slice a G.length cap := by obtain ⟨_, _, a, cap, e, _⟩ := h.gh; exact ⟨a, cap, e⟩
  obtain ⟨am, cm, rfl⟩ : ∃ a cap, vm = .slice a M.length cap := by obtain ⟨_, _, a, cap, e, _⟩ := hM; exact ⟨a, cap, e⟩
  have hn := fun W => cnone_any F0 L0 R0 W
  have hb0 := (Below.refl w.heap.size w).alloc (Nat.le_refl _) (.cells #[.int .u64 F0, .int .u64 L0, .int .u64 R0] 25)
  have hB0 := Blk.new w 25 #[.int .u64 F0, .int .u64 L0, .int .u64 R0]
  have H := Lib.hid (And.intro h (And.intro hpb (And.intro hpm (And.intro hpf hM)))); have HN := Lib.hid hn; have HQ := Lib.hid hq; have HB0 := Lib.hid (And.intro hb0 hB0)
  clear h hpb hpm hpf hM hn hq hb0 hB0
  go_enter Tryz.func38, Tryz.ntmps38
  go_wp2_with fail
  refine (HN.out _).mono ?_
  rintro e w1 ⟨rfl, hb1⟩
  have hbw1 := HB0.out.1.trans (hb1.mono HB0.out.1.size)
  by_cases hz : (F0, L0, R0) = ((0, 0, 0) : Cv)
  · have hd : decide ((F0, L0, R0) = ((0, 0, 0) : Cv)) = true := decide_eq_true hz
    have hres : askB (G ++ M ++ liveBut L q) (F0, L0, R0) r = true := by unfold askB; rw [hd]; rfl
    have HR := Lib.hid hres; have HBW := Lib.hid hbw1
    simp only [hd]
    clear hd hres hz hb1 hbw1 H HQ HB0
    go_wp2_with fail
    go_ret
    exact ⟨by rw [HR.out]; rfl, HBW.out⟩
  · have hd : decide ((F0, L0, R0) = ((0, 0, 0) : Cv)) = false := decide_eq_false hz
    simp only [hd]
    obtain ⟨h, hpb, hpm, hpf, hM⟩ := H.out
    have h1 := h.later hbw1
    have hM1 := hM.later hbw1
    have hBc := HB0.out.2.below hb1 HB0.out.2.lt
    have hall : ∀ W, Below w1.heap.size w1 W → (W.cell? ⟨pb, 0, none⟩ = some (.pointer (some ⟨g, 0, none⟩)) ∧ W.cell? ⟨pm, 0, none⟩ = some (.slice am M.length cm) ∧ W.cell? ⟨pf, 0, none⟩ = some (.func (.func f) #[] cb)) ∧ (W.cell? ⟨g, 0, none⟩ = some (.int .u64 r) ∧ W.cell? ⟨g, 1, none⟩ = some (.map (some m)) ∧ W.cell? ⟨g, 2, none⟩ = some (.slice ag G.length cg)) ∧ (W.cell? ⟨w.heap.size, 0, none⟩ = some (.int .u64 F0) ∧ W.cell? ⟨w.heap.size, 1, none⟩ = some (.int .u64 L0) ∧ W.cell? ⟨w.heap.size, 2, none⟩ = some (.int .u64 R0)) := fun W hW => by
      have hW0 := hbw1.trans (hW.mono hbw1.size)
      have k1 := h1.blk.below hW h1.blk.lt
      have k2 := hBc.below hW hBc.lt
      exact ⟨⟨(hW0.cell (p := ⟨pb, 0, none⟩) hpb.lt).trans hpb.cell, (hW0.cell (p := ⟨pm, 0, none⟩) hpm.lt).trans hpm.cell, (hW0.cell (p := ⟨pf, 0, none⟩) hpf.lt).trans hpf.cell⟩, ⟨k1.cell 0, k1.cell 1, k1.cell 2⟩, ⟨k2.cell 0, k2.cell 1, k2.cell 2⟩⟩
    have hlo : ∀ W e, Below w1.heap.size w1 W → Below w1.heap.size w1 (over W e) := fun W e hW => hW.trans ((over_below W e).mono hW.size)
    have HALL := Lib.hid hall; have HLO := Lib.hid hlo; have H1 := Lib.hid (And.intro h1 hM1); have HBW := Lib.hid hbw1; have HZ := Lib.hid hz
    have hfew := h.few
    clear hall hlo h hpb hpm hpf hM h1 hM1 hBc hb1 hbw1 hd HB0 H hz
    have o0 := fun e => (HALL.out _ (HLO.out w1 e (Below.refl _ _))).1.1; have o1 := fun e => (HALL.out _ (HLO.out w1 e (Below.refl _ _))).1.2.1; have o2 := fun e => (HALL.out _ (HLO.out w1 e (Below.refl _ _))).2.1.2.2
    go_upto_region 3 with fail
    refine wp_region_mid (w := w1) 7 1 [5, 6] [] [(5, fun u W' => ∃ B, u = .slice (some ⟨B, 0, none⟩) 2 2 ∧ Blk W' B 45 #[.slice ag G.length cg, .slice am M.length cm]), (6, fun u W' => W'.ownsRow w1.heap.size 25 3 u (G ++ M).length (cvCells (G ++ M)))] rfl (by kernel_rfl) (by kernel_rfl) (by kernel_rfl) (by kernel_rfl) (fun _ _ _ _ _ h => h) ⟨fun v W1 W2 ⟨b, h1, h2⟩ hb => ⟨b, h1, h2.below hb h2.lt⟩, fun v W1 W2 h hb => owns_later h hb, trivial⟩ ?_
    intro LL hL
    have HL := Lib.hid hL
    clear hL
    simp only [List.take_succ_cons, List.take_zero, putL]
    iterate 7 (first | refine wpHead_skip (by decide) ?_ | (refine wpHead_step (by decide) (fun K hK => ?_); go_simp; refine hK _ ?_; clear hK K))
    refine wpHead_nil (HL.out _ ⟨?_, ?_, trivial⟩ ?_)
    · intro vs W2 hb2 hf
      clear hf HL
      change midAt _ _ (Act.put (Act.put _ (some 16) (vs 5)) (some 17) (vs 6)) _ _
      go_simp
      exact ⟨(Below.refl _ _).alloc (Nat.le_refl _) _, Blk.new _ _ _⟩
    · intro vs W2 hb2 hf
      have hf := fits_cast (q := (∃ B, vs 5 = .slice (some ⟨B, 0, none⟩) 2 2 ∧ Blk W2 B 45 #[.slice ag G.length cg, .slice am M.length cm]) ∧ True) hf (by kernel_rfl)
      clear HL
      refine Exists.elim hf.1 fun B hB => ?_
      change midAt _ _ (Act.put (Act.put _ (some 16) (vs 5)) (some 17) (vs 6)) _ _
      rw [hB.1]
      have hcc := concat_any B _ _ G M W2 (H1.out.1.gh.later hb2) (H1.out.2.later hb2) hB.2 (by omega)
      have hcc := hcc.mono (R' := fun e w' => ∃ v, e = .returned v ∧ Below W2.heap.size W2 w' ∧ w'.ownsRow w1.heap.size 25 3 v (G ++ M).length (cvCells (G ++ M))) fun e w' ⟨v, he, ho, hb⟩ => ⟨v, he, hb, owns_base ho hb2.size⟩
      rw [List.length_append] at hcc
      go_simp
      try exact hcc
    · intro vs W2 hb2 hf
      have hf := fits_cast (q := (∃ B, vs 5 = .slice (some ⟨B, 0, none⟩) 2 2 ∧ Blk W2 B 45 #[.slice ag G.length cg, .slice am M.length cm]) ∧ (W2.ownsRow w1.heap.size 25 3 (vs 6) (G ++ M).length (cvCells (G ++ M))) ∧ True) hf (by kernel_rfl)
      clear HL
      refine Exists.elim hf.1 fun B hB => ?_
      change wpList _ _ _ _ (Act.put (Act.put _ (some 16) (vs 5)) (some 17) (vs 6)) _
      rw [hB.1]
      have HO := Lib.hid hf.2.1; have HB2 := Lib.hid hb2
      generalize vs 6 = v6 at HO ⊢
      clear hf hB hb2 o0 o1 o2
      simp only [List.drop_succ_cons, List.drop_zero, List.take_succ_cons, List.take_zero]
      have hkeys := keys_any m (mapV cvV L) W2 (H1.out.1.later HB2.out).map (by rw [mapV_length]; omega)
      rw [mapV_keys] at hkeys
      have x0 := (HALL.out _ HB2.out).1.1; have x1 := (HALL.out _ HB2.out).2.1.2.1
      go_wp2_with fail
      clear x0 x1
      refine hkeys.mono ?_
      clear hkeys
      rintro e w3 ⟨vk, rfl, hown, hb3⟩
      have hb3' := HB2.out.trans (hb3.mono HB2.out.size)
      have hkr := owns_base hown HB2.out.size
      have hrow := owns_later HO.out hb3
      obtain ⟨ak, ck, rfl⟩ := owns_slice hown
      have hLl : (L.map (·.1)).length = L.length := by simp
      rw [hLl] at hkr
      have HK := Lib.hid hkr; have HR := Lib.hid hrow; have HB3 := Lib.hid hb3'
      clear hown hb3 hb3' hkr hrow HO
      simp only [hLl]
      clear hLl
      go_wp2_with fail
      go_loopw [6, 8, 24] (fun v6 v8 v24 W => ∃ (i : Nat) (vr : Value), v24 = .int .i64 i ∧ vr = v6 ∧ i ≤ L.length ∧ W.ownsRow w1.heap.size 25 3 vr (G ++ M ++ liveBut (L.take i) q).length (cvCells (G ++ M ++ liveBut (L.take i) q)) ∧ W.ownsRow w1.heap.size 3 1 (.slice ak L.length ck) L.length ((L.map (·.1)).map (Value.int .i64)) ∧ Below w1.heap.size w1 W) (fun _ _ v24 _ => (L.length - Go.RowKit.intOf v24).toNat)
      case atStart => exact ⟨0, _, rfl, rfl, Nat.zero_le _, by simpa [liveBut] using HR.out, HK.out, HB3.out⟩
      case round =>
        obtain ⟨i, vr, rfl, rfl, hi, hrow, hkr, hbr⟩ := hrel
        have hlen : (G ++ M ++ liveBut (L.take i) q).length ≤ 300000 := by
          have := liveBut_le (L.take i) q
          rw [List.length_take] at this
          simp; omega
        by_cases hlt : i < L.length
        · obtain ⟨⟨id, cc⟩, hic⟩ : ∃ p, L[i]? = some p := ⟨_, List.getElem?_eq_getElem hlt⟩
          obtain ⟨gk, ck', e9, hk1, hk2⟩ := hkr.form (by omega)
          simp only [Value.slice.injEq, true_and] at e9
          obtain ⟨rfl, rfl⟩ := e9
          have ck0 : wr.cell? ⟨gk, i, none⟩ = some (.int .i64 id) := by
            rw [hkr.cellAt i (by omega), List.getElem?_map, List.getElem?_map, hic]; rfl
          have hbw0 := HBW.out.trans (hbr.mono HBW.out.size)
          have hqc := HQ.out wr id hbw0
          have hsn := liveBut_snoc (q := q) hic
          have hbk := H1.out.1.later hbr
          have hrise := hbk.rising
          have hlook1 := look_at hrise hic
          have huc := hbk.u cc (List.mem_map.2 ⟨_, List.mem_of_getElem? hic, rfl⟩)
          have hwf := hbk.wf _ (List.mem_of_getElem? hic)
          have xf := (HALL.out _ hbr).1.2.2
          have HROW := Lib.hid hrow; have HKR := Lib.hid hkr; have HBR := Lib.hid hbr; have HSN := Lib.hid hsn; have HLK := Lib.hid hlook1; have HWF := Lib.hid hwf
          clear hrow hkr hbr hbw0 hsn hbk hrise hlook1 hic hk1 hk2 hwf
          go_wp2_with fail
          refine hqc.mono ?_
          clear hqc xf ck0
          rintro e w4 ⟨rfl, hb4⟩
          have HB4 := Lib.hid (HBR.out.trans (hb4.mono HBR.out.size))
          have HROW4 := Lib.hid (owns_later HROW.out hb4); have HKR4 := Lib.hid (owns_later HKR.out hb4)
          clear hb4
          cases hqi : q id
          · have HQI := Lib.hid hqi
            have hbk := H1.out.1.later HB4.out
            have hlook := hbk.map.look (k := id) (E := 25) (T := 53) (z := cvV (0, 0, 0)) Tryz.underlying3 Tryz.underlying53 (by exact Tryz.zeroValue25 _) HWF.out
            rw [look_map, HLK.out] at hlook
            obtain ⟨CF, CL, CR⟩ := cc
            have hbl := (Below.refl w4.heap.size w4).alloc (Nat.le_refl _) (.cells #[.int .u64 CF, .int .u64 CL, .int .u64 CR] 25)
            have hapa := rows_apart (owns_later HKR4.out hbl) (owns_later HROW4.out hbl) (by decide)
            obtain ⟨v', w', hr, ho, hb, hg⟩ := app_more 45 (cvat_lit (c := (CF, CL, CR)) (Blk.new w4 25 #[.int .u64 CF, .int .u64 CL, .int .u64 CR]) huc) (owns_later HROW4.out hbl) (Nat.le_trans HB4.out.size hbl.size) (by simp only [List.length_cons, List.length_nil]; omega)
            have hkr := (owns_later HKR4.out hbl).kept hg hapa
            have HO := Lib.hid ho; have HK5 := Lib.hid hkr; have HB5 := Lib.hid ((HB4.out.trans (hbl.mono HB4.out.size)).trans hb)
            have x1 := (HALL.out _ HB4.out).1.1; have x2 := (HALL.out _ HB4.out).2.1.2.1
            simp only [Option.map_some, Option.getD_some, cvV] at hlook
            clear hqi hbk hbl hapa ho hb hg hkr
            go_wp2_with (at_builtin; refine wpList_append_runW rfl _ _ _ rfl _ _ _ rfl rfl hr ?_; clear hr)
            go_roundw
            case measure => (simp [Go.RowKit.intOf]; try omega)
            case rel => exact ⟨i + 1, _, by go_num, rfl, by omega, by rw [HSN.out, HQI.out]; simpa using HO.out, HK5.out, HB5.out⟩
          · have HQI := Lib.hid hqi
            clear hqi
            go_wp2_with fail
            go_roundw
            case measure => (simp [Go.RowKit.intOf]; try omega)
            case rel => exact ⟨i + 1, _, by go_num, rfl, by omega, by rw [HSN.out, HQI.out]; simpa using HROW4.out, HKR4.out, HB4.out⟩
        · obtain rfl : i = L.length := by omega
          rw [List.take_length] at hrow hlen
          obtain ⟨X, hX⟩ : ∃ X, G ++ M ++ liveBut L q = X := ⟨_, rfl⟩
          rw [hX] at hrow hlen
          have huX : UU (X ++ [(F0, L0, R0)]) := fun d hd => by
            rcases List.mem_append.1 hd with hd | hd
            · rw [← hX] at hd
              rcases List.mem_append.1 hd with hd | hd
              · rcases List.mem_append.1 hd with hd | hd
                · exact H1.out.1.gh.1 d hd
                · exact H1.out.2.1 d hd
              · obtain ⟨p, hp, rfl⟩ := List.mem_map.1 hd
                exact H1.out.1.u _ (List.mem_map.2 ⟨p, (List.mem_filter.1 hp).1, rfl⟩)
            · simp at hd; subst hd; exact hc
          have hrr := H1.out.1.rate
          obtain ⟨w9, rfl⟩ : ∃ w', w' = wr := ⟨_, rfl⟩
          have HROW := Lib.hid hrow; have HB9 := Lib.hid hbr; have HUX := Lib.hid huX
          have o0 := fun e => (HALL.out _ (HLO.out w1 e (Below.refl _ _))).1.1; have o1 := fun e => (HALL.out _ (HLO.out w1 e (Below.refl _ _))).2.1.1
          have p0 := fun e => (HALL.out _ (HLO.out w1 e (Below.refl _ _))).2.2.1; have p1 := fun e => (HALL.out _ (HLO.out w1 e (Below.refl _ _))).2.2.2.1; have p2 := fun e => (HALL.out _ (HLO.out w1 e (Below.refl _ _))).2.2.2.2
          have HXX := Lib.hid hX
          clear hrow hkr hbr huX hX HK HR HB3 HB2 HQ HN ef
          go_upto_region 10 with fail
          refine wp_region_hot0 (w := w1) (ws := w9) 8 2 [2, 3] [] [(2, fun u W' => ∃ B, u = .slice (some ⟨B, 0, none⟩) 1 1 ∧ Blk W' B 25 #[.int .u64 F0, .int .u64 L0, .int .u64 R0]), (3, fun u W' => CvAt W' u (X ++ [(F0, L0, R0)]))] [(2, 3)] [3] [] rfl (by decide) (by decide) HB9.out (J := fun W => W.ownsRow w1.heap.size 25 3 vr X.length (cvCells X)) (jend := 3) HROW.out (fun W W' h hb => owns_later h hb) (.inr (by kernel_rfl)) (by kernel_rfl) (by kernel_rfl) (by kernel_rfl) (by kernel_rfl) (by kernel_rfl) (fun _ _ _ _ _ h => h) ⟨fun v W1 W2 ⟨b, h1, h2⟩ hb => ⟨b, h1, h2.below hb h2.lt⟩, fun v W1 W2 h hb => h.later hb, trivial⟩ ⟨fun h => by simp at h, fun h => by simp at h, trivial⟩ ?_
          intro LL hL
          have HL := Lib.hid hL
          clear hL
          simp only [List.take_succ_cons, List.take_zero, putL]
          iterate 8 (first | refine wpHead_skip (by decide) ?_ | (refine wpHead_step (by decide) (fun K hK => ?_); go_simp; refine hK _ ?_; clear hK K))
          refine wpHead_nil (HL.out _ ⟨?_, ?_, trivial⟩ ?_)
          · intro vs W2 hb2 hf _
            clear hf HL
            change TStep _ _ _ (Act.put (Act.put _ (some 44) (vs 2)) (some 45) (vs 3)) _ _
            refine tstep_yes (by kernel_rfl) ?_
            go_simp
            exact ⟨(Below.refl _ _).alloc (Nat.le_refl _) _, Blk.new _ _ _⟩
          · intro vs W2 hb2 hf hj
            have hf := fits_cast (q := (∃ B, vs 2 = .slice (some ⟨B, 0, none⟩) 1 1 ∧ Blk W2 B 25 #[.int .u64 F0, .int .u64 L0, .int .u64 R0]) ∧ True) hf (by kernel_rfl)
            clear HL
            refine Exists.elim hf.1 fun B hB => ?_
            have hmore := app_more 45 (cvat_lit (c := (F0, L0, R0)) hB.2 hc) (hj (.inl rfl)) hb2.size (by simp only [List.length_cons, List.length_nil]; omega)
            refine Exists.elim hmore fun v' hm1 => ?_
            refine Exists.elim hm1 fun w' hm2 => ?_
            change HStep _ _ _ _ (Act.put (Act.put _ (some 44) (vs 2)) (some 45) (vs 3)) _ _
            rw [hB.1]
            refine hstep_yes (by kernel_rfl) ?_
            exact hotUpon_app rfl (by kernel_rfl) (by kernel_rfl) hm2.1 (hb2.trans hm2.2.2.1) (CvAt.of_owns hm2.2.1 HUX.out (by simp; omega))
          · intro vs W2 hb2 hf
            have hf := fits_cast (q := CvAt W2 (vs 3) (X ++ [(F0, L0, R0)]) ∧ True) hf (by kernel_rfl)
            clear HL
            change wpList _ _ _ _ (Act.put (Act.put _ (some 44) (vs 2)) (some 45) (vs 3)) _
            have hk := kept_any _ _ r W2 hf.1 ⟨by omega, by omega⟩
            have HB2 := Lib.hid (HBW.out.trans (hb2.mono HBW.out.size))
            obtain ⟨kb, hkb⟩ : ∃ kb, decide (Keep (X ++ [(F0, L0, R0)]) r) = kb := ⟨_, rfl⟩
            rw [hkb] at hk
            have hres : askB (G ++ M ++ liveBut L q) (F0, L0, R0) r = kb := by unfold askB; rw [HXX.out, hkb, decide_eq_false HZ.out]; rfl
            have HRES := Lib.hid hres
            clear hf hkb hres o0 o1 p0 p1 p2 hb2
            simp only [List.drop_succ_cons, List.drop_zero, List.take_succ_cons, List.take_zero]
            go_wp2_with fail
            refine hk.mono ?_
            clear hk
            rintro e w5 ⟨rfl, hb5⟩
            have HB5 := Lib.hid (HB2.out.trans (hb5.mono HB2.out.size))
            clear hb5
            go_wp2_with fail
            go_ret
            exact ⟨by rw [HRES.out]; rfl, HB5.out⟩
end Go.Proofs.YthmhboagbeibdaaGreat
