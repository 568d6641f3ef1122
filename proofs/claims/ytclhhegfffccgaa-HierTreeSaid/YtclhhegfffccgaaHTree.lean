/-
  A tree of classes: each class stands under an inner one that is there; each is under just one. (Printed by wip/mkhtree.py.)
-/
import Derived.Test.YtclhhegfffccgaaHPlayed
import Derived.BigQuiet
import Derived.Deep.CutRange
import Derived.Deep.DeepCutAuto
namespace Go.Proofs.Ytclhhegfffccgaa
set_option linter.unusedVariables false
open Go.RowKit Go.Maps
attribute [local go_sem ↓] Go.wp_at_zero Go.wp_at_succ
attribute [local go_sem] quietR quietAtR quietUponR midAt midUpon

theorem IntAt.form {w : World} {v : Value} {ks : List Int} (h : IntAt w v ks) : ∃ a cap, v = .slice a ks.length cap := by obtain ⟨_, a, cap, e, _⟩ := h; exact ⟨a, cap, e⟩
theorem IntAt.some_ {w : World} {a : Option Addr} {n cap i : Nat} {ks : List Int} {x : Int} (h : IntAt w (.slice a n cap) ks) (hx : ks[i]? = some x) : ∃ b off, a = some ⟨b, off, none⟩ := by
  obtain ⟨_, a', cap', e, h3⟩ := h
  cases e
  rcases h3 with rfl | ⟨b, off, rfl, _⟩
  · simp at hx
  · exact ⟨b, off, rfl⟩
theorem IntAt.cell {w : World} {b off n cap i : Nat} {ks : List Int} {x : Int} (h : IntAt w (.slice (some ⟨b, off, none⟩) n cap) ks) (hx : ks[i]? = some x) : b < w.heap.size ∧ n ≤ cap ∧ w.cell? ⟨b, off + i, none⟩ = some (.int .i64 x) := by
  obtain ⟨_, a', cap', e, h3⟩ := h
  cases e
  rcases h3 with rfl | ⟨b', off', e, h1, h2, h3⟩
  · simp at hx
  · cases e
    exact ⟨h1, h2, h3 i x hx⟩
/-- the state of a round -/
structure RT (w W : World) (base g ma mu : Nat) (M : Mp) (vi : Value) (ks : List Int) (bs : Nat) (cs : Array Value) (vp : Value) (ps : List Int) : Prop where
  ts : TS w W base g ma mu M
  ids : IntAt W vi ks
  box : Blk W bs 46 cs
  path : IntAt W vp ps
theorem RT.later {w W W' : World} {base g ma mu : Nat} {M : Mp} {vi : Value} {ks : List Int} {bs : Nat} {cs : Array Value} {vp : Value} {ps : List Int} (h : RT w W base g ma mu M vi ks bs cs vp ps) (hb : Below W.heap.size W W') : RT w W' base g ma mu M vi ks bs cs vp ps :=
  ⟨h.ts.later hb, h.ids.later hb, h.box.below hb h.box.lt, h.path.later hb⟩
def sumK (M : Mp) (l : List Int) : Nat := (l.map fun k => (kids M k).length).sum
theorem sumK_snoc (M : Mp) (ks : List Int) {i : Nat} {k : Int} (h : ks[i]? = some k) : sumK M (ks.take (i + 1)) = sumK M (ks.take i) + (kids M k).length := by
  unfold sumK
  rw [List.take_add_one, h]
  simp
theorem sumK_le (M : Mp) (l : List Int) (n : Nat) (h : ∀ k ∈ l, (kids M k).length ≤ n) : sumK M l ≤ l.length * n := by
  unfold sumK
  induction l with
  | nil => simp
  | cons a l ih =>
    have h1 := h a (.head _)
    have h2 := ih fun k hk => h k (.tail _ hk)
    simp only [List.map_cons, List.sum_cons, List.length_cons]
    rw [Nat.succ_mul]
    omega

set_option maxRecDepth 100000 in
set_option maxHeartbeats 8000000 in
/-- the law -/
theorem hierTree_any (a0 : Option Addr) (len cap : Nat) (z : List HAct) (w : World) (hl : len ≤ 9223372036854775807) (hz : HActsAt w a0 len z) :
    Calls Try.prog 4 #[.slice a0 len cap] w fun e w' => e = .returned (.bool true) ∧ Below w.heap.size w w' := by
  have HZ := Lib.hid hz
  have hzl : z.length = len := hz.1
  clear hz
  go_enter Try.func4, Try.ntmps4
  go_wp2_with fail
  refine (hawake_any w).mono ?_
  rintro e w1 ⟨rfl, hb1⟩
  have HB1 := Lib.hid hb1
  clear hb1
  go_wp2_with fail
  refine (hlong_any a0 len cap w1 hl).mono ?_
  rintro e w1' ⟨rfl, rfl⟩
  by_cases hlong : 150 < len
  · have hd : decide (150 < len) = true := decide_eq_true hlong
    rw [hd]
    clear hd
    go_wp2_with fail
    go_ret
    exact ⟨rfl, HB1.out⟩
  · have hd : decide (150 < len) = false := decide_eq_false hlong
    rw [hd]
    clear hd
    subst hzl
    have hpl := hplayed_any a0 cap z w1 (HZ.out.below HB1.out) (by omega)
    go_wp2_with fail
    refine hpl.mono ?_
    clear hpl
    rintro e w2 ⟨g, ma, mu, rfl, hT⟩
    generalize playH z = M at hT
    have hTw : TS w w2 w1.heap.size g ma mu M := ⟨hT.tree, HB1.out.size, HB1.out.trans (hT.below.mono HB1.out.size)⟩
    have HT := Lib.hid hTw
    have hinv := hTw.inv
    have HI := Lib.hid hinv
    have hfew := hinv.few
    clear hT hTw hinv
    generalize w1.heap.size = base at HT
    have ha := HT.out.len
    obtain ⟨n, hn⟩ : ∃ n, M.length = n := ⟨_, rfl⟩
    rw [hn] at ha hfew
    have HN := Lib.hid hn
    clear hn
    go_wp2_with fail
    refine ha.mono ?_
    clear ha
    rintro e w3 ⟨rfl, hb⟩
    have HT3 := Lib.hid (HT.out.later hb)
    clear hb HT
    have ha := HT3.out.ids
    obtain ⟨ks, hks⟩ : ∃ ks, M.map (·.1) = ks := ⟨_, rfl⟩
    rw [hks] at ha
    have hkl : ks.length = n := by rw [← hks, List.length_map]; exact HN.out
    have HK := Lib.hid (And.intro hks hkl)
    clear hks hkl
    go_wp2_with fail
    refine ha.mono ?_
    clear ha
    rintro e w4 ⟨vi, rfl, ho, hb⟩
    have hi4 := IntAt.of_owns ho (by rw [HK.out.2]; omega)
    obtain ⟨ai, ci, rfl⟩ := hi4.form
    rw [HK.out.2] at hi4 ⊢
    have HT4 := Lib.hid (And.intro (HT3.out.later hb) hi4)
    clear hb ho hi4 HT3
    have ha := HT4.out.1.under 0 (by decide)
    go_wp2_with fail
    refine ha.mono ?_
    clear ha
    rintro e w5 ⟨vu, rfl, ho, hb⟩
    obtain ⟨au, cu, rfl⟩ := owns_sliceH ho
    have HT5 := Lib.hid (And.intro (HT4.out.1.later hb) (HT4.out.2.later hb))
    clear hb ho HT4
    obtain ⟨m0, hm0⟩ : ∃ m, (kids M 0).length = m := ⟨_, rfl⟩
    rw [hm0]
    have hm064 : m0 ≤ 64 := by have := kids_len M 0; have := HN.out; omega
    have HM0 := Lib.hid hm0
    clear hm0
    go_wp2_with fail
    go_loopw [5, 6] (fun v5 v6 W => ∃ i mi : Nat, v6 = .int .i64 i ∧ v5 = .int .i64 mi ∧ i ≤ n ∧ mi = m0 + sumK M (ks.take i) ∧ TS w W base g ma mu M ∧ IntAt W (.slice ai n ci) ks) (fun _ v6 _ => (n - Go.RowKit.intOf v6).toNat)
    case atStart => exact ⟨0, m0, rfl, rfl, Nat.zero_le _, by simp [sumK], HT5.out.1, HT5.out.2⟩
    case round =>
      obtain ⟨i, mi, rfl, rfl, hi, hmi, hts, hids⟩ := hrel
      have hmib : mi ≤ 100000 := by
        have h1 := sumK_le M (ks.take i) 64 fun k _ => by have := kids_len M k; have := HN.out; omega
        rw [List.length_take] at h1
        omega
      have HMI := Lib.hid hmi
      clear hmi
      by_cases hlt : i < n
      · obtain ⟨k, hk⟩ : ∃ k, ks[i]? = some k := ⟨_, List.getElem?_eq_getElem (by rw [HK.out.2]; exact hlt)⟩
        obtain ⟨bi, oi, rfl⟩ := hids.some_ hk
        obtain ⟨_, hnc, hc0⟩ := hids.cell hk
        have hmk : ∃ c, lookM M k = some c := by
          have h1 := hk
          rw [← HK.out.1, List.getElem?_map] at h1
          cases e : M[i]? with
          | none => rw [e] at h1; cases h1
          | some q =>
            rw [e] at h1
            have : q.1 = k := by simpa using h1
            subst this
            exact ⟨q.2, look_of_mem HI.out.rise (List.mem_of_getElem? e)⟩
        obtain ⟨c, hlc⟩ := hmk
        have hok := HI.out.ok k c hlc
        have hkw : (Lit.int .i64 k).wf = true := by rw [← hok.id]; exact hok.wf.1.1
        have hga := hts.get k hkw
        unfold GetW getS at hga
        rw [hlc] at hga
        have HKK := Lib.hid (And.intro hk hlc)
        have HRD := Lib.hid (And.intro hts hids)
        -- the path's form, the parent's
        have hpl := HI.out.pathF_len 8 hlc (by have := hok.d8; omega)
        have hlast := HI.out.pathF_last 8 hlc (by have := hok.d8; omega)
        have hstep := HI.out.path_step hlc
        have hleaf := HI.out.leaf hlc
        change (((pathM M k).length : Nat) : Int) = c.2 at hpl
        have HLAST := Lib.hid (show ∃ x t, (pathM M k)[(pathM M k).length - 1]? = some x ∧ lookM M x = some t ∧ t.1.pa = 0 from hlast)
        obtain ⟨⟨cid, cpa, clf, ⟨c1, c2, c3⟩, ⟨c4, c5, c6⟩, ⟨c7, c8, c9⟩, cpk, cby⟩, cd⟩ := c
        obtain rfl : cid = k := hok.id
        have HPW := Lib.hid hok.wf.1.2.1
        have hup := hok.up
        have hd1 := hok.d1; have hd8 := hok.d8
        dsimp only [Option.getD, Option.isSome, spV, spC] at hga hpl hstep hleaf hup hd1 hd8 HPW
        clear hok hlast hts hids hk hlc
        obtain ⟨m, hm⟩ : ∃ m, (pathM M cid).length = m + 1 := ⟨(pathM M cid).length - 1, by omega⟩
        rw [hm] at hpl
        have hm8 : m ≤ 7 := by omega
        have HSTEP := Lib.hid hstep; have HLEAF := Lib.hid hleaf; have HUP := Lib.hid hup; have HM := Lib.hid hm; have HPL := Lib.hid hpl
        clear hstep hleaf hup hm hd1 hd8 hpl
        go_wp2_with fail
        refine hga.mono ?_
        clear hga hc0
        rintro e W1 ⟨rfl, hb1⟩
        have hbx := (Below.refl W1.heap.size W1).alloc (Nat.le_refl _) (.cells #[.int .i64 cid, .int .i64 cpa, .bool clf, .int .u64 c1, .int .u64 c2, .int .u64 c3, .int .u64 c4, .int .u64 c5, .int .u64 c6, .int .u64 c7, .int .u64 c8, .int .u64 c9, .int .i64 cpk, .int .i64 cby] 46)
        have hBx := Blk.new W1 46 #[.int .i64 cid, .int .i64 cpa, .bool clf, .int .u64 c1, .int .u64 c2, .int .u64 c3, .int .u64 c4, .int .u64 c5, .int .u64 c6, .int .u64 c7, .int .u64 c8, .int .u64 c9, .int .i64 cpk, .int .i64 cby]
        have hb2 := hb1.trans (hbx.mono hb1.size)
        have H2 := Lib.hid (And.intro (HRD.out.1.later hb2) (And.intro (HRD.out.2.later hb2) hBx))
        clear hbx hBx hb2 hb1
        obtain ⟨bs, hbs⟩ : ∃ b, b = W1.heap.size := ⟨_, rfl⟩
        rw [← hbs] at H2
        have hc0 := (H2.out.2.1.cell HKK.out.1).2.2
        have hpa := H2.out.1.path cid hkw
        go_upto_region 14 with fail
        rw [← hbs]
        generalize W1.alloc (.cells #[.int .i64 cid, .int .i64 cpa, .bool clf, .int .u64 c1, .int .u64 c2, .int .u64 c3, .int .u64 c4, .int .u64 c5, .int .u64 c6, .int .u64 c7, .int .u64 c8, .int .u64 c9, .int .i64 cpk, .int .i64 cby] 46) = W2 at H2 hc0 hpa ⊢
        clear hbs
        go_wp2_with fail
        refine hpa.mono ?_
        clear hpa hc0
        rintro e W3 ⟨vp, rfl, hop, hb3⟩
        have hip := IntAt.of_owns hop (by rw [HM.out]; omega)
        obtain ⟨ap, cp, rfl⟩ := hip.form
        rw [HM.out] at hip ⊢
        have hfirst : (pathM M cid)[0]? = some cid := by rw [HSTEP.out]; rfl
        obtain ⟨bp, op, rfl⟩ := hip.some_ hfirst
        have H3 := Lib.hid (⟨H2.out.1.later hb3, H2.out.2.1.later hb3, H2.out.2.2.below hb3 H2.out.2.2.lt, hip⟩ : RT w W3 base g ma mu M _ ks bs _ _ (pathM M cid))
        have HF := Lib.hid hfirst
        clear hb3 hop hip hfirst H2
        go_upto_region 15 with fail
        go_cut [101] from 57 to 101 (fun v101 wx => v101 = .bool false ∧ RT w wx base g ma mu M (.slice (some ⟨bi, oi, none⟩) n ci) ks bs #[.int .i64 cid, .int .i64 cpa, .bool clf, .int .u64 c1, .int .u64 c2, .int .u64 c3, .int .u64 c4, .int .u64 c5, .int .u64 c6, .int .u64 c7, .int .u64 c8, .int .u64 c9, .int .i64 cpk, .int .i64 cby] (.slice (some ⟨bp, op, none⟩) (m + 1) cp) (pathM M cid))
        case first =>
          have lb := H3.out.box.lt
          have li := (H3.out.ids.cell HKK.out.1).1
          have lp := (H3.out.path.cell HF.out).1
          have oi0 := fun e => (over_cell (w := W3) (e := e) (o := oi + i) li).trans (H3.out.ids.cell HKK.out.1).2.2
          have op0 := fun e => (over_cell (w := W3) (e := e) (o := op + 0) lp).trans (H3.out.path.cell HF.out).2.2
          have ob0 := fun e => (over_cell (w := W3) (e := e) (o := 0) lb).trans (H3.out.box.cell 0)
          have ob2 := fun e => (over_cell (w := W3) (e := e) (o := 2) lb).trans (H3.out.box.cell 2)
          simp only [List.getElem?_toArray, List.getElem?_cons_zero, List.getElem?_cons_succ, Nat.add_zero] at op0 ob0 ob2
          have hi0 : (0 : Int) ≤ (i : Int) := by omega
          have hpc := (H3.out.path.cell HF.out).2.1
          have hmA : (1 : Int) ≤ (m : Int) + 1 := by omega
          have hmB : (m : Int) + 1 ≤ 8 := by omega
          have hmC : (0 : Int) < (m : Int) + 1 := by omega
          cases clf with
          | false =>
            refine wp_region_midg (w := W3) 41 4 [40] [] [(40, fun u W' => True)] rfl (by kernel_rfl) (by kernel_rfl) (by kernel_rfl) (by kernel_rfl) (fun _ _ _ _ _ h => h) ⟨fun v W1 W2 h hb => h, trivial⟩ ?_
            intro LL hL
            have HL := Lib.hid hL
            clear hL
            simp only [List.take_succ_cons, List.take_zero, putL]
            iterate 41 (first | refine wpHead_skip (by decide) ?_ | (refine wpHead_step (by decide) (fun K hK => ?_); go_simp; refine hK _ ?_; clear hK K))
            refine wpHead_nil (HL.out _ ⟨?_, trivial⟩ ?_)
            · intro vs W4 hb4 hf
              clear HL
              change TStep _ _ _ (Act.put _ (some 97) (vs 40)) _ _
              exact tstep_no (by kernel_rfl) trivial
            · intro vs W4 hb4 hf
              clear HL hf
              change wpList _ _ _ _ (Act.put _ (some 97) (vs 40)) _
              generalize vs 40 = u97
              have H4 := Lib.hid (H3.out.later hb4)
              clear hb4 oi0 op0 ob0 ob2 lb li lp H3
              simp only [List.drop_succ_cons, List.drop_zero, List.take_succ_cons, List.take_zero]
              go_wp2_with fail
              go_meet
              exact ⟨by rw [decide_eq_false (show ¬ ((m : Int) + 1 < 1) by omega), decide_eq_false (show ¬ ((8 : Int) < (m : Int) + 1) by omega)]; rfl, H4.out⟩
          | true =>
            have hkid := HLEAF.out rfl
            have hun := fun W (hb : Below W3.heap.size W3 W) => (H3.out.ts.later hb).under cid hkw
            rw [hkid] at hun
            have HUN := Lib.hid hun
            clear hun
            refine wp_region_midg (w := W3) 41 4 [40] [] [(40, fun u W' => ∃ a c, u = .slice a 0 c)] rfl (by kernel_rfl) (by kernel_rfl) (by kernel_rfl) (by kernel_rfl) (fun _ _ _ _ _ h => h) ⟨fun v W1 W2 h hb => h, trivial⟩ ?_
            intro LL hL
            have HL := Lib.hid hL
            clear hL
            simp only [List.take_succ_cons, List.take_zero, putL]
            iterate 41 (first | refine wpHead_skip (by decide) ?_ | (refine wpHead_step (by decide) (fun K hK => ?_); go_simp; refine hK _ ?_; clear hK K))
            refine wpHead_nil (HL.out _ ⟨?_, trivial⟩ ?_)
            · intro vs W4 hb4 hf
              clear HL
              have hu := (HUN.out W4 hb4).mono (R' := fun e w' => ∃ v, e = .returned v ∧ Below W4.heap.size W4 w' ∧ ∃ a c, v = .slice a 0 c) (fun e w' ⟨v, he, ho, hb⟩ => ⟨v, he, hb, by obtain ⟨a, c, e⟩ := owns_sliceH ho; exact ⟨a, c, e⟩⟩)
              change TStep _ _ _ (Act.put _ (some 97) (vs 40)) _ _
              refine tstep_yes (by kernel_rfl) ?_
              go_simp
              try exact hu
            · intro vs W4 hb4 hf
              have hf := fits_cast (q := (∃ a c, vs 40 = .slice a 0 c) ∧ True) hf (by kernel_rfl)
              clear HL
              change wpList _ _ _ _ (Act.put _ (some 97) (vs 40)) _
              obtain ⟨⟨aU, cU, hU⟩, _⟩ := hf
              rw [hU]
              clear hU
              have H4 := Lib.hid (H3.out.later hb4)
              clear hb4 oi0 op0 ob0 ob2 lb li lp H3 HUN
              simp only [List.drop_succ_cons, List.drop_zero, List.take_succ_cons, List.take_zero]
              go_wp2_with fail
              go_meet
              exact ⟨by rw [decide_eq_false (show ¬ ((m : Int) + 1 < 1) by omega), decide_eq_false (show ¬ ((8 : Int) < (m : Int) + 1) by omega)]; rfl, H4.out⟩
        case rest =>
          obtain ⟨rfl, hrt⟩ := hcut
          obtain ⟨W4, rfl⟩ : ∃ W, W = wc := ⟨_, rfl⟩
          have H4 := Lib.hid hrt
          clear hrt H3
          obtain ⟨x, tt, hx, htt, ht0⟩ := HLAST.out
          rw [HM.out] at hx
          have hx : (pathM M cid)[m]? = some x := hx
          have hxc := (H4.out.path.cell hx).2.2
          have hpcap := (H4.out.path.cell hx).2.1
          have hxw : (Lit.int .i64 x).wf = true := by have o := HI.out.ok x tt htt; rw [← o.id]; exact o.wf.1.1
          have hgx := H4.out.ts.get x hxw
          unfold GetW getS at hgx
          rw [htt] at hgx
          obtain ⟨⟨tid, tpa, tlf, ⟨t1, t2, t3⟩, ⟨t4, t5, t6⟩, ⟨t7, t8, t9⟩, tpk, tby⟩, td⟩ := tt
          dsimp only [Option.getD, Option.isSome, spV, spC] at hgx ht0
          subst ht0
          clear hx htt hxw
          have hm00 : (0 : Int) ≤ (m : Int) := by omega
          go_wp2_with fail
          refine hgx.mono ?_
          clear hgx hxc
          rintro e W5 ⟨rfl, hb5⟩
          have hbx := (Below.refl W5.heap.size W5).alloc (Nat.le_refl _) (.cells #[.int .i64 tid, .int .i64 0, .bool tlf, .int .u64 t1, .int .u64 t2, .int .u64 t3, .int .u64 t4, .int .u64 t5, .int .u64 t6, .int .u64 t7, .int .u64 t8, .int .u64 t9, .int .i64 tpk, .int .i64 tby] 46)
          have hBx := Blk.new W5 46 #[.int .i64 tid, .int .i64 0, .bool tlf, .int .u64 t1, .int .u64 t2, .int .u64 t3, .int .u64 t4, .int .u64 t5, .int .u64 t6, .int .u64 t7, .int .u64 t8, .int .u64 t9, .int .i64 tpk, .int .i64 tby]
          have hb6 := hb5.trans (hbx.mono hb5.size)
          have H6 := Lib.hid (And.intro (H4.out.later hb6) hBx)
          clear hbx hBx hb6 hb5 H4
          obtain ⟨bt, hbt⟩ : ∃ b, b = W5.heap.size := ⟨_, rfl⟩
          rw [← hbt] at H6
          go_upto_region 18 with fail
          rw [← hbt]
          generalize W5.alloc (.cells #[.int .i64 tid, .int .i64 0, .bool tlf, .int .u64 t1, .int .u64 t2, .int .u64 t3, .int .u64 t4, .int .u64 t5, .int .u64 t6, .int .u64 t7, .int .u64 t8, .int .u64 t9, .int .i64 tpk, .int .i64 tby] 46) = W6 at H6 ⊢
          clear hbt
          have HQ := Lib.hid H6.out.1
          go_cut [124] from 113 to 124 (fun v124 wx => v124 = .bool false ∧ RT w wx base g ma mu M (.slice (some ⟨bi, oi, none⟩) n ci) ks bs #[.int .i64 cid, .int .i64 cpa, .bool clf, .int .u64 c1, .int .u64 c2, .int .u64 c3, .int .u64 c4, .int .u64 c5, .int .u64 c6, .int .u64 c7, .int .u64 c8, .int .u64 c9, .int .i64 cpk, .int .i64 cby] (.slice (some ⟨bp, op, none⟩) (m + 1) cp) (pathM M cid))
          case first =>
            have k1 := H6.out.1.box.cell 1; have q1 := H6.out.2.cell 1
            simp only [List.getElem?_toArray, List.getElem?_cons_zero, List.getElem?_cons_succ] at k1 q1
            rcases HUP.out with ⟨h0, h1⟩ | ⟨p, hp, hpl, hd⟩
            · subst h0
              obtain rfl : m = 0 := by have := HPL.out; omega
              clear h1
              go_wp2_with fail
              go_meet
              exact ⟨rfl, HQ.out⟩
            · have hp1 := (HI.out.pos hp).1
              have hpok := HI.out.ok _ p hp
              have hm1 : 1 ≤ m := by have := HPL.out; have := hpok.d1; omega
              have hne0 : (cpa == 0) = false := by simp; omega
              have hmm : ((m : Int) + 1 == 1) = false := by simp; omega
              clear hpok hp hpl hd
              go_wp2_with fail
              go_meet
              exact ⟨rfl, HQ.out⟩
          case rest =>
            obtain ⟨rfl, hrt⟩ := hcut
            obtain ⟨W6', rfl⟩ : ∃ W, W = wc := ⟨_, rfl⟩
            have H7 := Lib.hid hrt
            clear hrt H6 HQ
            have k1 := H7.out.box.cell 1
            simp only [List.getElem?_toArray, List.getElem?_cons_zero, List.getElem?_cons_succ] at k1
            go_upto_if 127 with fail
            clear k1
            go_cut [12, 13] from 127 to 148 (fun v12 v13 wx => RT w wx base g ma mu M (.slice (some ⟨bi, oi, none⟩) n ci) ks bs #[.int .i64 cid, .int .i64 cpa, .bool clf, .int .u64 c1, .int .u64 c2, .int .u64 c3, .int .u64 c4, .int .u64 c5, .int .u64 c6, .int .u64 c7, .int .u64 c8, .int .u64 c9, .int .i64 cpk, .int .i64 cby] (.slice (some ⟨bp, op, none⟩) (m + 1) cp) (pathM M cid))
            case first =>
              rcases HUP.out with ⟨h0, h1⟩ | ⟨p, hp, hpl, hd⟩
              · have hne : (cpa != 0) = false := by simp; omega
                clear h1 h0
                go_wp2_with fail
                go_meet
                exact H7.out
              · have hp1 := (HI.out.pos hp).1
                have hpok := HI.out.ok _ p hp
                have hm1 : 1 ≤ m := by have := HPL.out; have := hpok.d1; omega
                have hne0' : (cpa != 0) = true := by simp; omega
                have hgp := fun W (hb : Below W6'.heap.size W6' W) => (H7.out.ts.later hb).get cpa HPW.out
                unfold GetW getS at hgp
                rw [hp] at hgp
                have hp2 : (pathM M cid)[1]? = some cpa := by
                  rw [HSTEP.out, HI.out.path_step hp]; rfl
                have HP2 := Lib.hid hp2
                obtain ⟨⟨pid, ppa, plf, ⟨p1, p2, p3⟩, ⟨p4, p5, p6⟩, ⟨p7, p8, p9⟩, ppk, pby⟩, pd⟩ := p
                dsimp only [Option.getD, Option.isSome, spV, spC] at hgp hpl
                subst hpl
                have HGP := Lib.hid hgp
                clear hgp hp hpok hd hp2
                have k1 := H7.out.box.cell 1
                simp only [List.getElem?_toArray, List.getElem?_cons_zero, List.getElem?_cons_succ] at k1
                go_upto_region 21 with fail
                clear hne0'
                have hgq := HGP.out W6' (Below.refl _ _)
                go_wp2_with fail
                refine hgq.mono ?_
                clear hgq HGP k1
                rintro e Wp ⟨rfl, hbp⟩
                have hbx := (Below.refl Wp.heap.size Wp).alloc (Nat.le_refl _) (.cells #[.int .i64 pid, .int .i64 ppa, .bool false, .int .u64 p1, .int .u64 p2, .int .u64 p3, .int .u64 p4, .int .u64 p5, .int .u64 p6, .int .u64 p7, .int .u64 p8, .int .u64 p9, .int .i64 ppk, .int .i64 pby] 46)
                have hBx := Blk.new Wp 46 #[.int .i64 pid, .int .i64 ppa, .bool false, .int .u64 p1, .int .u64 p2, .int .u64 p3, .int .u64 p4, .int .u64 p5, .int .u64 p6, .int .u64 p7, .int .u64 p8, .int .u64 p9, .int .i64 ppk, .int .i64 pby]
                have hb6 := hbp.trans (hbx.mono hbp.size)
                have H9 := Lib.hid (And.intro (H7.out.later hb6) hBx)
                clear hbx hBx hb6 hbp H7
                obtain ⟨bq, hbq⟩ : ∃ b, b = Wp.heap.size := ⟨_, rfl⟩
                rw [← hbq] at H9
                go_upto_region 22 with fail
                rw [← hbq]
                generalize Wp.alloc (.cells #[.int .i64 pid, .int .i64 ppa, .bool false, .int .u64 p1, .int .u64 p2, .int .u64 p3, .int .u64 p4, .int .u64 p5, .int .u64 p6, .int .u64 p7, .int .u64 p8, .int .u64 p9, .int .i64 ppk, .int .i64 pby] 46) = W7 at H9 ⊢
                clear hbq
                have lq := H9.out.2.lt; have lb := H9.out.1.box.lt; have lp := (H9.out.1.path.cell HP2.out).1
                have oq := fun e => (over_cell (w := W7) (e := e) (o := 2) lq).trans (H9.out.2.cell 2)
                have ob := fun e => (over_cell (w := W7) (e := e) (o := 1) lb).trans (H9.out.1.box.cell 1)
                have op1 := fun e => (over_cell (w := W7) (e := e) (o := op + 1) lp).trans (H9.out.1.path.cell HP2.out).2.2
                simp only [List.getElem?_toArray, List.getElem?_cons_zero, List.getElem?_cons_succ] at oq ob
                have h1m : (1 : Int) < (m : Int) + 1 := by omega
                refine wp_region_over (by kernel_rfl) (by kernel_rfl) ?_
                repeat (first | go_big_quiet_skip | (go_big_quiet_want; go_big_quiet_op; go_big_quiet_on))
                refine wpQuiet_nil ?_
                rintro W8 ⟨e8, he8⟩
                have hb8 := over_below W7 e8
                rw [← he8] at hb8
                have H8 := Lib.hid (H9.out.1.later hb8)
                clear he8 hb8 oq ob op1 lq lb lp H9
                go_wp2_with fail
                go_meet
                exact H8.out
            case rest =>
              have hrt := hcut
              clear hcut
              obtain ⟨W8, rfl⟩ : ∃ W, W = wc := ⟨_, rfl⟩
              have H8 := Lib.hid hrt
              clear hrt H7
              have hc0 := (H8.out.ids.cell HKK.out.1).2.2
              have hun := H8.out.ts.under cid hkw
              go_wp2_with fail
              refine hun.mono ?_
              clear hun hc0
              rintro e W9 ⟨vu2, rfl, hou, hb9⟩
              have hku := kids_len M cid
              have hiu := IntAt.of_owns hou (by have := HN.out; omega)
              obtain ⟨au2, cu2, rfl⟩ := hiu.form
              obtain ⟨nu, hnu⟩ : ∃ n, (kids M cid).length = n := ⟨_, rfl⟩
              rw [hnu] at hiu hku ⊢
              have hnu64 : nu ≤ 64 := by have := HN.out; omega
              have HNU := Lib.hid hnu
              have H10 := Lib.hid (And.intro (H8.out.later hb9) hiu)
              clear hou hb9 hiu hku hnu H8
              have wadd : IntKind.i64.wrap ((mi : Int) + (nu : Int)) = (mi : Int) + (nu : Int) := IntWalk.i64_in _ (by omega)
              go_wp2_with fail
              obtain ⟨wo, rfl⟩ : ∃ wo : World, wo = wr := ⟨_, rfl⟩
              go_loopw [15] (fun v15 W => ∃ j : Nat, v15 = .int .i64 j ∧ j ≤ nu ∧ TS w W base g ma mu M ∧ IntAt W (.slice (some ⟨bi, oi, none⟩) n ci) ks ∧ IntAt W (.slice au2 nu cu2) (kids M cid)) (fun v15 _ => (nu - Go.RowKit.intOf v15).toNat)
              case atStart => exact ⟨0, rfl, Nat.zero_le _, H10.out.1.ts, H10.out.1.ids, H10.out.2⟩
              case round =>
                obtain ⟨j, rfl, hj, hts2, hids2, hun2⟩ := hrel
                by_cases hltj : j < nu
                · obtain ⟨y, hy⟩ : ∃ y, (kids M cid)[j]? = some y := ⟨_, List.getElem?_eq_getElem (by rw [HNU.out]; exact hltj)⟩
                  obtain ⟨bu, ou, rfl⟩ := hun2.some_ hy
                  obtain ⟨_, hnc2, hyc⟩ := hun2.cell hy
                  obtain ⟨cy, hcy, hcyp⟩ := (mem_kids HI.out.rise).1 (List.mem_of_getElem? hy)
                  have hyw : (Lit.int .i64 y).wf = true := by have o := HI.out.ok y cy hcy; rw [← o.id]; exact o.wf.1.1
                  have hgy := hts2.get y hyw
                  unfold GetW getS at hgy
                  rw [hcy] at hgy
                  obtain ⟨⟨yid, ypa, ylf, ⟨y1, y2, y3⟩, ⟨y4, y5, y6⟩, ⟨y7, y8, y9⟩, ypk, yby⟩, yd⟩ := cy
                  dsimp only [Option.getD, Option.isSome, spV, spC] at hgy hcyp
                  have hcyq : cid = ypa := hcyp.symm
                  subst hcyq
                  clear hcyp
                  have HR2 := Lib.hid (And.intro hts2 (And.intro hids2 hun2))
                  clear hts2 hids2 hun2 hcy hy
                  go_wp2_with fail
                  refine hgy.mono ?_
                  clear hgy hyc
                  rintro e Wy ⟨rfl, hby⟩
                  have hbx := (Below.refl Wy.heap.size Wy).alloc (Nat.le_refl _) (.cells #[.int .i64 yid, .int .i64 cid, .bool ylf, .int .u64 y1, .int .u64 y2, .int .u64 y3, .int .u64 y4, .int .u64 y5, .int .u64 y6, .int .u64 y7, .int .u64 y8, .int .u64 y9, .int .i64 ypk, .int .i64 yby] 46)
                  have hBx := Blk.new Wy 46 #[.int .i64 yid, .int .i64 cid, .bool ylf, .int .u64 y1, .int .u64 y2, .int .u64 y3, .int .u64 y4, .int .u64 y5, .int .u64 y6, .int .u64 y7, .int .u64 y8, .int .u64 y9, .int .i64 ypk, .int .i64 yby]
                  have hb6 := hby.trans (hbx.mono hby.size)
                  have HY := Lib.hid (And.intro (HR2.out.1.later hb6) (And.intro (HR2.out.2.1.later hb6) (And.intro (HR2.out.2.2.later hb6) hBx)))
                  clear hbx hBx hb6 hby
                  obtain ⟨by9, hby9⟩ : ∃ b, b = Wy.heap.size := ⟨_, rfl⟩
                  rw [← hby9] at HY
                  go_upto_region 30 with fail
                  rw [← hby9]
                  generalize Wy.alloc (.cells #[.int .i64 yid, .int .i64 cid, .bool ylf, .int .u64 y1, .int .u64 y2, .int .u64 y3, .int .u64 y4, .int .u64 y5, .int .u64 y6, .int .u64 y7, .int .u64 y8, .int .u64 y9, .int .i64 ypk, .int .i64 yby] 46) = Wz at HY ⊢
                  clear hby9
                  have ly := HY.out.2.2.2.lt; have li := (HY.out.2.1.cell HKK.out.1).1
                  have oy := fun e => (over_cell (w := Wz) (e := e) (o := 1) ly).trans (HY.out.2.2.2.cell 1)
                  have oi0 := fun e => (over_cell (w := Wz) (e := e) (o := oi + i) li).trans (HY.out.2.1.cell HKK.out.1).2.2
                  simp only [List.getElem?_toArray, List.getElem?_cons_zero, List.getElem?_cons_succ] at oy
                  have hi0' : (0 : Int) ≤ (i : Int) := by omega
                  refine wp_region_over (by kernel_rfl) (by kernel_rfl) ?_
                  repeat (first | go_big_quiet_skip | (go_big_quiet_want; go_big_quiet_op; go_big_quiet_on))
                  refine wpQuiet_nil ?_
                  rintro Wv ⟨ev, hev⟩
                  have hbv := over_below Wz ev
                  rw [← hev] at hbv
                  have HV := Lib.hid (And.intro (HY.out.1.later hbv) (And.intro (HY.out.2.1.later hbv) (HY.out.2.2.1.later hbv)))
                  clear hev hbv oy oi0 ly li HY
                  go_wp2_with fail
                  go_roundw
                  case measure => (simp [Go.RowKit.intOf]; try omega)
                  case rel => exact ⟨j + 1, by go_num, by omega, HV.out.1, HV.out.2.1, HV.out.2.2⟩
                · have HE2 := Lib.hid (And.intro hts2 hids2)
                  clear hts2 hids2 hun2
                  go_wp2_with fail
                  go_roundw
                  case measure => (simp [Go.RowKit.intOf]; try omega)
                  case rel =>
                    refine ⟨i + 1, mi + nu, by go_num, by go_num, by omega, ?_, HE2.out.1, HE2.out.2⟩
                    rw [sumK_snoc M ks HKK.out.1, HNU.out]
                    have := HMI.out
                    omega
      · obtain rfl : i = n := by omega
        have hfull : ks.take i = ks := List.take_of_length_le (by rw [HK.out.2]; exact Nat.le_refl _)
        have hsum := HI.out.sum
        rw [HK.out.1, HN.out] at hsum
        have hmn : mi = i := by
          have h1 := HMI.out
          rw [hfull] at h1
          unfold sumK at h1
          simp only [List.map_cons, List.sum_cons] at hsum
          rw [HM0.out] at hsum
          omega
        subst hmn
        have HE := Lib.hid hts.below
        clear hts hids hfull hsum
        go_wp2_with fail
        go_ret
        exact ⟨by simp, HE.out⟩
end Go.Proofs.Ytclhhegfffccgaa
