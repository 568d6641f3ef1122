/-
  The document's book of counters: Through. (Printed by wip/mkcbacts.py.)
-/
import Derived.Test.YtclhhegfffccgaaCbRefused
import Derived.Test.YtclhhegfffccgaaCbStore
import Derived.Test.YtclhhegfffccgaaRegM
namespace Go.Proofs.Ytclhhegfffccgaa
set_option linter.unusedVariables false
open Go.RowKit Go.Maps
attribute [local go_sem ↓] Go.wp_at_zero Go.wp_at_succ
attribute [local go_sem] quietR quietAtR quietUponR midAt midUpon
attribute [local irreducible] TStep

set_option maxRecDepth 100000 in
set_option maxHeartbeats 8000000 in
theorem rthrough_any (i c n t : Int) (base p : Nat) (B : Bk) (W : World) (h : CbAt W base p B) (hr : Rising B) (hh : Head0 B) (hn : B.length < 1000) (hc : (Lit.int .i64 c).wf = true) (hw : (Lit.int .i64 n).wf = true) :
    Calls Try.prog 16 #[.pointer (some ⟨p, 0, none⟩), pktV i c n t] W (fun e W' => e = .returned (.tuple #[]) ∧ CbAt W' base p (tellB B c (throughL n)) ∧ Below base W W') := by
  have hw64 := i64_wf hw
  have hmx : 0 ≤ max n 0 ∧ max n 0 < 18446744073709551616 := by omega
  obtain ⟨mx, hmxe⟩ : ∃ mx, max n 0 = mx := ⟨_, rfl⟩
  rw [hmxe] at hmx
  obtain ⟨LL, hLL⟩ : ∃ LL, throughL n = LL := ⟨_, rfl⟩
  have HMX := Lib.hid (And.intro hmxe hLL)
  rw [hLL]
  obtain ⟨hm0, hm1⟩ := hmx
  have hb0 := (Below.refl W.heap.size W).alloc (Nat.le_refl _) (.cells #[.int .u64 i, .int .i64 c, .int .i64 n, .int .u64 t] 24)
  have hB0 := Blk.new W 24 #[.int .u64 i, .int .i64 c, .int .i64 n, .int .u64 t]
  have hbo := both_places c base p B _ (h.later hb0) hr hn hc
  have hby := fun W => rbytes_any i c n t W hw
  rw [hmxe] at hby
  have HBY := Lib.hid hby
  have HR := Lib.hid (And.intro hr hh)
  have hbW := h.base_le
  have H0 := Lib.hid (And.intro hb0 hB0)
  clear h hr hh hmxe hLL hw64 hb0 hB0 hby
  unfold pktV
  go_enter Try.func16, Try.ntmps16
  go_wp2_with fail
  refine hbo.mono ?_
  clear hbo
  rintro e W1 ⟨gb, ks, B1, hpl, rfl, hB, hC, ⟨hbl, hkd⟩, hgb, hk1, hk2⟩
  have hlt := hpl.lt (by obtain ⟨s0, R, rfl, _⟩ := HR.out.2; simp)
  have hK := hkd _ _ _ H0.out.2 (by decide) (by decide)
  have hbl2 : Below base W W1 := (H0.out.1.mono hbW).trans hbl
  obtain ⟨m, hkn⟩ : ∃ m, ks.length = m := ⟨_, rfl⟩
  rw [hkn] at hk1 hk2 ⊢
  have HP := Lib.hid (And.intro hpl (And.intro hlt hkn)); have HS := Lib.hid (And.intro hB (And.intro hC (And.intro hbl2 hK)))
  clear hpl hB hC hbl hbl2 hlt hkn hkd hK
  go_wp2_with fail
  go_loopw [5] (fun v5 W' => ∃ x : Nat, v5 = .int .i64 x ∧ x ≤ m ∧ Blk W' gb 3 (ks.map fun k : Nat => Value.int .i64 k).toArray ∧ CbAt W' base p (atKs (fun s => stepsS s LL) B1 (ks.take x)) ∧ Below base W W' ∧ Blk W' W.heap.size 24 #[.int .u64 i, .int .i64 c, .int .i64 n, .int .u64 t]) (fun v5 _ => (m - Go.RowKit.intOf v5).toNat)
  case atStart => exact ⟨0, rfl, Nat.zero_le _, HS.out.1, by simpa [atKs] using HS.out.2.1, HS.out.2.2⟩
  case round =>
    obtain ⟨x, rfl, hi, hB, hC, hbl, hK⟩ := hrel
    clear HS
    by_cases hlt : x < m
    · obtain ⟨j, hj⟩ : ∃ j, ks[x]? = some j := ⟨_, List.getElem?_eq_getElem (by have := HP.out.2.2; omega)⟩
      have hjl := HP.out.2.1 j (List.mem_of_getElem? hj)
      have hlen := atKs_len (fun s => stepsS s LL) (ks.take x) B1
      obtain ⟨Bi, hBi⟩ : ∃ Bi, atKs (fun s => stepsS s LL) B1 (ks.take x) = Bi := ⟨_, rfl⟩
      rw [hBi] at hC hlen
      obtain ⟨⟨q, s⟩, hq⟩ : ∃ q, Bi[j]? = some q := ⟨_, List.getElem?_eq_getElem (by omega)⟩
      obtain ⟨⟨g, cap, cur, h1, h2, h3, h4, h5, h6, h7⟩, hpb, hok⟩ := hC
      have hs : OkS s := hok _ (List.mem_of_getElem? hq)
      have hsnoc : atKs (fun s => stepsS s LL) B1 (ks.take (x + 1)) = Bi.set j (q, stepsS s LL) := by
        rw [List.take_add_one, hj]
        show atKs _ B1 (ks.take x ++ [j]) = _
        rw [atKs_snoc, hBi, atK_some hq]
      have hnl : j < Bi.length := by omega
      obtain ⟨nb, hnb⟩ : ∃ nb, Bi.length = nb := ⟨_, rfl⟩
      rw [hnb] at h1 h4 hnl
      have hjc : j < cap := by omega
      have l1 := h1.lt; have l2 := h2.lt; have l3 := hB.lt
      have o0 := fun e => (over_cell (w := wr) (e := e) (o := 0) l1).trans (h1.cell 0)
      have hgi : (ks.map fun k : Nat => Value.int .i64 k).toArray[x]? = some (.int .i64 j) := by simp [hj]
      have og := fun e => (over_cell (w := wr) (e := e) (o := x) l3).trans ((hB.cell x).trans hgi)
      have oc0 := fun e => (over_cell (w := wr) (e := e) (o := j * 9 + 1 + 0) l2).trans ((h2.cell _).trans ((h3.2 j _ hq).2 0 (by decide)))
      have oc1 := fun e => (over_cell (w := wr) (e := e) (o := j * 9 + 1 + 1) l2).trans ((h2.cell _).trans ((h3.2 j _ hq).2 1 (by decide)))
      have oc2 := fun e => (over_cell (w := wr) (e := e) (o := j * 9 + 1 + 2) l2).trans ((h2.cell _).trans ((h3.2 j _ hq).2 2 (by decide)))
      have oc3 := fun e => (over_cell (w := wr) (e := e) (o := j * 9 + 1 + 3) l2).trans ((h2.cell _).trans ((h3.2 j _ hq).2 3 (by decide)))
      have oc4 := fun e => (over_cell (w := wr) (e := e) (o := j * 9 + 1 + 4) l2).trans ((h2.cell _).trans ((h3.2 j _ hq).2 4 (by decide)))
      have oc5 := fun e => (over_cell (w := wr) (e := e) (o := j * 9 + 1 + 5) l2).trans ((h2.cell _).trans ((h3.2 j _ hq).2 5 (by decide)))
      have oc6 := fun e => (over_cell (w := wr) (e := e) (o := j * 9 + 1 + 6) l2).trans ((h2.cell _).trans ((h3.2 j _ hq).2 6 (by decide)))
      have oc7 := fun e => (over_cell (w := wr) (e := e) (o := j * 9 + 1 + 7) l2).trans ((h2.cell _).trans ((h3.2 j _ hq).2 7 (by decide)))
      simp only [List.getElem?_toArray, List.getElem?_cons_zero] at o0
      simp only [Nat.add_zero] at oc0
      have hi0 : (0 : Int) ≤ (x : Int) := by omega
      have hj0 : (0 : Int) ≤ (j : Int) := by omega
      have hjn : (j : Int) < (nb : Int) := by omega
      have hin : (x : Int) < (m : Int) := by omega
      have HZ := Lib.hid (And.intro h1 (And.intro h2 (And.intro h3 (And.intro h4 (And.intro h5 (And.intro h6 (And.intro h7 (And.intro hok (And.intro hq (And.intro hs (And.intro hsnoc (And.intro hB (And.intro hbl (And.intro hnb (And.intro hK hgi)))))))))))))))
      clear h1 h2 h3 h4 h5 h6 h7 hok hq hs hsnoc hB hbl hnb hK hBi hlen hgi l1 l2 l3 hj hjl hjc hnl
      go_upto_region 5 with fail
      go_cut [6] from 17 to 27 (fun v6 wx => ∃ bs, v6 = .pointer (some ⟨bs, 0, none⟩) ∧ wr.heap.size ≤ bs ∧ Blk wx bs 55 (stC s) ∧ Below wr.heap.size wr wx)
      case first =>
        refine wp_region_midg (w := wr) 12 1 [11] [] [(11, fun u W' => ∃ bs, u = .pointer (some ⟨bs, 0, none⟩) ∧ wr.heap.size ≤ bs ∧ Blk W' bs 55 (stC st0))] rfl (by kernel_rfl) (by kernel_rfl) (by kernel_rfl) (by kernel_rfl) (fun _ _ _ _ _ h => h) ⟨fun v W1 W2 ⟨b, h1, h2, h3⟩ hb => ⟨b, h1, h2, h3.below hb h3.lt⟩, trivial⟩ ?_
        intro LQ hL
        have HL := Lib.hid hL
        clear hL
        simp only [List.take_succ_cons, List.take_zero, putL]
        iterate 12 (first | refine wpHead_skip (by decide) ?_ | (refine wpHead_step (by decide) (fun K hK => ?_); go_simp; refine hK _ ?_; clear hK K))
        refine wpHead_nil (HL.out _ ⟨?_, trivial⟩ ?_)
        · intro vs W2 hb2 hf
          clear HL
          change TStep _ _ _ (Act.put _ (some 6) (vs 11)) _ _
          refine tstep_yes (by kernel_rfl) ?_
          go_simp
          exact ⟨(Below.refl _ _).alloc (Nat.le_refl _) _, hb2.size, Blk.new _ _ _⟩
        · intro vs W2 hb2 hf
          have hf := (show (∃ bs, vs 11 = .pointer (some ⟨bs, 0, none⟩) ∧ wr.heap.size ≤ bs ∧ Blk W2 bs 55 (stC st0)) ∧ True from hf)
          clear HL
          change wpList _ _ _ _ (Act.put _ (some 6) (vs 11)) _
          refine Exists.elim hf.1 fun bs hbs => ?_
          rw [hbs.1]
          have hX := hbs.2.2
          have HX := Lib.hid (And.intro hbs.2 hb2)
          clear hf hbs hb2
          have z0 := hX.cell 0; have y0 := hX.frozen 0
          have z1 := hX.cell 1; have y1 := hX.frozen 1
          have z2 := hX.cell 2; have y2 := hX.frozen 2
          have z3 := hX.cell 3; have y3 := hX.frozen 3
          have z4 := hX.cell 4; have y4 := hX.frozen 4
          have z5 := hX.cell 5; have y5 := hX.frozen 5
          have z6 := hX.cell 6; have y6 := hX.frozen 6
          have z7 := hX.cell 7; have y7 := hX.frozen 7
          simp only [stC_at st0 _ (by decide : 0 < 8), stC_at st0 _ (by decide : 1 < 8), stC_at st0 _ (by decide : 2 < 8), stC_at st0 _ (by decide : 3 < 8), stC_at st0 _ (by decide : 4 < 8), stC_at st0 _ (by decide : 5 < 8), stC_at st0 _ (by decide : 6 < 8), stC_at st0 _ (by decide : 7 < 8)] at z0 z1 z2 z3 z4 z5 z6 z7
          clear hX o0 og oc0 oc1 oc2 oc3 oc4 oc5 oc6 oc7
          simp only [List.drop_succ_cons, List.drop_zero, List.take_succ_cons, List.take_zero]
          go_wp2_with fail
          go_meet
          have hch := (((((((HX.out.1.2.set_ 0 (.int .u64 (s 0))).set_ 1 (.int .u64 (s 1))).set_ 2 (.int .u64 (s 2))).set_ 3 (.int .u64 (s 3))).set_ 4 (.int .u64 (s 4))).set_ 5 (.int .u64 (s 5))).set_ 6 (.int .u64 (s 6))).set_ 7 (.int .u64 (s 7))
          have hge := HX.out.1.1
          exact ⟨bs, rfl, hge, by simpa [stC] using hch, (((((((HX.out.2.setCell (p := ⟨bs, 0, none⟩) hge _).setCell (p := ⟨bs, 1, none⟩) hge _).setCell (p := ⟨bs, 2, none⟩) hge _).setCell (p := ⟨bs, 3, none⟩) hge _).setCell (p := ⟨bs, 4, none⟩) hge _).setCell (p := ⟨bs, 5, none⟩) hge _).setCell (p := ⟨bs, 6, none⟩) hge _).setCell (p := ⟨bs, 7, none⟩) hge _⟩
      case rest =>
        obtain ⟨bs, rfl, hbs, hS, hb5⟩ := hcut
        have hok0 := HZ.out.2.2.2.2.2.2.2.2.2.1
        have HS := Lib.hid (And.intro hS hb5)
        clear hS hb5 o0 og oc0 oc1 oc2 oc3 oc4 oc5 oc6 oc7
        obtain ⟨hlo0, hhi0⟩ := hok0 2
        have hst0 := HS.out.1.cell 2; have hfz0 := HS.out.1.frozen 2
        rw [stC_at s 2 (by decide)] at hst0
        obtain ⟨sv0, hsv0⟩ : ∃ v, sumv (s 2) false 1 = v := ⟨_, rfl⟩
        obtain ⟨s1, hs0⟩ : ∃ u, step1 s (2, 1, false) = u := ⟨_, rfl⟩
        have hok1 : OkS s1 := by rw [← hs0]; exact OkS.step1 hok0 (by first | decide | exact hm0)
        have hset0 : (stC s).setIfInBounds 2 (.int .u64 sv0) = stC s1 := by rw [stC_set s 2 (by decide), ← hs0, ← hsv0]; rfl
        have hup := up_any (s 2) 1 wc hlo0 hhi0 (by decide) (by decide)
        rw [hsv0] at hup
        have HQ0 := Lib.hid (And.intro hset0 (And.intro hs0 hok1))
        clear hset0 hs0 hsv0
        go_wp2_with fail
        refine hup.mono ?_
        clear hup
        rintro e w' ⟨rfl, hw'⟩
        subst hw'
        go_upto_region 7 with fail
        have hS2 := HS.out.1.set_ 2 (.int .u64 sv0)
        rw [HQ0.out.1] at hS2
        have HS2 := Lib.hid (And.intro hS2 (HS.out.2.setCell (p := ⟨bs, 2, none⟩) hbs (.int .u64 sv0)))
        clear hS2 HS hst0 hfz0
        have HS := HS2
        clear HS2
        generalize wc.setCell ⟨bs, 2, none⟩ (.int .u64 sv0) = w6 at HS ⊢
        obtain ⟨hlo1, hhi1⟩ := hok1 3
        have hst1 := HS.out.1.cell 3; have hfz1 := HS.out.1.frozen 3
        rw [stC_at s1 3 (by decide)] at hst1
        obtain ⟨sv1, hsv1⟩ : ∃ v, sumv (s1 3) false mx = v := ⟨_, rfl⟩
        obtain ⟨s2, hs1⟩ : ∃ u, step1 s1 (3, mx, false) = u := ⟨_, rfl⟩
        have hok2 : OkS s2 := by rw [← hs1]; exact OkS.step1 hok1 (by first | decide | exact hm0)
        have hset1 : (stC s1).setIfInBounds 3 (.int .u64 sv1) = stC s2 := by rw [stC_set s1 3 (by decide), ← hs1, ← hsv1]; rfl
        have hup := fun W => up_any (s1 3) mx W hlo1 hhi1 hm0 hm1
        rw [hsv1] at hup
        have HQ1 := Lib.hid (And.intro hset1 (And.intro hs1 hok2)); have HUP := Lib.hid hup
        clear hset1 hs1 hsv1 hup
        have hKw := HZ.out.2.2.2.2.2.2.2.2.2.2.2.2.2.2.1.below HS.out.2 HZ.out.2.2.2.2.2.2.2.2.2.2.2.2.2.2.1.lt
        have m0 := HS.out.1.lt; have m1 := hKw.lt
        have ps := fun e => (over_cell (w := w6) (e := e) (o := 3) m0).trans hst1
        have pk0 := fun e => (over_cell (w := w6) (e := e) (o := 0) m1).trans (hKw.cell 0)
        have pk1 := fun e => (over_cell (w := w6) (e := e) (o := 1) m1).trans (hKw.cell 1)
        have pk2 := fun e => (over_cell (w := w6) (e := e) (o := 2) m1).trans (hKw.cell 2)
        have pk3 := fun e => (over_cell (w := w6) (e := e) (o := 3) m1).trans (hKw.cell 3)
        simp only [List.getElem?_toArray, List.getElem?_cons_zero, List.getElem?_cons_succ] at pk0 pk1 pk2 pk3
        have hby := fun e => HBY.out (over w6 e)
        unfold pktV at hby
        have HB2 := Lib.hid hby
        clear hby hKw m0 m1
        refine wp_region_over_tail 6 (by kernel_rfl) (by kernel_rfl) ?_
        simp only [List.take_succ_cons, List.take_zero, List.drop_succ_cons, List.drop_zero]
        repeat (first | go_big_quiet_skip | (go_big_quiet_want; go_big_quiet_op; first | go_big_quiet_on | (apply Exists.intro; refine ⟨fun e => ?_, ?_⟩; (focus (first | (go_at_call 38; with_reducible exact calls_over (HB2.out _)) | (go_at_call 37; with_reducible exact calls_over_same (HUP.out _)))); go_big_quiet_on)))
        refine wpQuiet_nil ?_
        rintro W9 ⟨e9, he9⟩
        have hb9 := over_below w6 e9
        rw [← he9] at hb9
        clear he9 ps pk0 pk1 pk2 pk3
        have HS2 := Lib.hid (And.intro (HS.out.1.below hb9 HS.out.1.lt) (HS.out.2.trans (hb9.mono HS.out.2.size)))
        clear hb9 HS hst1 hfz1
        have HS := HS2
        clear HS2
        have hst1 := HS.out.1.cell 3; have hfz1 := HS.out.1.frozen 3
        rw [stC_at s1 3 (by decide)] at hst1
        go_upto_region 8 with fail
        have hS2 := HS.out.1.set_ 3 (.int .u64 sv1)
        rw [HQ1.out.1] at hS2
        have HS2 := Lib.hid (And.intro hS2 (HS.out.2.setCell (p := ⟨bs, 3, none⟩) hbs (.int .u64 sv1)))
        clear hS2 HS hst1 hfz1
        have HS := HS2
        clear HS2
        generalize W9.setCell ⟨bs, 3, none⟩ (.int .u64 sv1) = w7 at HS ⊢
        obtain ⟨h1, h2, h3, h4, h5, h6, h7, hok, hq, hs, hsnoc, hB, hbl, hnb, hK, hgi⟩ := HZ.out
        have hbw := HS.out.2
        have k1 := h1.below hbw h1.lt; have k2 := h2.below hbw h2.lt; have kB := hB.below hbw hB.lt; have kK := hK.below hbw hK.lt
        have m1 := k1.lt; have m2 := k2.lt; have m3 := kB.lt; have m4 := HS.out.1.lt
        have o0 := fun e => (over_cell (w := w7) (e := e) (o := 0) m1).trans (k1.cell 0)
        have og := fun e => (over_cell (w := w7) (e := e) (o := x) m3).trans ((kB.cell x).trans hgi)
        have ps0 := fun e => (over_cell (w := w7) (e := e) (o := 0) m4).trans (HS.out.1.cell 0)
        have ps1 := fun e => (over_cell (w := w7) (e := e) (o := 1) m4).trans (HS.out.1.cell 1)
        have ps2 := fun e => (over_cell (w := w7) (e := e) (o := 2) m4).trans (HS.out.1.cell 2)
        have ps3 := fun e => (over_cell (w := w7) (e := e) (o := 3) m4).trans (HS.out.1.cell 3)
        have ps4 := fun e => (over_cell (w := w7) (e := e) (o := 4) m4).trans (HS.out.1.cell 4)
        have ps5 := fun e => (over_cell (w := w7) (e := e) (o := 5) m4).trans (HS.out.1.cell 5)
        have ps6 := fun e => (over_cell (w := w7) (e := e) (o := 6) m4).trans (HS.out.1.cell 6)
        have ps7 := fun e => (over_cell (w := w7) (e := e) (o := 7) m4).trans (HS.out.1.cell 7)
        simp only [stC_at s2 0 (by decide : 0 < 8), stC_at s2 1 (by decide : 1 < 8), stC_at s2 2 (by decide : 2 < 8), stC_at s2 3 (by decide : 3 < 8), stC_at s2 4 (by decide : 4 < 8), stC_at s2 5 (by decide : 5 < 8), stC_at s2 6 (by decide : 6 < 8), stC_at s2 7 (by decide : 7 < 8)] at ps0 ps1 ps2 ps3 ps4 ps5 ps6 ps7
        simp only [List.getElem?_toArray, List.getElem?_cons_zero] at o0
        have KZ := Lib.hid (And.intro k1 (And.intro k2 (And.intro kB (And.intro kK HS.out))))
        clear h1 h2 h3 h4 h5 h6 h7 hok hq hs hsnoc hB hbl hnb hK hgi hbw k1 k2 kB kK m1 m2 m3 m4 HS
        refine wp_region_over_tail 11 (by kernel_rfl) (by kernel_rfl) ?_
        simp only [List.take_succ_cons, List.take_zero, List.drop_succ_cons, List.drop_zero]
        repeat (first | go_big_quiet_skip | (go_big_quiet_want; go_big_quiet_op; go_big_quiet_on))
        refine wpQuiet_nil ?_
        rintro Wt ⟨et, het⟩
        have hbt := over_below w7 et
        rw [← het] at hbt
        clear het o0 og ps0 ps1 ps2 ps3 ps4 ps5 ps6 ps7
        obtain ⟨h1, h2, h3, h4, h5, h6, h7, hok, hq, hs, hsnoc, hB, hbl, hnb, hK, hgi⟩ := HZ.out
        obtain ⟨k1, k2, kB, kK, kS, hbw⟩ := KZ.out
        replace k1 := k1.below hbt k1.lt; replace k2 := k2.below hbt k2.lt; replace kB := kB.below hbt kB.lt; replace kK := kK.below hbt kK.lt; replace kS := kS.below hbt kS.lt
        have z0 := (k2.cell (j * 9 + 1 + 0)).trans ((h3.2 j _ hq).2 0 (by decide)); have y0 := k2.frozen (j * 9 + 1 + 0); have t0 := kS.cell 0
        have z1 := (k2.cell (j * 9 + 1 + 1)).trans ((h3.2 j _ hq).2 1 (by decide)); have y1 := k2.frozen (j * 9 + 1 + 1); have t1 := kS.cell 1
        have z2 := (k2.cell (j * 9 + 1 + 2)).trans ((h3.2 j _ hq).2 2 (by decide)); have y2 := k2.frozen (j * 9 + 1 + 2); have t2 := kS.cell 2
        have z3 := (k2.cell (j * 9 + 1 + 3)).trans ((h3.2 j _ hq).2 3 (by decide)); have y3 := k2.frozen (j * 9 + 1 + 3); have t3 := kS.cell 3
        have z4 := (k2.cell (j * 9 + 1 + 4)).trans ((h3.2 j _ hq).2 4 (by decide)); have y4 := k2.frozen (j * 9 + 1 + 4); have t4 := kS.cell 4
        have z5 := (k2.cell (j * 9 + 1 + 5)).trans ((h3.2 j _ hq).2 5 (by decide)); have y5 := k2.frozen (j * 9 + 1 + 5); have t5 := kS.cell 5
        have z6 := (k2.cell (j * 9 + 1 + 6)).trans ((h3.2 j _ hq).2 6 (by decide)); have y6 := k2.frozen (j * 9 + 1 + 6); have t6 := kS.cell 6
        have z7 := (k2.cell (j * 9 + 1 + 7)).trans ((h3.2 j _ hq).2 7 (by decide)); have y7 := k2.frozen (j * 9 + 1 + 7); have t7 := kS.cell 7
        simp only [Nat.add_zero] at z0 y0
        simp only [stC_at s2 0 (by decide : 0 < 8), stC_at s2 1 (by decide : 1 < 8), stC_at s2 2 (by decide : 2 < 8), stC_at s2 3 (by decide : 3 < 8), stC_at s2 4 (by decide : 4 < 8), stC_at s2 5 (by decide : 5 < 8), stC_at s2 6 (by decide : 6 < 8), stC_at s2 7 (by decide : 7 < 8)] at t0 t1 t2 t3 t4 t5 t6 t7
        have HN := Lib.hid (And.intro h1 (And.intro k1 (And.intro k2 (And.intro kB (And.intro kK (And.intro hbt hbw))))))
        clear h1 h2 h3 h4 h5 h6 h7 hok hq hs hsnoc hB hbl hnb hK hgi k1 k2 kB kK kS hbw hbt
        go_wp2_with fail
        clear z0 z1 z2 z3 z4 z5 z6 z7 y0 y1 y2 y3 y4 y5 y6 y7 t0 t1 t2 t3 t4 t5 t6 t7
        obtain ⟨h1, h2, h3, h4, h5, h6, h7, hok, hq, hs, hsnoc, hB, hbl, hnb, hK, hgi⟩ := HZ.out
        obtain ⟨h1', k1, k2, kB, kK, hbt, hbw⟩ := HN.out
        have hst : stepsS s LL = s2 := by
          rw [← HMX.out.2]
          simp only [throughL, HMX.out.1]
          rw [← HQ1.out.2.1]
          rw [← HQ0.out.2.1]
          rfl
        have hneB : gb ≠ g := by
          rintro rfl
          have := hB.symm.trans h2
          simp at this
        have hneK : W.heap.size ≠ g := by
          intro e
          rw [e] at hK
          have := hK.symm.trans h2
          simp at this
        have hfin : CbAt (set8 Wt g (j * 9 + 1) s2) base p (atKs (fun s => stepsS s LL) B1 (ks.take (x + 1))) := by
          rw [hsnoc, hst]
          exact CbAt.put8 (by rw [hnb]; exact k1) k2 h3 (by rw [hnb]; exact h4) h5 h6 h7 hpb hok hq HQ1.out.2.2
        have hbelow : Below base W (set8 Wt g (j * 9 + 1) s2) := set8_below (hbl.trans ((hbw.trans (hbt.mono hbw.size)).mono (Nat.le_trans hbW hbl.size))) h7
        have HW := Lib.hid (And.intro (set8_other (o := j * 9 + 1) (s := s2) kB hneB) (And.intro hfin (And.intro hbelow (set8_other (o := j * 9 + 1) (s := s2) kK hneK))))
        clear h1 h2 h3 h4 h5 h6 h7 hok hq hs hsnoc hB hbl hnb hK hgi h1' k1 k2 kB kK hbt hbw hst hneB hneK hfin hbelow
        go_roundw
        case measure => (simp [Go.RowKit.intOf]; try omega)
        case rel => exact ⟨x + 1, by go_num, by omega, HW.out⟩
    · obtain rfl : x = m := by omega
      have hfin : atKs (fun s => stepsS s LL) B1 (ks.take x) = tellB B c LL := by
        rw [List.take_of_length_le (by rw [HP.out.2.2]; exact Nat.le_refl _)]
        exact HP.out.1.told HR.out.2 HR.out.1 LL
      rw [hfin] at hC
      have HF := Lib.hid (And.intro hC hbl)
      clear hB hC hbl hfin hK
      go_wp2_with fail
      go_returns
      exact ⟨rfl, HF.out⟩
end Go.Proofs.Ytclhhegfffccgaa
