/-
  The law: what was dropped without a ghost can be put again; with one when the ghosts are settled.
-/
import Derived.Test.YthmhboagbeibdaaAdmAgainP
namespace Go.Proofs.Ythmhboagbeibdaa
set_option linter.unusedVariables false
open Go.RowKit Go.Maps Go.Sort
attribute [local go_sem ↓] Go.wp_at_zero Go.wp_at_succ
attribute [local go_sem] quietR quietAtR quietUponR midAt midUpon
attribute [local irreducible] TStep HStep

theorem curve_neq (F L R : Int) (h : ¬ (F = 0 ∧ L = 0 ∧ R = 0)) (W : World) : (binOp .eql 25 (.agg #[.int .u64 F, .int .u64 L, .int .u64 R]) (.agg #[.int .u64 0, .int .u64 0, .int .u64 0])).run Try.prog W = .ok (.bool false) W := by
  have e1 : (F == 0) = decide (F = 0) := rfl
  have e2 : (L == 0) = decide (L = 0) := rfl
  have e3 : (R == 0) = decide (R = 0) := rfl
  by_cases h1 : F = 0
  · subst h1
    by_cases h2 : L = 0
    · subst h2
      have h3 : R ≠ 0 := by omega
      go_simp
    · go_simp
  · go_simp

set_option maxRecDepth 100000 in
set_option maxHeartbeats 8000000 in
theorem again_walk (a0 : Option Addr) (len cp0 : Nat) (zs : List (List Value)) (r id F L0 R0 : Int) (keep : Bool) (w : World) (hr : U r) (hz : IsRows [some .u8, some .i64, some .u64, some .u64, some .u64, none] w a0 len cp0 zs) (hid : (Lit.int .i64 id).wf = true) (hc : U F ∧ U L0 ∧ U R0) :
    Calls Try.prog 4 #[.int .u64 r, .slice a0 len cp0, .int .i64 id, .agg #[.int .u64 F, .int .u64 L0, .int .u64 R0], .bool keep] w fun e w' => e = .returned (.bool true) ∧ Below w.heap.size w w' := by
  obtain ⟨hlm, z, hZ⟩ := bacts_of hz
  have hzl := hZ.1
  have HR := Lib.hid hr; have HC := Lib.hid hc; have HID := Lib.hid hid
  have hb0 := (Below.refl w.heap.size w).alloc (Nat.le_refl _) (.cells #[.int .u64 F, .int .u64 L0, .int .u64 R0] 25)
  have hB0 := Blk.new w 25 #[.int .u64 F, .int .u64 L0, .int .u64 R0]
  have hZ0 := hZ.later hb0
  have HB0 := Lib.hid (And.intro hb0 (And.intro hB0 hZ0))
  have haw := fun W => awake_any W
  clear hz hZ hb0 hB0 hZ0
  go_enter Try.func4, Try.ntmps4
  go_wp2_with fail
  refine (haw _).mono ?_
  clear haw
  rintro e w1 ⟨rfl, hb1⟩
  have HB1 := Lib.hid (And.intro (HB0.out.1.trans (hb1.mono HB0.out.1.size)) (And.intro (HB0.out.2.1.below hb1 HB0.out.2.1.lt) (HB0.out.2.2.later hb1)))
  clear hb1 HB0
  have hlo := long_any a0 len cp0 w1
  by_cases h60 : 60 < len
  · rw [decide_eq_true h60] at hlo
    go_wp2_with fail
    refine hlo.mono ?_
    clear hlo
    rintro e w2 ⟨rfl, rfl⟩
    go_wp2_with fail
    go_ret
    exact ⟨rfl, HB1.out.1⟩
  · rw [decide_eq_false h60] at hlo
    go_wp2_with fail
    refine hlo.mono ?_
    clear hlo
    rintro e w2 ⟨rfl, rfl⟩
    subst hzl
    have hpl := played_any r a0 cp0 z w2 hr HB1.out.2.2 (by omega)
    go_wp2_with fail
    refine hpl.mono ?_
    clear hpl
    rintro e w3 ⟨hcase, hb3⟩
    rcases hcase with ⟨hbad, rfl⟩ | ⟨hgood, g, m, vg, rfl, hbo⟩
    · have HB3 := Lib.hid (HB1.out.1.trans (hb3.mono HB1.out.1.size))
      clear hb3
      go_wp2_with fail
      go_ret
      exact ⟨rfl, HB3.out⟩
    · have hki := play_ki (r := r) (by omega) HB1.out.2.2.2.1
      have hsm := play_len r z
      have hA : AgAt w w3 w2.heap.size g m w.heap.size r (playP r z).1 (playP r z).2 F L0 R0 := ⟨⟨vg, hbo⟩, HB1.out.2.1.below hb3 HB1.out.2.1.lt, HB1.out.1.trans (hb3.mono HB1.out.1.size), HB1.out.2.1.lt, HB1.out.1.size⟩
      generalize playP r z = S at hki hsm hA
      obtain ⟨L, G⟩ := S
      dsimp only at hki hsm hA
      have HK := Lib.hid hki; have HS := Lib.hid hsm; have HA := Lib.hid hA
      obtain ⟨fb, hfb⟩ : ∃ b, fitsB (G ++ L.map (·.2)) (F, L0, R0) r = b := ⟨_, rfl⟩
      have hf := ag_fits hA hc hfb
      obtain ⟨x0, x1, x2⟩ := hA.cells
      have HFB := Lib.hid hfb
      clear hb3 hki hsm hA hbo HB1 hgood hfb
      go_wp2_with fail
      refine hf.mono ?_
      clear hf x0 x1 x2
      rintro e w4 ⟨rfl, hA⟩
      obtain ⟨n, hn⟩ : ∃ n, G.length + L.length = n := ⟨_, rfl⟩
      have hn2 : n ≤ 120 := by have := HS.out; omega
      have hf := ag_all hA hn
      have HN := Lib.hid hn
      clear hn
      clear hA
      go_wp2_with fail
      refine hf.mono ?_
      clear hf
      rintro e w5 ⟨a5, c5, rfl, hA⟩
      have hf := ag_live hA hid
      unfold cvV at hf
      obtain ⟨⟨X, Y, Z⟩, hXYZ⟩ : ∃ c, (lookM L id).getD (0, 0, 0) = c := ⟨_, rfl⟩
      rw [hXYZ] at hf
      obtain ⟨had, hhad⟩ : ∃ b, (lookM L id).isSome = b := ⟨_, rfl⟩
      rw [hhad] at hf
      have HHAD := Lib.hid hhad
      clear hA hXYZ hhad
      go_wp2_with fail
      refine hf.mono ?_
      clear hf
      rintro e w6 ⟨rfl, hA⟩
      have hb7 := (Below.refl w6.heap.size w6).alloc (Nat.le_refl _) (.cells #[.int .u64 X, .int .u64 Y, .int .u64 Z] 25)
      have hA7 := hA.later hb7
      obtain ⟨x0, x1, x2⟩ := hA7.cells
      have hf := fun v L' => ag_put (v := v) (L' := L') hA7 hc hid (by have := HS.out; omega)
      have HA7 := Lib.hid hA7
      clear hA hb7 hA7
      rcases put_cases L G id (F, L0, R0) r with ⟨ho, hv, hL⟩ | ⟨ho, hs, hv, hL⟩ | ⟨ho, hs, hq, hv, hL⟩ | ⟨ho, hs, hq, hv, hz, hL⟩ | ⟨ho, hs, hq, hv, hz, hL⟩
      · have hf := hf _ _ hv hL
        have hfb : fb = false := by rw [← HFB.out]; unfold fitsB; rw [ho]; rfl
        subst hfb
        have HO := Lib.hid ho
        clear ho hv hL
        go_wp2_with fail
        refine hf.mono ?_
        clear hf x0 x1 x2
        rintro e w8 ⟨rfl, hA⟩
        obtain ⟨x0, x1, x2⟩ := hA.cells
        have HA8 := Lib.hid hA
        clear hA
        cases had
        · have hg := ag_all HA8.out HN.out
          clear x0 x1 x2
          go_wp2_with fail
          refine hg.mono ?_
          clear hg
          rintro e w9 ⟨a9, c9, rfl, hA⟩
          have hm := ag_may hA HC.out.2.1.1 HO.out
          obtain ⟨x0, x1, x2⟩ := hA.cells
          clear hA
          go_wp2_with fail
          refine hm.mono ?_
          clear hm x0 x1 x2
          rintro e w10 ⟨rfl, hA⟩
          have HA10 := Lib.hid hA
          clear hA
          go_wp2_with fail
          go_ret
          exact ⟨by simp, HA10.out.below⟩
        · have hm := ag_may HA8.out HC.out.2.1.1 HO.out
          go_wp2_with fail
          refine hm.mono ?_
          clear hm x0 x1 x2
          rintro e w10 ⟨rfl, hA⟩
          have HA10 := Lib.hid hA
          clear hA
          go_wp2_with fail
          go_ret
          exact ⟨by simp, HA10.out.below⟩
      · have hf := hf _ _ hv hL
        have hb : had = true := by rw [← HHAD.out]; exact hs
        subst hb
        clear ho hv hL hs
        go_wp2_with fail
        refine hf.mono ?_
        clear hf x0 x1 x2
        rintro e w8 ⟨rfl, hA⟩
        have HA8 := Lib.hid hA
        clear hA
        go_wp2_with fail
        go_ret
        exact ⟨by simp, HA8.out.below⟩
      · have hf := hf _ _ hv hL
        have hb : had = false := by rw [← HHAD.out, hs]; rfl
        have hfb : fb = false := by rw [← HFB.out]; unfold fitsB; rw [ho, hq]; rfl
        subst hb; subst hfb
        have HO := Lib.hid ho
        clear ho hv hL hs hq
        go_wp2_with fail
        refine hf.mono ?_
        clear hf x0 x1 x2
        rintro e w8 ⟨rfl, hA⟩
        have hg := ag_all hA HN.out
        clear hA
        go_wp2_with fail
        refine hg.mono ?_
        clear hg
        rintro e w9 ⟨a9, c9, rfl, hA⟩
        have hm := ag_may hA HC.out.2.1.1 HO.out
        obtain ⟨x0, x1, x2⟩ := hA.cells
        clear hA
        go_wp2_with fail
        refine hm.mono ?_
        clear hm x0 x1 x2
        rintro e w10 ⟨rfl, hA⟩
        have HA10 := Lib.hid hA
        clear hA
        go_wp2_with fail
        go_ret
        exact ⟨by simp, HA10.out.below⟩
      · have hf := hf _ _ hv hL
        have hb : had = false := by rw [← HHAD.out, hs]; rfl
        have hfb : fb = true := by rw [← HFB.out]; unfold fitsB; rw [ho, hq]; rfl
        subst hb; subst hfb
        simp only [Prod.mk.injEq] at hz
        obtain ⟨rfl, rfl, rfl⟩ := hz
        clear ho hv hL hs hq
        go_wp2_with fail
        refine hf.mono ?_
        clear hf x0 x1 x2
        rintro e w8 ⟨rfl, hA⟩
        have hg := ag_all hA HN.out
        obtain ⟨x0, x1, x2⟩ := hA.cells
        clear hA
        go_wp2_with fail
        refine hg.mono ?_
        clear hg x0 x1 x2
        rintro e w9 ⟨a9, c9, rfl, hA⟩
        have HA10 := Lib.hid hA
        clear hA
        go_wp2_with fail
        go_ret
        exact ⟨by simp, HA10.out.below⟩
      · have hf := hf _ _ hv hL
        have hb : had = false := by rw [← HHAD.out, hs]; rfl
        have hfb : fb = true := by rw [← HFB.out]; unfold fitsB; rw [ho, hq]; rfl
        subst hb; subst hfb
        have heq := curve_neq F L0 R0 (fun h => hz (by rw [h.1, h.2.1, h.2.2]))
        have HH := Lib.hid (And.intro ho (And.intro hs (And.intro hq hz)))
        clear ho hv hL hs hq hz
        go_wp2_with fail
        refine hf.mono ?_
        clear hf x0 x1 x2
        rintro e w8 ⟨rfl, hA⟩
        have hnl : G.length + (putM L id (F, L0, R0)).length = n + 1 := by rw [put_length_new HH.out.2.1, ← HN.out]; omega
        have hg := ag_all hA hnl
        have HNL := Lib.hid hnl
        obtain ⟨x0, x1, x2⟩ := hA.cells
        clear hA hnl
        go_wp2_with fail
        refine hg.mono ?_
        clear hg x0 x1 x2 heq
        rintro e w9 ⟨a9, c9, rfl, hA⟩
        have hd := fun G' => ag_drop (v := true) (L' := L) (G' := G') (keep := keep) hA hid (by have := HNL.out; omega) (by rw [look_put_same]; rfl) (del_put HH.out.2.1)
        clear hA
        cases keep
        · have hd1 := hd _ (by simp; rfl)
          clear hd
          go_wp2_with fail
          refine hd1.mono ?_
          clear hd1
          rintro e w10 ⟨rfl, hA⟩
          have hp := ag_put (v := 0) (L' := putBk L G id (F, L0, R0) r) hA hc hid (by have := HNL.out; have := HS.out; omega) (by unfold putC; rw [if_neg (by rw [HH.out.1]; simp), if_neg (by rw [HH.out.2.1]; simp), if_neg (by rw [HH.out.2.2.1]; simp)]) rfl
          obtain ⟨x0, x1, x2⟩ := hA.cells
          clear hA
          go_wp2_with fail
          refine hp.mono ?_
          clear hp x0 x1 x2
          rintro e w11 ⟨rfl, hA⟩
          have HA11 := Lib.hid hA
          clear hA
          go_wp2_with fail
          go_ret
          exact ⟨by simp, HA11.out.below⟩
        · have hd1 := hd (G ++ [(F, L0, R0)]) (by rw [look_put_same]; rfl)
          clear hd
          go_wp2_with fail
          refine hd1.mono ?_
          clear hd1
          rintro e w10 ⟨rfl, hA⟩
          have hnl : (G ++ [(F, L0, R0)]).length + L.length = n + 1 := by rw [← HN.out]; simp; omega
          have hg := ag_all hA hnl
          clear hA
          go_wp2_with fail
          refine hg.mono ?_
          clear hg hnl
          rintro e w11 ⟨a11, c11, rfl, hA⟩
          have hst := ag_settle hA
          rw [show (G ++ [(F, L0, R0)]).length = G.length + 1 by simp] at hst
          clear hA
          go_wp2_with fail
          refine hst.mono ?_
          clear hst
          rintro e w12 ⟨rfl, hA⟩
          have hask : askB ([] ++ L.map (·.2)) (F, L0, R0) r = true := by
            have hk := (ask_yes HH.out.2.2.1).resolve_left HH.out.2.2.2
            unfold askB
            rw [Bool.or_eq_true]
            refine .inr (decide_eq_true (hk.le fun t ht => ?_))
            have := vS_nonneg (nn_noted (show ∀ c ∈ G, Noted c from HK.out.gh)) ht
            simp only [vS_append, vS]
            omega
          have hp := ag_put (v := 0) (L' := putBk L [] id (F, L0, R0) r) hA hc hid (by have := HS.out; simp; omega) (by unfold putC; rw [if_neg (by rw [HH.out.1]; simp), if_neg (by rw [HH.out.2.1]; simp), if_neg (by rw [hask]; simp)]) rfl
          obtain ⟨x0, x1, x2⟩ := hA.cells
          clear hA hask
          go_wp2_with fail
          refine hp.mono ?_
          clear hp x0 x1 x2
          rintro e w13 ⟨rfl, hA⟩
          have HA11 := Lib.hid hA
          clear hA
          go_wp2_with fail
          go_ret
          exact ⟨by simp, HA11.out.below⟩
end Go.Proofs.Ythmhboagbeibdaa
