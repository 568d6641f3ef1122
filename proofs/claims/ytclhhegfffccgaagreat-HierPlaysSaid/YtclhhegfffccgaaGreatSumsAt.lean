/-
  What curves have together at a tick: sums.At.
-/
import Derived.Test.YtclhhegfffccgaaGreatSumsMay
import Derived.Test.YtclhhegfffccgaaGreatWide
namespace Go.Proofs.YtclhhegfffccgaaGreat
set_option linter.unusedVariables false
open Go.RowKit

theorem splus_any (m n : Int) (w : World) (h0 : 0 ≤ m) (k0 : 0 ≤ n) (hs : m + n < 340282366920938463463374607431768211456) :
    Calls Tryz.prog 102 #[.agg #[.int .u64 (hiW m), .int .u64 (loW m)], .agg #[.int .u64 (hiW n), .int .u64 (loW n)]] w fun e w' => e = .returned (.agg #[.int .u64 (hiW (m + n)), .int .u64 (loW (m + n))]) ∧ Below w.heap.size w w' := by
  have hp := fun w => plus_any (hiW m) (loW m) (hiW n) (loW n) w (U_hi h0 (by omega)) (U_lo m) (U_hi k0 (by omega)) (U_lo n) (by rw [num_words, num_words]; exact hs)
  simp only [num_words] at hp
  obtain ⟨a, ha⟩ : ∃ a, hiW (m + n) = a := ⟨_, rfl⟩
  obtain ⟨b, hb⟩ : ∃ b, loW (m + n) = b := ⟨_, rfl⟩
  rw [ha, hb] at hp
  rw [ha, hb]
  clear ha hb
  generalize hiW m = p at hp ⊢
  generalize loW m = q at hp ⊢
  generalize hiW n = x at hp ⊢
  generalize loW n = y at hp ⊢
  go_enter Tryz.func102, Tryz.ntmps102
  go_wp2_with fail
  refine (hp _).mono ?_
  clear hp
  rintro e w1 ⟨rfl, hb1⟩
  have hB : Blk w1 (w.heap.size + 1 + 1) 95 #[.int .u64 0, .int .u64 0] := by simpa using (Blk.new ((w.alloc (.cells #[.int .u64 p, .int .u64 q] 95)).alloc (.cells #[.int .u64 x, .int .u64 y] 95)) 95 #[.int .u64 0, .int .u64 0]).below hb1 (by simp)
  have hbw := (((((Below.refl w.heap.size w).alloc (Nat.le_refl _) (.cells #[.int .u64 p, .int .u64 q] 95)).alloc (by simp) (.cells #[.int .u64 x, .int .u64 y] 95)).alloc (by simp; omega) (.cells #[.int .u64 0, .int .u64 0] 95))).trans (hb1.mono (by simp; omega))
  have c0 := hB.cell 0; have c1 := hB.cell 1; have z0 := hB.frozen 0; have z1 := hB.frozen 1
  simp only [List.getElem?_toArray, List.getElem?_cons_zero, List.getElem?_cons_succ] at c0 c1
  have HBW := Lib.hid hbw
  have hlt := hB.lt
  have hne : w.heap.size + 1 + 1 ≠ w1.heap.size := by omega
  have HF := Lib.hid hB
  clear hb1 hB hbw
  go_wp2_with fail
  have hF : Blk (((w1.setCell ⟨w.heap.size + 1 + 1, 0, none⟩ (.int .u64 a)).setCell ⟨w.heap.size + 1 + 1, 1, none⟩ (.int .u64 b)).alloc (.cells #[.int .u64 a, .int .u64 b] 95)) (w.heap.size + 1 + 1) 95 #[.int .u64 a, .int .u64 b] := by
    simpa using ((HF.out.set_ 0 (.int .u64 a)).set_ 1 (.int .u64 b)).alloc (.cells #[.int .u64 a, .int .u64 b] 95)
  have d0 := hF.cell 0; have d1 := hF.cell 1
  simp only [List.getElem?_toArray, List.getElem?_cons_zero, List.getElem?_cons_succ] at d0 d1
  refine bodyPost_ret (v := .agg #[.int .u64 a, .int .u64 b]) (by simp only [results, Tryz.results102]; simp [go_sem, d0, d1]) rfl ⟨rfl, ?_⟩
  exact ((HBW.out.setCell (by simp; omega) _).setCell (by simp; omega) _).alloc (by have := HBW.out.size; simp; omega) _

theorem vC_bd {c : Cv} {t : Int} (ho : okC c = true) (h0 : 0 ≤ c.1) (h1 : 0 ≤ c.2.1) (h2 : 0 ≤ c.2.2) (t0 : 0 ≤ t) (t1 : t ≤ 18446744073709551615) : 0 ≤ vC c t ∧ vC c t ≤ 19342813113834066795298816 := by
  have hm := okC_may ho
  unfold vC W
  have a1 := Int.mul_nonneg h0 (show 0 ≤ min t c.2.1 by omega)
  have a2 := Int.mul_nonneg h2 (show 0 ≤ t - min t c.2.1 by omega)
  have a3 := Int.mul_le_mul_of_nonneg_right hm.1 (show 0 ≤ min t c.2.1 by omega)
  have a4 := Int.mul_le_mul_of_nonneg_right hm.2 (show 0 ≤ t - min t c.2.1 by omega)
  omega
theorem vS_bd {l : List Cv} {t : Int} (h : NN l) (t0 : 0 ≤ t) (t1 : t ≤ 18446744073709551615) : 0 ≤ vS l t ∧ vS l t ≤ l.length * 19342813113834066795298816 := by
  induction l with
  | nil => simp [vS]
  | cons c l ih =>
    have h1 := ih fun d hd => h d (.tail _ hd)
    have h0 := h c (.head _)
    simp only [vS, List.length_cons]
    by_cases hc : okC c = true
    · have := vC_bd hc h0.1 h0.2.1 h0.2.2 t0 t1
      rw [if_pos hc]; omega
    · rw [if_neg hc]; omega

/-- between two rounds of At -/
structure AtAt (w W : World) (v : Value) (l : List Cv) (rb sb : Nat) (S : Int) : Prop where
  cv : CvAt W v l
  res : Blk W rb 95 #[.int .u64 0, .int .u64 0]
  sum : Blk W sb 95 #[.int .u64 (hiW S), .int .u64 (loW S)]
  below : Below w.heap.size w W
  hr : w.heap.size ≤ rb
  hs : w.heap.size ≤ sb
  ne : rb ≠ sb
  own : ∀ k, v.ownBlock = some k → w.heap.size + 1 < k

theorem sat_any (v : Value) (l : List Cv) (t : Int) (w : World) (h : CvAt w v l) (ht : U t) :
    Calls Tryz.prog 89 #[v, .int .u64 t] w fun e w' => e = .returned (.agg #[.int .u64 (hiW (vS l t)), .int .u64 (loW (vS l t))]) ∧ Below w.heap.size w w' := by
  have hm := fun w h => smay_any v l w h
  have hok : ∀ c ∈ l.filter okC, okC c = true := fun c hc => (List.mem_filter.1 hc).2
  rw [← vS_filter l t]
  have H := Lib.hid h
  clear h
  generalize l.filter okC = f at hm hok ⊢
  have HO := Lib.hid hok
  clear hok
  go_enter Tryz.func89, Tryz.ntmps89
  go_wp2_with fail
  refine (hm _ ((H.out.later ((Below.refl w.heap.size w).alloc (Nat.le_refl _) _)).later ((Below.refl _ _).alloc (Nat.le_refl _) _))).mono ?_
  rintro e w1 ⟨v1, rfl, ⟨hc1, hown⟩, hb1⟩
  clear hm
  obtain ⟨a1, cap1, rfl⟩ : ∃ a cap, v1 = .slice a f.length cap := by obtain ⟨_, _, a, cap, e, _⟩ := hc1; exact ⟨a, cap, e⟩
  have hA : AtAt w w1 (.slice a1 f.length cap1) f w.heap.size (w.heap.size + 1) 0 := by
    have hb0 := ((Below.refl w.heap.size w).alloc (Nat.le_refl _) (.cells #[.int .u64 0, .int .u64 0] 95)).alloc (by simp) (.cells #[.int .u64 0, .int .u64 0] 95)
    refine ⟨hc1, ((Blk.new w 95 #[.int .u64 0, .int .u64 0]).alloc _).below hb1 (by simp; omega), ?_, hb0.trans (hb1.mono (by simp; omega)), Nat.le_refl _, by omega, by omega, fun k e => by have := hown k e; simp at this; omega⟩
    have := (Blk.new (w.alloc (.cells #[.int .u64 0, .int .u64 0] 95)) 95 #[.int .u64 0, .int .u64 0]).below hb1 (by simp)
    simpa [hiW, loW] using this
  have HA := Lib.hid hA
  have hfl := hc1.2.1
  clear hA hc1 hb1 H
  go_wp2_with fail
  go_loopw [12] (fun iv W => ∃ k : Nat, k ≤ f.length ∧ iv = .int .i64 k ∧ AtAt w W (.slice a1 f.length cap1) f w.heap.size (w.heap.size + 1) (vS (f.take k) t)) (fun iv _ => f.length - (intOf iv).toNat)
  case atStart => exact ⟨0, by omega, rfl, by simpa [vS] using HA.out⟩
  case round =>
    obtain ⟨k, hk, rfl, hA⟩ := hrel
    have HK := Lib.hid hA
    by_cases hlt : k < f.length
    · obtain ⟨c, hc⟩ : ∃ c, f[k]? = some c := ⟨_, List.getElem?_eq_getElem (by omega)⟩
      obtain ⟨hu, _, a', cap', e', h0 | ⟨b, off, e2, hbl, _, hcells⟩⟩ := hA.cv
      · rw [h0] at hlt; simp at hlt
      · simp only [Value.slice.injEq, true_and] at e'
        obtain ⟨rfl, rfl⟩ := e'
        subst e2
        obtain ⟨c0, c1, c2⟩ := hcells k c hc
        have hUc := hu c (List.mem_of_getElem? hc)
        have hoc := HO.out c (List.mem_of_getElem? hc)
        have hS : vS (f.take (k + 1)) t = vS (f.take k) t + vC c t := by
          rw [List.take_add_one, hc, vS_append]; simp [vS, hoc]
        have HS := Lib.hid hS
        have hAu := hu
        obtain ⟨F, L, R⟩ := c
        dsimp only at c0 c1 c2 hUc
        clear hcells hu hS hA hc
        have hS0 : 0 ≤ vS (f.take k) t ∧ vS (f.take k) t + vC (F, L, R) t < 340282366920938463463374607431768211456 ∧ 0 ≤ vC (F, L, R) t := by
          have b1 := vS_bd (l := f.take k) (t := t) (fun c hc => ⟨(hAu c (List.mem_of_mem_take hc)).1.1, (hAu c (List.mem_of_mem_take hc)).2.1.1, (hAu c (List.mem_of_mem_take hc)).2.2.1⟩) ht.1 ht.2
          have b2 := vC_bd (c := (F, L, R)) hoc hUc.1.1 hUc.2.1.1 hUc.2.2.1 ht.1 ht.2
          have b3 : (f.take k).length ≤ 1000000 := by rw [List.length_take]; omega
          omega
        clear hAu
        go_wp2_with fail
        obtain ⟨n, hn⟩ : ∃ n, min t L = n := ⟨_, rfl⟩
        obtain ⟨S, hS⟩ : ∃ S, vS (f.take k) t = S := ⟨_, rfl⟩
        have hv : vC (F, L, R) t = F * n + R * (t - n) := by rw [← hn]; rfl
        have t0 := ht.1; have t1 := ht.2; have l0 := hUc.2.1.1; have l1 := hUc.2.1.2
        have un : U n := by unfold U; omega
        have ud : U (t - n) := by unfold U; omega
        have hw : IntKind.u64.wrap (t - n) = t - n := wrap_u ud
        have hp0 := Int.mul_nonneg hUc.1.1 un.1
        have hp1 := Int.mul_nonneg hUc.2.2.1 ud.1
        rw [hS, hv] at hS0
        rw [hS] at HK
        have cm1 := fun W => mul_any F n W hUc.1 un
        have cm2 := fun W => mul_any R (t - n) W hUc.2.2 ud
        have cp1 := fun W => splus_any (F * n) (R * (t - n)) W hp0 hp1 (by omega)
        have cp2 := fun W => splus_any S (F * n + R * (t - n)) W hS0.1 (by omega) hS0.2.1
        have H4 := Lib.hid (show S + (F * n + R * (t - n)) = vS (f.take k) t + vC (F, L, R) t by rw [hS, hv])
        have hsum := HK.out.sum
        clear hv hS0 hp0 hp1
        obtain ⟨T, hT⟩ : ∃ T, S + (F * n + R * (t - n)) = T := ⟨_, rfl⟩
        rw [hT] at cp2 H4
        obtain ⟨x4, hx4⟩ : ∃ x, hiW T = x := ⟨_, rfl⟩
        obtain ⟨y4, hy4⟩ : ∃ x, loW T = x := ⟨_, rfl⟩
        rw [hx4, hy4] at cp2
        generalize hiW (F * n + R * (t - n)) = x3 at cp1 cp2
        generalize loW (F * n + R * (t - n)) = y3 at cp1 cp2
        generalize hiW (F * n) = x1 at cm1 cp1
        generalize loW (F * n) = y1 at cm1 cp1
        generalize hiW (R * (t - n)) = x2 at cm2 cp1
        generalize loW (R * (t - n)) = y2 at cm2 cp1
        generalize hiW S = x0 at cp2 hsum
        generalize loW S = y0 at cp2 hsum
        have hsum' := hsum.alloc (.cells #[.int .u64 F, .int .u64 L, .int .u64 R] 34)
        have hcur := Blk.new wr 34 #[.int .u64 F, .int .u64 L, .int .u64 R]
        have s0 := hsum'.cell 0; have s1 := hsum'.cell 1
        have q0 := hcur.cell 0; have q2 := hcur.cell 2
        have ls := hsum'.lt; have lc := hcur.lt
        simp only [List.getElem?_toArray, List.getElem?_cons_zero, List.getElem?_cons_succ] at s0 s1 q0 q2
        generalize hW0 : wr.alloc (.cells #[.int .u64 F, .int .u64 L, .int .u64 R] 34) = W0 at *
        have o0 := fun e => (over_cell (w := W0) (e := e) ls).trans s0
        have o1 := fun e => (over_cell (w := W0) (e := e) ls).trans s1
        have o2 := fun e => (over_cell (w := W0) (e := e) lc).trans q0
        have o3 := fun e => (over_cell (w := W0) (e := e) lc).trans q2
        have M1 := Lib.hid cm1; have M2 := Lib.hid cm2; have P1 := Lib.hid cp1; have P2 := Lib.hid cp2
        have HX := Lib.hid hx4; have HY := Lib.hid hy4; have HSU := Lib.hid hsum'
        clear cm1 cm2 cp1 cp2 hx4 hy4 hT hsum hsum' hcur s0 s1 q0 q2 c0 c1 c2
        refine wp_region_over_tail 13 (by kernel_rfl) (by kernel_rfl) ?_
        simp only [List.take_succ_cons, List.take_zero, List.drop_succ_cons, List.drop_zero]
        repeat (first | go_big_quiet_skip | (go_big_quiet_want; go_big_quiet_op; first | go_big_quiet_on | (apply Exists.intro; refine ⟨fun e => ?_, ?_⟩; (focus (first | (go_at_call 103; with_reducible exact calls_over (M1.out _)) | (go_at_call 103; with_reducible exact calls_over (M2.out _)) | (go_at_call 102; with_reducible exact calls_over (P1.out _)) | (go_at_call 102; with_reducible exact calls_over (P2.out _)))); go_big_quiet_on)))
        refine wpQuiet_nil ?_
        rintro W2 ⟨e2, he2⟩
        have hb2 := over_below W0 e2
        rw [← he2] at hb2
        clear he2 o0 o1 o2 o3
        have hsu2 := HSU.out.below hb2 ls
        have d0 := hsu2.cell 0; have d1 := hsu2.cell 1
        have z0 := hsu2.frozen 0; have z1 := hsu2.frozen 1
        simp only [List.getElem?_toArray, List.getElem?_cons_zero, List.getElem?_cons_succ] at d0 d1
        have hbw : Below wr.heap.size wr W2 := by
          rw [← hW0] at hb2
          exact ((Below.refl wr.heap.size wr).alloc (Nat.le_refl _) _).trans (hb2.mono (by simp))
        have HB2 := Lib.hid hbw; have HS2 := Lib.hid hsu2
        clear hb2 hbw hsu2
        go_wp2
        go_roundw
        case measure => simp [intOf]; omega
        case rel =>
          have hg := (grown_setC W2 (w.heap.size + 1) 0 (.int .u64 x4)).trans (grown_setC _ (w.heap.size + 1) 1 (.int .u64 y4))
          have hh := HK.out
          have hsum3 := (HS2.out.set_ 0 (.int .u64 x4)).set_ 1 (.int .u64 y4)
          have hbel := hh.below
          have hsz := hbel.size
          have hsz2 := HB2.out.size
          (repeat apply Exists.intro)
          refine ⟨(show k + 1 ≤ f.length by omega), by go_num, ?_⟩
          refine ⟨(hh.cv.later HB2.out).grown hg (fun k e => by have := hh.own k e; simp; omega), (hh.res.below HB2.out hh.res.lt).grown hg (by simp), ?_, (hbel.trans (HB2.out.mono hsz)).grown hg (by omega) (fun k e => by cases e; omega), hh.hr, hh.hs, hh.ne, hh.own⟩
          rw [HS.out, ← H4.out, HX.out, HY.out]
          simpa using hsum3
    · obtain rfl : k = f.length := by omega
      rw [List.take_length] at HK
      have r0 := HK.out.sum.cell 0; have r1 := HK.out.sum.cell 1
      have q0 := HK.out.res.cell 0; have q1 := HK.out.res.cell 1
      have z0 := HK.out.res.frozen 0; have z1 := HK.out.res.frozen 1
      simp only [List.getElem?_toArray, List.getElem?_cons_zero, List.getElem?_cons_succ] at r0 r1 q0 q1
      obtain ⟨x, hx⟩ : ∃ x, hiW (vS f t) = x := ⟨_, rfl⟩
      obtain ⟨y, hy⟩ : ∃ y, loW (vS f t) = y := ⟨_, rfl⟩
      rw [hx] at r0
      rw [hy] at r1
      have HX := Lib.hid hx; have HY := Lib.hid hy
      clear hA hx hy
      go_wp2_with fail
      have hF := (HK.out.res.set_ 0 (.int .u64 x)).set_ 1 (.int .u64 y)
      have d0 := hF.cell 0; have d1 := hF.cell 1
      simp at d0 d1
      refine bodyPost_ret (v := .agg #[.int .u64 x, .int .u64 y]) (by simp only [results, Tryz.results89]; simp [go_sem, d0, d1]) rfl ⟨by rw [HX.out, HY.out], ?_⟩
      exact ((HK.out.below.setCell (by simp) _).setCell (by simp) _)

end Go.Proofs.YtclhhegfffccgaaGreat
