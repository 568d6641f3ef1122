/-
  The law: whatever was put, swapped, dropped, all live curves and ghosts can be kept.
-/
import Derived.Test.YthmhboagbeibdaaAdmKeptP
import Derived.Test.YthmhboagbeibdaaAdmPlayed
import Derived.Test.YthmhboagbeibdaaAdmAwake
import Derived.Test.YthmhboagbeibdaaAdmAll
import Derived.Test.YthmhboagbeibdaaCurveAt
namespace Go.Proofs.Ythmhboagbeibdaa
set_option linter.unusedVariables false
open Go.RowKit Go.Maps Go.Sort
attribute [local go_sem ↓] Go.wp_at_zero Go.wp_at_succ
attribute [local go_sem] quietR quietAtR quietUponR midAt midUpon
attribute [local irreducible] TStep HStep

theorem curve_eq (F L R : Int) (h : ¬ (F = 0 ∧ L = 0 ∧ R = 0)) (W : World) : (binOp .eql 25 (.agg #[.int .u64 F, .int .u64 L, .int .u64 R]) (.agg #[.int .u64 0, .int .u64 0, .int .u64 0])).run Try.prog W = .ok (.bool false) W := by
  have e1 : (F == 0) = decide (F = 0) := rfl
  have e2 : (L == 0) = decide (L = 0) := rfl
  have e3 : (R == 0) = decide (R = 0) := rfl
  by_cases h1 : F = 0
  · subst h1
    by_cases h2 : L = 0
    · subst h2
      have h3 : R ≠ 0 := by omega
      go_simp
    · go_simp
  · go_simp

/-- one more word behind a row of the call's own -/
theorem app_word (ty : TypeId) {w : World} {v : Value} {base B : Nat} {ks : List Int} {x : Int} (hown : w.ownsRow base 22 1 v ks.length (ks.map (Value.int .u64))) (hb : base ≤ w.heap.size) (hl : ks.length < 1000000)
    (hB : Blk w B 22 #[.int .u64 x]) :
    ∃ v' w', (Builtin.append_ #[52, 52] ty #[v, .slice (some ⟨B, 0, none⟩) 1 1]).run Try.prog w = .ok v' w' ∧ w'.ownsRow base 22 1 v' (ks ++ [x]).length ((ks ++ [x]).map (Value.int .u64)) ∧ Below base w w' := by
  obtain ⟨i0, hi0, hz0, hz1, hz2⟩ := info_parts info_u64
  obtain ⟨g, cap, w', hr, ho, hg, _, hlt⟩ := run_append_lies (P := Try.prog) w 52 ty base 22 i0 _ 1 8 Try.underlying52 hi0 hz0 hz1 hz2 rfl (by decide) v ks.length _ hown ⟨B, 0, none⟩ 1 1 [.int .u64 x] rfl (World.news_of_block hB) (by simp [Value.oneCell']) (by decide) (by unfold maxLen; omega) (by omega) hb _ rfl
  refine ⟨_, w', hr, by simpa using ho, ?_⟩
  exact (Below.refl base w).grown hg hb fun k hk => (hown.lt k hk).1

/-- what noted curves have by a tick of at most a million is small -/
theorem vC_small {c : Cv} {t : Int} (h : Noted c) (t0 : 0 ≤ t) (t1 : t < 1048576) : 0 ≤ vC c t ∧ vC c t ≤ 1099511627776 := by
  obtain ⟨ho, _, hF, hL, hR⟩ := h
  have hm := okC_may ho
  unfold vC W
  have a1 := Int.mul_nonneg hF.1 (show 0 ≤ min t c.2.1 by have := hL.1; omega)
  have a2 := Int.mul_nonneg hR.1 (show 0 ≤ t - min t c.2.1 by omega)
  have a3 := Int.mul_le_mul_of_nonneg_right hm.1 (show 0 ≤ min t c.2.1 by have := hL.1; omega)
  have a4 := Int.mul_le_mul_of_nonneg_right hm.2 (show 0 ≤ t - min t c.2.1 by omega)
  omega
theorem vS_small {l : List Cv} {t : Int} (h : ∀ c ∈ l, Noted c) (t0 : 0 ≤ t) (t1 : t < 1048576) : 0 ≤ vS l t ∧ vS l t ≤ l.length * 1099511627776 := by
  induction l with
  | nil => simp [vS]
  | cons c l ih =>
    have h1 := ih fun d hd => h d (.tail _ hd)
    have h2 := vC_small (h c (.head _)) t0 t1
    simp only [vS, List.length_cons, (h c (.head _)).1, if_true]
    omega
theorem vS_take {l : List Cv} {i : Nat} {c : Cv} {t : Int} (h : l[i]? = some c) (ho : okC c = true) : vS (l.take (i + 1)) t = vS (l.take i) t + vC c t := by
  rw [List.take_add_one, h, vS_append]
  simp [vS, ho]

/-- a word of a row -/
theorem word_at {w : World} {base n : Nat} {a : Option Addr} {cp : Nat} {ks : List Int} {k : Nat} {x : Int} (h : w.ownsRow base 22 1 (.slice a n cp) ks.length (ks.map (Value.int .u64))) (hk : ks[k]? = some x) : ∃ g, a = some ⟨g, 0, none⟩ ∧ g < w.heap.size ∧ n = ks.length ∧ w.cell? ⟨g, k, none⟩ = some (.int .u64 x) := by
  have hkl : k < ks.length := (List.getElem?_eq_some_iff.1 hk).1
  obtain ⟨g, c, e, h1, h2⟩ := h.form (by omega)
  simp only [Value.slice.injEq] at e
  obtain ⟨rfl, rfl, rfl⟩ := e
  refine ⟨g, rfl, h2, rfl, ?_⟩
  rw [h.cellAt k (by omega), List.getElem?_map, hk]
  rfl

set_option maxRecDepth 100000 in
set_option maxHeartbeats 8000000 in
theorem kept_walk (a0 : Option Addr) (len cp0 : Nat) (zs : List (List Value)) (r t : Int) (w : World) (hr : U r) (hz : IsRows [some .u8, some .i64, some .u64, some .u64, some .u64, none] w a0 len cp0 zs) (ht : U t) :
    Calls Try.prog 6 #[.int .u64 r, .slice a0 len cp0, .int .u64 t] w fun e w' => e = .returned (.bool true) ∧ Below w.heap.size w w' := by
  obtain ⟨hlm, z, hZ⟩ := bacts_of hz
  have hzl := hZ.1
  have HZ := Lib.hid hZ; have HR := Lib.hid hr; have HT := Lib.hid ht
  have haw := awake_any w
  clear hz hZ
  go_enter Try.func6, Try.ntmps6
  go_wp2_with fail
  refine haw.mono ?_
  clear haw
  rintro e w1 ⟨rfl, hb1⟩
  have HB1 := Lib.hid hb1
  clear hb1
  have hlo := long_any a0 len cp0 w1
  by_cases h60 : 60 < len
  · rw [decide_eq_true h60] at hlo
    go_wp2_with fail
    refine hlo.mono ?_
    clear hlo
    rintro e w2 ⟨rfl, rfl⟩
    go_wp2_with fail
    go_ret
    exact ⟨rfl, HB1.out⟩
  · rw [decide_eq_false h60] at hlo
    go_wp2_with fail
    refine hlo.mono ?_
    clear hlo
    rintro e w2 ⟨rfl, rfl⟩
    subst hzl
    have hpl := played_any r a0 cp0 z w2 hr (HZ.out.later HB1.out) (by omega)
    go_wp2_with fail
    refine hpl.mono ?_
    clear hpl
    rintro e w3 ⟨hcase, hb3⟩
    rcases hcase with ⟨hbad, rfl⟩ | ⟨hgood, g, m, vg, rfl, hbo⟩
    · have HB3 := Lib.hid (HB1.out.trans (hb3.mono HB1.out.size))
      clear hb3
      go_wp2_with fail
      go_ret
      exact ⟨rfl, HB3.out⟩
    · have HKI := Lib.hid (play_ki (r := r) (by omega) HZ.out.2.1)
      have hsm := play_len r z
      have hbm := hbo.bk
      have hall := all_any g m r (playP r z).1 (playP r z).2 vg w3 hbm
      have HB3 := Lib.hid (HB1.out.trans (hb3.mono HB1.out.size))
      obtain ⟨C, hC⟩ : ∃ C, (playP r z).2 ++ (playP r z).1.map (·.2) = C := ⟨_, rfl⟩
      rw [hC] at hall
      have hCl : C.length ≤ 120 := by rw [← hC, List.length_append, List.length_map]; omega
      have hCn : ∀ c ∈ C, Noted c := hC ▸ HKI.out.all
      have hCk : Keep C r := hC ▸ HKI.out.keep
      have HCN := Lib.hid hCn; have HCK := Lib.hid hCk; have HG := Lib.hid hgood
      clear hb3 hbo hbm hC hCn hCk hsm HKI hgood
      go_wp2_with fail
      refine hall.mono ?_
      clear hall
      rintro e w4 ⟨v, rfl, hown, hb4⟩
      have hcv : CvAt w4 v C := CvAt.of_owns hown (fun c hc => (HCN.out c hc).2.2) (by omega)
      obtain ⟨a1, p1, rfl⟩ : ∃ a cap, v = .slice a C.length cap := by obtain ⟨_, _, a, cap, e, _⟩ := hcv; exact ⟨a, cap, e⟩
      have hke := kept_any _ C r w4 hcv hr
      rw [decide_eq_true HCK.out] at hke
      have HCV := Lib.hid hcv; have HB4 := Lib.hid (HB3.out.trans (hb4.mono HB3.out.size))
      clear hown hb4 hcv HB3
      go_wp2_with fail
      refine hke.mono ?_
      clear hke
      rintro e w5 ⟨rfl, hb5⟩
      have HCV5 := Lib.hid (HCV.out.later hb5); have HB5 := Lib.hid (HB4.out.trans (hb5.mono HB4.out.size))
      clear hb5 HCV HB4
      have ht0 := ht.1
      go_wp2_with fail
      have hown0 : (w5.alloc (.cells #[.int .u64 (t % 1000), .int .u64 (t % 60), .int .u64 1] 22)).ownsRow w5.heap.size 22 1 (.slice (some ⟨w5.heap.size, 0, none⟩) 3 3) ([t % 1000, t % 60, 1] : List Int).length (([t % 1000, t % 60, 1] : List Int).map (Value.int .u64)) := ⟨rfl, .inr ⟨w5.heap.size, 3, _, rfl, Nat.le_refl _, heap_alloc_new w5 _, Nat.le_refl _, by decide, rfl, rfl⟩⟩
      have hbe := (Below.refl w5.heap.size w5).alloc (Nat.le_refl _) (.cells #[.int .u64 (t % 1000), .int .u64 (t % 60), .int .u64 1] 22)
      have hks : ∀ x ∈ ([t % 1000, t % 60, 1] : List Int), 0 ≤ x ∧ x < 1048576 := fun x hx => by
        simp only [List.mem_cons, List.not_mem_nil, or_false] at hx
        omega
      have HS := Lib.hid (And.intro hown0 (And.intro hbe hks))
      clear hown0 hbe hks
      go_loopw [9, 10] (fun v9 v10 W => ∃ (i : Nat) (ks : List Int) (a9 : Option Addr) (c9 : Nat), v9 = .slice a9 ks.length c9 ∧ v10 = .int .i64 i ∧ i ≤ C.length ∧ ks.length = 3 + i ∧ W.ownsRow w5.heap.size 22 1 (.slice a9 ks.length c9) ks.length (ks.map (Value.int .u64)) ∧ (∀ x ∈ ks, 0 ≤ x ∧ x < 1048576) ∧ Below w5.heap.size w5 W) (fun _ v10 _ => (C.length - Go.RowKit.intOf v10).toNat)
      case atStart => exact ⟨0, _, _, _, rfl, rfl, Nat.zero_le _, rfl, HS.out.1, HS.out.2.2, HS.out.2.1⟩
      case round =>
        obtain ⟨i, ks, a9, c9, rfl, rfl, hi, hkl, hrow, hks, hbr⟩ := hrel
        clear HS
        by_cases hlt : i < C.length
        · obtain ⟨⟨F, L, R⟩, hc⟩ : ∃ c, C[i]? = some c := ⟨_, List.getElem?_eq_getElem hlt⟩
          obtain ⟨_, _, a', cap', e', h0 | ⟨b, off, e2, hbl, _, hcells⟩⟩ := HCV5.out.later hbr
          · rw [h0] at hlt; simp at hlt
          simp only [Value.slice.injEq, true_and] at e'
          obtain ⟨rfl, rfl⟩ := e'
          subst e2
          obtain ⟨c0, c1, c2⟩ := hcells i _ hc
          obtain ⟨ho, hz, hF, hL, hRR⟩ := HCN.out _ (List.mem_of_getElem? hc)
          have hmy := may_any F L R wr hL.1
          rw [show mayB F L R = true from ho] at hmy
          have hq := curve_eq F L R (fun h => hz (by rw [h.1, h.2.1, h.2.2]))
          have hl0 := hL.1
          have HRW := Lib.hid (And.intro hrow (And.intro hks hbr)); have HKL := Lib.hid hkl; have HC := Lib.hid hc
          dsimp only at c0 c1 c2
          clear hrow hks hbr hcells ho hz hF hL hRR hc hkl
          go_wp2_with fail
          refine hmy.mono ?_
          clear hmy
          rintro e w6 ⟨rfl, hb6⟩
          have hbr6 := HRW.out.2.2.trans (hb6.mono HRW.out.2.2.size)
          have d0 := (hb6.cell (p := ⟨b, off + i * 3, none⟩) hbl).trans c0
          have d1 := (hb6.cell (p := ⟨b, off + i * 3 + 1, none⟩) hbl).trans c1
          have d2 := (hb6.cell (p := ⟨b, off + i * 3 + 2, none⟩) hbl).trans c2
          have hrow6 := owns_later HRW.out.1 hb6
          have hb7 := (Below.refl w6.heap.size w6).alloc (Nat.le_refl _) (.cells #[.int .u64 (L % 1048576)] 22)
          obtain ⟨v', w', hr1, ho1, hb8⟩ := app_word 52 (x := L % 1048576) (owns_later hrow6 hb7) (hbr6.trans (hb7.mono hbr6.size)).size (by have := HKL.out; omega) (Blk.new w6 _ _)
          obtain ⟨a9', c9', rfl⟩ := owns_slice ho1
          have HN := Lib.hid (And.intro ho1 ((hbr6.trans (hb7.mono hbr6.size)).trans hb8))
          clear hb6 hbl c0 c1 c2 hbr6 hrow6 hb7 ho1 hb8
          go_wp2_with (at_builtin; refine wpList_append_runW rfl _ _ _ rfl _ _ _ rfl rfl hr1 ?_; clear hr1)
          go_roundw
          case measure => (simp [Go.RowKit.intOf]; try omega)
          case rel => exact ⟨i + 1, _, _, _, by simp, by go_num, by omega, by simp [HKL.out]; omega, HN.out.1, fun x hx => by
            rcases List.mem_append.1 hx with hx | hx
            · exact HRW.out.2.1 x hx
            · simp only [List.mem_singleton] at hx; subst hx; omega, HN.out.2⟩
        · obtain rfl : i = C.length := by omega
          have HRW := Lib.hid (And.intro hrow (And.intro hks hbr)); have HKL := Lib.hid hkl
          clear hrow hks hbr hkl
          go_wp2_with fail
          obtain ⟨wo, rfl⟩ : ∃ wo : World, wo = wr := ⟨_, rfl⟩
          go_loopw [11] (fun v11 W => ∃ k : Nat, v11 = .int .i64 k ∧ k ≤ ks.length ∧ Below wo.heap.size wo W) (fun v11 _ => (ks.length - Go.RowKit.intOf v11).toNat)
          case atStart => exact ⟨0, rfl, Nat.zero_le _, Below.refl _ _⟩
          case round =>
            obtain ⟨k, rfl, hk, hbk⟩ := hrel
            by_cases hlk : k < ks.length
            · obtain ⟨x, hx⟩ : ∃ x, ks[k]? = some x := ⟨_, List.getElem?_eq_getElem hlk⟩
              obtain ⟨hx0, hx1⟩ := HRW.out.2.1 x (List.mem_of_getElem? hx)
              have HX := Lib.hid (And.intro hx hbk)
              clear hx hbk
              have hks : ks.length ≤ 200 := by have := HKL.out; omega
              go_wp2_with fail
              obtain ⟨wp, rfl⟩ : ∃ wp : World, wp = wr := ⟨_, rfl⟩
              go_loopw [12, 13] (fun v12 v13 W => ∃ j : Nat, v12 = .int .u64 (vS (C.take j) x) ∧ v13 = .int .i64 j ∧ j ≤ C.length ∧ Below wo.heap.size wo W) (fun _ v13 _ => (C.length - Go.RowKit.intOf v13).toNat)
              case atStart => exact ⟨0, by simp [vS], rfl, Nat.zero_le _, HX.out.2⟩
              case round =>
                obtain ⟨j, rfl, rfl, hj, hbj⟩ := hrel
                by_cases hlj : j < C.length
                · obtain ⟨⟨F, L, R⟩, hc⟩ : ∃ c, C[j]? = some c := ⟨_, List.getElem?_eq_getElem hlj⟩
                  have hnc := HCN.out _ (List.mem_of_getElem? hc)
                  obtain ⟨_, _, a', cap', e', h0 | ⟨b, off, e2, hbl, _, hcells⟩⟩ := HCV5.out.later (HRW.out.2.2.trans (hbj.mono HRW.out.2.2.size))
                  · rw [h0] at hlj; simp at hlj
                  simp only [Value.slice.injEq, true_and] at e'
                  obtain ⟨rfl, rfl⟩ := e'
                  subst e2
                  obtain ⟨c0, c1, c2⟩ := hcells j _ hc
                  obtain ⟨gk, rfl, hgk, _, cx⟩ := word_at (owns_later HRW.out.1 hbj) HX.out.1
                  have hv := vC_small hnc hx0 hx1
                  have hvs := vS_small (l := C.take j) (fun c hc => HCN.out c (List.mem_of_mem_take hc)) hx0 hx1
                  have htl : (C.take j).length ≤ 120 := by rw [List.length_take]; omega
                  have hT := vS_take (t := x) hc hnc.1
                  have hcp : cap (vC (F, L, R) x) = vC (F, L, R) x := by unfold cap; rw [if_neg (by omega)]
                  have hsum : IntKind.u64.wrap (vS (C.take j) x + vC (F, L, R) x) = vS (C.take (j + 1)) x := by rw [hT]; exact IntWalk.u64_in _ (by omega)
                  have hat := fun e => at_any F L R x (over wr e) hnc.2.2.1 hnc.2.2.2.1 hnc.2.2.2.2 ⟨by omega, by omega⟩
                  rw [show W F L R x = vC (F, L, R) x from rfl, hcp] at hat
                  have HSUM := Lib.hid hsum
                  have o0 := fun e => (over_cell (w := wr) (e := e) hbl).trans c0
                  have o1 := fun e => (over_cell (w := wr) (e := e) hbl).trans c1
                  have o2 := fun e => (over_cell (w := wr) (e := e) hbl).trans c2
                  have ox := fun e => (over_cell (w := wr) (e := e) hgk).trans cx
                  dsimp only at o0 o1 o2
                  have HBJ := Lib.hid hbj; have HAT := Lib.hid hat
                  clear hsum hT
                  generalize vC (F, L, R) x = X at hv HSUM HAT ⊢
                  generalize vS (C.take j) x = S at hvs HSUM ⊢
                  clear hcells hc hnc hbl hgk hbj hat hcp htl c0 c1 c2 cx
                  go_wp2_with fail
                  refine wp_region_over (by kernel_rfl) (by kernel_rfl) ?_
                  repeat (first | go_big_quiet_skip | (go_big_quiet_want; go_big_quiet_op; first | go_big_quiet_on | (apply Exists.intro; refine ⟨fun e => ?_, ?_⟩; (focus (go_at_call 24; with_reducible exact calls_over (HAT.out _))); go_big_quiet_on)))
                  refine wpQuiet_nil ?_
                  rintro W3 ⟨e3, he3⟩
                  have hb3 := over_below wr e3
                  rw [← he3] at hb3
                  clear he3 o0 o1 o2 ox
                  have HB3 := Lib.hid (HBJ.out.trans (hb3.mono HBJ.out.size))
                  clear hb3
                  go_wp2_with fail
                  go_roundw
                  case measure => (simp [Go.RowKit.intOf]; try omega)
                  case rel => exact ⟨j + 1, by rw [HSUM.out], by go_num, by omega, HB3.out⟩
                · obtain rfl : j = C.length := by omega
                  rw [List.take_length]
                  have hkp := HCK.out x (by omega) (by omega)
                  have hle : vS C x ≤ r * x := by unfold Lt at hkp; omega
                  have hvs := vS_small (l := C) HCN.out hx0 hx1
                  have hrx0 : 0 ≤ r * x := by omega
                  have hrx1 : r * x ≤ 1099511627776 := by
                    have h1 := Int.mul_le_mul_of_nonneg_right HG.out.2 hx0
                    omega
                  have hmul : IntKind.u64.wrap (r * x) = r * x := IntWalk.u64_in _ (by omega)
                  have hgt : decide (r * x < vS C x) = false := by simp; omega
                  obtain ⟨gk, rfl, hgk, _, cx⟩ := word_at (owns_later HRW.out.1 hbj) HX.out.1
                  have HBJ := Lib.hid hbj
                  clear hkp hbj hgk
                  go_wp2_with fail
                  go_roundw
                  case measure => (simp [Go.RowKit.intOf]; try omega)
                  case rel => exact ⟨k + 1, by go_num, by omega, HBJ.out⟩
            · obtain rfl : k = ks.length := by omega
              have HF := Lib.hid (HB5.out.trans ((HRW.out.2.2.trans (hbk.mono HRW.out.2.2.size)).mono HB5.out.size))
              clear hbk
              go_wp2_with fail
              go_ret
              exact ⟨rfl, HF.out⟩
end Go.Proofs.Ythmhboagbeibdaa
