/-
  The law UpperTicks: a greater total fits no earlier, and at its tick the run has it; its walk.
-/
import Derived.Test.YtflnlapfomjggaaUpNever
namespace Go.Proofs.Ytflnlapfomjggaa
set_option linter.unusedVariables false
open Go.RowKit


theorem Back.less_y {v u : Int → Int} {x y y' n m : Int} (h : Back v x y n) (k : Back u x y' m) (hm : ∀ t s, x ≤ t → t ≤ s → u t ≤ u s) (hvw : ∀ t, x ≤ t → v t ≤ u t) (hy : y' ≤ y) : m ≤ n := by
  have hk := k.le_never
  rcases Int.lt_or_le n m with hlt | hle
  · exfalso
    have h1 := h.x_le
    have h2 : n < 9223372036854775808 := by omega
    have h3 := k.gt hm h1 hlt
    have h4 := hvw n h1
    rcases h with ⟨a, _⟩ | ⟨a, _⟩ | ⟨_, _, a⟩ | ⟨_, _, a, _⟩ <;> omega
  · exact hle

theorem ticks_never {F L R x y n : Int} {A : List (Int × Int)} (h : MayC F L R) (hA : ∀ a ∈ A, a.1 ≤ x ∧ 0 ≤ a.2) (hx : x ≤ 6400) (hb : Back (fun t => vA F L R A (max t x)) x y n) (hn : n = 9223372036854775808) (hy : y < 1099511627776) : R = 0 := by
  have h0 := h.r0
  by_cases hR : R = 0
  · exact hR
  exfalso
  have hv : y ≤ vA F L R A (max 9223372036854775807 x) := by
    refine le_minF _ y A _ (by omega) fun a ha => ?_
    have h1 := hA a ha
    have h2 := h.l1; have h3 := h.l0
    rw [atK_has h1.2, show max 9223372036854775807 x = 9223372036854775807 by omega]
    have h4 := W_late (F := F) (L := L) (R := R) (t := 9223372036854775807 - a.1) (by omega)
    have h5 := Int.mul_le_mul_of_nonneg_right (show 1 ≤ R by omega) (show 0 ≤ 9223372036854775807 - a.1 - L by omega)
    have h6 := Int.mul_nonneg h.f0 h3
    unfold hasK
    generalize W F L R (9223372036854775807 - a.1) = q at *
    generalize R * (9223372036854775807 - a.1 - L) = p at *
    generalize F * L = s at *
    unfold cap; omega
  rcases hb with ⟨_, _, h2⟩ | ⟨_, h2⟩ | ⟨h2, _⟩ | ⟨h2, _⟩
  · simp only at h2; omega
  all_goals omega

set_option maxRecDepth 100000 in
set_option maxHeartbeats 2000000 in
theorem ticks_long (F L R one two : Int) (a : Option Addr) (len cap : Nat) (w : World) (h : 100 < len) :
    Calls Try.prog 8 #[.agg #[.int .u64 F, .int .u64 L, .int .u64 R], .slice a len cap, .int .u64 one, .int .u64 two] w fun e w' => e = .returned (.bool true) ∧ Below w.heap.size w w' := by
  have nb := Blk.new w 24 #[.int .u64 F, .int .u64 L, .int .u64 R]
  have hal := (Below.refl w.heap.size w).alloc (Nat.le_refl _) (.cells #[.int .u64 F, .int .u64 L, .int .u64 R] 24)
  have NB := Lib.hid nb; clear nb
  go_enter Try.func8, Try.ntmps8
  go_wp2_with (first | (go_at_call 28; refine (up_awake _).mono ?_; rintro e' w1 ⟨rfl, hb1⟩; have n1 := NB.out.below hb1 NB.out.lt; have a0 := n1.cell 0; have a1 := n1.cell 1; have a2 := n1.cell 2; simp only [List.getElem?_toArray, List.getElem?_cons_zero, List.getElem?_cons_succ] at a0 a1 a2) | (go_at_call 29; refine (long21_yes _ _ _ _ (by omega)).mono ?_; rintro e' w' ⟨rfl, rfl⟩))
  all_goals
    go_ret
    exact ⟨rfl, hal.trans (hb1.mono hal.size)⟩

set_option maxRecDepth 100000 in
set_option maxHeartbeats 2000000 in
theorem ticks_nomay (F L R one two : Int) (a : Option Addr) (len cap : Nat) (w : World) (hL : U L) (hlen : len ≤ 100) (h : mayB F L R = false) :
    Calls Try.prog 8 #[.agg #[.int .u64 F, .int .u64 L, .int .u64 R], .slice a len cap, .int .u64 one, .int .u64 two] w fun e w' => e = .returned (.bool true) ∧ Below w.heap.size w w' := by
  have nb := Blk.new w 24 #[.int .u64 F, .int .u64 L, .int .u64 R]
  have hal := (Below.refl w.heap.size w).alloc (Nat.le_refl _) (.cells #[.int .u64 F, .int .u64 L, .int .u64 R] 24)
  have NB := Lib.hid nb; clear nb
  have H := Lib.hid h; clear h
  go_enter Try.func8, Try.ntmps8
  go_wp2_with (first | (go_at_call 28; refine (up_awake _).mono ?_; rintro e' w1 ⟨rfl, hb1⟩; have n1 := NB.out.below hb1 NB.out.lt; have a0 := n1.cell 0; have a1 := n1.cell 1; have a2 := n1.cell 2; simp only [List.getElem?_toArray, List.getElem?_cons_zero, List.getElem?_cons_succ] at a0 a1 a2) | (go_at_call 29; refine (long21_no _ _ _ _ (by omega)).mono ?_; rintro e' w' ⟨rfl, rfl⟩) | (go_at_call 30; refine (may_any F L R _ hL.1).mono ?_; rintro e' w2 ⟨rfl, hb2⟩; rw [H.out]; have n2 := n1.below hb2 n1.lt; clear a0 a1 a2; have a0 := n2.cell 0; have a1 := n2.cell 1; have a2 := n2.cell 2; simp only [List.getElem?_toArray, List.getElem?_cons_zero, List.getElem?_cons_succ] at a0 a1 a2))
  all_goals
    go_ret
    exact ⟨rfl, hal.trans ((hb1.trans (hb2.mono hb1.size)).mono hal.size)⟩

set_option maxRecDepth 100000 in
set_option maxHeartbeats 2000000 in
theorem ticks_none (F L R one two : Int) (h0 : F = 0 ∧ L = 0 ∧ R = 0) (a : Option Addr) (len cap : Nat) (w : World) (hlen : len ≤ 100) :
    Calls Try.prog 8 #[.agg #[.int .u64 F, .int .u64 L, .int .u64 R], .slice a len cap, .int .u64 one, .int .u64 two] w fun e w' => e = .returned (.bool true) ∧ Below w.heap.size w w' := by
  have nb := Blk.new w 24 #[.int .u64 F, .int .u64 L, .int .u64 R]
  have hal := (Below.refl w.heap.size w).alloc (Nat.le_refl _) (.cells #[.int .u64 F, .int .u64 L, .int .u64 R] 24)
  have NB := Lib.hid nb; clear nb
  obtain ⟨rfl, rfl, rfl⟩ := h0
  have hL : U 0 := ⟨by decide, by decide⟩
  have H := Lib.hid (show mayB 0 0 0 = true by decide)
  go_enter Try.func8, Try.ntmps8
  go_wp2_with (first | (go_at_call 28; refine (up_awake _).mono ?_; rintro e' w1 ⟨rfl, hb1⟩; have n1 := NB.out.below hb1 NB.out.lt; have a0 := n1.cell 0; have a1 := n1.cell 1; have a2 := n1.cell 2; simp only [List.getElem?_toArray, List.getElem?_cons_zero, List.getElem?_cons_succ] at a0 a1 a2) | (go_at_call 29; refine (long21_no _ _ _ _ (by omega)).mono ?_; rintro e' w' ⟨rfl, rfl⟩) | (go_at_call 30; refine (may_any 0 0 0 _ hL.1).mono ?_; rintro e' w2 ⟨rfl, hb2⟩; rw [H.out]; have n2 := n1.below hb2 n1.lt; clear a0 a1 a2; have a0 := n2.cell 0; have a1 := n2.cell 1; have a2 := n2.cell 2; simp only [List.getElem?_toArray, List.getElem?_cons_zero, List.getElem?_cons_succ] at a0 a1 a2))
  all_goals
    go_ret
    exact ⟨rfl, hal.trans ((hb1.trans (hb2.mono hb1.size)).mono hal.size)⟩

set_option maxRecDepth 100000 in
set_option maxHeartbeats 2000000 in
theorem ticks_some (F L R one two : Int) (a : Option Addr) (len cap : Nat) (z : List UAct) (w : World) (hF : U F) (hL : U L) (hR : U R) (h1u : U one) (h2u : U two) (h0 : ¬ (F = 0 ∧ L = 0 ∧ R = 0)) (h1 : mayB F L R = true) (hz : UActsAt w a len z) (hlen : len ≤ 100) :
    Calls Try.prog 8 #[.agg #[.int .u64 F, .int .u64 L, .int .u64 R], .slice a len cap, .int .u64 one, .int .u64 two] w fun e w' => e = .returned (.bool true) ∧ Below w.heap.size w w' := by
  have nb := Blk.new w 24 #[.int .u64 F, .int .u64 L, .int .u64 R]
  have hal := (Below.refl w.heap.size w).alloc (Nat.le_refl _) (.cells #[.int .u64 F, .int .u64 L, .int .u64 R] 24)
  have NB := Lib.hid nb; clear nb
  have hq := curve_eq F L R h0
  have H := Lib.hid h1; have H0 := Lib.hid h0; have HZ := Lib.hid hz; have hM := mayB_spec hF.1 hL.1 hR.1 h1
  have HM := Lib.hid hM; clear h1 hz hM h0
  have h10 := h1u.1; have h20 := h2u.1; have h11 := h1u.2; have h21 := h2u.2
  go_enter Try.func8, Try.ntmps8
  go_wp2_with (first | (go_at_call 28; refine (up_awake _).mono ?_; rintro e' w1 ⟨rfl, hb1⟩; have n1 := NB.out.below hb1 NB.out.lt; have a0 := n1.cell 0; have a1 := n1.cell 1; have a2 := n1.cell 2; simp only [List.getElem?_toArray, List.getElem?_cons_zero, List.getElem?_cons_succ] at a0 a1 a2) | (go_at_call 29; refine (long21_no _ _ _ _ (by omega)).mono ?_; rintro e' w' ⟨rfl, rfl⟩) | (go_at_call 30; refine (may_any F L R _ hL.1).mono ?_; rintro e' w2 ⟨rfl, hb2⟩; rw [H.out]; have n2 := n1.below hb2 n1.lt; clear a0 a1 a2; have a0 := n2.cell 0; have a1 := n2.cell 1; have a2 := n2.cell 2; simp only [List.getElem?_toArray, List.getElem?_cons_zero, List.getElem?_cons_succ] at a0 a1 a2) | (go_at_call 31; refine (lnew_some F L R _ hF.1 hL.1 hR.1 H0.out H.out).mono ?_; rintro e' w3 ⟨l, r, g, rfl, hg, hl, hb3⟩; have HL := Lib.hid hl; have hbc := (hb1.trans (hb2.mono hb1.size)).trans (hb3.mono (hb1.trans (hb2.mono hb1.size)).size); have hgw := Nat.le_trans (hb1.trans (hb2.mono hb1.size)).size hg; clear hl hb3 hb2 hb1 hg n1 n2 a0 a1 a2) | (go_at_call 32; refine (lwake HL.out 0 0 0 0 (u_small (by decide) (by decide)) (u_small (by decide) (by decide)) (by decide) (by decide) (by simp)).mono ?_; rintro e' w4 ⟨rfl, hl4, hg4⟩; rw [List.nil_append] at hl4; have HL4 := Lib.hid hl4; have hbc4 := hbc.grown hg4 hbc.size (fun j hj => by (injection hj with hj; omega)); clear hl4 hg4 HL hbc))
  go_loopw [10, 11, 12, 13] (fun nw tt la i W => ∃ (k : Nat) (now total x : Int) (A : List (Int × Int)), k ≤ len ∧ i = .int .i64 k ∧ nw = .int .u64 now ∧ tt = .int .u64 total ∧ la = .int .u64 x ∧ LimAt W l r g F L R x A ∧ A ≠ [] ∧ A.length ≤ k + 1 ∧ 0 ≤ x ∧ x ≤ now ∧ now ≤ 64 * k ∧ 0 ≤ total ∧ total ≤ 1048576 * k ∧ Below (w.alloc (.cells #[.int .u64 F, .int .u64 L, .int .u64 R] 24)).heap.size (w.alloc (.cells #[.int .u64 F, .int .u64 L, .int .u64 R] 24)) W) (fun _ _ _ i _ => len - (intOf i).toNat)
  case atStart => exact ⟨0, 0, 0, 0, _, by omega, rfl, rfl, rfl, rfl, HL4.out, by simp, by simp, by omega, by omega, by omega, by omega, by omega, hbc4⟩
  case round =>
    obtain ⟨k, now, total, x, A, hk, rfl, rfl, rfl, rfl, hl, hA0, hfew, hx0, hxn, hnk, ht0, htk, hbw⟩ := hrel
    have hnum := hl.num
    have HX := Lib.hid hl; have HN := Lib.hid hnum; clear hl hnum
    by_cases hlt : k < len
    · obtain ⟨hzl, hzu, hzc⟩ := (HZ.out.below hal).below hbw
      obtain ⟨b, off, rfl, hbl, hcl⟩ := hzc.resolve_left (by omega)
      obtain ⟨⟨X, Y, wk, cp⟩, hq0⟩ : ∃ q, z[k]? = some q := ⟨_, List.getElem?_eq_getElem (by omega)⟩
      obtain ⟨c0, c1, c2, c3⟩ := hcl k _ hq0
      have hu := hzu _ (List.mem_of_getElem? hq0)
      have hX0 := hu.1.1; have hX1 := hu.1.2; have hY0 := hu.2.1; have hY1 := hu.2.2
      simp only at c0 c1 c2 c3 hX0 hX1 hY0 hY1
      obtain ⟨d, hd⟩ : ∃ d, X.tmod 64 = d := ⟨_, rfl⟩
      obtain ⟨y, hy⟩ : ∃ y, Y.tmod 1048576 = y := ⟨_, rfl⟩
      have hd2 : 0 ≤ d ∧ d < 64 := by rw [← hd, Int.tmod_eq_emod_of_nonneg hX0]; omega
      have hy2 : 0 ≤ y ∧ y < 1048576 := by rw [← hy, Int.tmod_eq_emod_of_nonneg hY0]; omega
      obtain ⟨nw, hnw⟩ : ∃ nw, now + d = nw := ⟨_, rfl⟩
      obtain ⟨tt, htt⟩ : ∃ tt, total + y = tt := ⟨_, rfl⟩
      clear hzl hzu hzc hcl hu hq0
      rcases wk with _ | _
      · go_wp2
        go_roundw
        case rel => exact ⟨k + 1, nw, tt, x, A, by omega, by go_num, rfl, rfl, rfl, HX.out, hA0, by omega, hx0, by omega, by omega, by omega, by omega, hbw⟩
        case measure => simp [intOf]; omega
      · go_wp2_with (go_at_call 32; refine (lwake HX.out nw tt nw tt ⟨by omega, by omega⟩ ⟨by omega, by omega⟩ (by omega) (by omega) (by omega)).mono ?_; rintro e' w5 ⟨rfl, hx5, hg5⟩; have HX5 := Lib.hid hx5; have hbw5 := hbw.grown hg5 hbw.size (fun j hj => by (injection hj with hj; omega)); clear hx5 hg5)
        go_roundw
        case rel => exact ⟨k + 1, nw, tt, nw, _, by omega, by go_num, rfl, rfl, rfl, HX5.out, by simp, by simp; omega, by omega, by omega, by omega, by omega, by omega, hbw5⟩
        case measure => simp [intOf]; omega
    · obtain rfl : k = len := by omega
      have nc := NB.out.below hbw NB.out.lt
      have a2 := nc.cell 2
      simp only [List.getElem?_toArray, List.getElem?_cons_zero, List.getElem?_cons_succ] at a2
      have NC := Lib.hid nc; clear nc
      obtain ⟨u1, hu1⟩ : ∃ d, one.tmod 1099511627776 = d := ⟨_, rfl⟩
      obtain ⟨u2, hu2⟩ : ∃ d, two.tmod 1099511627776 = d := ⟨_, rfl⟩
      have hu1b : 0 ≤ u1 ∧ u1 < 1099511627776 := by rw [← hu1, Int.tmod_eq_emod_of_nonneg h10]; omega
      have hu2b : 0 ≤ u2 ∧ u2 < 1099511627776 := by rw [← hu2, Int.tmod_eq_emod_of_nonneg h20]; omega
      obtain ⟨lo, hlo⟩ : ∃ q, (if u2 < u1 then u2 else u1) = q := ⟨_, rfl⟩
      obtain ⟨hi, hhi⟩ : ∃ q, (if u1 < u2 then u2 else u1) = q := ⟨_, rfl⟩
      have hlh : 0 ≤ lo ∧ lo ≤ hi ∧ hi < 1099511627776 := by split at hlo <;> split at hhi <;> omega
      obtain ⟨f, hf⟩ : ∃ f : Int → Int, f = fun t => vA F L R A (max t x) := ⟨_, rfl⟩
      have HF := Lib.hid hf; clear hf
      have HONE := Lib.hid (show True from trivial)
      clear hu1b hu2b h10 h11 h20 h21
      go_upto_region 18 with fail
      clear hu1 hu2 hlo hhi
      go_wp2_with (first | (go_at_call 33; have hone := HONE.out; refine (lfit HX.out hA0 lo ⟨by omega, by omega⟩).mono ?_; rintro e' w6 ⟨n, rfl, hbk, hn0, hn1, hb6⟩; have HB1 := Lib.hid hbk; have hxn := hbk.x_le; rw [← HF.out] at hbk; have hr0 := ticks_never HM.out HN.out.1 (by omega) HB1.out; clear HONE; have HX2 := Lib.hid (HX.out.below hb6); have hbw2 := hbw.trans (hb6.mono hbw.size); have NC2 := Lib.hid (NC.out.below hb6 NC.out.lt); clear HX hbw NC; have HX := Lib.hid HX2.out; have hbw := hbw2; have NC := Lib.hid NC2.out; clear HX2 hbw2 NC2 hb6; (try clear a2); have a2 := NC.out.cell 2; simp only [List.getElem?_toArray, List.getElem?_cons_zero, List.getElem?_cons_succ] at a2) | (go_at_call 33; refine (lfit HX.out hA0 hi ⟨by omega, by omega⟩).mono ?_; rintro e' w6 ⟨m, rfl, hbm, hm0, hm1, hb6⟩; have hnm : n ≤ m := Back.less_y hbm HB1.out (vA_max_mono HM.out HN.out.1) (fun _ _ => Int.le_refl _) (by omega); clear hbm; have HX2 := Lib.hid (HX.out.below hb6); have hbw2 := hbw.trans (hb6.mono hbw.size); have NC2 := Lib.hid (NC.out.below hb6 NC.out.lt); clear HX hbw NC; have HX := Lib.hid HX2.out; have hbw := hbw2; have NC := Lib.hid NC2.out; clear HX2 hbw2 NC2 hb6; (try clear a2); have a2 := NC.out.cell 2; simp only [List.getElem?_toArray, List.getElem?_cons_zero, List.getElem?_cons_succ] at a2) | (go_at_call 34; refine (lmost HX.out hA0 _ _ ⟨by omega, by omega⟩ (show _ = f _ by rw [HF.out])).mono ?_; rintro e' w8 ⟨rfl, hb8⟩; have HX2 := Lib.hid (HX.out.below hb8); have hbw2 := hbw.trans (hb8.mono hbw.size); have NC2 := Lib.hid (NC.out.below hb8 NC.out.lt); clear HX hbw NC; have HX := Lib.hid HX2.out; have hbw := hbw2; have NC := Lib.hid NC2.out; clear HX2 hbw2 NC2 hb8; (try clear a2); have a2 := NC.out.cell 2; simp only [List.getElem?_toArray, List.getElem?_cons_zero, List.getElem?_cons_succ] at a2))
      all_goals
        go_ret
        clear HB1 hq hbc4 hA0
        first
          | exact ⟨rfl, hal.trans (hbw.mono hal.size)⟩
          | (refine ⟨?_, hal.trans (hbw.mono hal.size)⟩; simp; simp only [beq_iff_eq, beq_eq_false_iff_ne, ne_eq] at *; first | exact hr0 (by omega) (by omega) | (unfold Back at hbk; omega))


theorem ticks_walk (F L R one two : Int) (a : Option Addr) (len cap : Nat) (zs : List (List Value)) (w : World) (hF : U F) (hL : U L) (hR : U R) (h1u : U one) (h2u : U two) (hz : IsRows [some .u64, some .u64, none, none] w a len cap zs) :
    Calls Try.prog 8 #[.agg #[.int .u64 F, .int .u64 L, .int .u64 R], .slice a len cap, .int .u64 one, .int .u64 two] w fun e w' => e = .returned (.bool true) ∧ Below w.heap.size w w' := by
  obtain ⟨hlen, z, hz'⟩ := uacts_of hz
  by_cases h : 100 < len
  · exact ticks_long F L R one two a len cap w h
  · by_cases h1 : mayB F L R = true
    · by_cases h0 : F = 0 ∧ L = 0 ∧ R = 0
      · exact ticks_none F L R one two h0 a len cap w (by omega)
      · exact ticks_some F L R one two a len cap z w hF hL hR h1u h2u h0 h1 hz' (by omega)
    · exact ticks_nomay F L R one two a len cap w hL (by omega) (by simpa using h1)

end Go.Proofs.Ytflnlapfomjggaa
