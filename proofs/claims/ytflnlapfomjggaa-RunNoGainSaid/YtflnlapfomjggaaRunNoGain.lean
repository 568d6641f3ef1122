/-
  The law RunNoGain: a run to which copies start, each from at most what it has then, gains nothing; its walk.
-/
import Derived.Test.YtflnlapfomjggaaRunDue
namespace Go.Proofs.Ytflnlapfomjggaa
set_option linter.unusedVariables false
open Go.RowKit

theorem nogain_law {F L R x0 y0 t y v c : Int} {B : List (Int × Int)} (h : MayC F L R) (h0 : 0 ≤ y0) (h1 : y0 ≤ 4611686018427387904) (hx : x0 ≤ t) (hy : vA F L R [(x0, y0)] (max x0 x0) = y) (hv : vA F L R ((x0, y0) :: B) t = v) (hc : Proofs.Ytflnlapfomjggaa.cap (W F L R (t - x0)) = c) : v ≤ Proofs.Ytflnlapfomjggaa.cap (y + c) := by
  have h3 : vA F L R ((x0, y0) :: B) t ≤ atK F L R t (x0, y0) := minF_le _ _ _ _ (by simp)
  rw [atK_has h0] at h3
  have h4 : y0 ≤ y := by
    rw [← hy]
    refine le_minF _ y0 _ _ h1 fun a ha => ?_
    obtain rfl : a = (x0, y0) := by simpa using ha
    rw [atK_has h0]
    have := W_nonneg h.f0 h.r0 h.l0 (t := max x0 x0 - x0) (by omega)
    unfold hasK
    simp only
    generalize W F L R (max x0 x0 - x0) = q at *
    unfold cap; omega
  have h5 := W_nonneg h.f0 h.r0 h.l0 (t := t - x0) (by omega)
  unfold hasK at h3
  simp only at h3
  generalize W F L R (t - x0) = q at *
  unfold cap at *; omega

theorem one_low {x0 y0 : Int} (h : 0 ≤ y0) : ∀ a ∈ [(x0, y0)], a.1 ≤ x0 ∧ 0 ≤ a.2 := by
  intro a ha
  obtain rfl : a = (x0, y0) := by simpa using ha
  exact ⟨Int.le_refl _, h⟩

set_option maxRecDepth 100000 in
set_option maxHeartbeats 2000000 in
theorem gain_nil (F L R s : Int) (a : Option Addr) (len cap : Nat) (w : World) (hL : 0 ≤ L) (h : mayB F L R = false) :
    Calls Try.prog 5 #[.agg #[.int .u64 F, .int .u64 L, .int .u64 R], .slice a len cap, .int .u64 s] w fun e w' => e = .returned (.bool true) ∧ Below w.heap.size w w' := by
  have nb := Blk.new w 24 #[.int .u64 F, .int .u64 L, .int .u64 R]
  have hal := (Below.refl w.heap.size w).alloc (Nat.le_refl _) (.cells #[.int .u64 F, .int .u64 L, .int .u64 R] 24)
  have NB := Lib.hid nb; clear nb
  have H := Lib.hid h; clear h
  go_enter Try.func5, Try.ntmps5
  go_wp2_with (first | (go_at_call 15; refine (awake_any _).mono ?_; rintro e' w1 ⟨rfl, hb1⟩; have n1 := NB.out.below hb1 NB.out.lt; have a0 := n1.cell 0; have a1 := n1.cell 1; have a2 := n1.cell 2; simp only [List.getElem?_toArray, List.getElem?_cons_zero, List.getElem?_cons_succ] at a0 a1 a2; have hsz1 := NB.out.lt; have hsz2 := hb1.size) | (go_at_call 23; refine (run_new_no F L R _ hL H.out).mono ?_; rintro e' w2 ⟨rfl, hb2⟩))
  all_goals
    go_ret
    exact ⟨rfl, (hal.trans (hb1.mono hal.size)).trans (hb2.mono (hal.trans (hb1.mono hal.size)).size)⟩

set_option maxRecDepth 100000 in
set_option maxHeartbeats 2000000 in
theorem gain_few (F L R s : Int) (a : Option Addr) (len cap : Nat) (w : World) (hF : U F) (hL : U L) (hR : U R) (h1 : mayB F L R = true) (h : len = 0 ∨ 40 < len ∨ 4611686018427387904 ≤ s) :
    Calls Try.prog 5 #[.agg #[.int .u64 F, .int .u64 L, .int .u64 R], .slice a len cap, .int .u64 s] w fun e w' => e = .returned (.bool true) ∧ Below w.heap.size w w' := by
  have nb := Blk.new w 24 #[.int .u64 F, .int .u64 L, .int .u64 R]
  have hal := (Below.refl w.heap.size w).alloc (Nat.le_refl _) (.cells #[.int .u64 F, .int .u64 L, .int .u64 R] 24)
  have NB := Lib.hid nb; clear nb
  have H := Lib.hid h1; clear h1
  go_enter Try.func5, Try.ntmps5
  go_wp2_with (first | (go_at_call 15; refine (awake_any _).mono ?_; rintro e' w1 ⟨rfl, hb1⟩; have n1 := NB.out.below hb1 NB.out.lt; have a0 := n1.cell 0; have a1 := n1.cell 1; have a2 := n1.cell 2; simp only [List.getElem?_toArray, List.getElem?_cons_zero, List.getElem?_cons_succ] at a0 a1 a2; have hsz1 := NB.out.lt; have hsz2 := hb1.size) | (go_at_call 23; refine (run_new F L R _ hF.1 hL.1 hR.1 H.out).mono ?_; rintro e' w2 ⟨r, g, rfl, hg, hl, hb2⟩; have HL := Lib.hid hl; have hbc := hb1.trans (hb2.mono hb1.size); have hgw := Nat.le_trans hb1.size hg; clear hl hb2 hb1 hg; skip))
  all_goals first
    | (exfalso; omega)
    | (go_ret; exact ⟨rfl, hal.trans (hbc.mono hal.size)⟩)

set_option maxRecDepth 100000 in
set_option maxHeartbeats 2000000 in
theorem gain_some (F L R s : Int) (a : Option Addr) (len cap : Nat) (z : List Act4) (w : World) (hF : U F) (hL : U L) (hR : U R) (h1 : mayB F L R = true) (hz : ActsAt w a len z) (hpos : 0 < len) (h40 : len ≤ 40) (hs : U s) (hs2 : s < 4611686018427387904) :
    Calls Try.prog 5 #[.agg #[.int .u64 F, .int .u64 L, .int .u64 R], .slice a len cap, .int .u64 s] w fun e w' => e = .returned (.bool true) ∧ Below w.heap.size w w' := by
  have nb := Blk.new w 24 #[.int .u64 F, .int .u64 L, .int .u64 R]
  have hal := (Below.refl w.heap.size w).alloc (Nat.le_refl _) (.cells #[.int .u64 F, .int .u64 L, .int .u64 R] 24)
  have NB := Lib.hid nb; clear nb
  have H := Lib.hid h1; have HZ := Lib.hid hz; have hM := mayB_spec hF.1 hL.1 hR.1 h1
  have HM := Lib.hid hM; clear h1 hz hM
  have hs0 := hs.1
  go_enter Try.func5, Try.ntmps5
  go_wp2_with (first | (go_at_call 15; refine (awake_any _).mono ?_; rintro e' w1 ⟨rfl, hb1⟩; have n1 := NB.out.below hb1 NB.out.lt; have a0 := n1.cell 0; have a1 := n1.cell 1; have a2 := n1.cell 2; simp only [List.getElem?_toArray, List.getElem?_cons_zero, List.getElem?_cons_succ] at a0 a1 a2; have hsz1 := NB.out.lt; have hsz2 := hb1.size) | (go_at_call 23; refine (run_new F L R _ hF.1 hL.1 hR.1 H.out).mono ?_; rintro e' w2 ⟨r, g, rfl, hg, hl, hb2⟩; have HL := Lib.hid hl; have hbc := hb1.trans (hb2.mono hb1.size); have hgw := Nat.le_trans hb1.size hg; clear hl hb2 hb1 hg; obtain ⟨hzl, hzu, hzc⟩ := (HZ.out.below hal).below hbc; obtain ⟨b, off, rfl, hbl, hcl⟩ := hzc.resolve_left (by omega); obtain ⟨⟨X, Y, T, N⟩, hq⟩ : ∃ q, z[0]? = some q := ⟨_, List.getElem?_eq_getElem (by omega)⟩; obtain ⟨c0, c1, _, _⟩ := hcl 0 _ hq; simp only [Nat.zero_mul, Nat.add_zero] at c0 c1; have hu := hzu _ (List.mem_of_getElem? hq); have hu0 := hu.1; have hu1 := hu.2.1))
  · go_ret
    exact ⟨rfl, hal.trans (hbc.mono hal.size)⟩
  have hX2 : X < 4611686018427387904 := by omega
  have hX0 : 0 ≤ X := hu0.1
  have hX1 : X ≤ 18446744073709551615 := hu0.2
  have hY0 : 0 ≤ Y := hu1.1
  have hY1 : Y ≤ 18446744073709551615 := hu1.2
  clear a0 a1 a2 n1
  have o0 := fun e => (over_cell (w := w2) (e := e) hbl).trans c0
  have o1 := fun e => (over_cell (w := w2) (e := e) hbl).trans c1
  refine wp_region_over_tail 9 (by kernel_rfl) (by kernel_rfl) ?_
  simp only [List.take_succ_cons, List.take_zero, List.drop_succ_cons, List.drop_zero]
  repeat (first | go_big_quiet_skip | (go_big_quiet_want; go_big_quiet_op; go_big_quiet_on))
  refine wpQuiet_nil ?_
  rintro W2 ⟨e2, he2⟩
  have hb22 := over_below w2 e2
  rw [← he2] at hb22
  clear he2 o0 o1 c0 c1
  have hl2 := HL.out.below hb22
  have HL2 := Lib.hid hl2; clear hl2
  have hbc2 := hbc.trans (hb22.mono hbc.size)
  obtain ⟨x0, hx0⟩ : ∃ x0, max (min X 9223372036854775808) 0 = x0 := ⟨_, rfl⟩
  obtain ⟨y0, hy0⟩ : ∃ y0, min Y 4611686018427387904 = y0 := ⟨_, rfl⟩
  go_wp2_with (first
    | (go_at_call 24; refine (run_start HL2.out X Y x0 y0 hu0 hu1 hx0.symm hy0.symm (by simp)).mono ?_; rintro e w3 ⟨rfl, hl3, hg3⟩; rw [List.nil_append] at hl3; have HL3 := Lib.hid hl3; have hbc3 := hbc2.grown hg3 hbc2.size (fun j hj => by injection hj with hj; omega); clear hl3 hg3 HL2 HL)
    | (go_at_call 17; refine (run_last HL3.out (by simp)).mono ?_; rintro e w' ⟨rfl, rfl⟩)
    | (go_at_call 21; refine (run_at' HL3.out (by simp) x0 _ ⟨by omega, by omega⟩ rfl).mono ?_; rintro e w4 ⟨rfl, hb4⟩; obtain ⟨y, hy⟩ : ∃ y, vA F L R [(x0, y0)] (max x0 x0) = y := ⟨_, rfl⟩; rw [hy]; have hl4 := HL3.out.below hb4; have HL4 := Lib.hid hl4; have hbc4 := hbc3.trans (hb4.mono hbc3.size); clear hl4 hb4))
  have hy1 := vA_le (F := F) (L := L) (R := R) (A := [(x0, y0)]) (t := max x0 x0)
  have hy2 := vA_nonneg HM.out (x := x0) (A := [(x0, y0)]) (one_low (by omega)) (t := max x0 x0) (by omega)
  rw [hy] at hy1 hy2
  clear HL3 hbc hb22 hbc2 hbc3 hzu hzl hzc hq
  go_loopw [11] (fun i W => ∃ (k : Nat) (x : Int) (B : List (Int × Int)), k ≤ len ∧ 1 ≤ k ∧ i = .int .i64 k ∧ RunAt W r g F L R x ((x0, y0) :: B) ∧ x0 ≤ x ∧ B.length + 1 = k ∧ Below (w.alloc (.cells #[.int .u64 F, .int .u64 L, .int .u64 R] 24)).heap.size (w.alloc (.cells #[.int .u64 F, .int .u64 L, .int .u64 R] 24)) W) (fun i _ => len - (intOf i).toNat)
  case atStart => exact ⟨1, x0, [], by omega, by omega, rfl, HL4.out, by omega, rfl, hbc4⟩
  case round =>
    obtain ⟨k, x, B, hk, hk1, rfl, hlv, hxx, hBk, hbr⟩ := hrel
    have hnum := hlv.num
    have HL := Lib.hid hlv; clear hlv
    by_cases hlt : k < len
    · obtain ⟨hzl, hzu, hzc⟩ := (HZ.out.below hal).below hbr
      obtain ⟨b', off', hbb, hbl', hcl'⟩ := hzc.resolve_left (by omega)
      injection hbb with hbb
      injection hbb with hbb1 hbb2
      subst hbb1 hbb2
      obtain ⟨⟨Xk, Yk, Tk, Nk⟩, hq⟩ : ∃ q, z[k]? = some q := ⟨_, List.getElem?_eq_getElem (by omega)⟩
      obtain ⟨c0, c1, _, _⟩ := hcl' k _ hq
      have hu := hzu _ (List.mem_of_getElem? hq)
      have huX0 := hu.1.1; have huX1 := hu.1.2; have huY0 := hu.2.1.1; have huY1 := hu.2.1.2
      have o1 := fun e => (over_cell (w := wr) (e := e) hbl').trans c1
      clear hzl hzu hzc hq c1
      simp only at huX0 huX1 huY0 huY1
      obtain ⟨xk, hxk⟩ : ∃ q, max Xk x = q := ⟨_, rfl⟩
      obtain ⟨v, hv⟩ : ∃ q, vA F L R ((x0, y0) :: B) (max xk x) = q := ⟨_, rfl⟩
      have hv1 := vA_le (F := F) (L := L) (R := R) (A := (x0, y0) :: B) (t := max xk x)
      have hv2 := vA_nonneg HM.out hnum.1 (t := max xk x) (by omega)
      rw [hv] at hv1 hv2
      obtain ⟨yk, hyk⟩ : ∃ q, (if v < Yk then v else Yk) = q := ⟨_, rfl⟩
      have hxk' : (if Xk < x then x else Xk) = xk := by omega
      go_wp2_with (first
        | (go_at_call 17; refine (run_last HL.out (by simp)).mono ?_; rintro e w' ⟨rfl, rfl⟩))
      refine wp_region_over_tail 11 (by kernel_rfl) (by kernel_rfl) ?_
      simp only [List.take_succ_cons, List.take_zero, List.drop_succ_cons, List.drop_zero]
      repeat (first | go_big_quiet_skip | (go_big_quiet_want; go_big_quiet_op; first | go_big_quiet_on | (apply Exists.intro; refine ⟨fun e => ?_, ?_⟩; (focus (go_at_call 21; exact calls_over (run_at' (HL.out.below (over_below _ e)) (by simp) xk v ⟨by omega, by omega⟩ hv))); go_big_quiet_on)))
      refine wpQuiet_nil ?_
      rintro W2 ⟨e2, he2⟩
      have hb22 := over_below wr e2
      rw [← he2] at hb22
      clear he2 o1 c0
      have hl2 := HL.out.below hb22
      have HL2 := Lib.hid hl2; clear hl2
      go_wp2_with (go_at_call 24; refine (run_start HL2.out xk yk _ _ ⟨by omega, by omega⟩ ⟨by omega, by omega⟩ rfl rfl (by simp; omega)).mono ?_; rintro e w3 ⟨rfl, hl3, hg3⟩)
      have HL3 := Lib.hid hl3; clear hl3
      go_roundw
      case rel =>
        exact ⟨k + 1, _, B ++ [_], by omega, by omega, by go_num, HL3.out, by omega, by simp; omega, (hbr.trans (hb22.mono hbr.size)).grown hg3 (Nat.le_trans hbr.size hb22.size) (fun j hj => by injection hj with hj; omega)⟩
      case measure => simp [intOf]; omega
    · obtain rfl : k = len := by omega
      have nr := NB.out.below hbr NB.out.lt
      have a0 := nr.cell 0; have a1 := nr.cell 1; have a2 := nr.cell 2
      simp only [List.getElem?_toArray, List.getElem?_cons_zero, List.getElem?_cons_succ] at a0 a1 a2
      have o0 := fun e => (over_cell (w := wr) (e := e) nr.lt).trans a0
      have o1 := fun e => (over_cell (w := wr) (e := e) nr.lt).trans a1
      have o2 := fun e => (over_cell (w := wr) (e := e) nr.lt).trans a2
      clear nr a0 a1 a2
      obtain ⟨t, ht⟩ : ∃ q, (if x0 + s < x then x else x0 + s) = q := ⟨_, rfl⟩
      obtain ⟨v, hv⟩ : ∃ q, vA F L R ((x0, y0) :: B) (max t x) = q := ⟨_, rfl⟩
      obtain ⟨c, hc⟩ : ∃ q, Proofs.Ytflnlapfomjggaa.cap (W F L R (t - x0)) = q := ⟨_, rfl⟩
      have htx : max t x = t := by omega
      have hc0 : 0 ≤ c := hc ▸ cap_nonneg (W_nonneg HM.out.f0 HM.out.r0 HM.out.l0 (by omega))
      have hc1 : c ≤ 4611686018427387904 := hc ▸ cap_le _
      have hlaw : v ≤ Proofs.Ytflnlapfomjggaa.cap (y + c) := nogain_law HM.out (t := t) (by omega) (by omega) (by omega) hy (htx ▸ hv) hc
      have hcy : 0 ≤ Proofs.Ytflnlapfomjggaa.cap (y + c) := cap_nonneg (by omega)
      have hcy1 : Proofs.Ytflnlapfomjggaa.cap (y + c) ≤ 4611686018427387904 := cap_le _
      have hcall : ∀ e, Calls Try.prog 22 #[.agg #[.int .u64 F, .int .u64 L, .int .u64 R], .int .u64 (t - x0)] (over wr e) fun e' w' => e' = .returned (.int .u64 c) ∧ Below (over wr e).heap.size (over wr e) w' := fun e => hc ▸ at_any F L R (t - x0) (over wr e) hF hL hR ⟨by omega, by omega⟩
      have HC := Lib.hid hcall
      clear hcall
      go_wp2_with (first
        | (go_at_call 17; refine (run_last HL.out (by simp)).mono ?_; rintro e w' ⟨rfl, rfl⟩))
      refine wp_region_over (by kernel_rfl) (by kernel_rfl) ?_
      repeat (first | go_big_quiet_skip | (go_big_quiet_want; go_big_quiet_op; first | go_big_quiet_on | (apply Exists.intro; refine ⟨fun e => ?_, ?_⟩; (focus (first | (go_at_call 21; exact calls_over (run_at' (HL.out.below (over_below _ e)) (by simp) t v ⟨by omega, by omega⟩ hv)) | (go_at_call 22; exact calls_over (HC.out e)) | (go_at_call 25; exact calls_over_same (rplus_any y c _ ⟨by omega, by omega⟩ ⟨by omega, by omega⟩)))); go_big_quiet_on)))
      refine wpQuiet_nil ?_
      rintro W2 ⟨e2, he2⟩
      have hb22 := over_below wr e2
      rw [← he2] at hb22
      clear he2 o0 o1 o2
      go_wp2
      go_ret
      refine ⟨?_, hal.trans ((hbr.trans (hb22.mono hbr.size)).mono hal.size)⟩
      simp
      try exact hlaw

theorem gain_walk (F L R s : Int) (a : Option Addr) (len cap : Nat) (zs : List (List Value)) (w : World) (hF : U F) (hL : U L) (hR : U R) (hs : U s) (hz : IsRows [some .u64, some .u64, some .u64, some .u64] w a len cap zs) :
    Calls Try.prog 5 #[.agg #[.int .u64 F, .int .u64 L, .int .u64 R], .slice a len cap, .int .u64 s] w fun e w' => e = .returned (.bool true) ∧ Below w.heap.size w w' := by
  obtain ⟨hlen, z, hz'⟩ := acts_of hz
  by_cases h1 : mayB F L R = true
  · by_cases h : len = 0 ∨ 40 < len ∨ 4611686018427387904 ≤ s
    · exact gain_few F L R s a len cap w hF hL hR h1 h
    · exact gain_some F L R s a len cap z w hF hL hR h1 hz' (by omega) (by omega) hs (by omega)
  · exact gain_nil F L R s a len cap w hL.1 (by simpa using h1)

end Go.Proofs.Ytflnlapfomjggaa
