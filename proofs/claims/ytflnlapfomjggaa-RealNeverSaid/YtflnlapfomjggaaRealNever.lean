/-
  The law RealNever: of heads that could be sent from behind a tick on, and are due by another, there is at most what the curve has between; its walk.
-/
import Derived.Test.YtflnlapfomjggaaPieces
namespace Go.Proofs.Ytflnlapfomjggaa
set_option linter.unusedVariables false
open Go.RowKit

set_option maxRecDepth 100000 in
set_option maxHeartbeats 16000000 in
theorem rnever_long (F L R : Int) (a : Option Addr) (len cap : Nat) (w : World) (h : 80 < len) :
    Calls Try.prog 11 #[.agg #[.int .u64 F, .int .u64 L, .int .u64 R], .slice a len cap] w fun e w' => e = .returned (.bool true) ∧ Below w.heap.size w w' := by
  have nb := Blk.new w 24 #[.int .u64 F, .int .u64 L, .int .u64 R]
  have hal := (Below.refl w.heap.size w).alloc (Nat.le_refl _) (.cells #[.int .u64 F, .int .u64 L, .int .u64 R] 24)
  have NB := Lib.hid nb; clear nb
  go_enter Try.func11, Try.ntmps11
  go_wp2_with (first | (go_at_call 36; refine (real_awake _).mono ?_; rintro e' w1 ⟨rfl, hb1⟩; have n1 := NB.out.below hb1 NB.out.lt; have a0 := n1.cell 0; have a1 := n1.cell 1; have a2 := n1.cell 2; simp only [List.getElem?_toArray, List.getElem?_cons_zero, List.getElem?_cons_succ] at a0 a1 a2) | (go_at_call 37; refine (long18_yes _ _ _ _ (by omega)).mono ?_; rintro e' w' ⟨rfl, rfl⟩))
  all_goals
    go_ret
    exact ⟨rfl, hal.trans (hb1.mono hal.size)⟩

set_option maxRecDepth 100000 in
set_option maxHeartbeats 16000000 in
theorem rnever_nomay (F L R : Int) (a : Option Addr) (len cap : Nat) (w : World) (hL : U L) (hlen : len ≤ 80) (h : mayB F L R = false) :
    Calls Try.prog 11 #[.agg #[.int .u64 F, .int .u64 L, .int .u64 R], .slice a len cap] w fun e w' => e = .returned (.bool true) ∧ Below w.heap.size w w' := by
  have nb := Blk.new w 24 #[.int .u64 F, .int .u64 L, .int .u64 R]
  have hal := (Below.refl w.heap.size w).alloc (Nat.le_refl _) (.cells #[.int .u64 F, .int .u64 L, .int .u64 R] 24)
  have NB := Lib.hid nb; clear nb
  have H := Lib.hid h; clear h
  go_enter Try.func11, Try.ntmps11
  go_wp2_with (first | (go_at_call 36; refine (real_awake _).mono ?_; rintro e' w1 ⟨rfl, hb1⟩; have n1 := NB.out.below hb1 NB.out.lt; have a0 := n1.cell 0; have a1 := n1.cell 1; have a2 := n1.cell 2; simp only [List.getElem?_toArray, List.getElem?_cons_zero, List.getElem?_cons_succ] at a0 a1 a2) | (go_at_call 37; refine (long18_no _ _ _ _ (by omega)).mono ?_; rintro e' w' ⟨rfl, rfl⟩) | (go_at_call 30; refine (may_any F L R _ hL.1).mono ?_; rintro e' w2 ⟨rfl, hb2⟩; rw [H.out]; have n2 := n1.below hb2 n1.lt; clear a0 a1 a2; have a0 := n2.cell 0; have a1 := n2.cell 1; have a2 := n2.cell 2; simp only [List.getElem?_toArray, List.getElem?_cons_zero, List.getElem?_cons_succ] at a0 a1 a2))
  all_goals
    go_ret
    exact ⟨rfl, hal.trans ((hb1.trans (hb2.mono hb1.size)).mono hal.size)⟩

set_option maxRecDepth 100000 in
set_option maxHeartbeats 16000000 in
theorem rnever_some (F L R : Int) (a : Option Addr) (len cap : Nat) (z : List RAct) (w : World) (hF : U F) (hL : U L) (hR : U R) (h1 : mayB F L R = true) (hz : RActsAt w a len z) (hlen : len ≤ 80) :
    Calls Try.prog 11 #[.agg #[.int .u64 F, .int .u64 L, .int .u64 R], .slice a len cap] w fun e w' => e = .returned (.bool true) ∧ Below w.heap.size w w' := by
  have nb := Blk.new w 24 #[.int .u64 F, .int .u64 L, .int .u64 R]
  have hal := (Below.refl w.heap.size w).alloc (Nat.le_refl _) (.cells #[.int .u64 F, .int .u64 L, .int .u64 R] 24)
  have NB := Lib.hid nb; clear nb
  have H := Lib.hid h1; have HZ := Lib.hid hz; have hM := mayB_spec hF.1 hL.1 hR.1 h1
  have HM := Lib.hid hM; clear h1 hz hM
  go_enter Try.func11, Try.ntmps11
  go_wp2_with (first | (go_at_call 36; refine (real_awake _).mono ?_; rintro e' w1 ⟨rfl, hb1⟩; have n1 := NB.out.below hb1 NB.out.lt; have a0 := n1.cell 0; have a1 := n1.cell 1; have a2 := n1.cell 2; simp only [List.getElem?_toArray, List.getElem?_cons_zero, List.getElem?_cons_succ] at a0 a1 a2) | (go_at_call 37; refine (long18_no _ _ _ _ (by omega)).mono ?_; rintro e' w' ⟨rfl, rfl⟩) | (go_at_call 30; refine (may_any F L R _ hL.1).mono ?_; rintro e' w2 ⟨rfl, hb2⟩; rw [H.out]; have n2 := n1.below hb2 n1.lt; clear a0 a1 a2; have a0 := n2.cell 0; have a1 := n2.cell 1; have a2 := n2.cell 2; simp only [List.getElem?_toArray, List.getElem?_cons_zero, List.getElem?_cons_succ] at a0 a1 a2) | (go_at_call 45; refine (heads_any F L R a len cap z _ hF hL hR H.out (((HZ.out.below hal).below hb1).below hb2) hlen).mono ?_; rintro e' w3 ⟨ps, v, base, rfl, hbase, hrow, hpp, hpb, hps, hb3⟩; obtain ⟨sa, sc, rfl⟩ := hrow.shape; have hbc := (hb1.trans (hb2.mono hb1.size)).trans (hb3.mono (hb1.trans (hb2.mono hb1.size)).size); have HR := Lib.hid hrow; have HPP := Lib.hid hpp; have HPB := Lib.hid hpb; have nb3 := NB.out.below hbc NB.out.lt; have NB3 := Lib.hid nb3; clear hrow hpp hpb hb3 hb2 hb1 n1 n2 a0 a1 a2 nb3))
  go_loopw [6] (fun i W => ∃ (k : Nat), k ≤ ps.length ∧ i = .int .i64 k ∧ Below w3.heap.size w3 W) (fun i _ => ps.length - (intOf i).toNat)
  case atStart => exact ⟨0, by omega, rfl, Below.refl _ _⟩
  case round =>
    obtain ⟨k, hk, rfl, hbr⟩ := hrel
    by_cases hlt : k < ps.length
    · obtain ⟨⟨fr, du, q⟩, hp⟩ : ∃ p, ps[k]? = some p := ⟨_, List.getElem?_eq_getElem hlt⟩
      have hB1 := HPB.out _ (List.mem_of_getElem? hp)
      obtain ⟨⟨hf0, hf1⟩, ⟨hd0, hd1⟩, hq0, hq1⟩ := hB1
      simp only at hf0 hf1 hd0 hd1 hq0 hq1
      obtain ⟨b3, cp, hv, hbb, hb3w, hcap, hcells⟩ := HR.out.open_ (by intro h; rw [h] at hlt; simp at hlt)
      obtain ⟨rfl, rfl⟩ : sa = some ⟨b3, 0, none⟩ ∧ sc = cp := by injection hv with h1 h2 h3; exact ⟨h1, h3⟩
      have hcl : ∀ (W : World), Below w3.heap.size w3 W → ∀ j p, ps[j]? = some p → W.cell? ⟨b3, j * 3, none⟩ = some (.int .u64 p.1) ∧ W.cell? ⟨b3, j * 3 + 1, none⟩ = some (.int .u64 p.2.1) ∧ W.cell? ⟨b3, j * 3 + 2, none⟩ = some (.int .u64 p.2.2) := fun W hW j p hj => by
        obtain ⟨g0, g1, g2⟩ := hcells j p hj
        exact ⟨(hW.cell (p := ⟨b3, _, none⟩) hb3w).trans g0, (hW.cell (p := ⟨b3, _, none⟩) hb3w).trans g1, (hW.cell (p := ⟨b3, _, none⟩) hb3w).trans g2⟩
      have HCL := Lib.hid hcl; have HP := Lib.hid hp
      obtain ⟨p10, p11, p12⟩ := HCL.out _ hbr _ _ hp
      simp only at p10 p11 p12
      clear hcl hcells hv hp
      by_cases h0 : 0 < fr
      · obtain ⟨s, hs⟩ : ∃ s, fr - 1 = s := ⟨_, rfl⟩
        go_wp2_with fail
        clear p10 p11 p12
        go_loopw [8] (fun j W => ∃ (m : Nat), k ≤ m ∧ m ≤ ps.length ∧ j = .int .i64 m ∧ Below w3.heap.size w3 W) (fun j _ => ps.length - (intOf j).toNat)
        case atStart => exact ⟨k, by omega, by omega, rfl, hbr⟩
        case round =>
          obtain ⟨m, hm0, hm1, rfl, hbm⟩ := hrel
          by_cases hlm : m < ps.length
          · obtain ⟨⟨f2, e, q2⟩, hp2⟩ : ∃ p, ps[m]? = some p := ⟨_, List.getElem?_eq_getElem hlm⟩
            have hB2 := HPB.out _ (List.mem_of_getElem? hp2)
            obtain ⟨⟨hf20, hf21⟩, ⟨he0, he1⟩, hq20, hq21⟩ := hB2
            simp only at hf20 hf21 he0 he1 hq20 hq21
            obtain ⟨p20, p21, p22⟩ := HCL.out _ hbm _ _ hp2
            simp only at p20 p21 p22
            by_cases hsk : e = 9223372036854775808 ∨ e < s ∨ 1099511627776 < e
            · go_wp2
              all_goals
                first
                | (exfalso; omega)
                | skip
              all_goals
                go_roundw
                case rel => exact ⟨m + 1, by omega, by omega, by go_num, hbm⟩
                case measure => simp [intOf]; omega
            · have hek : (e == 9223372036854775808) = false := by simp; omega
              have he4 : s ≤ e := by omega
              have he5 : e ≤ 1099511627776 := by omega
              obtain ⟨M, hM⟩ : ∃ M, Proofs.Ytflnlapfomjggaa.cap (W F L R (e - s)) = M := ⟨_, rfl⟩
              have hM0 : 0 ≤ M := hM ▸ cap_nonneg (W_nonneg HM.out.f0 HM.out.r0 HM.out.l0 (by omega))
              have hPk : ∀ n p, ps[n]? = some p → k ≤ n → p.2.1 ≤ e → Qs ps (n + 1) - Qs ps k ≤ M := fun n p hn hkn hd => by
                have h9 := HPP.out k n _ p HP.out hn hkn e s hd (by omega) (by omega) (by omega) (by first | exact Or.inr rfl | (refine Or.inl ?_; simp only; omega))
                (try rw [Int.sub_zero] at h9)
                rw [← hM]
                exact h9
              have HPK := Lib.hid hPk; have HMM := Lib.hid hM; clear hPk hM
              go_wp2_with fail
              clear p20 p21 p22
              go_loopw [10, 11] (fun sm j W => ∃ (n : Nat) (S : Int), k ≤ n ∧ n ≤ ps.length ∧ j = .int .i64 n ∧ sm = .int .u64 S ∧ 0 ≤ S ∧ S ≤ Qs ps n - Qs ps k ∧ S ≤ M ∧ S ≤ 384000 * n ∧ Below w3.heap.size w3 W) (fun _ j _ => ps.length - (intOf j).toNat)
              case atStart => exact ⟨k, 0, by omega, by omega, rfl, rfl, by omega, by omega, by omega, by omega, hbm⟩
              case round =>
                obtain ⟨n, S, hn0, hn1, rfl, rfl, hS0, hSQ, hSM, hS8, hbn⟩ := hrel
                by_cases hln : n < ps.length
                · obtain ⟨⟨f3, e3, q3⟩, hp3⟩ : ∃ p, ps[n]? = some p := ⟨_, List.getElem?_eq_getElem hln⟩
                  have hB3 := HPB.out _ (List.mem_of_getElem? hp3)
                  obtain ⟨⟨hf30, hf31⟩, ⟨he30, he31⟩, hq30, hq31⟩ := hB3
                  have hQ3 := Qs_succ hp3
                  simp only at hf30 hf31 he30 he31 hq30 hq31 hQ3
                  obtain ⟨p30, p31, p32⟩ := HCL.out _ hbn _ _ hp3
                  obtain ⟨pk0, _, _⟩ := HCL.out _ hbn _ _ HP.out
                  simp only at p30 p31 p32 pk0
                  have hbw := Nat.lt_of_lt_of_le hb3w hbn.size
                  have o30 := fun e => (over_cell (w := wr) (e := e) hbw).trans p30
                  have o31 := fun e => (over_cell (w := wr) (e := e) hbw).trans p31
                  have ok0 := fun e => (over_cell (w := wr) (e := e) hbw).trans pk0
                  have hsel : (fr ≤ f3 ∧ e3 ≤ e) → S + q3 ≤ M := fun ⟨_, h⟩ => by
                    have := HPK.out n _ hp3 hn0 h
                    omega
                  clear p30 p31 pk0
                  by_cases hs1 : fr ≤ f3
                  · by_cases hs2 : e3 ≤ e
                    · go_wp2
                      refine wp_region_over (by kernel_rfl) (by kernel_rfl) ?_
                      repeat (first | go_big_quiet_skip | (go_big_quiet_want; go_big_quiet_op; go_big_quiet_on))
                      refine wpQuiet_nil ?_
                      rintro W2 ⟨e2, he2⟩
                      have hb22 := over_below wr e2
                      rw [← he2] at hb22
                      clear he2 o30 o31 ok0
                      have r32 := (hb22.cell (p := ⟨b3, n * 3 + 2, none⟩) hbw).trans p32
                      have hbn2 := hbn.trans (hb22.mono hbn.size)
                      go_wp2
                      go_roundw
                      case rel => exact ⟨n + 1, S + q3, by omega, by omega, by go_num, rfl, by omega, by omega, hsel ⟨hs1, hs2⟩, by omega, hbn2⟩
                      case measure => simp [intOf]; omega
                    · go_wp2
                      refine wp_region_over (by kernel_rfl) (by kernel_rfl) ?_
                      repeat (first | go_big_quiet_skip | (go_big_quiet_want; go_big_quiet_op; go_big_quiet_on))
                      refine wpQuiet_nil ?_
                      rintro W2 ⟨e2, he2⟩
                      have hb22 := over_below wr e2
                      rw [← he2] at hb22
                      clear he2 o30 o31 ok0
                      have hbn2 := hbn.trans (hb22.mono hbn.size)
                      go_wp2
                      go_roundw
                      case rel => exact ⟨n + 1, S, by omega, by omega, by go_num, rfl, by omega, by omega, by omega, by omega, hbn2⟩
                      case measure => simp [intOf]; omega
                  · have hs3 : decide (fr ≤ f3) = false := by simp; omega
                    go_wp2
                    refine wp_region_over (by kernel_rfl) (by kernel_rfl) ?_
                    repeat (first | go_big_quiet_skip | (go_big_quiet_want; go_big_quiet_op; go_big_quiet_on))
                    refine wpQuiet_nil ?_
                    rintro W2 ⟨e2, he2⟩
                    have hb22 := over_below wr e2
                    rw [← he2] at hb22
                    clear he2 o30 o31 ok0
                    have hbn2 := hbn.trans (hb22.mono hbn.size)
                    go_wp2
                    go_roundw
                    case rel => exact ⟨n + 1, S, by omega, by omega, by go_num, rfl, by omega, by omega, by omega, by omega, hbn2⟩
                    case measure => simp [intOf]; omega
                · obtain rfl : n = ps.length := by omega
                  have nr := NB3.out.below hbn NB3.out.lt
                  have a0 := nr.cell 0; have a1 := nr.cell 1; have a2 := nr.cell 2
                  simp only [List.getElem?_toArray, List.getElem?_cons_zero, List.getElem?_cons_succ] at a0 a1 a2
                  go_wp2_with (go_at_call 22; refine (at_any F L R (e - s) _ hF hL hR ⟨by omega, by omega⟩).mono ?_; rintro e' w8 ⟨rfl, hb8⟩; rw [HMM.out])
                  go_roundw
                  case rel => exact ⟨m + 1, by omega, by omega, by go_num, hbn.trans (hb8.mono hbn.size)⟩
                  case measure => simp [intOf]; omega
          · obtain rfl : m = ps.length := by omega
            go_wp2
            go_roundw
            case rel => exact ⟨k + 1, by omega, by go_num, hbm⟩
            case measure => simp [intOf]; omega
      · have hfr0 : fr = 0 := by omega
        subst hfr0
        go_wp2_with fail
        clear p10 p11 p12
        go_loopw [8] (fun j W => ∃ (m : Nat), k ≤ m ∧ m ≤ ps.length ∧ j = .int .i64 m ∧ Below w3.heap.size w3 W) (fun j _ => ps.length - (intOf j).toNat)
        case atStart => exact ⟨k, by omega, by omega, rfl, hbr⟩
        case round =>
          obtain ⟨m, hm0, hm1, rfl, hbm⟩ := hrel
          by_cases hlm : m < ps.length
          · obtain ⟨⟨f2, e, q2⟩, hp2⟩ : ∃ p, ps[m]? = some p := ⟨_, List.getElem?_eq_getElem hlm⟩
            have hB2 := HPB.out _ (List.mem_of_getElem? hp2)
            obtain ⟨⟨hf20, hf21⟩, ⟨he0, he1⟩, hq20, hq21⟩ := hB2
            simp only at hf20 hf21 he0 he1 hq20 hq21
            obtain ⟨p20, p21, p22⟩ := HCL.out _ hbm _ _ hp2
            simp only at p20 p21 p22
            by_cases hsk : e = 9223372036854775808 ∨ e < 0 ∨ 1099511627776 < e
            · go_wp2
              all_goals
                first
                | (exfalso; omega)
                | skip
              all_goals
                go_roundw
                case rel => exact ⟨m + 1, by omega, by omega, by go_num, hbm⟩
                case measure => simp [intOf]; omega
            · have hek : (e == 9223372036854775808) = false := by simp; omega
              have he4 : 0 ≤ e := by omega
              have he5 : e ≤ 1099511627776 := by omega
              obtain ⟨M, hM⟩ : ∃ M, Proofs.Ytflnlapfomjggaa.cap (W F L R e) = M := ⟨_, rfl⟩
              have hM0 : 0 ≤ M := hM ▸ cap_nonneg (W_nonneg HM.out.f0 HM.out.r0 HM.out.l0 (by omega))
              have hPk : ∀ n p, ps[n]? = some p → k ≤ n → p.2.1 ≤ e → Qs ps (n + 1) - Qs ps k ≤ M := fun n p hn hkn hd => by
                have h9 := HPP.out k n _ p HP.out hn hkn e 0 hd (by omega) (by omega) (by omega) (by first | exact Or.inr rfl | (refine Or.inl ?_; simp only; omega))
                (try rw [Int.sub_zero] at h9)
                rw [← hM]
                exact h9
              have HPK := Lib.hid hPk; have HMM := Lib.hid hM; clear hPk hM
              go_wp2_with fail
              clear p20 p21 p22
              go_loopw [10, 11] (fun sm j W => ∃ (n : Nat) (S : Int), k ≤ n ∧ n ≤ ps.length ∧ j = .int .i64 n ∧ sm = .int .u64 S ∧ 0 ≤ S ∧ S ≤ Qs ps n - Qs ps k ∧ S ≤ M ∧ S ≤ 384000 * n ∧ Below w3.heap.size w3 W) (fun _ j _ => ps.length - (intOf j).toNat)
              case atStart => exact ⟨k, 0, by omega, by omega, rfl, rfl, by omega, by omega, by omega, by omega, hbm⟩
              case round =>
                obtain ⟨n, S, hn0, hn1, rfl, rfl, hS0, hSQ, hSM, hS8, hbn⟩ := hrel
                by_cases hln : n < ps.length
                · obtain ⟨⟨f3, e3, q3⟩, hp3⟩ : ∃ p, ps[n]? = some p := ⟨_, List.getElem?_eq_getElem hln⟩
                  have hB3 := HPB.out _ (List.mem_of_getElem? hp3)
                  obtain ⟨⟨hf30, hf31⟩, ⟨he30, he31⟩, hq30, hq31⟩ := hB3
                  have hQ3 := Qs_succ hp3
                  simp only at hf30 hf31 he30 he31 hq30 hq31 hQ3
                  obtain ⟨p30, p31, p32⟩ := HCL.out _ hbn _ _ hp3
                  obtain ⟨pk0, _, _⟩ := HCL.out _ hbn _ _ HP.out
                  simp only at p30 p31 p32 pk0
                  have hbw := Nat.lt_of_lt_of_le hb3w hbn.size
                  have o30 := fun e => (over_cell (w := wr) (e := e) hbw).trans p30
                  have o31 := fun e => (over_cell (w := wr) (e := e) hbw).trans p31
                  have ok0 := fun e => (over_cell (w := wr) (e := e) hbw).trans pk0
                  have hsel : (0 ≤ f3 ∧ e3 ≤ e) → S + q3 ≤ M := fun ⟨_, h⟩ => by
                    have := HPK.out n _ hp3 hn0 h
                    omega
                  clear p30 p31 pk0
                  by_cases hs1 : 0 ≤ f3
                  · by_cases hs2 : e3 ≤ e
                    · go_wp2
                      refine wp_region_over (by kernel_rfl) (by kernel_rfl) ?_
                      repeat (first | go_big_quiet_skip | (go_big_quiet_want; go_big_quiet_op; go_big_quiet_on))
                      refine wpQuiet_nil ?_
                      rintro W2 ⟨e2, he2⟩
                      have hb22 := over_below wr e2
                      rw [← he2] at hb22
                      clear he2 o30 o31 ok0
                      have r32 := (hb22.cell (p := ⟨b3, n * 3 + 2, none⟩) hbw).trans p32
                      have hbn2 := hbn.trans (hb22.mono hbn.size)
                      go_wp2
                      go_roundw
                      case rel => exact ⟨n + 1, S + q3, by omega, by omega, by go_num, rfl, by omega, by omega, hsel ⟨hs1, hs2⟩, by omega, hbn2⟩
                      case measure => simp [intOf]; omega
                    · go_wp2
                      refine wp_region_over (by kernel_rfl) (by kernel_rfl) ?_
                      repeat (first | go_big_quiet_skip | (go_big_quiet_want; go_big_quiet_op; go_big_quiet_on))
                      refine wpQuiet_nil ?_
                      rintro W2 ⟨e2, he2⟩
                      have hb22 := over_below wr e2
                      rw [← he2] at hb22
                      clear he2 o30 o31 ok0
                      have hbn2 := hbn.trans (hb22.mono hbn.size)
                      go_wp2
                      go_roundw
                      case rel => exact ⟨n + 1, S, by omega, by omega, by go_num, rfl, by omega, by omega, by omega, by omega, hbn2⟩
                      case measure => simp [intOf]; omega
                  · exfalso; omega
                · obtain rfl : n = ps.length := by omega
                  have nr := NB3.out.below hbn NB3.out.lt
                  have a0 := nr.cell 0; have a1 := nr.cell 1; have a2 := nr.cell 2
                  simp only [List.getElem?_toArray, List.getElem?_cons_zero, List.getElem?_cons_succ] at a0 a1 a2
                  go_wp2_with (go_at_call 22; refine (at_any F L R e _ hF hL hR ⟨by omega, by omega⟩).mono ?_; rintro e' w8 ⟨rfl, hb8⟩; rw [HMM.out])
                  go_roundw
                  case rel => exact ⟨m + 1, by omega, by omega, by go_num, hbn.trans (hb8.mono hbn.size)⟩
                  case measure => simp [intOf]; omega
          · obtain rfl : m = ps.length := by omega
            go_wp2
            go_roundw
            case rel => exact ⟨k + 1, by omega, by go_num, hbm⟩
            case measure => simp [intOf]; omega
    · obtain rfl : k = ps.length := by omega
      go_wp2
      go_ret
      exact ⟨rfl, hal.trans ((hbc.trans (hbr.mono hbc.size)).mono hal.size)⟩


theorem rnever_walk (F L R : Int) (a : Option Addr) (len cap : Nat) (zs : List (List Value)) (w : World) (hF : U F) (hL : U L) (hR : U R) (hz : IsRows [some .u8, some .u8, some .u64, some .i64, some .i64] w a len cap zs) :
    Calls Try.prog 11 #[.agg #[.int .u64 F, .int .u64 L, .int .u64 R], .slice a len cap] w fun e w' => e = .returned (.bool true) ∧ Below w.heap.size w w' := by
  obtain ⟨hlen, z, hz'⟩ := racts_of hz
  by_cases h : 80 < len
  · exact rnever_long F L R a len cap w h
  · by_cases h1 : mayB F L R = true
    · exact rnever_some F L R a len cap z w hF hL hR h1 hz' (by omega)
    · exact rnever_nomay F L R a len cap w hL (by omega) (by simpa using h1)

end Go.Proofs.Ytflnlapfomjggaa
