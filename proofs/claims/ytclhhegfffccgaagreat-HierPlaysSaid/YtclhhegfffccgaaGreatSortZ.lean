/-
  slices.Sort of words: partitionEqualOrdered.
-/
import Derived.Test.YtclhhegfffccgaaGreatSortY
import Derived.Deep.CutBlock
import Derived.Deep.DeepCutAuto
namespace Go.Proofs.YtclhhegfffccgaaGreat
set_option linter.unusedVariables false
open Go.RowKit Go.Sort

/-- what partitionEqualOrdered leaves -/
def PeqW (w : World) (g : Nat) (r : Nat × Array Int) (e : Ending) (w' : World) : Prop := e = .returned (.int .i64 r.1) ∧ RowW w' g r.2 ∧ w.grownBy w' (some g)
set_option maxRecDepth 100000 in
set_option maxHeartbeats 8000000 in
theorem peqW (g cap a b pv : Nat) (d : Array Int) (w : World) (h : RowW w g d) (hap : a ≤ pv) (hpb : pv < b) (hb : b ≤ d.size) (hsz : d.size ≤ 1000000) :
    Calls Tryz.prog 125 #[.slice (some ⟨g, 0, none⟩) d.size cap, .int .i64 a, .int .i64 b, .int .i64 pv] w (PeqW w g (Sort.partitionEqual ltInt d a b pv)) := by
  have hP : Sort.partitionEqual ltInt d a b pv = partEqLoop ltInt a (a + 1) (b - 1) (swp d a pv) := rfl
  obtain ⟨r, hr⟩ : ∃ r, Sort.partitionEqual ltInt d a b pv = r := ⟨_, rfl⟩
  rw [hr] at hP ⊢
  have HP := Lib.hid hP
  clear hP hr
  have HR := Lib.hid h; have HG := Lib.hid (World.grownBy.refl w (some g))
  obtain ⟨k1, hk1⟩ : ∃ k, swp d a pv = k := ⟨_, rfl⟩
  obtain ⟨m, hm⟩ : ∃ m, b = m + 1 := ⟨b - 1, by omega⟩
  have hz1 : k1.size = d.size := by rw [← hk1, size_swp]
  have hbm : b - 1 = m := by omega
  have hbz : (b : Int) - 1 = (m : Int) := by omega
  obtain ⟨n, hn⟩ : ∃ n, n = d.size := ⟨_, rfl⟩
  rw [← hn] at hb hsz hz1 ⊢
  have hzd : d.size ≤ n := by omega
  have hzd2 : n ≤ d.size := by omega
  have hzk : k1.size ≤ n := by omega
  have hzk2 : n ≤ k1.size := by omega
  have HK1 := Lib.hid hk1; have HZ1 := Lib.hid hz1; have HBM := Lib.hid hbm; have HBZ := Lib.hid hbz
  have hmb : m < b := by omega
  have hma : a ≤ m := by omega
  clear hk1 hz1 hm hn h hbm hbz
  go_enter Tryz.func125, Tryz.ntmps125
  have c1 := HR.out.cell (i := a) (by omega); have c2 := HR.out.cell (i := pv) (by omega)
  have z1 := HR.out.frozen (i := a) (by omega); have z2 := HR.out.frozen (i := pv) (by omega)
  obtain ⟨v2, y2⟩ := cell?_setCell_some (w := w) (p := ⟨g, a, none⟩) (x := .int .u64 d[pv]!) (q := ⟨g, pv, none⟩) c2
  go_wp2
  go_region
  have hR := (HR.out.swap (i := a) (j := pv) (by omega) (by omega)).drew
  have hG := (HG.out.trans (grown_swap w g a pv (.int .u64 d[pv]!) (.int .u64 d[a]!))).trans (grown_drew _ _)
  obtain ⟨w1, hw⟩ : ∃ w', ((w.setCell ⟨g, a, none⟩ (.int .u64 d[pv]!)).setCell ⟨g, pv, none⟩ (.int .u64 d[a]!)).drew = w' := ⟨_, rfl⟩
  rw [hw] at hR hG ⊢
  clear HR HG
  have HR := Lib.hid hR; have HG := Lib.hid hG
  clear hw hR hG c1 c2 z1 z2 y2
  have hR := HR.out
  rw [HK1.out] at hR
  clear HR; have HR := Lib.hid hR; clear hR
  go_wp2
  simp only [HBZ.out]
  have hP := HP.out
  rw [HK1.out, HBM.out] at hP
  clear HP; have HP := Lib.hid hP.symm; clear hP
  go_loopw [9, 10] (fun vi vj W => ∃ (i j : Nat) (k : Array Int), vi = .int .i64 i ∧ vj = .int .i64 j ∧ a < i ∧ i ≤ j + 2 ∧ a ≤ j ∧ j < b ∧ k.size = n ∧ partEqLoop ltInt a i j k = r ∧ RowW W g k ∧ w.grownBy W (some g)) (fun vi vj _ => (intOf vj + 1 - intOf vi).toNat)
  case atStart => exact ⟨a + 1, m, k1, by go_num, by go_num, by omega, by omega, by omega, by omega, HZ1.out, HP.out, HR.out, HG.out⟩
  case round =>
    obtain ⟨i, j, k, rfl, rfl, p1, p2, p3, p4, hk, hL, hR, hG⟩ := hrel
    obtain ⟨w3, rfl⟩ : ∃ w3 : World, w3 = wr := ⟨_, rfl⟩
    have hzk3 : k.size ≤ n := by omega
    have hzk4 : n ≤ k.size := by omega
    clear HR HG
    have HR := Lib.hid hR; have HG := Lib.hid hG; have HL := Lib.hid hL; have HKZ := Lib.hid hk
    clear hR hG hL hk
    go_upto_block 2 with fail
    go_cut [9] from 29 to 45 (fun vx wx => ∃ x : Nat, vx = .int .i64 x ∧ i ≤ x ∧ x ≤ j + 2 ∧ scanUp (fun x => !ltInt k[a]! x) k j i = x ∧ RowW wx g k ∧ w.grownBy wx (some g))
    case first =>
      go_wp2
      go_loopw [9] (fun vx W => ∃ x : Nat, vx = .int .i64 x ∧ i ≤ x ∧ x ≤ j + 2 ∧ scanUp (fun x => !ltInt k[a]! x) k j i = scanUp (fun x => !ltInt k[a]! x) k j x ∧ RowW W g k ∧ w.grownBy W (some g)) (fun vx _ => (j + 1 - intOf vx).toNat)
      case atStart => exact ⟨i, by first | rfl | go_num, by omega, by omega, rfl, HR.out, HG.out⟩
      case round =>
        obtain ⟨x, rfl, h1, h2, hE, hR, hG⟩ := hrel
        have HE := Lib.hid hE; have HG2 := Lib.hid hG; have HR2 := Lib.hid hR
        by_cases hij : x ≤ j
        · have c1 := hR.cell (i := x) (by omega); have c2 := hR.cell (i := a) (by omega)
          cases hl : ltInt k[a]! k[x]!
          · have hX : scanUp (fun x => !ltInt k[a]! x) k j i = scanUp (fun x => !ltInt k[a]! x) k j (x + 1) := by rw [hE]; exact scanUp_go hij (by simp [hl])
            have HX := Lib.hid hX
            clear hX hE hG hR
            go_wp2
            go_quiet ((go_at_call 124; exact Calls.quiet_of_same (lessW _ _ _)))
            try simp only [hl]
            go_wp2
            go_roundw
            case measure => (simp [intOf]; try omega)
            case rel => exact ⟨x + 1, by go_num, by omega, by omega, HX.out, HR2.out.drewN _, HG2.out.trans (grown_drewN _ _ _)⟩
          · have hX : scanUp (fun x => !ltInt k[a]! x) k j i = x := by rw [hE]; exact scanUp_stop (.inr (by simp [hl]))
            have HX := Lib.hid hX
            clear hX hE hG hR
            go_wp2
            go_quiet ((go_at_call 124; exact Calls.quiet_of_same (lessW _ _ _)))
            try simp only [hl]
            go_wp2
            go_meet
            exact ⟨x, rfl, by omega, by omega, HX.out, HR2.out.drewN _, HG2.out.trans (grown_drewN _ _ _)⟩
        · have hX : scanUp (fun x => !ltInt k[a]! x) k j i = x := by rw [hE]; exact scanUp_stop (.inl (by omega))
          have HX := Lib.hid hX
          clear hX hE hG hR
          have dd : decide ((x : Int) ≤ (j : Int)) = false := by simp; omega
          go_wp2
          go_quiet (fail)
          skip
          go_wp2
          go_meet
          exact ⟨x, rfl, by omega, by omega, HX.out, HR2.out.drewN _, HG2.out.trans (grown_drewN _ _ _)⟩
    obtain ⟨i2, rfl, b1i2, b2i2, hX, hR, hG⟩ := hcut
    obtain ⟨w2i2, rfl⟩ : ∃ w' : World, w' = wc := ⟨_, rfl⟩
    clear HR HG
    have HR := Lib.hid hR; have HG := Lib.hid hG; have HXi2 := Lib.hid hX
    clear hX hR hG
    go_upto_block 4 with fail
    go_cut [10] from 46 to 61 (fun vx wx => ∃ x : Nat, vx = .int .i64 x ∧ a ≤ x ∧ x ≤ j ∧ i2 ≤ x + 2 ∧ scanDown (fun x => ltInt k[a]! x) k i2 j = x ∧ RowW wx g k ∧ w.grownBy wx (some g))
    case first =>
      go_wp2
      go_loopw [10] (fun vx W => ∃ x : Nat, vx = .int .i64 x ∧ a ≤ x ∧ x ≤ j ∧ i2 ≤ x + 2 ∧ scanDown (fun x => ltInt k[a]! x) k i2 j = scanDown (fun x => ltInt k[a]! x) k i2 x ∧ RowW W g k ∧ w.grownBy W (some g)) (fun vx _ => (intOf vx).toNat)
      case atStart => exact ⟨j, by first | rfl | go_num, by omega, by omega, by omega, rfl, HR.out, HG.out⟩
      case round =>
        obtain ⟨x, rfl, h1, h2, h3, hE, hR, hG⟩ := hrel
        have HE := Lib.hid hE; have HG2 := Lib.hid hG; have HR2 := Lib.hid hR
        by_cases hij : i2 ≤ x
        · have c1 := hR.cell (i := x) (by omega); have c2 := hR.cell (i := a) (by omega)
          cases hl : ltInt k[a]! k[x]!
          · have hX : scanDown (fun x => ltInt k[a]! x) k i2 j = x := by rw [hE]; exact scanDown_stop (.inr (by simp [hl]))
            have HX := Lib.hid hX
            clear hX hE hG hR
            go_wp2
            go_quiet ((go_at_call 124; exact Calls.quiet_of_same (lessW _ _ _)))
            try simp only [hl]
            go_wp2
            go_meet
            exact ⟨x, rfl, by omega, by omega, by omega, HX.out, HR2.out.drewN _, HG2.out.trans (grown_drewN _ _ _)⟩
          · have hX : scanDown (fun x => ltInt k[a]! x) k i2 j = scanDown (fun x => ltInt k[a]! x) k i2 (x - 1) := by rw [hE]; exact scanDown_go hij (by omega) (by simp [hl])
            have HX := Lib.hid hX
            clear hX hE hG hR
            go_wp2
            go_quiet ((go_at_call 124; exact Calls.quiet_of_same (lessW _ _ _)))
            try simp only [hl]
            go_wp2
            go_roundw
            case measure => (simp [intOf]; try omega)
            case rel => exact ⟨x - 1, by go_num, by omega, by omega, by omega, HX.out, HR2.out.drewN _, HG2.out.trans (grown_drewN _ _ _)⟩
        · have hX : scanDown (fun x => ltInt k[a]! x) k i2 j = x := by rw [hE]; exact scanDown_stop (.inl (by omega))
          have HX := Lib.hid hX
          clear hX hE hG hR
          have dd : decide ((i2 : Int) ≤ (x : Int)) = false := by simp; omega
          go_wp2
          go_quiet (fail)
          skip
          go_wp2
          go_meet
          exact ⟨x, rfl, by omega, by omega, by omega, HX.out, HR2.out.drewN _, HG2.out.trans (grown_drewN _ _ _)⟩
    obtain ⟨j2, rfl, b1j2, b2j2, b3j2, hX, hR, hG⟩ := hcut
    obtain ⟨w2j2, rfl⟩ : ∃ w' : World, w' = wc := ⟨_, rfl⟩
    clear HR HG
    have HR := Lib.hid hR; have HG := Lib.hid hG; have HXj2 := Lib.hid hX
    clear hX hR hG
    by_cases hlt2 : j2 < i2
    · have hQ := peq_end HXi2.out HXj2.out hlt2
      rw [HL.out] at hQ
      have HQ := Lib.hid hQ
      clear hQ
      go_wp2
      go_ret
      rw [HQ.out]
      exact ⟨rfl, HR.out, HG.out⟩
    · have hQ := peq_go HXi2.out HXj2.out hlt2
      rw [HL.out] at hQ
      have HQ := Lib.hid hQ.symm
      clear hQ
      have hz5 : (swp k i2 j2).size = n := by rw [size_swp]; exact HKZ.out
      have HZ5 := Lib.hid hz5
      clear hz5
      have hij3 : i2 < j2 + 1 := by omega
      have c1 := HR.out.cell (i := i2) (by omega); have c2 := HR.out.cell (i := j2) (by omega)
      have z1 := HR.out.frozen (i := i2) (by omega); have z2 := HR.out.frozen (i := j2) (by omega)
      obtain ⟨v2, y2⟩ := cell?_setCell_some (w := w2j2) (p := ⟨g, i2, none⟩) (x := .int .u64 k[j2]!) (q := ⟨g, j2, none⟩) c2
      go_wp2
      go_region
      have hR := (HR.out.swap (i := i2) (j := j2) (by omega) (by omega)).drew
      have hG := (HG.out.trans (grown_swap w2j2 g i2 j2 (.int .u64 k[j2]!) (.int .u64 k[i2]!))).trans (grown_drew _ _)
      obtain ⟨w4, hw⟩ : ∃ w', ((w2j2.setCell ⟨g, i2, none⟩ (.int .u64 k[j2]!)).setCell ⟨g, j2, none⟩ (.int .u64 k[i2]!)).drew = w' := ⟨_, rfl⟩
      rw [hw] at hR hG ⊢
      clear HR HG
      have HR := Lib.hid hR; have HG := Lib.hid hG
      clear hw hR hG c1 c2 z1 z2 y2
      go_wp2
      go_roundw
      case measure => (simp [intOf]; try omega)
      case rel => exact ⟨i2 + 1, j2 - 1, _, by go_num, by go_num, by omega, by omega, by omega, by omega, HZ5.out, HQ.out, HR.out, HG.out⟩
end Go.Proofs.YtclhhegfffccgaaGreat
