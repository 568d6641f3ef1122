/-
  slices.Sort of words: partialInsertionSortOrdered.
-/
import Derived.Test.YtclhhegfffccgaaGreatSortZ
import Derived.Deep.CutBlock
import Derived.Deep.DeepCutAuto
namespace Go.Proofs.YtclhhegfffccgaaGreat
set_option linter.unusedVariables false
open Go.RowKit Go.Sort

section
variable {lt : Int → Int → Bool} {d k1 k2 k3 : Array Int} {a b i j s x : Nat}
theorem ssort_go (h : i < b) (hl : lt d[i]! d[i - 1]! = false) : scanSorted lt d b i = scanSorted lt d b (i + 1) := by conv => lhs; rw [scanSorted, if_pos (by simp [h, hl])]
theorem ssort_stop (h : b ≤ i ∨ lt d[i]! d[i - 1]! = true) : scanSorted lt d b i = i := by
  rw [scanSorted, if_neg]
  rcases h with h | h
  · simp; omega
  · simp [h]
theorem sdown_go (h : 1 ≤ j) (hl : lt d[j]! d[j - 1]! = true) : shiftDown lt j d = shiftDown lt (j - 1) (swp d j (j - 1)) := by
  obtain ⟨k, rfl⟩ : ∃ k, j = k + 1 := ⟨j - 1, by omega⟩
  rw [shiftDown]
  simp only [Nat.add_sub_cancel] at hl ⊢
  simp [hl]
theorem sdown_stop (h : j = 0 ∨ lt d[j]! d[j - 1]! = false) : shiftDown lt j d = d := by
  cases j with
  | zero => rw [shiftDown]
  | succ k =>
    rw [shiftDown]
    simp only [Nat.add_sub_cancel] at h
    rcases h with h | h
    · omega
    · simp [h]
theorem sup_go (h : j < b) (hl : lt d[j]! d[j - 1]! = true) : shiftUp lt b j d = shiftUp lt b (j + 1) (swp d j (j - 1)) := by conv => lhs; rw [shiftUp, if_pos h, if_neg (by simp [hl])]
theorem sup_stop (h : b ≤ j ∨ lt d[j]! d[j - 1]! = false) : shiftUp lt b j d = d := by
  rw [shiftUp]
  rcases h with h | h
  · rw [if_neg (by omega)]
  · split
    · rw [if_pos (by simp [h])]
    · rfl
theorem pins_true (hK : scanSorted lt d b i = b) : partialIns lt a b (s + 1) i d = (d, true) := by rw [partialIns]; simp [hK]
theorem pins_short (hK : scanSorted lt d b i = x) (hx : x ≠ b) (h50 : b - a < 50) : partialIns lt a b (s + 1) i d = (d, false) := by rw [partialIns]; simp [hK, hx, h50]
theorem pins_go (hK : scanSorted lt d b i = x) (hx : x ≠ b) (h50 : ¬ b - a < 50) (h1 : swp d x (x - 1) = k1) (h2 : (if x - a ≥ 2 then shiftDown lt (x - 1) k1 else k1) = k2) (h3 : (if b - x ≥ 2 then shiftUp lt b (x + 1) k2 else k2) = k3) :
    partialIns lt a b (s + 1) i d = partialIns lt a b s x k3 := by
  rw [partialIns]; simp only [hK, if_neg hx, if_neg h50, h1, h2, h3]
end

/-- what partialInsertionSortOrdered leaves -/
def PinsW (w : World) (g : Nat) (r : Array Int × Bool) (e : Ending) (w' : World) : Prop := e = .returned (.bool r.2) ∧ RowW w' g r.1 ∧ w.grownBy w' (some g)
set_option maxRecDepth 100000 in
set_option maxHeartbeats 8000000 in
theorem pinsW (g cap a b : Nat) (d : Array Int) (w : World) (h : RowW w g d) (hab : a < b) (hb : b ≤ d.size) (hsz : d.size ≤ 1000000) :
    Calls Tryz.prog 123 #[.slice (some ⟨g, 0, none⟩) d.size cap, .int .i64 a, .int .i64 b] w (PinsW w g (Sort.partialInsertionSort ltInt d a b)) := by
  obtain ⟨r, hr⟩ : ∃ r, Sort.partialInsertionSort ltInt d a b = r := ⟨_, rfl⟩
  have hP : partialIns ltInt a b 5 (a + 1) d = r := hr
  rw [hr]
  have H := Lib.hid h; have HP := Lib.hid hP
  clear hP hr h
  obtain ⟨n, hn⟩ : ∃ n, n = d.size := ⟨_, rfl⟩
  rw [← hn] at hb hsz ⊢
  have HN := Lib.hid hn.symm
  clear hn
  go_enter Tryz.func123, Tryz.ntmps123
  go_wp2
  go_loopw [7, 8] (fun vi vs W => ∃ (i s : Nat) (k : Array Int), vi = .int .i64 i ∧ vs = .int .i64 s ∧ s ≤ 5 ∧ a < i ∧ i ≤ b ∧ k.size = n ∧ partialIns ltInt a b (5 - s) i k = r ∧ RowW W g k ∧ w.grownBy W (some g)) (fun _ vs _ => (5 - intOf vs).toNat)
  case atStart => exact ⟨a + 1, 0, d, by go_num, rfl, by omega, by omega, by omega, HN.out, HP.out, H.out, World.grownBy.refl _ _⟩
  case round =>
    obtain ⟨i, s, k, rfl, rfl, h5, hai, hib, hk, hL, hR, hG⟩ := hrel
    obtain ⟨w1, rfl⟩ : ∃ w1 : World, w1 = wr := ⟨_, rfl⟩
    have hzk3 : k.size ≤ n := by omega
    have hzk4 : n ≤ k.size := by omega
    by_cases hs : s < 5
    · rw [show 5 - s = (4 - s) + 1 by omega] at hL
      have HR := Lib.hid hR; have HG := Lib.hid hG; have HL := Lib.hid hL; have HKZ := Lib.hid hk
      clear hR hG hL hk H HN HP
      go_upto_block 2 with fail
      go_cut [7] from 17 to 34 (fun vx wx => ∃ x : Nat, vx = .int .i64 x ∧ i ≤ x ∧ x ≤ b ∧ scanSorted ltInt k b i = x ∧ RowW wx g k ∧ w.grownBy wx (some g))
      case first =>
        go_wp2
        go_loopw [7] (fun vx W => ∃ x : Nat, vx = .int .i64 x ∧ i ≤ x ∧ x ≤ b ∧ scanSorted ltInt k b i = scanSorted ltInt k b x ∧ RowW W g k ∧ w.grownBy W (some g)) (fun vx _ => (b - intOf vx).toNat)
        case atStart => exact ⟨i, rfl, by omega, by omega, rfl, HR.out, HG.out⟩
        case round =>
          obtain ⟨x, rfl, h1, h2, hE, hR, hG⟩ := hrel
          have HG2 := Lib.hid hG; have HR2 := Lib.hid hR
          by_cases hij : x < b
          · have c1 := hR.cell (i := x) (by omega); have c2 := hR.cell (i := x - 1) (by omega)
            have hx1 : (0 : Int) ≤ (x : Int) - 1 := by omega
            cases hl : ltInt k[x]! k[x - 1]!
            · have hX : scanSorted ltInt k b i = scanSorted ltInt k b (x + 1) := by rw [hE]; exact ssort_go hij hl
              have HX := Lib.hid hX
              clear hX hE hG hR
              go_wp2
              go_quiet ((go_at_call 124; exact Calls.quiet_of_same (lessW _ _ _)))
              try simp only [hl]
              go_wp2
              go_roundw
              case measure => (simp [intOf]; try omega)
              case rel => exact ⟨x + 1, by go_num, by omega, by omega, HX.out, HR2.out.drewN _, HG2.out.trans (grown_drewN _ _ _)⟩
            · have hX : scanSorted ltInt k b i = x := by rw [hE]; exact ssort_stop (.inr hl)
              have HX := Lib.hid hX
              clear hX hE hG hR
              go_wp2
              go_quiet ((go_at_call 124; exact Calls.quiet_of_same (lessW _ _ _)))
              try simp only [hl]
              go_wp2
              go_meet
              exact ⟨x, rfl, by omega, by omega, HX.out, HR2.out.drewN _, HG2.out.trans (grown_drewN _ _ _)⟩
          · have hX : scanSorted ltInt k b i = x := by rw [hE]; exact ssort_stop (.inl (by omega))
            have HX := Lib.hid hX
            clear hX hE hG hR
            have dd : decide ((x : Int) < (b : Int)) = false := by simp; omega
            go_wp2
            go_quiet (fail)
            go_wp2
            go_meet
            exact ⟨x, rfl, by omega, by omega, HX.out, HR2.out.drewN _, HG2.out.trans (grown_drewN _ _ _)⟩
      obtain ⟨x, rfl, h1, h2, hX, hR, hG⟩ := hcut
      obtain ⟨w2, rfl⟩ : ∃ w' : World, w' = wc := ⟨_, rfl⟩
      clear HR HG
      by_cases hxb : x = b
      · have hT := pins_true (lt := ltInt) (a := a) (s := 4 - s) (hX.trans hxb)
        rw [HL.out] at hT
        have HT := Lib.hid hT; have HR := Lib.hid hR; have HG := Lib.hid hG
        clear hT hR hG hX
        subst hxb
        go_wp2
        go_ret
        rw [HT.out]
        exact ⟨rfl, HR.out, HG.out⟩
      · have hb1 : ((x : Int) == (b : Int)) = false := by simp; omega
        by_cases h50 : b - a < 50
        · have hT := pins_short (lt := ltInt) (a := a) (s := 4 - s) hX hxb h50
          rw [HL.out] at hT
          have HT := Lib.hid hT; have HR := Lib.hid hR; have HG := Lib.hid hG
          clear hT hR hG hX
          go_wp2
          go_ret
          rw [HT.out]
          exact ⟨rfl, HR.out, HG.out⟩
        · obtain ⟨k1, hk1⟩ : ∃ k', swp k x (x - 1) = k' := ⟨_, rfl⟩
          obtain ⟨k2, hk2⟩ : ∃ k', (if x - a ≥ 2 then shiftDown ltInt (x - 1) k1 else k1) = k' := ⟨_, rfl⟩
          obtain ⟨k3, hk3⟩ : ∃ k', (if b - x ≥ 2 then shiftUp ltInt b (x + 1) k2 else k2) = k' := ⟨_, rfl⟩
          have hT := pins_go (lt := ltInt) (s := 4 - s) hX hxb h50 hk1 hk2 hk3
          rw [HL.out] at hT
          have hz1 : k1.size = n := by rw [← hk1, size_swp]; exact HKZ.out
          have HT := Lib.hid hT.symm; have HR := Lib.hid hR; have HG := Lib.hid hG; have HK1 := Lib.hid hk1; have HK2 := Lib.hid hk2; have HK3 := Lib.hid hk3; have HZ1 := Lib.hid hz1
          clear hT hR hG hX hk1 hk2 hk3 hz1
          have c1 := HR.out.cell (i := x) (by omega); have c2 := HR.out.cell (i := x - 1) (by omega)
          have z1 := HR.out.frozen (i := x) (by omega); have z2 := HR.out.frozen (i := x - 1) (by omega)
          obtain ⟨v2, y2⟩ := cell?_setCell_some (w := w2) (p := ⟨g, x, none⟩) (x := .int .u64 k[x - 1]!) (q := ⟨g, x - 1, none⟩) c2
          go_wp2
          go_region
          have hR := (HR.out.swap (i := x) (j := x - 1) (by omega) (by omega)).drew
          have hG := (HG.out.trans (grown_swap w2 g x (x - 1) (.int .u64 k[x - 1]!) (.int .u64 k[x]!))).trans (grown_drew _ _)
          obtain ⟨w3, hw⟩ : ∃ w', ((w2.setCell ⟨g, x, none⟩ (.int .u64 k[x - 1]!)).setCell ⟨g, x - 1, none⟩ (.int .u64 k[x]!)).drew = w' := ⟨_, rfl⟩
          rw [hw] at hR hG ⊢
          clear HR HG
          have HR := Lib.hid hR; have HG := Lib.hid hG
          clear hw hR hG c1 c2 z1 z2 y2
          have hR := HR.out
          rw [HK1.out] at hR
          clear HR; have HR := Lib.hid hR; clear hR
          go_upto_if 61 with fail
          go_cut [9] from 62 to 94 (fun _ wx => k2.size = n ∧ RowW wx g k2 ∧ w.grownBy wx (some g))
          case first =>
            have hK := HK2.out
            by_cases h2 : x - a ≥ 2
            · rw [if_pos h2] at hK
              have h2z : (2 : Int) ≤ (x : Int) - (a : Int) := by omega
              have HKK := Lib.hid hK
              clear hK
              go_wp2
              go_loopw [9] (fun vj W => ∃ (j : Nat) (q : Array Int), vj = .int .i64 j ∧ j ≤ x - 1 ∧ q.size = n ∧ shiftDown ltInt j q = k2 ∧ RowW W g q ∧ w.grownBy W (some g)) (fun vj _ => (intOf vj).toNat)
              case atStart => exact ⟨x - 1, k1, by go_num, by omega, HZ1.out, HKK.out, HR.out, HG.out⟩
              case round =>
                obtain ⟨j, q, rfl, q1, hq, hE, hR, hG⟩ := hrel
                have HQ := Lib.hid hq
                by_cases hj : 1 ≤ j
                · have c1 := hR.cell (i := j) (by omega); have c2 := hR.cell (i := j - 1) (by omega)
                  have z1 := hR.frozen (i := j) (by omega); have z2 := hR.frozen (i := j - 1) (by omega)
                  have hj1 : (0 : Int) ≤ (j : Int) - 1 := by omega
                  have hj2 : j ≤ n := by omega
                  have hj3 : j < n := by omega
                  cases hl : ltInt q[j]! q[j - 1]!
                  · have hX : q = k2 := by rw [← hE, sdown_stop (.inr hl)]
                    have HX := Lib.hid hX; have HR2 := Lib.hid hR; have HG2 := Lib.hid hG
                    clear hX hE hG hR hq HR HG
                    go_wp2
                    go_quiet ((go_at_call 124; exact Calls.quiet_of_same (lessW _ _ _)))
                    try simp only [hl]
                    go_wp2
                    go_meet
                    exact ⟨by rw [← HX.out]; exact HQ.out, by rw [← HX.out]; exact HR2.out.drewN _, HG2.out.trans (grown_drewN _ _ _)⟩
                  · have hX : shiftDown ltInt (j - 1) (swp q j (j - 1)) = k2 := by rw [← hE, sdown_go hj hl]
                    have HX := Lib.hid hX; have HR2 := Lib.hid hR; have HG2 := Lib.hid hG
                    have hz5 : (swp q j (j - 1)).size = n := by rw [size_swp]; exact hq
                    have HZ5 := Lib.hid hz5
                    clear hX hE hG hR hq HR HG hz5
                    go_wp2
                    go_quiet ((go_at_call 124; exact Calls.quiet_of_same (lessW _ _ _)))
                    try simp only [hl]
                    go_wp2
                    go_region
                    go_wp2
                    go_roundw
                    case measure => (simp [intOf]; try omega)
                    case rel => exact ⟨j - 1, _, by go_num, by omega, HZ5.out, HX.out, (HR2.out.drewN _).swap (by have := HQ.out; omega) (by have := HQ.out; omega), (HG2.out.trans (grown_drewN _ _ _)).trans (grown_swap _ _ _ _ _ _)⟩
                · have hX : q = k2 := by rw [← hE, sdown_stop (.inl (by omega))]
                  have HX := Lib.hid hX; have HR2 := Lib.hid hR; have HG2 := Lib.hid hG
                  clear hX hE hG hR hq HR HG
                  go_wp2
                  go_meet
                  exact ⟨by rw [← HX.out]; exact HQ.out, by rw [← HX.out]; exact HR2.out, HG2.out⟩
            · rw [if_neg h2] at hK
              have HKK := Lib.hid hK
              clear hK
              go_wp2
              go_meet
              exact ⟨by rw [← HKK.out]; exact HZ1.out, by rw [← HKK.out]; exact HR.out, HG.out⟩
          obtain ⟨hz, hR, hG⟩ := hcut
          obtain ⟨w61, rfl⟩ : ∃ w' : World, w' = wc := ⟨_, rfl⟩
          clear HR HG
          have HR := Lib.hid hR; have HG := Lib.hid hG; have HZ61 := Lib.hid hz
          clear hR hG hz
          go_upto_if 98 with fail
          have hK := HK3.out
          by_cases h2 : b - x ≥ 2
          · rw [if_pos h2] at hK
            have h2z : (2 : Int) ≤ (b : Int) - (x : Int) := by omega
            have HKK := Lib.hid hK
            clear hK
            go_wp2
            go_loopw [10] (fun vj W => ∃ (j : Nat) (q : Array Int), vj = .int .i64 j ∧ x + 1 ≤ j ∧ q.size = n ∧ shiftUp ltInt b j q = k3 ∧ RowW W g q ∧ w.grownBy W (some g)) (fun vj _ => (b - intOf vj).toNat)
            case atStart => exact ⟨x + 1, k2, by go_num, by omega, HZ61.out, HKK.out, HR.out, HG.out⟩
            case round =>
              obtain ⟨j, q, rfl, q1, hq, hE, hR, hG⟩ := hrel
              have HQ := Lib.hid hq
              by_cases hj : j < b
              · have c1 := hR.cell (i := j) (by omega); have c2 := hR.cell (i := j - 1) (by omega)
                have z1 := hR.frozen (i := j) (by omega); have z2 := hR.frozen (i := j - 1) (by omega)
                have hj1 : (0 : Int) ≤ (j : Int) - 1 := by omega
                have hj2 : j ≤ n := by omega
                have hj3 : j < n := by omega
                cases hl : ltInt q[j]! q[j - 1]!
                · have hX : q = k3 := by rw [← hE, sup_stop (.inr hl)]
                  have HX := Lib.hid hX; have HR2 := Lib.hid hR; have HG2 := Lib.hid hG
                  clear hX hE hG hR hq HR HG
                  go_wp2
                  go_quiet ((go_at_call 124; exact Calls.quiet_of_same (lessW _ _ _)))
                  try simp only [hl]
                  go_wp2
                  go_roundw
                  case measure => (simp [intOf]; try omega)
                  case rel => exact ⟨x, s + 1, k3, rfl, by go_num, by omega, by omega, by omega, by rw [← HX.out]; exact HQ.out, by rw [show 5 - (s + 1) = 4 - s by omega]; exact HT.out, by rw [← HX.out]; exact HR2.out.drewN _, HG2.out.trans (grown_drewN _ _ _)⟩
                · have hX : shiftUp ltInt b (j + 1) (swp q j (j - 1)) = k3 := by rw [← hE, sup_go hj hl]
                  have HX := Lib.hid hX; have HR2 := Lib.hid hR; have HG2 := Lib.hid hG
                  have hz5 : (swp q j (j - 1)).size = n := by rw [size_swp]; exact hq
                  have HZ5 := Lib.hid hz5
                  clear hX hE hG hR hq HR HG hz5
                  go_wp2
                  go_quiet ((go_at_call 124; exact Calls.quiet_of_same (lessW _ _ _)))
                  try simp only [hl]
                  go_wp2
                  go_region
                  go_wp2
                  go_roundw
                  case measure => (simp [intOf]; try omega)
                  case rel => exact ⟨j + 1, _, by go_num, by omega, HZ5.out, HX.out, (HR2.out.drewN _).swap (by have := HQ.out; omega) (by have := HQ.out; omega), (HG2.out.trans (grown_drewN _ _ _)).trans (grown_swap _ _ _ _ _ _)⟩
              · have hX : q = k3 := by rw [← hE, sup_stop (.inl (by omega))]
                have HX := Lib.hid hX; have HR2 := Lib.hid hR; have HG2 := Lib.hid hG
                clear hX hE hG hR hq HR HG
                go_wp2
                go_roundw
                case measure => (simp [intOf]; try omega)
                case rel => exact ⟨x, s + 1, k3, rfl, by go_num, by omega, by omega, by omega, by rw [← HX.out]; exact HQ.out, by rw [show 5 - (s + 1) = 4 - s by omega]; exact HT.out, by rw [← HX.out]; exact HR2.out, HG2.out⟩
          · rw [if_neg h2] at hK
            have HKK := Lib.hid hK
            clear hK
            go_wp2
            go_roundw
            case measure => (simp [intOf]; try omega)
            case rel => exact ⟨x, s + 1, k3, rfl, by go_num, by omega, by omega, by omega, by rw [← HKK.out]; exact HZ61.out, by rw [show 5 - (s + 1) = 4 - s by omega]; exact HT.out, by rw [← HKK.out]; exact HR.out, HG.out⟩
    · obtain rfl : s = 5 := by omega
      have hT : partialIns ltInt a b 0 i k = (k, false) := rfl
      rw [Nat.sub_self] at hL
      rw [hL] at hT
      have HT := Lib.hid hT; have HR := Lib.hid hR; have HG := Lib.hid hG
      clear hT hR hG hL hk
      go_wp2
      go_ret
      rw [HT.out]
      exact ⟨rfl, HR.out, HG.out⟩
end Go.Proofs.YtclhhegfffccgaaGreat
