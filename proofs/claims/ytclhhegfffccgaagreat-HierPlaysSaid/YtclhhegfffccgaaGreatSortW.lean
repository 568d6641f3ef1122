/-
  slices.Sort of words: the heap.
-/
import Derived.Test.YtclhhegfffccgaaGreatSortV
namespace Go.Proofs.YtclhhegfffccgaaGreat
set_option linter.unusedVariables false
open Go.RowKit Go.Sort

section
variable {lt : Int → Int → Bool} {hi first root c : Nat} {d : Array Int}
theorem sift_stop (h : hi ≤ 2 * root + 1) : siftDown lt hi first root d = d := by rw [siftDown, dif_pos h]
/-- which child is asked -/
def childOf (lt : Int → Int → Bool) (hi first root : Nat) (d : Array Int) : Nat := if 2 * root + 1 + 1 < hi ∧ lt d[first + (2 * root + 1)]! d[first + (2 * root + 1) + 1]! = true then 2 * root + 2 else 2 * root + 1
theorem sift_no (h : 2 * root + 1 < hi) (hc : childOf lt hi first root d = c) (hl : lt d[first + root]! d[first + c]! = false) : siftDown lt hi first root d = d := by
  unfold childOf at hc
  rw [siftDown, dif_neg (by omega)]
  split at hc
  · rename_i h1
    subst hc
    rw [if_pos (by simp [h1.1, h1.2]), hl]; simp
  · rename_i h1
    subst hc
    rw [if_neg (by simpa using h1), hl]; simp
theorem sift_go (h : 2 * root + 1 < hi) (hc : childOf lt hi first root d = c) (hl : lt d[first + root]! d[first + c]! = true) : siftDown lt hi first root d = siftDown lt hi first c (swp d (first + root) (first + c)) := by
  unfold childOf at hc
  rw [siftDown, dif_neg (by omega)]
  split at hc
  · rename_i h1
    subst hc
    rw [if_pos (by simp [h1.1, h1.2]), hl, dif_pos (by omega)]; simp
  · rename_i h1
    subst hc
    rw [if_neg (by simpa using h1), hl]; simp
theorem child_cases : (2 * root + 2 < hi ∧ lt d[first + (2 * root + 1)]! d[first + (2 * root + 2)]! = true ∧ childOf lt hi first root d = 2 * root + 2) ∨
    (2 * root + 2 < hi ∧ lt d[first + (2 * root + 1)]! d[first + (2 * root + 2)]! = false ∧ childOf lt hi first root d = 2 * root + 1) ∨ (¬ 2 * root + 2 < hi ∧ childOf lt hi first root d = 2 * root + 1) := by
  unfold childOf
  by_cases h : 2 * root + 2 < hi
  · cases hl : lt d[first + (2 * root + 1)]! d[first + (2 * root + 2)]!
    · exact .inr (.inl ⟨h, rfl, by rw [if_neg]; simp [hl, Nat.add_assoc]⟩)
    · exact .inl ⟨h, rfl, by rw [if_pos ⟨by omega, by simp [hl]⟩]⟩
  · exact .inr (.inr ⟨h, by rw [if_neg]; rintro ⟨h1, _⟩; omega⟩)
end

set_option maxHeartbeats 4000000 in
theorem siftW (g cap lo hi first : Nat) (d : Array Int) (w : World) (h : RowW w g d) (hb : first + hi ≤ d.size) (hlo : lo ≤ 1000000) (hsz : d.size ≤ 1000000) :
    Calls Tryz.prog 127 #[.slice (some ⟨g, 0, none⟩) d.size cap, .int .i64 lo, .int .i64 hi, .int .i64 first] w (DoneW w g (Sort.siftDown ltInt hi first lo d)) := by
  have H := Lib.hid h
  clear h
  obtain ⟨n, hn⟩ : ∃ n, n = d.size := ⟨_, rfl⟩
  rw [← hn] at hb hsz ⊢
  have HN := Lib.hid hn
  clear hn
  go_enter Tryz.func127, Tryz.ntmps127
  go_wp2
  go_loopw [8] (fun vi W => ∃ (r : Nat) (k : Array Int), vi = .int .i64 r ∧ r ≤ 1000000 ∧ k.size = n ∧ RowW W g k ∧ w.grownBy W (some g) ∧ Sort.siftDown ltInt hi first r k = Sort.siftDown ltInt hi first lo d) (fun vi _ => (1000000 - intOf vi).toNat)
  case atStart => exact ⟨lo, d, rfl, hlo, HN.out.symm, H.out, World.grownBy.refl _ _, rfl⟩
  case round =>
    obtain ⟨r, k, rfl, hr, hk, hR, hG, hE⟩ := hrel
    by_cases hlt : 2 * r + 1 < hi
    · have c0 := hR.cell (i := first + r) (by omega); have z0 := hR.frozen (i := first + r) (by omega)
      have c1 := hR.cell (i := first + (2 * r + 1)) (by omega); have z1 := hR.frozen (i := first + (2 * r + 1)) (by omega)
      rcases child_cases (lt := ltInt) (hi := hi) (first := first) (root := r) (d := k) with ⟨h2, hl, hc⟩ | ⟨h2, hl, hc⟩ | ⟨h2, hc⟩
      · have c2 := hR.cell (i := first + (2 * r + 2)) (by omega); have z2 := hR.frozen (i := first + (2 * r + 2)) (by omega)
        generalize hx0 : k[first + r]! = x0 at c0
        generalize hx1 : k[first + (2 * r + 1)]! = x1 at c1 hl
        generalize hx2 : k[first + (2 * r + 2)]! = x2 at c2 hl
        cases hm : ltInt x0 x2
        · have hE2 : k = Sort.siftDown ltInt hi first lo d := by rw [← hE, sift_no hlt hc (by rw [hx0, hx2]; exact hm)]
          have HR := Lib.hid hR; have HG := Lib.hid hG; have HE := Lib.hid hE2
          clear hR hG hE hk hE2 hx0 hx1 hx2 hc H HN
          have a3 : IntKind.i64.wrap (2 * (r : Int) + 1 + 1) = 2 * (r : Int) + 1 + 1 := IntWalk.i64_in _ (by omega)
          have d1 : decide (2 * (r : Int) + 1 + 1 < (hi : Int)) = true := by simp; omega
          have a1 : IntKind.i64.wrap ((first : Int) + (2 * (r : Int) + 1)) = (first : Int) + (2 * (r : Int) + 1) := IntWalk.i64_in _ (by omega)
          have b1 : ((first : Int) + (2 * (r : Int) + 1)).toNat = first + (2 * r + 1) := by omega
          have g1 : (0 : Int) ≤ (first : Int) + (2 * (r : Int) + 1) := by omega
          have m1 : (first : Int) + (2 * (r : Int) + 1) < (n : Int) := by omega
          have a4 : IntKind.i64.wrap ((first : Int) + (2 * (r : Int) + 1) + 1) = (first : Int) + (2 * (r : Int) + 1) + 1 := IntWalk.i64_in _ (by omega)
          have b4 : ((first : Int) + (2 * (r : Int) + 1) + 1).toNat = first + (2 * r + 2) := by omega
          have g4 : (0 : Int) ≤ (first : Int) + (2 * (r : Int) + 1) + 1 := by omega
          have m4 : (first : Int) + (2 * (r : Int) + 1) + 1 < (n : Int) := by omega
          go_wp2
          go_quiet ((go_at_call 124; exact Calls.quiet_of_same (lessW _ _ _)))
          simp only [hl]
          clear a1 a3 a4
          go_wp2
          have a0 : IntKind.i64.wrap ((first : Int) + (r : Int)) = (first : Int) + (r : Int) := IntWalk.i64_in _ (by omega)
          have b0 : ((first : Int) + (r : Int)).toNat = first + r := by omega
          have g0 : (0 : Int) ≤ (first : Int) + (r : Int) := by omega
          have m0 : (first : Int) + (r : Int) < (n : Int) := by omega
          have a2 : IntKind.i64.wrap ((first : Int) + (2 * (r : Int) + 1 + 1)) = (first : Int) + (2 * (r : Int) + 1 + 1) := IntWalk.i64_in _ (by omega)
          have b2 : ((first : Int) + (2 * (r : Int) + 1 + 1)).toNat = first + (2 * r + 2) := by omega
          have g2 : (0 : Int) ≤ (first : Int) + (2 * (r : Int) + 1 + 1) := by omega
          have m2 : (first : Int) + (2 * (r : Int) + 1 + 1) < (n : Int) := by omega
          go_quiet ((go_at_call 124; exact less2W _ _ _ _ _))
          simp only [hm]
          go_wp2
          go_returns
          exact ⟨rfl, by rw [← HE.out]; exact (HR.out.drewN _).drewN _, (HG.out.trans (grown_drewN _ _ _)).trans (grown_drewN _ _ _)⟩
        · have hE2 : Sort.siftDown ltInt hi first (2 * r + 2) (swp k (first + r) (first + (2 * r + 2))) = Sort.siftDown ltInt hi first lo d := by rw [← hE, sift_go hlt hc (by rw [hx0, hx2]; exact hm)]
          have hS : ∀ W : World, RowW W g k → RowW ((W.setCell ⟨g, first + r, none⟩ (.int .u64 x2)).setCell ⟨g, first + (2 * r + 2), none⟩ (.int .u64 x0)) g (swp k (first + r) (first + (2 * r + 2))) := fun W h => by have := h.swap (i := first + r) (j := first + (2 * r + 2)) (by omega) (by omega); rw [hx0, hx2] at this; exact this
          have HR := Lib.hid hR; have HG := Lib.hid hG; have HE := Lib.hid hE2; have HS := Lib.hid hS; have HK := Lib.hid hk
          clear hR hG hE hk hE2 hx0 hx1 hx2 hc H HN hS
          have a3 : IntKind.i64.wrap (2 * (r : Int) + 1 + 1) = 2 * (r : Int) + 1 + 1 := IntWalk.i64_in _ (by omega)
          have d1 : decide (2 * (r : Int) + 1 + 1 < (hi : Int)) = true := by simp; omega
          have a1 : IntKind.i64.wrap ((first : Int) + (2 * (r : Int) + 1)) = (first : Int) + (2 * (r : Int) + 1) := IntWalk.i64_in _ (by omega)
          have b1 : ((first : Int) + (2 * (r : Int) + 1)).toNat = first + (2 * r + 1) := by omega
          have g1 : (0 : Int) ≤ (first : Int) + (2 * (r : Int) + 1) := by omega
          have m1 : (first : Int) + (2 * (r : Int) + 1) < (n : Int) := by omega
          have a4 : IntKind.i64.wrap ((first : Int) + (2 * (r : Int) + 1) + 1) = (first : Int) + (2 * (r : Int) + 1) + 1 := IntWalk.i64_in _ (by omega)
          have b4 : ((first : Int) + (2 * (r : Int) + 1) + 1).toNat = first + (2 * r + 2) := by omega
          have g4 : (0 : Int) ≤ (first : Int) + (2 * (r : Int) + 1) + 1 := by omega
          have m4 : (first : Int) + (2 * (r : Int) + 1) + 1 < (n : Int) := by omega
          go_wp2
          go_quiet ((go_at_call 124; exact Calls.quiet_of_same (lessW _ _ _)))
          simp only [hl]
          clear a1 a3 a4
          go_wp2
          have a0 : IntKind.i64.wrap ((first : Int) + (r : Int)) = (first : Int) + (r : Int) := IntWalk.i64_in _ (by omega)
          have b0 : ((first : Int) + (r : Int)).toNat = first + r := by omega
          have g0 : (0 : Int) ≤ (first : Int) + (r : Int) := by omega
          have m0 : (first : Int) + (r : Int) < (n : Int) := by omega
          have a2 : IntKind.i64.wrap ((first : Int) + (2 * (r : Int) + 1 + 1)) = (first : Int) + (2 * (r : Int) + 1 + 1) := IntWalk.i64_in _ (by omega)
          have b2 : ((first : Int) + (2 * (r : Int) + 1 + 1)).toNat = first + (2 * r + 2) := by omega
          have g2 : (0 : Int) ≤ (first : Int) + (2 * (r : Int) + 1 + 1) := by omega
          have m2 : (first : Int) + (2 * (r : Int) + 1 + 1) < (n : Int) := by omega
          go_quiet ((go_at_call 124; exact less2W _ _ _ _ _))
          simp only [hm]
          clear a0 a2
          go_wp2
          go_region
          go_wp2
          go_roundw
          case measure => simp [intOf]; omega
          case rel =>
            have hK2 := HK.out
            exact ⟨2 * r + 2, swp k (first + r) (first + (2 * r + 2)), by go_num, by omega, by rw [size_swp']; exact hK2, HS.out _ (HR.out.drewN _), (HG.out.trans (grown_drewN _ _ _)).trans (grown_swap _ _ _ _ _ _), HE.out⟩
      · have c2 := hR.cell (i := first + (2 * r + 2)) (by omega); have z2 := hR.frozen (i := first + (2 * r + 2)) (by omega)
        generalize hx0 : k[first + r]! = x0 at c0
        generalize hx1 : k[first + (2 * r + 1)]! = x1 at c1 hl
        generalize hx2 : k[first + (2 * r + 2)]! = x2 at c2 hl
        cases hm : ltInt x0 x1
        · have hE2 : k = Sort.siftDown ltInt hi first lo d := by rw [← hE, sift_no hlt hc (by rw [hx0, hx1]; exact hm)]
          have HR := Lib.hid hR; have HG := Lib.hid hG; have HE := Lib.hid hE2
          clear hR hG hE hk hE2 hx0 hx1 hx2 hc H HN
          have a3 : IntKind.i64.wrap (2 * (r : Int) + 1 + 1) = 2 * (r : Int) + 1 + 1 := IntWalk.i64_in _ (by omega)
          have d1 : decide (2 * (r : Int) + 1 + 1 < (hi : Int)) = true := by simp; omega
          have a1 : IntKind.i64.wrap ((first : Int) + (2 * (r : Int) + 1)) = (first : Int) + (2 * (r : Int) + 1) := IntWalk.i64_in _ (by omega)
          have b1 : ((first : Int) + (2 * (r : Int) + 1)).toNat = first + (2 * r + 1) := by omega
          have g1 : (0 : Int) ≤ (first : Int) + (2 * (r : Int) + 1) := by omega
          have m1 : (first : Int) + (2 * (r : Int) + 1) < (n : Int) := by omega
          have a4 : IntKind.i64.wrap ((first : Int) + (2 * (r : Int) + 1) + 1) = (first : Int) + (2 * (r : Int) + 1) + 1 := IntWalk.i64_in _ (by omega)
          have b4 : ((first : Int) + (2 * (r : Int) + 1) + 1).toNat = first + (2 * r + 2) := by omega
          have g4 : (0 : Int) ≤ (first : Int) + (2 * (r : Int) + 1) + 1 := by omega
          have m4 : (first : Int) + (2 * (r : Int) + 1) + 1 < (n : Int) := by omega
          go_wp2
          go_quiet ((go_at_call 124; exact Calls.quiet_of_same (lessW _ _ _)))
          simp only [hl]
          clear a1 a3 a4
          go_wp2
          have a0 : IntKind.i64.wrap ((first : Int) + (r : Int)) = (first : Int) + (r : Int) := IntWalk.i64_in _ (by omega)
          have b0 : ((first : Int) + (r : Int)).toNat = first + r := by omega
          have g0 : (0 : Int) ≤ (first : Int) + (r : Int) := by omega
          have m0 : (first : Int) + (r : Int) < (n : Int) := by omega
          have a2 : IntKind.i64.wrap ((first : Int) + (2 * (r : Int) + 1)) = (first : Int) + (2 * (r : Int) + 1) := IntWalk.i64_in _ (by omega)
          have b2 : ((first : Int) + (2 * (r : Int) + 1)).toNat = first + (2 * r + 1) := by omega
          have g2 : (0 : Int) ≤ (first : Int) + (2 * (r : Int) + 1) := by omega
          have m2 : (first : Int) + (2 * (r : Int) + 1) < (n : Int) := by omega
          go_quiet ((go_at_call 124; exact less2W _ _ _ _ _))
          simp only [hm]
          go_wp2
          go_returns
          exact ⟨rfl, by rw [← HE.out]; exact (HR.out.drewN _).drewN _, (HG.out.trans (grown_drewN _ _ _)).trans (grown_drewN _ _ _)⟩
        · have hE2 : Sort.siftDown ltInt hi first (2 * r + 1) (swp k (first + r) (first + (2 * r + 1))) = Sort.siftDown ltInt hi first lo d := by rw [← hE, sift_go hlt hc (by rw [hx0, hx1]; exact hm)]
          have hS : ∀ W : World, RowW W g k → RowW ((W.setCell ⟨g, first + r, none⟩ (.int .u64 x1)).setCell ⟨g, first + (2 * r + 1), none⟩ (.int .u64 x0)) g (swp k (first + r) (first + (2 * r + 1))) := fun W h => by have := h.swap (i := first + r) (j := first + (2 * r + 1)) (by omega) (by omega); rw [hx0, hx1] at this; exact this
          have HR := Lib.hid hR; have HG := Lib.hid hG; have HE := Lib.hid hE2; have HS := Lib.hid hS; have HK := Lib.hid hk
          clear hR hG hE hk hE2 hx0 hx1 hx2 hc H HN hS
          have a3 : IntKind.i64.wrap (2 * (r : Int) + 1 + 1) = 2 * (r : Int) + 1 + 1 := IntWalk.i64_in _ (by omega)
          have d1 : decide (2 * (r : Int) + 1 + 1 < (hi : Int)) = true := by simp; omega
          have a1 : IntKind.i64.wrap ((first : Int) + (2 * (r : Int) + 1)) = (first : Int) + (2 * (r : Int) + 1) := IntWalk.i64_in _ (by omega)
          have b1 : ((first : Int) + (2 * (r : Int) + 1)).toNat = first + (2 * r + 1) := by omega
          have g1 : (0 : Int) ≤ (first : Int) + (2 * (r : Int) + 1) := by omega
          have m1 : (first : Int) + (2 * (r : Int) + 1) < (n : Int) := by omega
          have a4 : IntKind.i64.wrap ((first : Int) + (2 * (r : Int) + 1) + 1) = (first : Int) + (2 * (r : Int) + 1) + 1 := IntWalk.i64_in _ (by omega)
          have b4 : ((first : Int) + (2 * (r : Int) + 1) + 1).toNat = first + (2 * r + 2) := by omega
          have g4 : (0 : Int) ≤ (first : Int) + (2 * (r : Int) + 1) + 1 := by omega
          have m4 : (first : Int) + (2 * (r : Int) + 1) + 1 < (n : Int) := by omega
          go_wp2
          go_quiet ((go_at_call 124; exact Calls.quiet_of_same (lessW _ _ _)))
          simp only [hl]
          clear a1 a3 a4
          go_wp2
          have a0 : IntKind.i64.wrap ((first : Int) + (r : Int)) = (first : Int) + (r : Int) := IntWalk.i64_in _ (by omega)
          have b0 : ((first : Int) + (r : Int)).toNat = first + r := by omega
          have g0 : (0 : Int) ≤ (first : Int) + (r : Int) := by omega
          have m0 : (first : Int) + (r : Int) < (n : Int) := by omega
          have a2 : IntKind.i64.wrap ((first : Int) + (2 * (r : Int) + 1)) = (first : Int) + (2 * (r : Int) + 1) := IntWalk.i64_in _ (by omega)
          have b2 : ((first : Int) + (2 * (r : Int) + 1)).toNat = first + (2 * r + 1) := by omega
          have g2 : (0 : Int) ≤ (first : Int) + (2 * (r : Int) + 1) := by omega
          have m2 : (first : Int) + (2 * (r : Int) + 1) < (n : Int) := by omega
          go_quiet ((go_at_call 124; exact less2W _ _ _ _ _))
          simp only [hm]
          clear a0 a2
          go_wp2
          go_region
          go_wp2
          go_roundw
          case measure => simp [intOf]; omega
          case rel =>
            have hK2 := HK.out
            exact ⟨2 * r + 1, swp k (first + r) (first + (2 * r + 1)), by go_num, by omega, by rw [size_swp']; exact hK2, HS.out _ (HR.out.drewN _), (HG.out.trans (grown_drewN _ _ _)).trans (grown_swap _ _ _ _ _ _), HE.out⟩
      · generalize hx0 : k[first + r]! = x0 at c0
        generalize hx1 : k[first + (2 * r + 1)]! = x1 at c1
        cases hm : ltInt x0 x1
        · have hE2 : k = Sort.siftDown ltInt hi first lo d := by rw [← hE, sift_no hlt hc (by rw [hx0, hx1]; exact hm)]
          have HR := Lib.hid hR; have HG := Lib.hid hG; have HE := Lib.hid hE2
          clear hR hG hE hk hE2 hx0 hx1 hc H HN
          have a3 : IntKind.i64.wrap (2 * (r : Int) + 1 + 1) = 2 * (r : Int) + 1 + 1 := IntWalk.i64_in _ (by omega)
          have d1 : decide (2 * (r : Int) + 1 + 1 < (hi : Int)) = false := by simp; omega
          go_wp2
          go_quiet (fail)
          clear a3
          go_wp2
          have a0 : IntKind.i64.wrap ((first : Int) + (r : Int)) = (first : Int) + (r : Int) := IntWalk.i64_in _ (by omega)
          have b0 : ((first : Int) + (r : Int)).toNat = first + r := by omega
          have g0 : (0 : Int) ≤ (first : Int) + (r : Int) := by omega
          have m0 : (first : Int) + (r : Int) < (n : Int) := by omega
          have a2 : IntKind.i64.wrap ((first : Int) + (2 * (r : Int) + 1)) = (first : Int) + (2 * (r : Int) + 1) := IntWalk.i64_in _ (by omega)
          have b2 : ((first : Int) + (2 * (r : Int) + 1)).toNat = first + (2 * r + 1) := by omega
          have g2 : (0 : Int) ≤ (first : Int) + (2 * (r : Int) + 1) := by omega
          have m2 : (first : Int) + (2 * (r : Int) + 1) < (n : Int) := by omega
          go_quiet ((go_at_call 124; exact less2W _ _ _ _ _))
          simp only [hm]
          go_wp2
          go_returns
          exact ⟨rfl, by rw [← HE.out]; exact (HR.out.drewN _).drewN _, (HG.out.trans (grown_drewN _ _ _)).trans (grown_drewN _ _ _)⟩
        · have hE2 : Sort.siftDown ltInt hi first (2 * r + 1) (swp k (first + r) (first + (2 * r + 1))) = Sort.siftDown ltInt hi first lo d := by rw [← hE, sift_go hlt hc (by rw [hx0, hx1]; exact hm)]
          have hS : ∀ W : World, RowW W g k → RowW ((W.setCell ⟨g, first + r, none⟩ (.int .u64 x1)).setCell ⟨g, first + (2 * r + 1), none⟩ (.int .u64 x0)) g (swp k (first + r) (first + (2 * r + 1))) := fun W h => by have := h.swap (i := first + r) (j := first + (2 * r + 1)) (by omega) (by omega); rw [hx0, hx1] at this; exact this
          have HR := Lib.hid hR; have HG := Lib.hid hG; have HE := Lib.hid hE2; have HS := Lib.hid hS; have HK := Lib.hid hk
          clear hR hG hE hk hE2 hx0 hx1 hc H HN hS
          have a3 : IntKind.i64.wrap (2 * (r : Int) + 1 + 1) = 2 * (r : Int) + 1 + 1 := IntWalk.i64_in _ (by omega)
          have d1 : decide (2 * (r : Int) + 1 + 1 < (hi : Int)) = false := by simp; omega
          go_wp2
          go_quiet (fail)
          clear a3
          go_wp2
          have a0 : IntKind.i64.wrap ((first : Int) + (r : Int)) = (first : Int) + (r : Int) := IntWalk.i64_in _ (by omega)
          have b0 : ((first : Int) + (r : Int)).toNat = first + r := by omega
          have g0 : (0 : Int) ≤ (first : Int) + (r : Int) := by omega
          have m0 : (first : Int) + (r : Int) < (n : Int) := by omega
          have a2 : IntKind.i64.wrap ((first : Int) + (2 * (r : Int) + 1)) = (first : Int) + (2 * (r : Int) + 1) := IntWalk.i64_in _ (by omega)
          have b2 : ((first : Int) + (2 * (r : Int) + 1)).toNat = first + (2 * r + 1) := by omega
          have g2 : (0 : Int) ≤ (first : Int) + (2 * (r : Int) + 1) := by omega
          have m2 : (first : Int) + (2 * (r : Int) + 1) < (n : Int) := by omega
          go_quiet ((go_at_call 124; exact less2W _ _ _ _ _))
          simp only [hm]
          clear a0 a2
          go_wp2
          go_region
          go_wp2
          go_roundw
          case measure => simp [intOf]; omega
          case rel =>
            have hK2 := HK.out
            exact ⟨2 * r + 1, swp k (first + r) (first + (2 * r + 1)), by go_num, by omega, by rw [size_swp']; exact hK2, HS.out _ (HR.out.drewN _), (HG.out.trans (grown_drewN _ _ _)).trans (grown_swap _ _ _ _ _ _), HE.out⟩
    · have hE2 : k = Sort.siftDown ltInt hi first lo d := by rw [← hE, sift_stop (by omega)]
      have HR := Lib.hid hR; have HG := Lib.hid hG; have HE := Lib.hid hE2
      clear hR hG hE hk hE2 H HN
      go_wp2
      go_returns
      exact ⟨rfl, by rw [← HE.out]; exact HR.out, HG.out⟩
end Go.Proofs.YtclhhegfffccgaaGreat
