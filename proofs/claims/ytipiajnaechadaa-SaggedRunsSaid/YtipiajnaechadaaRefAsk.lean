/-
  The document's copies: the least of all; what they have; when they have so much, found by halves.
-/
import Derived.Test.YtipiajnaechadaaRefOne
namespace Go.Proofs.Ytipiajnaechadaa
set_option linter.unusedVariables false
open Go.RowKit

theorem hasK_bd {F L R t : Int} {a : Int × Int} (hM : MayC F L R) (hx0 : 0 ≤ a.1) (hxt : a.1 ≤ t) (ht : U t) (hy : 0 ≤ a.2 ∧ a.2 ≤ 4611686018427387904) : 0 ≤ hasK F L R a t ∧ hasK F L R a t < 340282366920938463463374607431768211456 := by
  have h0 := W_nonneg hM.f0 hM.r0 hM.l0 (t := t - a.1) (by omega)
  have h1 := W_upper hM (u := t - a.1) (by omega)
  unfold U at ht
  unfold hasK
  omega
theorem cmp_case (n m : Int) : ∃ c, cmpI n m = c ∧ ((n < m ∧ c < 0) ∨ (m ≤ n ∧ decide (c < 0) = false)) := by
  refine ⟨_, rfl, ?_⟩
  by_cases h : n < m
  · exact .inl ⟨h, by rw [cmpI_lt h]; decide⟩
  · exact .inr ⟨by omega, by unfold cmpI; rw [if_neg h]; split <;> decide⟩

section
variable {w : World} {c base : Nat} {F L R x : Int} {A : List (Int × Int)}
set_option maxRecDepth 20000 in
set_option maxHeartbeats 2000000 in
theorem copies_wide (h : CopiesAt w c base F L R A) (hM : MayC F L R) (hN : Nums x A) (a : Int × Int) (B : List (Int × Int)) (hA : A = a :: B) (t : Int) (ht : U t) (hxt : x ≤ t) :
    Calls Try.prog 73 #[.pointer (some ⟨c, 0, none⟩), .int .u64 t] w fun e w' => e = .returned (wv (leastW F L R t (hasK F L R a t) B)) ∧ Below w.heap.size w w' := by
  have HC := Lib.hid h; have HM := Lib.hid hM; have HN := Lib.hid hN; have HA := Lib.hid hA
  have hbd : ∀ q ∈ A, 0 ≤ q.1 ∧ q.1 ≤ t ∧ U q.2 ∧ 0 ≤ hasK F L R q t ∧ hasK F L R q t < 340282366920938463463374607431768211456 := fun q hq => by
    have hq2 := hN.num q hq
    exact ⟨hq2.1, by omega, ⟨hq2.2.2.1, by omega⟩, hasK_bd hM hq2.1 (by omega) ht ⟨hq2.2.2.1, hq2.2.2.2⟩⟩
  have HBD := Lib.hid hbd
  have hfew := hN.few
  have hlw : ∀ k, 0 ≤ leastW F L R t (hasK F L R a t) (B.take k) ∧ leastW F L R t (hasK F L R a t) (B.take k) < 340282366920938463463374607431768211456 := fun k => by
    have ha := hbd a (by rw [hA]; simp)
    have h1 := leastW_nonneg (F := F) (L := L) (R := R) (t := t) (B.take k) (hasK F L R a t) ha.2.2.2.1 (fun q hq => (hbd q (by rw [hA]; exact List.mem_cons_of_mem _ (List.mem_of_mem_take hq))).2.2.2.1)
    exact ⟨h1.1, Int.lt_of_le_of_lt h1.2 ha.2.2.2.2⟩
  have HLW := Lib.hid hlw
  have ha := hbd a (by rw [hA]; simp)
  obtain ⟨m0, hm0⟩ : ∃ m0, hasK F L R a t = m0 := ⟨_, rfl⟩
  have HM0 := Lib.hid hm0
  have hl : A.length = B.length + 1 := by rw [hA]; rfl
  obtain ⟨vx, vy, hB, hrx, hry⟩ := h
  obtain ⟨ax, cx, hvx⟩ := hrx.shape
  rw [List.length_map] at hvx
  subst hvx
  have HB := Lib.hid hB
  have hlc : (A.length : Int) = (B.length : Int) + 1 := by omega
  have HL := Lib.hid hlc
  clear hM hN hbd hlw hm0 hA hB hrx hry hl hlc
  have hb0 := (Below.refl w.heap.size w).alloc (Nat.le_refl _) (.cells #[.int .u64 0, .int .u64 0] 99)
  have bP0 := Blk.new w 99 #[.int .u64 0, .int .u64 0]
  have HB0 := Lib.hid hb0; have HP0 := Lib.hid bP0
  clear hb0 bP0
  go_enter Try.func73, Try.ntmps73
  go_wp2_with (go_at_call 87; refine (copies_one (HC.out.below HB0.out) HM.out hfew (k := 0) (x := a.1) (y := a.2) (by rw [HA.out]; rfl) ht ha.1 ha.2.1 ha.2.2.1).mono ?_; rintro e' w1 ⟨rfl, hb1⟩; rw [HM0.out])
  have bP1 := (HP0.out.below hb1 HP0.out.lt).alloc (.cells #[.int .u64 (hiW m0), .int .u64 (loW m0)] 99)
  have bL1 := Blk.new w1 99 #[.int .u64 (hiW m0), .int .u64 (loW m0)]
  have hw1 : Below w.heap.size w (w1.alloc (.cells #[.int .u64 (hiW m0), .int .u64 (loW m0)] 99)) := (HB0.out.trans (hb1.mono HB0.out.size)).alloc (by have := hb1.size; simp at this; omega) _
  have hpl : w.heap.size < w1.heap.size := by have := hb1.size; simp at this; omega
  have HP1 := Lib.hid bP1; have HL1 := Lib.hid bL1; have HW1 := Lib.hid hw1
  clear bP1 bL1 hw1 hb1
  go_loopw [6] (fun i W => ∃ j : Nat, j ≤ B.length ∧ i = .int .i64 ((j : Int) + 1) ∧ Blk W w1.heap.size 99 #[.int .u64 (hiW (leastW F L R t m0 (B.take j))), .int .u64 (loW (leastW F L R t m0 (B.take j)))] ∧ Blk W w.heap.size 99 #[.int .u64 0, .int .u64 0] ∧ Below w.heap.size w W) (fun i _ => (B.length + 1) - (intOf i).toNat)
  case atStart => exact ⟨0, by omega, by go_num, by simpa [leastW] using HL1.out, HP1.out, HW1.out⟩
  case round =>
    obtain ⟨j, hj, rfl, hbl, hbp, hbw⟩ := hrel
    have hBw := HB.out.below hbw HB.out.lt
    have c3 := hBw.cell 3
    simp only [List.getElem?_toArray, List.getElem?_cons_zero, List.getElem?_cons_succ] at c3
    have HBL := Lib.hid hbl; have HBP := Lib.hid hbp; have HBW := Lib.hid hbw
    clear hbl hbp hBw hbw
    by_cases hlt : j < B.length
    · obtain ⟨⟨p, q⟩, hq⟩ : ∃ q, B[j]? = some q := ⟨_, List.getElem?_eq_getElem (by omega)⟩
      have hmem := HBD.out (p, q) (by rw [HA.out]; exact List.mem_cons_of_mem _ (List.mem_of_getElem? hq))
      obtain ⟨n, hn⟩ : ∃ n, hasK F L R (p, q) t = n := ⟨_, rfl⟩
      have hAk : A[j + 1]? = some (p, q) := by rw [HA.out]; simpa using hq
      have hnext : leastW F L R t m0 (B.take (j + 1)) = if n < leastW F L R t m0 (B.take j) then n else leastW F L R t m0 (B.take j) := by
        rw [List.take_add_one, hq, ← hn]
        exact leastW_snoc F L R t m0 _ _
      have hlwj := HLW.out j
      rw [HM0.out] at hlwj
      obtain ⟨m, hm⟩ : ∃ m, leastW F L R t m0 (B.take j) = m := ⟨_, rfl⟩
      have hbl2 := HBL.out
      rw [hm] at hbl2 hlwj hnext
      rw [hn] at hmem
      obtain ⟨cc, hcc, htst⟩ := cmp_case n m
      have HN1 := Lib.hid hn; have HAK := Lib.hid hAk; have HNX := Lib.hid hnext; have HCC := Lib.hid hcc; have HL2 := Lib.hid hbl2
      have hcs : (j : Int) + 1 = ((j + 1 : Nat) : Int) := by omega
      have hc1 := HC.out.below HBW.out
      have hlt2 : (j : Int) + 1 < (A.length : Int) := by have := HL.out; omega
      have HCA := Lib.hid hc1
      clear hq hn hAk hnext hm hcc hbl2 hc1 HBL
      have hone := copies_one HCA.out HM.out hfew HAK.out ht hmem.1 hmem.2.1 hmem.2.2.1
      rw [← hcs, HN1.out] at hone
      have HONE := Lib.hid hone
      clear hone hcs
      rcases htst with ⟨hlt1, hc0⟩ | ⟨hlt1, hc0⟩
      · rw [if_pos hlt1] at HNX
        go_wp2_with (first
          | (go_at_call 87; refine HONE.out.mono ?_; rintro e' w2 ⟨rfl, hb2⟩; have bL2 := (HL2.out.below hb2 HL2.out.lt).alloc (.cells #[.int .u64 (hiW n), .int .u64 (loW n)] 99); have bN := Blk.new w2 99 #[.int .u64 (hiW n), .int .u64 (loW n)]; have c0 := bL2.cell 0; have c1 := bL2.cell 1; have d0 := bN.cell 0; have d1 := bN.cell 1; simp only [List.getElem?_toArray, List.getElem?_cons_zero, List.getElem?_cons_succ] at c0 c1 d0 d1; have hl2 := bL2.lt)
          | (go_at_call 83; refine (ref_cmp n m _ hmem.2.2.2.1 hmem.2.2.2.2 hlwj.1 hlwj.2).mono ?_; rintro e' w3 ⟨rfl, hb3⟩; rw [HCC.out]; have bL3 := bL2.below hb3 bL2.lt; have bN3 := bN.below hb3 bN.lt; have e0 := bL3.frozen 0; have e1 := bL3.frozen 1; have x0 := bL3.cell 0; have x1 := bL3.cell 1; have f0 := bN3.cell 0; have f1 := bN3.cell 1; simp only [List.getElem?_toArray, List.getElem?_cons_zero, List.getElem?_cons_succ] at f0 f1 x0 x1; have hl3 := bL3.lt))
        have hb23 := ((Below.refl w2.heap.size w2).alloc (Nat.le_refl _) (.cells #[.int .u64 (hiW n), .int .u64 (loW n)] 99)).trans (hb3.mono (by simp))
        have hbw3 := HBW.out.trans ((hb2.trans (hb23.mono hb2.size)).mono HBW.out.size)
        have hne : w.heap.size ≠ w1.heap.size := by omega
        have bP3 := (HBP.out.below hb2 HBP.out.lt).below hb23 (HBP.out.below hb2 HBP.out.lt).lt
        have fin1 := (bL3.set_ 0 (.int .u64 (hiW n))).set_ 1 (.int .u64 (loW n))
        simp only [List.setIfInBounds_toArray, List.set_cons_zero, List.set_cons_succ] at fin1
        have fin2 := (bP3.far (p := ⟨w1.heap.size, 0, none⟩) hne (.int .u64 (hiW n))).far (p := ⟨w1.heap.size, 1, none⟩) hne (.int .u64 (loW n))
        have fin3 := (hbw3.setCell (p := ⟨w1.heap.size, 0, none⟩) (by simp only; omega) (.int .u64 (hiW n))).setCell (p := ⟨w1.heap.size, 1, none⟩) (by simp only; omega) (.int .u64 (loW n))
        go_roundw
        case rel => exact ⟨j + 1, by omega, by go_num, by rw [HNX.out]; exact fin1, fin2, fin3⟩
        case measure => simp [intOf]; omega
      · rw [if_neg (by omega)] at HNX
        go_wp2_with (first
          | (go_at_call 87; refine HONE.out.mono ?_; rintro e' w2 ⟨rfl, hb2⟩; have bL2 := (HL2.out.below hb2 HL2.out.lt).alloc (.cells #[.int .u64 (hiW n), .int .u64 (loW n)] 99); have bN := Blk.new w2 99 #[.int .u64 (hiW n), .int .u64 (loW n)]; have c0 := bL2.cell 0; have c1 := bL2.cell 1; have d0 := bN.cell 0; have d1 := bN.cell 1; simp only [List.getElem?_toArray, List.getElem?_cons_zero, List.getElem?_cons_succ] at c0 c1 d0 d1; have hl2 := bL2.lt)
          | (go_at_call 83; refine (ref_cmp n m _ hmem.2.2.2.1 hmem.2.2.2.2 hlwj.1 hlwj.2).mono ?_; rintro e' w3 ⟨rfl, hb3⟩; rw [HCC.out]; have bL3 := bL2.below hb3 bL2.lt))
        have hb23 := ((Below.refl w2.heap.size w2).alloc (Nat.le_refl _) (.cells #[.int .u64 (hiW n), .int .u64 (loW n)] 99)).trans (hb3.mono (by simp))
        have hbw3 := HBW.out.trans ((hb2.trans (hb23.mono hb2.size)).mono HBW.out.size)
        have bP3 := (HBP.out.below hb2 HBP.out.lt).below hb23 (HBP.out.below hb2 HBP.out.lt).lt
        go_roundw
        case rel => exact ⟨j + 1, by omega, by go_num, by rw [HNX.out]; exact bL3, bP3, hbw3⟩
        case measure => simp [intOf]; omega
    · obtain rfl : j = B.length := by omega
      have hbl2 := HBL.out
      rw [List.take_of_length_le (Nat.le_refl _)] at hbl2
      obtain ⟨m, hm⟩ : ∃ m, leastW F L R t m0 B = m := ⟨_, rfl⟩
      rw [hm] at hbl2
      have HMM := Lib.hid hm
      clear hm
      have c0 := hbl2.cell 0; have c1 := hbl2.cell 1
      have d0 := HBP.out.frozen 0; have d1 := HBP.out.frozen 1
      have x0 := HBP.out.cell 0; have x1 := HBP.out.cell 1
      simp only [List.getElem?_toArray, List.getElem?_cons_zero, List.getElem?_cons_succ] at c0 c1 x0 x1
      have hge : decide ((B.length : Int) + 1 < (A.length : Int)) = false := by have := HL.out; simp; omega
      go_wp2
      have r0 := ((HBP.out.set_ 0 (.int .u64 (hiW m))).set_ 1 (.int .u64 (loW m))).cell 0
      have r1 := ((HBP.out.set_ 0 (.int .u64 (hiW m))).set_ 1 (.int .u64 (loW m))).cell 1
      simp at r0 r1
      refine bodyPost_ret (v := .agg #[.int .u64 (hiW m), .int .u64 (loW m)]) (by simp [results, Try.results73, go_sem, r0, r1]) rfl ⟨by rw [HM0.out, HMM.out], ?_⟩
      exact (HBW.out.setCell (by simp) _).setCell (by simp) _
end

end Go.Proofs.Ytipiajnaechadaa
