/-
  What is spare beside curves: sums.Spare; is a curve below another one: sums.Below.
-/
import Derived.Test.YtkeffkfjgblicaaKept
namespace Go.Proofs.Ytkeffkfjgblicaa
set_option linter.unusedVariables false
open Go.RowKit

set_option maxHeartbeats 1000000 in
theorem spare_any (v : Value) (l : List Cv) (r : Int) (w : World) (h : CvAt w v l) (hr : U r) (hl : l.length < 1000000) :
    Calls Try.prog 21 #[v, .int .u64 r] w (SpareW w l r) := by
  obtain ⟨a, n0, cap, rfl⟩ : ∃ a n cap, v = .slice a n cap := by obtain ⟨_, _, a, cap, e, _⟩ := h; exact ⟨a, _, cap, e⟩
  have hb0 := ((Below.refl w.heap.size w).alloc (Nat.le_refl _) (.cells #[.slice a n0 cap] 22)).alloc (by simp) (.cells #[.int .u64 r] 23)
  have hk := kept_any _ l r _ (h.later hb0) hr
  have b0 := (Boxed.new w 22 (.slice a n0 cap)).alloc (.cells #[.int .u64 r] 23)
  have b1 := Boxed.new (w.alloc (.cells #[.slice a n0 cap] 22)) 23 (.int .u64 r)
  rw [World.size_alloc] at b1
  have H := Lib.hid (And.intro h (And.intro b0 (And.intro b1 hb0)))
  clear h b0 b1 hb0
  go_enter Try.func21, Try.ntmps21
  go_wp2_with fail
  refine hk.mono ?_
  clear hk
  rintro e w1 ⟨rfl, hb1⟩
  by_cases hK : Keep l r
  · obtain ⟨h, b0, b1, hb0⟩ := H.out
    have hcv := (h.later hb0).later hb1
    have b0' : Boxed w1 w.heap.size 22 (.slice a n0 cap) := (hb1.block _ b0.lt).trans b0
    have b1' : Boxed w1 (w.heap.size + 1) 23 (.int .u64 r) := (hb1.block _ b1.lt).trans b1
    have hse := search_any 54 #[.pointer (some ⟨w.heap.size, 0, none⟩), .pointer (some ⟨w.heap.size + 1, 0, none⟩)] 1048576 (fun i => !decide (Keep (l ++ [(0, 0, (i : Int) + 1)]) r)) w1 (enters_of Try.func54 (by kernel_rfl) rfl) (by decide)
      (fun W i hW hi => (beside_any (.slice a n0 cap) l r _ _ i W (hcv.later hW) ((hW.block _ b0'.lt).trans b0') ((hW.block _ b1'.lt).trans b1') hr (by omega) hl).mono fun _ _ h => h)
      (fun x y hxy hy hp => by
        have hx : ¬ Keep (l ++ [(0, 0, (x : Int) + 1)]) r := by simpa using hp
        have : ¬ Keep (l ++ [(0, 0, (y : Int) + 1)]) r := fun hk => hx (keep_straight hk (by omega) (by omega))
        simpa using this)
    have hkt : decide (Keep l r) = true := decide_eq_true hK
    have HB1 := Lib.hid (hb0.trans (hb1.mono hb0.size)); have HK := Lib.hid hK
    simp only [hkt]
    clear h b0 b1 hb0 hb1 hcv b0' b1' hK hkt H
    go_wp2_with fail
    refine hse.mono ?_
    clear hse
    rintro e w2 ⟨m, rfl, hm1, hm2, hm3, hb2⟩
    have hI : IsSpare l r m := by
      refine ⟨by omega, by omega, ?_, ?_⟩
      · by_cases h0 : m = 0
        · subst h0; exact keep_straight0.2 HK.out
        · have := hm2 (m - 1) (by omega)
          have h1 : Keep (l ++ [(0, 0, ((m - 1 : Nat) : Int) + 1)]) r := by simpa using this
          rwa [show ((m - 1 : Nat) : Int) + 1 = (m : Int) by omega] at h1
      · by_cases h1 : m = 1048576
        · exact .inl (by omega)
        · have := hm3 m (by omega) (by omega)
          exact .inr (by simpa using this)
    have HI := Lib.hid hI; have HB2 := Lib.hid (HB1.out.trans (hb2.mono HB1.out.size))
    clear hI hm2 hm3 hb2 HB1
    go_wp2_with fail
    go_ret2
    exact ⟨.inl ⟨m, rfl, HK.out, HI.out⟩, HB2.out⟩
  · have hkf : decide (Keep l r) = false := decide_eq_false hK
    have HB := Lib.hid (H.out.2.2.2.trans (hb1.mono H.out.2.2.2.size)); have HK := Lib.hid hK
    simp only [hkf]
    clear hb1 hK hkf H
    go_wp2_with fail
    go_ret2
    exact ⟨.inr ⟨rfl, HK.out⟩, HB.out⟩
end Go.Proofs.Ytkeffkfjgblicaa
