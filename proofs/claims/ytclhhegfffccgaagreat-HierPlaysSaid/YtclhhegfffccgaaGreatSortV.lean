/-
  slices.Sort of words: the pivot; the heap.
-/
import Derived.Test.YtclhhegfffccgaaGreatSortU
namespace Go.Proofs.YtclhhegfffccgaaGreat
set_option linter.unusedVariables false
open Go.RowKit Go.Sort

/-- what order2Ordered hands back -/
def Ord2 (w : World) (s a b n : Nat) (e : Ending) (w' : World) : Prop :=
  ∃ x y n' : Nat, e = .returned (.tuple #[.int .i64 x, .int .i64 y]) ∧ (x = a ∧ y = b ∨ x = b ∧ y = a) ∧ n' ≤ n + 1 ∧ Blk w' s 3 #[.int .i64 n'] ∧ w.grownBy w' (some s)
set_option maxHeartbeats 1000000 in
theorem order2W (g cap a b s n : Nat) (d : Array Int) (w : World) (h : RowW w g d) (hs : Blk w s 3 #[.int .i64 n]) (hn : n ≤ 100) (ha : a < d.size) (hb : b < d.size) (hsz : d.size ≤ 1000000) :
    Calls Tryz.prog 130 #[.slice (some ⟨g, 0, none⟩) d.size cap, .int .i64 a, .int .i64 b, .pointer (some ⟨s, 0, none⟩)] w (Ord2 w s a b n) := by
  have c1 := h.cell ha; have c2 := h.cell hb
  have s0 := hs.cell 0; have z0 := hs.frozen 0
  simp only [List.getElem?_toArray, List.getElem?_cons_zero, List.getElem?_cons_succ] at s0
  have HS := Lib.hid hs
  clear h hs
  generalize d[a]! = x at c1
  generalize d[b]! = y at c2
  generalize d.size = m at *
  go_enter Tryz.func130, Tryz.ntmps130
  cases hl : ltInt y x
  · go_wp2
    go_quiet ((go_at_call 124; exact Calls.quiet_of_same (lessW _ _ _)))
    simp only [hl]
    go_wp2
    go_ret2
    exact ⟨a, b, n, rfl, .inl ⟨rfl, rfl⟩, by omega, HS.out.drewN _, grown_drewN _ _ _⟩
  · go_wp2
    go_quiet ((go_at_call 124; exact Calls.quiet_of_same (lessW _ _ _)))
    simp only [hl]
    go_wp2
    go_ret2
    refine ⟨b, a, n + 1, rfl, .inr ⟨rfl, rfl⟩, by omega, ?_, (grown_drewN _ _ _).trans (grown_setW _ _ _ _)⟩
    have := (HS.out.drewN nq).set_ 0 (.int .i64 ((n : Int) + 1))
    simpa using this

/-- what the medians hand back -/
def MedW (w : World) (s n : Nat) (ok : Nat → Prop) (e : Ending) (w' : World) : Prop :=
  ∃ x n' : Nat, e = .returned (.int .i64 x) ∧ ok x ∧ n' ≤ n + 3 ∧ Blk w' s 3 #[.int .i64 n'] ∧ w.grownBy w' (some s)
set_option maxHeartbeats 1000000 in
theorem medianW (g cap a b c s n : Nat) (d : Array Int) (w : World) (h : RowW w g d) (hs : Blk w s 3 #[.int .i64 n]) (hne : g ≠ s) (hn : n ≤ 90) (ha : a < d.size) (hb : b < d.size) (hc : c < d.size) (hsz : d.size ≤ 1000000) :
    Calls Tryz.prog 129 #[.slice (some ⟨g, 0, none⟩) d.size cap, .int .i64 a, .int .i64 b, .int .i64 c, .pointer (some ⟨s, 0, none⟩)] w (MedW w s n fun x => x = a ∨ x = b ∨ x = c) := by
  have h1 := order2W g cap a b s n d w h hs (by omega) ha hb hsz
  have H := Lib.hid h; have HS := Lib.hid hs
  have hl := Lib.hid (And.intro ha (And.intro hb hc))
  clear h hs ha hb hc
  go_enter Tryz.func129, Tryz.ntmps129
  go_wp2_with fail
  refine h1.mono ?_
  clear h1
  rintro e w1 ⟨x1, y1, n1, rfl, hxy, hn1, hs1, hg1⟩
  have hl1 := hl.out
  have h2 := order2W g cap y1 c s n1 d w1 (H.out.kept hg1 (by simpa using hne)) hs1 (by omega) (by omega) (by omega) hsz
  have HG1 := Lib.hid hg1; have HX := Lib.hid hxy
  clear hxy hg1 hs1 hl1
  go_wp2_with fail
  refine h2.mono ?_
  clear h2
  rintro e w2 ⟨x2, y2, n2, rfl, hxy2, hn2, hs2, hg2⟩
  have hl1 := hl.out
  have hX := HX.out
  have h3 := order2W g cap x1 x2 s n2 d w2 ((H.out.kept HG1.out (by simpa using hne)).kept hg2 (by simpa using hne)) hs2 (by omega) (by omega) (by omega) hsz
  have HG2 := Lib.hid (HG1.out.trans hg2); have HX2 := Lib.hid hxy2
  clear hxy2 hg2 hs2 hl1 hX
  go_wp2_with fail
  refine h3.mono ?_
  clear h3
  rintro e w3 ⟨x3, y3, n3, rfl, hxy3, hn3, hs3, hg3⟩
  have HG3 := Lib.hid (HG2.out.trans hg3); have HX3 := Lib.hid hxy3; have HS3 := Lib.hid hs3
  clear hxy3 hg3 hs3
  go_wp2_with fail
  go_ret
  have a1 := HX.out; have a2 := HX2.out; have a3 := HX3.out
  exact ⟨y3, n3, rfl, by omega, by omega, HS3.out, HG3.out⟩

set_option maxHeartbeats 1000000 in
theorem medAdjW (g cap a s n : Nat) (d : Array Int) (w : World) (h : RowW w g d) (hs : Blk w s 3 #[.int .i64 n]) (hne : g ≠ s) (hn : n ≤ 90) (ha : 1 ≤ a) (hb : a + 1 < d.size) (hsz : d.size ≤ 1000000) :
    Calls Tryz.prog 128 #[.slice (some ⟨g, 0, none⟩) d.size cap, .int .i64 a, .pointer (some ⟨s, 0, none⟩)] w (MedW w s n fun x => x = a - 1 ∨ x = a ∨ x = a + 1) := by
  have h1 := medianW g cap (a - 1) a (a + 1) s n d w h hs hne hn (by omega) (by omega) (by omega) hsz
  rw [show ((a - 1 : Nat) : Int) = (a : Int) - 1 by omega, show ((a + 1 : Nat) : Int) = (a : Int) + 1 by omega] at h1
  clear h hs
  go_enter Tryz.func128, Tryz.ntmps128
  go_wp2_with fail
  refine h1.mono ?_
  clear h1
  rintro e w1 ⟨x1, n1, rfl, hx, hn1, hs1, hg1⟩
  have HX := Lib.hid hx; have HS := Lib.hid hs1; have HG := Lib.hid hg1
  clear hx hs1 hg1
  go_wp2_with fail
  go_ret
  exact ⟨x1, n1, rfl, HX.out, hn1, HS.out, HG.out⟩

/-- what choosePivotOrdered hands back -/
def PivW (w : World) (a b : Nat) (e : Ending) (w' : World) : Prop :=
  ∃ (p : Nat) (h : Int), e = .returned (.tuple #[.int .i64 p, .int .i64 h]) ∧ a ≤ p ∧ p < b ∧ (h = 0 ∨ h = 1 ∨ h = 2) ∧ w.grownBy w' none
set_option maxHeartbeats 4000000 in
theorem pivotW (g cap a b : Nat) (d : Array Int) (w : World) (h : RowW w g d) (hab : a + 8 ≤ b) (hb : b ≤ d.size) (hsz : d.size ≤ 1000000) :
    Calls Tryz.prog 121 #[.slice (some ⟨g, 0, none⟩) d.size cap, .int .i64 a, .int .i64 b] w (PivW w a b) := by
  have hs0 := Blk.new w 3 #[.int .i64 0]
  have hne : g ≠ w.heap.size := by have := h.lt; omega
  have h0 := h.kept (World.grownBy_alloc w (.cells #[.int .i64 0] 3) none) (by simp)
  obtain ⟨q, hq⟩ : ∃ q, q = (b - a) / 4 := ⟨_, rfl⟩
  have q1 : ((b : Int) - (a : Int)) / 4 = (q : Int) := by omega
  have hq2 : 2 ≤ q ∧ a + q * 4 ≤ b ∧ b < a + q * 4 + 4 := by omega
  have HQ1 := Lib.hid q1
  clear q1 hq
  have e1 : ((a + q : Nat) : Int) = (a : Int) + (q : Int) := by omega
  have e2 : ((a + q * 2 : Nat) : Int) = (a : Int) + (q : Int) * 2 := by omega
  have e3 : ((a + q * 3 : Nat) : Int) = (a : Int) + (q : Int) * 3 := by omega
  have HE1 := Lib.hid e1; have HE2 := Lib.hid e2; have HE3 := Lib.hid e3
  have H0 := Lib.hid h0
  clear e1 e2 e3
  by_cases h8 : a + 50 ≤ b
  · have hm1 := medAdjW g cap (a + q) w.heap.size 0 d _ h0 hs0 hne (by omega) (by omega) (by omega) hsz
    clear h0 hs0 h
    rw [HE1.out] at hm1
    go_enter Tryz.func121, Tryz.ntmps121
    go_wp2_with fail
    simp only [HQ1.out]
    refine hm1.mono ?_
    clear hm1
    rintro e w1 ⟨x1, n1, rfl, hx1, hn1, hs1, hg1⟩
    have HG1 := Lib.hid hg1; have HX1 := Lib.hid hx1
    have hm2 := medAdjW g cap (a + q * 2) w.heap.size n1 d w1 (H0.out.kept hg1 (by simpa using hne)) hs1 hne (by omega) (by omega) (by omega) hsz
    rw [HE2.out] at hm2
    clear hx1 hs1 hg1
    go_wp2_with fail
    refine hm2.mono ?_
    clear hm2
    rintro e w2 ⟨x2, n2, rfl, hx2, hn2, hs2, hg2⟩
    have HG2 := Lib.hid (HG1.out.trans hg2); have HX2 := Lib.hid hx2
    have hm3 := medAdjW g cap (a + q * 3) w.heap.size n2 d w2 (H0.out.kept HG2.out (by simpa using hne)) hs2 hne (by omega) (by omega) (by omega) hsz
    rw [HE3.out] at hm3
    clear hx2 hs2 hg2
    go_wp2_with fail
    refine hm3.mono ?_
    clear hm3
    rintro e w3 ⟨x3, n3, rfl, hx3, hn3, hs3, hg3⟩
    have HG3 := Lib.hid (HG2.out.trans hg3); have HX3 := Lib.hid hx3
    have hm4 := medianW g cap x1 x2 x3 w.heap.size n3 d w3 (H0.out.kept HG3.out (by simpa using hne)) hs3 hne (by omega) (by have := HX1.out; omega) (by have := HX2.out; omega) (by omega) hsz
    clear hx3 hs3 hg3
    go_wp2_with fail
    refine hm4.mono ?_
    clear hm4
    rintro e w4 ⟨x4, n4, rfl, hx4, hn4, hs4, hg4⟩
    have HG4 := Lib.hid (HG3.out.trans hg4); have HX4 := Lib.hid hx4
    have c0 := hs4.cell 0
    simp only [List.getElem?_toArray, List.getElem?_cons_zero, List.getElem?_cons_succ] at c0
    clear hx4 hs4 hg4
    have hgn : w.grownBy w4 none := ⟨HG4.out.os, HG4.out.tape, HG4.out.output, by have := HG4.out.size; simp at this; omega, fun k hk _ => (HG4.out.block k (by simp; omega) (by simp; omega)).trans (Below.heap_alloc w _ k hk)⟩
    have HGN := Lib.hid hgn
    clear hgn
    go_wp2_with fail
    all_goals
      go_ret2
      have a1 := HX1.out; have a2 := HX2.out; have a3 := HX3.out; have a4 := HX4.out
      exact ⟨x4, _, rfl, by omega, by omega, by omega, HGN.out⟩
  · have hm4 := medianW g cap (a + q) (a + q * 2) (a + q * 3) w.heap.size 0 d _ h0 hs0 hne (by omega) (by omega) (by omega) (by omega) hsz
    rw [HE1.out, HE2.out, HE3.out] at hm4
    clear h0 hs0 h
    go_enter Tryz.func121, Tryz.ntmps121
    go_wp2_with fail
    simp only [HQ1.out]
    refine hm4.mono ?_
    clear hm4
    rintro e w4 ⟨x4, n4, rfl, hx4, hn4, hs4, hg4⟩
    have HX4 := Lib.hid hx4
    have c0 := hs4.cell 0
    simp only [List.getElem?_toArray, List.getElem?_cons_zero, List.getElem?_cons_succ] at c0
    have hgn : w.grownBy w4 none := ⟨hg4.os, hg4.tape, hg4.output, by have := hg4.size; simp at this; omega, fun k hk _ => (hg4.block k (by simp; omega) (by simp; omega)).trans (Below.heap_alloc w _ k hk)⟩
    have HGN := Lib.hid hgn
    clear hgn hx4 hs4 hg4
    go_wp2_with fail
    all_goals
      go_ret2
      have a4 := HX4.out
      exact ⟨x4, _, rfl, by omega, by omega, by omega, HGN.out⟩
end Go.Proofs.YtclhhegfffccgaaGreat
