/-
  A bent run, from outside: what is asked of it, by the copies that started.
-/
import Derived.Test.YtipiajnaechadaaBentStart
import Derived.Test.YtipiajnaechadaaHas
namespace Go.Proofs.Ytipiajnaechadaa
set_option linter.unusedVariables false
open Go.RowKit

/-- when a run without copies has y -/
def nevB (y : Int) : Int := if y = 0 then 0 else 9223372036854775808

set_option maxHeartbeats 1000000 in
theorem bnew_ok (F L R : Int) (w : World) (hF : 0 ≤ F) (hL : 0 ≤ L) (hR : 0 ≤ R) (h1 : mayB F L R = true) (h2 : R < F) :
    Calls Try.prog 29 #[.agg #[.int .u64 F, .int .u64 L, .int .u64 R]] w fun e w' =>
      ∃ g, e = .returned (.tuple #[.pointer (some ⟨g, 0, none⟩), .int .i64 0]) ∧ w.heap.size ≤ g ∧ BentAt w' g F L R 0 [] ∧ Below w.heap.size w w' := by
  have hal := (Below.refl w.heap.size w).alloc (Nat.le_refl _) (.cells #[.int .u64 F, .int .u64 L, .int .u64 R] 24)
  have nb := Blk.new w 24 #[.int .u64 F, .int .u64 L, .int .u64 R]
  have nl := nb.lt
  have HN := Lib.hid nb
  have hd : decide (R < F) = true := by simp; omega
  have hM := mayB_spec hF hL hR h1
  have H := Lib.hid h1
  clear nb h1
  go_enter Try.func29, Try.ntmps29
  go_wp2_with (first
    | (go_at_call 28; refine (may_any F L R _ hL).mono ?_; rintro e w1 ⟨rfl, hb1⟩; rw [H.out]; have n1 := HN.out.below hb1 nl; have a0 := n1.cell 0; have a1 := n1.cell 1; have a2 := n1.cell 2; simp only [List.getElem?_toArray, List.getElem?_cons_zero, List.getElem?_cons_succ] at a0 a1 a2)
    | (go_at_call 49; refine (bent_any F L R _).mono ?_; rintro e w2 ⟨rfl, hb2⟩; have n2 := n1.below hb2 n1.lt; have b0 := n2.cell 0; have b1 := n2.cell 1; have b2 := n2.cell 2; simp only [List.getElem?_toArray, List.getElem?_cons_zero, List.getElem?_cons_succ] at b0 b1 b2))
  have hb3 : Below w.heap.size w w2 := (hal.trans (hb1.mono hal.size)).trans (hb2.mono (Nat.le_trans hal.size hb1.size))
  go_ret2
  have u0 : U 0 := ⟨by omega, by omega⟩
  exact ⟨w2.heap.size, rfl, hb3.size, ⟨⟨0, 0, Blk.new _ _ _, u0, u0, fun h => absurd rfl h⟩, hM, h2, by intro a ha; simp at ha, by omega, by omega, by simp⟩, hb3.alloc hb3.size _⟩

set_option maxHeartbeats 1000000 in
theorem bnew_no (F L R : Int) (w : World) (hL : 0 ≤ L) (h1 : mayB F L R = true) (h2 : F ≤ R) :
    Calls Try.prog 29 #[.agg #[.int .u64 F, .int .u64 L, .int .u64 R]] w fun e w' => e = .returned (.tuple #[.pointer none, .int .i64 30]) ∧ Below w.heap.size w w' := by
  have hal := (Below.refl w.heap.size w).alloc (Nat.le_refl _) (.cells #[.int .u64 F, .int .u64 L, .int .u64 R] 24)
  have nb := Blk.new w 24 #[.int .u64 F, .int .u64 L, .int .u64 R]
  have nl := nb.lt
  have HN := Lib.hid nb
  have hd : decide (R < F) = false := by simp; omega
  have H := Lib.hid h1
  clear nb h1
  go_enter Try.func29, Try.ntmps29
  go_wp2_with (first
    | (go_at_call 28; refine (may_any F L R _ hL).mono ?_; rintro e w1 ⟨rfl, hb1⟩; rw [H.out]; have n1 := HN.out.below hb1 nl; have a0 := n1.cell 0; have a1 := n1.cell 1; have a2 := n1.cell 2; simp only [List.getElem?_toArray, List.getElem?_cons_zero, List.getElem?_cons_succ] at a0 a1 a2)
    | (go_at_call 49; refine (bent_any F L R _).mono ?_; rintro e w2 ⟨rfl, hb2⟩))
  have hb3 : Below w.heap.size w w2 := (hal.trans (hb1.mono hal.size)).trans (hb2.mono (Nat.le_trans hal.size hb1.size))
  go_ret2
  exact ⟨rfl, hb3⟩

section
variable {w w' : World} {g : Nat} {F L R x : Int} {A : List (Int × Int)}

theorem BentAt.cell3 (h : BentAt w g F L R x A) : w.cell? ⟨g, 3, none⟩ = some (.int .i64 A.length) := by obtain ⟨h1, h2, hB, _⟩ := h.blk; exact hB.cell 3
theorem BentAt.cell4 (h : BentAt w g F L R x A) : w.cell? ⟨g, 4, none⟩ = some (.int .u64 x) := by obtain ⟨h1, h2, hB, _⟩ := h.blk; exact hB.cell 4
theorem BentAt.low (h : BentAt w g F L R x A) : ∀ a ∈ A, a.1 ≤ x ∧ 0 ≤ a.2 := fun a ha => by have := h.num a ha; exact ⟨this.2.1, this.2.2.1⟩

theorem bent_start (h : BentAt w g F L R x A) (t y X Y : Int) (ht : U t) (hy : U y) (hX : X = max (min t 9223372036854775808) x) (hY : Y = min y 4611686018427387904) (hfew : A.length < 900000) :
    Calls Try.prog 121 #[.pointer (some ⟨g, 0, none⟩), .int .u64 t, .int .u64 y] w fun e w' =>
      e = .returned (.tuple #[]) ∧ BentAt w' g F L R X (A ++ [(X, Y)]) ∧ w.grownBy w' (some g) := by
  obtain ⟨h1, h2, hB, u1, u2, hA⟩ := h.blk
  have hx0 := h.x0; have hx1 := h.x1
  have hM := h.may
  have hlt := h.lt_
  have hxX : x ≤ X := by omega
  have hY0 : 0 ≤ Y := by have := hy.1; omega
  have hm : 0 ≤ (F - R) * L := Int.mul_nonneg (by omega) hM.l0
  have mb := mul_bd (a := F - R) (t := L) (A := 1048576) (T := 1099511627776) (by omega) (by have := hM.f1; have := hM.r0; omega) hM.l0 hM.l1
  have uL : U L := ⟨hM.l0, by have := hM.l1; omega⟩
  have ecap : cap ((F - R) * L) = (F - R) * L := cap_of_le (by omega)
  refine (bstart_any g F L R A.length x h1 h2 t y (min t 9223372036854775808) X Y ((F - R) * L) (cap (Y + (F - R) * L)) (cap (h1 + cap (F * (X - x)))) (cap (h2 + cap (R * (X - x)))) _ _ w h.uF uL h.uR hlt h.ux ht hy u1 u2 (by omega) (by omega) (by omega) (by omega) (by omega) ecap rfl rfl rfl rfl rfl hB).mono fun e w' ⟨he, hB', hg⟩ => ⟨he, ?_, hg⟩
  have c1 := cap_nonneg (show 0 ≤ Y + (F - R) * L by omega); have c2 := cap_le (Y + (F - R) * L)
  have d1 := cap_nonneg (show 0 ≤ h1 + cap (F * (X - x)) by have := u1.1; have := cap_nonneg (Int.mul_nonneg hM.f0 (show 0 ≤ X - x by omega)); omega)
  have d2 := cap_nonneg (show 0 ≤ h2 + cap (R * (X - x)) by have := u2.1; have := cap_nonneg (Int.mul_nonneg hM.r0 (show 0 ≤ X - x by omega)); omega)
  have d3 := cap_le (h1 + cap (F * (X - x))); have d4 := cap_le (h2 + cap (R * (X - x)))
  refine ⟨⟨_, _, by rw [List.length_append]; exact hB', ?_, ?_, fun _ => ?_⟩, hM, hlt, fun a ha => ?_, by omega, by omega, by simp; omega⟩
  · unfold U; split <;> omega
  · unfold U; split <;> omega
  · have e0 : cap (Y + 0) = Y := by rw [Int.add_zero]; exact cap_of_le (by omega)
    by_cases hA0 : A = []
    · subst hA0
      have f1 := Below1.first (s := F) (m := 0) (x := X) (y := Y) hM.f0 (by omega) hY0
      have f2 := Below1.first (s := R) (m := (F - R) * L) (x := X) (y := Y) hM.r0 hm hY0
      rw [e0] at f1
      simp only [List.length_nil, List.nil_append]
      rw [if_neg (by omega), if_neg (by omega)]
      exact ⟨f1, f2⟩
    · have hl := List.length_pos_iff.2 hA0
      obtain ⟨b1, b2⟩ := hA hA0
      have f1 := b1.next (x' := X) (y := Y) hM.f0 (by omega) hY0 hxX
      have f2 := b2.next (x' := X) (y := Y) hM.r0 hm hY0 hxX
      rw [e0] at f1
      generalize cap (h1 + cap (F * (X - x))) = q1 at *
      generalize cap (h2 + cap (R * (X - x))) = q2 at *
      generalize cap (Y + (F - R) * L) = a1 at *
      rw [show (if (0 : Int) < (A.length : Int) ∧ q1 < Y then q1 else Y) = min q1 Y by split <;> omega, show (if (0 : Int) < (A.length : Int) ∧ q2 < a1 then q2 else a1) = min q2 a1 by split <;> omega]
      exact ⟨f1, f2⟩
  · rcases List.mem_append.1 ha with ha | ha
    · have := h.num a ha; exact ⟨this.1, by omega, this.2.2⟩
    · obtain rfl : a = (X, Y) := by simpa using ha
      exact ⟨by simp only; omega, by simp only; omega, by simp only; omega, by simp only; omega⟩

theorem bent_at_ (h : BentAt w g F L R x A) (hA : A ≠ []) (t : Int) (ht : U t) :
    Calls Try.prog 118 #[.pointer (some ⟨g, 0, none⟩), .int .u64 t] w fun e w' => e = .returned (.int .u64 (vA F L R A (max t x))) ∧ Below w.heap.size w w' := by
  obtain ⟨h1, h2, hB, u1, u2, hh⟩ := h.blk
  obtain ⟨b1, b2⟩ := hh hA
  have e : vA F L R A (max t x) = min (cap (h1 + F * (max t x - x))) (cap (h2 + R * (max t x - x))) := (bent_at h.lt_ h.may.l0 h.low b1 b2 (by omega)).symm
  rw [e, ← cap_in b1.h0, ← cap_in b2.h0]
  exact bat_any g F L R A.length x h1 h2 t (max t x) _ w h.uF h.uR h.ux ht u1 u2 (len0 hA) hB (by omega) (by omega)

/-- an answer n that is a tick at which v has y, or Never -/
def Ans (v : Int → Int) (x y : Int) (w : World) (e : Ending) (w' : World) : Prop := ∃ n, e = .returned (.int .u64 n) ∧ Back v x y n ∧ 0 ≤ n ∧ n ≤ 9223372036854775808 ∧ Below w.heap.size w w'

theorem bent_reach (h : BentAt w g F L R x A) (hA : A ≠ []) (y : Int) (hy : U y) :
    Calls Try.prog 120 #[.pointer (some ⟨g, 0, none⟩), .int .u64 y] w (Ans (fun t => vA F L R A (max t x)) x y w) := by
  obtain ⟨h1, h2, hB, u1, u2, hh⟩ := h.blk
  obtain ⟨b1, b2⟩ := hh hA
  have hk := bent_back (y := y) h.lt_ h.may.r0 h.may.l0 h.x0 h.x1 h.low b1 b2
  have hx0 := h.x0
  exact (breach_any g F L R A.length x h1 h2 y _ w h.uF h.uR h.x0 h.x1 hy u1 u2 (len0 hA) hB rfl).mono fun e w' ⟨he, hb⟩ => ⟨_, he, hk, by have := hk.x_le; omega, hk.le_never, hb⟩

theorem bent_at0 (h : BentAt w g F L R x []) (t : Int) :
    Calls Try.prog 118 #[.pointer (some ⟨g, 0, none⟩), .int .u64 t] w fun e w' => e = .returned (.int .u64 0) ∧ w = w' := by
  have c3 := h.cell3
  go_enter Try.func118, Try.ntmps118
  go_wp2_with (go_at_call 123; refine (bnone_any _ _ _ c3).mono ?_; rintro e w' ⟨rfl, rfl⟩)
  go_ret
  exact ⟨rfl, rfl⟩
theorem bent_reach0 (h : BentAt w g F L R x []) (y : Int) :
    Calls Try.prog 120 #[.pointer (some ⟨g, 0, none⟩), .int .u64 y] w fun e w' => e = .returned (.int .u64 (nevB y)) ∧ w = w' := by
  have c3 := h.cell3
  by_cases hy : y = 0
  · subst hy
    go_enter Try.func120, Try.ntmps120
    go_wp2_with (go_at_call 123; refine (bnone_any _ _ _ c3).mono ?_; rintro e w' ⟨rfl, rfl⟩)
    go_ret
    exact ⟨rfl, rfl⟩
  · have h0 : (y == 0) = false := by simpa using hy
    have e1 : nevB y = 9223372036854775808 := if_neg hy
    rw [e1]
    go_enter Try.func120, Try.ntmps120
    go_wp2_with (go_at_call 123; refine (bnone_any _ _ _ c3).mono ?_; rintro e w' ⟨rfl, rfl⟩)
    go_ret
    exact ⟨rfl, rfl⟩
theorem bent_last (h : BentAt w g F L R x A) (hA : A ≠ []) :
    Calls Try.prog 119 #[.pointer (some ⟨g, 0, none⟩)] w fun e w' => e = .returned (.tuple #[.int .u64 x, .bool true]) ∧ w = w' := by
  have c3 := h.cell3; have c4 := h.cell4
  have h0 := len0 hA
  go_enter Try.func119, Try.ntmps119
  go_wp2_with (go_at_call 123; refine (bnone_any _ _ _ c3).mono ?_; rintro e w' ⟨rfl, rfl⟩)
  go_ret2
  exact ⟨rfl, rfl⟩
theorem bent_last0 (h : BentAt w g F L R x []) :
    Calls Try.prog 119 #[.pointer (some ⟨g, 0, none⟩)] w fun e w' => e = .returned (.tuple #[.int .u64 0, .bool false]) ∧ w = w' := by
  have c3 := h.cell3
  go_enter Try.func119, Try.ntmps119
  go_wp2_with (go_at_call 123; refine (bnone_any _ _ _ c3).mono ?_; rintro e w' ⟨rfl, rfl⟩)
  go_ret2
  exact ⟨rfl, rfl⟩
theorem bent_starts (h : BentAt w g F L R x A) (hA : A ≠ []) :
    Calls Try.prog 122 #[.pointer (some ⟨g, 0, none⟩)] w fun e w' => e = .returned (.int .i64 A.length) ∧ w = w' := by
  have c3 := h.cell3
  have h0 := len0 hA
  go_enter Try.func122, Try.ntmps122
  go_wp2_with (go_at_call 123; refine (bnone_any _ _ _ c3).mono ?_; rintro e w' ⟨rfl, rfl⟩)
  go_ret
  exact ⟨rfl, rfl⟩
theorem bent_starts0 (h : BentAt w g F L R x []) :
    Calls Try.prog 122 #[.pointer (some ⟨g, 0, none⟩)] w fun e w' => e = .returned (.int .i64 0) ∧ w = w' := by
  have c3 := h.cell3
  go_enter Try.func122, Try.ntmps122
  go_wp2_with (go_at_call 123; refine (bnone_any _ _ _ c3).mono ?_; rintro e w' ⟨rfl, rfl⟩)
  go_ret
  exact ⟨rfl, rfl⟩
theorem bent_copy (h : BentAt w g F L R x A) :
    Calls Try.prog 130 #[.pointer (some ⟨g, 0, none⟩)] w fun e w' => ∃ g', e = .returned (.pointer (some ⟨g', 0, none⟩)) ∧ w.heap.size ≤ g' ∧ BentAt w' g' F L R x A ∧ Below w.heap.size w w' := by
  obtain ⟨h1, h2, hB, hr⟩ := h.blk
  obtain ⟨c0, c1, c2, c3, c4, c5, c6, c7, c8⟩ := bent_cells hB
  have hM := h.may; have hlt := h.lt_; have hnum := h.num; have hx0 := h.x0; have hx1 := h.x1; have hfew := h.few
  have HR := Lib.hid hr; have HNU := Lib.hid hnum
  clear hB h hr hnum
  go_enter Try.func130, Try.ntmps130
  go_wp2
  go_ret
  exact ⟨w.heap.size, rfl, Nat.le_refl _, ⟨⟨h1, h2, Blk.new _ _ _, HR.out⟩, hM, hlt, HNU.out, hx0, hx1, hfew⟩, (Below.refl _ _).alloc (Nat.le_refl _) _⟩
end

end Go.Proofs.Ytipiajnaechadaa
