/-
  A bent run in memory: its two lines; all that is asked of it.
-/
import Derived.Test.YtipiajnaechadaaRegM
import Derived.Test.YtipiajnaechadaaCurves
import Derived.Test.YtipiajnaechadaaBentPlain
import Derived.Test.YtipiajnaechadaaRunPlain
import Derived.Deep.DeepCutAuto
import Derived.Outline
import Derived.Deep.RegionWith
namespace Go.Proofs.Ytipiajnaechadaa
set_option linter.unusedVariables false
open Go.RowKit

theorem lhas_any (s h n : Int) (w : World) (hs : U s) (hh : U h) (hn : U n) :
    Calls Try.prog 124 #[.agg #[.int .u64 s, .int .u64 h], .int .u64 n] w fun e w' => e = .returned (.int .u64 (cap (h + cap (s * n)))) ∧ Below w.heap.size w w' := by
  have hal := (Below.refl w.heap.size w).alloc (Nat.le_refl _) (.cells #[.int .u64 s, .int .u64 h] 103)
  have nb := Blk.new w 103 #[.int .u64 s, .int .u64 h]
  have u0 := U_cap (Int.mul_nonneg hs.1 hn.1)
  have o0 := fun e => (over_cell (e := e) (o := 0) nb.lt).trans (nb.cell 0)
  have o1 := fun e => (over_cell (e := e) (o := 1) nb.lt).trans (nb.cell 1)
  simp only [List.getElem?_toArray, List.getElem?_cons_zero, List.getElem?_cons_succ] at o0 o1
  clear nb
  go_enter Try.func124, Try.ntmps124
  go_wp2
  refine wp_region_over (by kernel_rfl) (by kernel_rfl) ?_
  repeat (first | go_big_quiet_skip | (go_big_quiet_want; go_big_quiet_op; first | go_big_quiet_on | (apply Exists.intro; refine ⟨fun e => ?_, ?_⟩; (focus (first | (go_at_call 78; exact calls_over (times_any _ _ _ hs hn)) | (go_at_call 85; exact calls_over_same (rplus_any _ _ _ hh u0)))); go_big_quiet_on)))
  refine wpQuiet_nil ?_
  rintro W2 ⟨e, he⟩
  have hb2 := over_below (w.alloc (.cells #[.int .u64 s, .int .u64 h] 103)) e
  rw [← he] at hb2
  clear he o0 o1
  go_wp2
  go_ret
  exact ⟨rfl, hal.trans (hb2.mono hal.size)⟩

theorem luntil_any (s h y : Int) (w : World) (hs : U s) (hh : U h) (hy : U y) :
    Calls Try.prog 125 #[.agg #[.int .u64 s, .int .u64 h], .int .u64 y] w fun e w' => e = .returned (.int .u64 (untilL s h y)) ∧ Below w.heap.size w w' := by
  have hal := (Below.refl w.heap.size w).alloc (Nat.le_refl _) (.cells #[.int .u64 s, .int .u64 h] 103)
  by_cases h1 : y ≤ h
  · have e1 : untilL s h y = 0 := if_pos h1
    rw [e1]
    go_enter Try.func125, Try.ntmps125
    go_wp2
    go_ret
    exact ⟨rfl, hal⟩
  · have uy : U (y - h) := by unfold U at *; omega
    have wd : IntKind.u64.wrap (y - h) = y - h := wrap_u uy
    by_cases h2 : s = 0
    · have e1 : untilL s h y = 9223372036854775808 := by unfold untilL; rw [if_neg h1, if_pos (.inl h2)]
      rw [e1]
      have u1 : U 1 := ⟨by decide, by decide⟩
      subst h2
      go_enter Try.func125, Try.ntmps125
      go_wp2_with (go_at_call 89; refine (up_none _ _ _ uy u1).mono ?_; rintro e w1 ⟨rfl, hb1⟩)
      go_ret
      exact ⟨rfl, hal.trans (hb1.mono hal.size)⟩
    · have hs1 : 1 ≤ s := by have := hs.1; omega
      have hc := ceil_le (y := y - h) (c := s) hs1 uy.1
      by_cases h3 : 4611686018427387904 < y
      · have e1 : untilL s h y = 9223372036854775808 := by unfold untilL; rw [if_neg h1, if_pos (.inr h3)]
        rw [e1]
        go_enter Try.func125, Try.ntmps125
        go_wp2_with (go_at_call 89; refine (up_word _ _ _ uy hs1 hs).mono ?_; rintro e w1 ⟨rfl, hb1⟩)
        go_ret
        exact ⟨rfl, hal.trans (hb1.mono hal.size)⟩
      · have e1 : untilL s h y = ceil (y - h) s := by unfold untilL; rw [if_neg h1, if_neg (by omega)]
        have e2 : cap (ceil (y - h) s) = ceil (y - h) s := cap_of_le (by have := hh.1; omega)
        have E1 := Lib.hid e1; have E2 := Lib.hid e2
        clear e1 e2
        go_enter Try.func125, Try.ntmps125
        go_wp2_with (go_at_call 89; refine (up_word _ _ _ uy hs1 hs).mono ?_; rintro e w1 ⟨rfl, hb1⟩)
        go_ret
        exact ⟨ret_int (by rw [E1.out, E2.out]), hal.trans (hb1.mono hal.size)⟩

/-- a bent run in memory: the last copy started at x; A started -/
structure BentAt (w : World) (g : Nat) (F L R x : Int) (A : List (Int × Int)) : Prop where
  blk : ∃ h1 h2, Blk w g 105 #[.int .u64 F, .int .u64 L, .int .u64 R, .int .i64 A.length, .int .u64 x, .int .u64 F, .int .u64 h1, .int .u64 R, .int .u64 h2] ∧ U h1 ∧ U h2 ∧ (A ≠ [] → Below1 F 0 x h1 A ∧ Below1 R ((F - R) * L) x h2 A)
  may : MayC F L R
  lt_ : R < F
  num : ∀ a ∈ A, 0 ≤ a.1 ∧ a.1 ≤ x ∧ 0 ≤ a.2 ∧ a.2 ≤ 4611686018427387904
  x0 : 0 ≤ x
  x1 : x ≤ 9223372036854775808
  few : A.length ≤ 900000

section
variable {w w' : World} {g : Nat} {F L R x : Int} {A : List (Int × Int)}
theorem BentAt.below (h : BentAt w g F L R x A) (hb : Below w.heap.size w w') : BentAt w' g F L R x A := by
  obtain ⟨⟨h1, h2, hB, h3⟩, r⟩ := h
  exact ⟨⟨h1, h2, hB.below hb hB.lt, h3⟩, r, ‹_›, ‹_›, ‹_›, ‹_›, ‹_›⟩
theorem BentAt.lt (h : BentAt w g F L R x A) : g < w.heap.size := by obtain ⟨h1, h2, hB, _⟩ := h.blk; exact hB.lt
theorem BentAt.uF (h : BentAt w g F L R x A) : U F := ⟨h.may.f0, by have := h.may.f1; omega⟩
theorem BentAt.uR (h : BentAt w g F L R x A) : U R := ⟨h.may.r0, by have := h.may.r1; omega⟩
theorem BentAt.ux (h : BentAt w g F L R x A) : U x := ⟨h.x0, by have := h.x1; omega⟩
end

theorem bnone_any (g : Nat) (n : Int) (w : World) (hc : w.cell? ⟨g, 3, none⟩ = some (.int .i64 n)) :
    Calls Try.prog 123 #[.pointer (some ⟨g, 0, none⟩)] w fun e w' => e = .returned (.bool (n == 0)) ∧ w = w' := by
  go_enter Try.func123, Try.ntmps123
  go_wp2
  go_ret
  exact ⟨rfl, rfl⟩

theorem cap_in {h q : Int} (hh : 0 ≤ h) : cap (h + cap q) = cap (h + q) := by unfold cap; omega
theorem len0 {A : List (Int × Int)} (hA : A ≠ []) : ((A.length : Int) == 0) = false := by
  have := List.length_pos_iff.2 hA
  simp; omega

/-- cells of a bent run -/
theorem bent_cells {w : World} {g : Nat} {F L R n x h1 h2 : Int} (hB : Blk w g 105 #[.int .u64 F, .int .u64 L, .int .u64 R, .int .i64 n, .int .u64 x, .int .u64 F, .int .u64 h1, .int .u64 R, .int .u64 h2]) :
    w.cell? ⟨g, 0, none⟩ = some (.int .u64 F) ∧ w.cell? ⟨g, 1, none⟩ = some (.int .u64 L) ∧ w.cell? ⟨g, 2, none⟩ = some (.int .u64 R) ∧ w.cell? ⟨g, 3, none⟩ = some (.int .i64 n) ∧ w.cell? ⟨g, 4, none⟩ = some (.int .u64 x) ∧
    w.cell? ⟨g, 5, none⟩ = some (.int .u64 F) ∧ w.cell? ⟨g, 6, none⟩ = some (.int .u64 h1) ∧ w.cell? ⟨g, 7, none⟩ = some (.int .u64 R) ∧ w.cell? ⟨g, 8, none⟩ = some (.int .u64 h2) :=
  ⟨hB.cell 0, hB.cell 1, hB.cell 2, hB.cell 3, hB.cell 4, hB.cell 5, hB.cell 6, hB.cell 7, hB.cell 8⟩

set_option maxRecDepth 20000 in
set_option maxHeartbeats 1000000 in
theorem bat_any (g : Nat) (F L R n x h1 h2 t T m : Int) (w : World) (hF : U F) (hR : U R) (hx : U x) (ht : U t) (hh1 : U h1) (hh2 : U h2) (hn : (n == 0) = false)
    (hB : Blk w g 105 #[.int .u64 F, .int .u64 L, .int .u64 R, .int .i64 n, .int .u64 x, .int .u64 F, .int .u64 h1, .int .u64 R, .int .u64 h2])
    (hT : (if t < x then x else t) = T) (hm : (if cap (h2 + cap (R * (T - x))) < cap (h1 + cap (F * (T - x))) then cap (h2 + cap (R * (T - x))) else cap (h1 + cap (F * (T - x)))) = m) :
    Calls Try.prog 118 #[.pointer (some ⟨g, 0, none⟩), .int .u64 t] w fun e w' => e = .returned (.int .u64 m) ∧ Below w.heap.size w w' := by
  obtain ⟨c0, c1, c2, c3, c4, c5, c6, c7, c8⟩ := bent_cells hB
  have hg := hB.lt
  have o4 := fun e => (over_cell (e := e) hg).trans c4
  have HB := Lib.hid hB
  have uT : U (T - x) := by unfold U at *; omega
  have wd : IntKind.u64.wrap (T - x) = T - x := wrap_u uT
  have HM := Lib.hid hm
  clear hB hm c0 c1 c2 c4 c5 c6 c7 c8
  go_enter Try.func118, Try.ntmps118
  go_wp2_with (go_at_call 123; refine (bnone_any _ _ _ c3).mono ?_; rintro e w' ⟨rfl, rfl⟩)
  refine wp_region_over (by kernel_rfl) (by kernel_rfl) ?_
  repeat (first | go_big_quiet_skip | (go_big_quiet_want; go_big_quiet_op; go_big_quiet_on))
  refine wpQuiet_nil ?_
  rintro W2 ⟨e, he⟩
  have hb2 := over_below w e
  rw [← he] at hb2
  clear he o4 c3
  have hB2 := HB.out.below hb2 HB.out.lt
  obtain ⟨c0, c1, c2, c3, c4, c5, c6, c7, c8⟩ := bent_cells hB2
  have hg2 := hB2.lt
  have o5 := fun e => (over_cell (e := e) hg2).trans c5
  have o6 := fun e => (over_cell (e := e) hg2).trans c6
  have o7 := fun e => (over_cell (e := e) hg2).trans c7
  have o8 := fun e => (over_cell (e := e) hg2).trans c8
  have hm2 := HM.out
  clear c0 c1 c2 c3 c4 c5 c6 c7 c8 hB2
  go_wp2
  refine wp_region_over (by kernel_rfl) (by kernel_rfl) ?_
  repeat (first | go_big_quiet_skip | (go_big_quiet_want; go_big_quiet_op; first | go_big_quiet_on | (apply Exists.intro; refine ⟨fun e => ?_, ?_⟩; (focus (first | (go_at_call_of 124 (Value.agg #[.int .u64 F, .int .u64 h1]); with_reducible exact calls_over (lhas_any F h1 _ _ hF hh1 uT)) | (go_at_call 124; with_reducible exact calls_over (lhas_any R h2 _ _ hR hh2 uT)))); go_big_quiet_on)))
  refine wpQuiet_nil ?_
  rintro W3 ⟨e, he⟩
  have hb3 := over_below W2 e
  rw [← he] at hb3
  clear he o5 o6 o7 o8
  go_wp2
  go_ret
  exact ⟨rfl, hb2.trans (hb3.mono hb2.size)⟩

set_option maxRecDepth 20000 in
set_option maxHeartbeats 1000000 in
theorem breach_any (g : Nat) (F L R n x h1 h2 y m : Int) (w : World) (hF : U F) (hR : U R) (hx0 : 0 ≤ x) (hx1 : x ≤ 9223372036854775808) (hy : U y) (hh1 : U h1) (hh2 : U h2) (hn : (n == 0) = false)
    (hB : Blk w g 105 #[.int .u64 F, .int .u64 L, .int .u64 R, .int .i64 n, .int .u64 x, .int .u64 F, .int .u64 h1, .int .u64 R, .int .u64 h2])
    (hm : (if untilL F h1 y < untilL R h2 y then untilL R h2 y else untilL F h1 y) = m) :
    Calls Try.prog 120 #[.pointer (some ⟨g, 0, none⟩), .int .u64 y] w fun e w' => e = .returned (.int .u64 (reachB F R x h1 h2 y)) ∧ Below w.heap.size w w' := by
  obtain ⟨c0, c1, c2, c3, c4, c5, c6, c7, c8⟩ := bent_cells hB
  have hg := hB.lt
  have o5 := fun e => (over_cell (e := e) hg).trans c5
  have o6 := fun e => (over_cell (e := e) hg).trans c6
  have o7 := fun e => (over_cell (e := e) hg).trans c7
  have o8 := fun e => (over_cell (e := e) hg).trans c8
  have d1 := untilL_bd (y := y) hF.1 hh1.1
  have d2 := untilL_bd (y := y) hR.1 hh2.1
  have hm0 : 0 ≤ m ∧ m ≤ 9223372036854775808 := by omega
  have er : reachB F R x h1 h2 y = if 9223372036854775808 - x ≤ m then 9223372036854775808 else x + m := by
    have : max (untilL F h1 y) (untilL R h2 y) = m := by omega
    unfold reachB; rw [this]
  obtain ⟨hm0, hm1⟩ := hm0
  have wx : IntKind.u64.wrap (9223372036854775808 - x) = 9223372036854775808 - x := wrap_u (by unfold U; omega)
  have HB := Lib.hid hB; have ER := Lib.hid er
  clear hB er c0 c1 c2 c5 c6 c7 c8 d1 d2 c4
  go_enter Try.func120, Try.ntmps120
  go_wp2_with (go_at_call 123; refine (bnone_any _ _ _ c3).mono ?_; rintro e w' ⟨rfl, rfl⟩)
  refine wp_region_over (by kernel_rfl) (by kernel_rfl) ?_
  repeat (first | go_big_quiet_skip | (go_big_quiet_want; go_big_quiet_op; first | go_big_quiet_on | (apply Exists.intro; refine ⟨fun e => ?_, ?_⟩; (focus (first | (go_at_call_of 125 (Value.agg #[.int .u64 F, .int .u64 h1]); with_reducible exact calls_over (luntil_any F h1 _ _ hF hh1 hy)) | (go_at_call 125; with_reducible exact calls_over (luntil_any R h2 _ _ hR hh2 hy)))); go_big_quiet_on)))
  refine wpQuiet_nil ?_
  rintro W2 ⟨e, he⟩
  have hb2 := over_below w e
  rw [← he] at hb2
  clear he o5 o6 o7 o8 c3
  have hB2 := HB.out.below hb2 HB.out.lt
  have c4 := hB2.cell 4
  simp only [List.getElem?_toArray, List.getElem?_cons_zero, List.getElem?_cons_succ] at c4
  clear hB2 hm
  go_wp2
  all_goals
    go_ret
    exact ⟨ret_int (by rw [ER.out]; first | rw [if_pos (by omega)] | (rw [if_neg (by omega)]; done) | (rw [if_neg (by omega)]; exact wrap_u (by unfold U; omega))), hb2⟩

end Go.Proofs.Ytipiajnaechadaa
