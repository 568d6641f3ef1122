/-
  What is asked of a run: all its methods, by the copies that started.
-/
import Derived.Test.YtipiajnaechadaaRun
namespace Go.Proofs.Ytipiajnaechadaa
set_option linter.unusedVariables false
open Go.RowKit

section
variable {w w' : World} {r g : Nat} {F L R x : Int} {A : List (Int × Int)}
theorem RunB.vE_eq (h : RunB w r g F L R x A) : vE F L R A = vA F L R A := by funext t; exact if_pos h.2.1.lt_
theorem Live.vE_eq {K : List (Int × Int)} (h : Live w g F L R x K A) : vE F L R A = vL R A := by funext t; exact if_neg (by have := h.le; omega)
theorem Live.x_U (h : ∃ K, Live w g F L R x K A) : 0 ≤ x ∧ x ≤ 9223372036854775808 := by obtain ⟨K, hK⟩ := h; exact ⟨hK.x0, hK.x1⟩

theorem bahead (h : BentAt w g F L R x A) (hA : A ≠ []) (t : Int) (ht : U t) :
    Calls Try.prog 127 #[.agg #[.pointer (some ⟨g, 0, none⟩)], .int .u64 t] w fun e w' => e = .returned (.int .u64 (vA F L R A (max t x))) ∧ Below w.heap.size w w' := by
  have hal := (Below.refl w.heap.size w).alloc (Nat.le_refl _) (.cells #[.pointer (some ⟨g, 0, none⟩)] 61)
  have h1 := h.below hal
  have HH := Lib.hid h1; have HA := Lib.hid hA; clear h h1 hA
  go_enter Try.func127, Try.ntmps127
  go_wp2_with (go_at_call 118; refine (bent_at_ HH.out HA.out t ht).mono ?_; rintro e w1 ⟨rfl, hb1⟩)
  go_ret
  exact ⟨rfl, hal.trans (hb1.mono hal.size)⟩
theorem bahead0 (h : BentAt w g F L R x []) (t : Int) :
    Calls Try.prog 127 #[.agg #[.pointer (some ⟨g, 0, none⟩)], .int .u64 t] w fun e w' => e = .returned (.int .u64 0) ∧ Below w.heap.size w w' := by
  have hal := (Below.refl w.heap.size w).alloc (Nat.le_refl _) (.cells #[.pointer (some ⟨g, 0, none⟩)] 61)
  have h1 := h.below hal
  have HH := Lib.hid h1; clear h h1
  go_enter Try.func127, Try.ntmps127
  go_wp2_with (go_at_call 118; refine (bent_at0 HH.out t).mono ?_; rintro e w1 ⟨rfl, rfl⟩)
  go_ret
  exact ⟨rfl, hal⟩
theorem belig (h : BentAt w g F L R x A) (hA : A ≠ []) (y : Int) (hy : U y) :
    Calls Try.prog 128 #[.agg #[.pointer (some ⟨g, 0, none⟩)], .int .u64 y] w (Ans (fun t => vA F L R A (max t x)) x y w) := by
  have hal := (Below.refl w.heap.size w).alloc (Nat.le_refl _) (.cells #[.pointer (some ⟨g, 0, none⟩)] 61)
  have h1 := h.below hal
  have HH := Lib.hid h1; have HA := Lib.hid hA; clear h h1 hA
  go_enter Try.func128, Try.ntmps128
  go_wp2_with (go_at_call 120; refine (bent_reach HH.out HA.out y hy).mono ?_; rintro e w1 ⟨n, rfl, hk, hn0, hn1, hb1⟩)
  go_ret
  exact ⟨n, rfl, hk, hn0, hn1, hal.trans (hb1.mono hal.size)⟩
theorem belig0 (h : BentAt w g F L R x []) (y : Int) :
    Calls Try.prog 128 #[.agg #[.pointer (some ⟨g, 0, none⟩)], .int .u64 y] w fun e w' => e = .returned (.int .u64 (nev y)) ∧ Below w.heap.size w w' := by
  have hal := (Below.refl w.heap.size w).alloc (Nat.le_refl _) (.cells #[.pointer (some ⟨g, 0, none⟩)] 61)
  have h1 := h.below hal
  have HH := Lib.hid h1; clear h h1
  have e : nevB y = nev y := rfl
  rw [← e]
  go_enter Try.func128, Try.ntmps128
  go_wp2_with (go_at_call 120; refine (bent_reach0 HH.out y).mono ?_; rintro e w1 ⟨rfl, rfl⟩)
  go_ret
  exact ⟨rfl, hal⟩
theorem sahead (h : ∃ K, Live w g F L R x K A) (hA : A ≠ []) (t : Int) (ht : U t) :
    Calls Try.prog 131 #[.agg #[.pointer (some ⟨g, 0, none⟩)], .int .u64 t] w fun e w' => e = .returned (.int .u64 (vL R A (max t x))) ∧ Below w.heap.size w w' := by
  obtain ⟨K, h⟩ := h
  have hal := (Below.refl w.heap.size w).alloc (Nat.le_refl _) (.cells #[.pointer (some ⟨g, 0, none⟩)] 67)
  have h1 := h.below hal
  have HH := Lib.hid h1; have HA := Lib.hid hA; clear h h1 hA
  go_enter Try.func131, Try.ntmps131
  go_wp2_with (go_at_call 62; refine (live_line HH.out HA.out t ht).mono ?_; rintro e w1 ⟨rfl, hb1⟩)
  go_ret
  exact ⟨rfl, hal.trans (hb1.mono hal.size)⟩
theorem sahead0 (h : ∃ K, Live w g F L R x K []) (t : Int) :
    Calls Try.prog 131 #[.agg #[.pointer (some ⟨g, 0, none⟩)], .int .u64 t] w fun e w' => e = .returned (.int .u64 0) ∧ Below w.heap.size w w' := by
  obtain ⟨K, h⟩ := h
  have hal := (Below.refl w.heap.size w).alloc (Nat.le_refl _) (.cells #[.pointer (some ⟨g, 0, none⟩)] 67)
  have hK : K = [] := List.eq_nil_of_length_eq_zero (Nat.le_zero.1 h.run.sub.length_le)
  subst hK
  have h1 := (h.below hal).none
  have HH := Lib.hid h1; clear h h1
  go_enter Try.func131, Try.ntmps131
  go_wp2_with (go_at_call 62; refine (sline_none _ t _ HH.out).mono ?_; rintro e w1 ⟨rfl, hb1⟩)
  go_ret
  exact ⟨rfl, hal.trans (hb1.mono hal.size)⟩
theorem selig (h : ∃ K, Live w g F L R x K A) (hA : A ≠ []) (y : Int) (hy : U y) :
    Calls Try.prog 132 #[.agg #[.pointer (some ⟨g, 0, none⟩)], .int .u64 y] w (Ans (fun t => vL R A (max t x)) x y w) := by
  obtain ⟨K, h⟩ := h
  have hal := (Below.refl w.heap.size w).alloc (Nat.le_refl _) (.cells #[.pointer (some ⟨g, 0, none⟩)] 67)
  have h1 := h.below hal
  have hk := (live_back (y := y) h1 hA).2.1
  have hx0 := h.x0
  have HH := Lib.hid h1; have HA := Lib.hid hA; have HK := Lib.hid hk; clear h h1 hA hk
  go_enter Try.func132, Try.ntmps132
  go_wp2_with (go_at_call 63; refine (live_ahead HH.out HA.out y hy).mono ?_; rintro e w1 ⟨rfl, hb1⟩)
  go_ret
  have hk := HK.out
  exact ⟨_, rfl, hk, by have := hk.x_le; omega, hk.le_never, hal.trans (hb1.mono hal.size)⟩
theorem selig0 (h : ∃ K, Live w g F L R x K []) (y : Int) :
    Calls Try.prog 132 #[.agg #[.pointer (some ⟨g, 0, none⟩)], .int .u64 y] w fun e w' => e = .returned (.int .u64 (nev y)) ∧ Below w.heap.size w w' := by
  obtain ⟨K, h⟩ := h
  have hal := (Below.refl w.heap.size w).alloc (Nat.le_refl _) (.cells #[.pointer (some ⟨g, 0, none⟩)] 67)
  have hK : K = [] := List.eq_nil_of_length_eq_zero (Nat.le_zero.1 h.run.sub.length_le)
  subst hK
  have h2 := h.below hal
  have h1 := h2.none
  have c2 : ∃ R, (w.alloc (.cells #[.pointer (some ⟨g, 0, none⟩)] 67)).cell? ⟨g, 2, none⟩ = some (.int .u64 R) := by obtain ⟨v, hb, _⟩ := h2.at_; exact ⟨R, hb.cell 2⟩
  have HH := Lib.hid h1; have HC := Lib.hid c2; clear h h1 h2 c2
  go_enter Try.func132, Try.ntmps132
  go_wp2_with (go_at_call 63; refine (sahead_none _ y _ HH.out (fun g' hg' => by cases hg'; exact HC.out)).mono ?_; rintro e w1 ⟨rfl, hb1⟩)
  go_ret
  exact ⟨rfl, hal.trans (hb1.mono hal.size)⟩

theorem run_at0 (h : RunAt w r g F L R x []) (t : Int) :
    Calls Try.prog 36 #[.pointer (some ⟨r, 0, none⟩), .int .u64 t] w fun e w' => e = .returned (.int .u64 0) ∧ Below w.heap.size w w' := by
  rcases h with h | h
  · have HH := Lib.hid h; clear h
    go_enter Try.func36, Try.ntmps36
    go_wp2_with (first
      | (go_at_call 44; refine (of_bent HH.out).mono ?_; rintro e w' ⟨rfl, rfl⟩)
      | (go_at_call 118; refine (bent_at0 HH.out.2.1 t).mono ?_; rintro e w1 ⟨rfl, rfl⟩))
    go_ret
    exact ⟨rfl, Below.refl _ _⟩
  · obtain ⟨K, hK⟩ := h.2.1
    have hK0 : K = [] := List.eq_nil_of_length_eq_zero (Nat.le_zero.1 hK.run.sub.length_le)
    subst hK0
    have hN := hK.none; have HN := Lib.hid hN; clear hN
    have HH := Lib.hid h; have HK := Lib.hid hK; clear h hK
    go_enter Try.func36, Try.ntmps36
    go_wp2_with (first
      | (go_at_call 44; refine (of_sag HH.out).mono ?_; rintro e w' ⟨rfl, rfl⟩)
      | (go_at_call 58; refine (sat_none _ t _ HN.out).mono ?_; rintro e w1 ⟨rfl, hb1⟩))
    go_ret
    exact ⟨rfl, hb1⟩

theorem run_reach (h : RunAt w r g F L R x A) (hA : A ≠ []) (y : Int) (hy : U y) :
    Calls Try.prog 38 #[.pointer (some ⟨r, 0, none⟩), .int .u64 y] w (Ans (fun t => vA F L R A (max t x)) x y w) := by
  have HA := Lib.hid hA; clear hA
  rcases h with h | h
  · have HH := Lib.hid h; clear h
    go_enter Try.func38, Try.ntmps38
    go_wp2_with (first
      | (go_at_call 44; refine (of_bent HH.out).mono ?_; rintro e w' ⟨rfl, rfl⟩)
      | (go_at_call 120; refine (bent_reach HH.out.2.1 HA.out y hy).mono ?_; rintro e w1 ⟨n, rfl, hk, hn0, hn1, hb1⟩))
    go_ret
    exact ⟨n, rfl, hk, hn0, hn1, hb1⟩
  · obtain ⟨K, hK⟩ := h.2.1
    have HH := Lib.hid h; have HK := Lib.hid hK; have HB := Lib.hid (live_back (y := y) hK HA.out).1; clear h hK
    go_enter Try.func38, Try.ntmps38
    go_wp2_with (first
      | (go_at_call 44; refine (of_sag HH.out).mono ?_; rintro e w' ⟨rfl, rfl⟩)
      | (go_at_call 60; refine (live_reach HK.out HA.out y hy).mono ?_; rintro e w1 ⟨rfl, hb1⟩))
    go_ret
    have hk := HB.out; have hx0 := HK.out.x0
    exact ⟨_, rfl, hk, by have := hk.x_le; omega, hk.le_never, hb1⟩

theorem run_reach0 (h : RunAt w r g F L R x []) (y : Int) :
    Calls Try.prog 38 #[.pointer (some ⟨r, 0, none⟩), .int .u64 y] w fun e w' => e = .returned (.int .u64 (nev y)) ∧ Below w.heap.size w w' := by
  rcases h with h | h
  · have HH := Lib.hid h; clear h
    go_enter Try.func38, Try.ntmps38
    go_wp2_with (first
      | (go_at_call 44; refine (of_bent HH.out).mono ?_; rintro e w' ⟨rfl, rfl⟩)
      | (go_at_call 120; refine (bent_reach0 HH.out.2.1 y).mono ?_; rintro e w1 ⟨rfl, rfl⟩))
    go_ret
    exact ⟨rfl, Below.refl _ _⟩
  · obtain ⟨K, hK⟩ := h.2.1
    have hK0 : K = [] := List.eq_nil_of_length_eq_zero (Nat.le_zero.1 hK.run.sub.length_le)
    subst hK0
    have hN := hK.none; have HN := Lib.hid hN; clear hN
    have HH := Lib.hid h; have HK := Lib.hid hK; clear h hK
    go_enter Try.func38, Try.ntmps38
    go_wp2_with (first
      | (go_at_call 44; refine (of_sag HH.out).mono ?_; rintro e w' ⟨rfl, rfl⟩)
      | (go_at_call 60; refine (sreach_none _ y _ HN.out).mono ?_; rintro e w1 ⟨rfl, hb1⟩))
    go_ret
    exact ⟨rfl, hb1⟩

theorem run_ahead (h : RunAt w r g F L R x A) (hA : A ≠ []) (t : Int) (ht : U t) :
    Calls Try.prog 40 #[.pointer (some ⟨r, 0, none⟩), .int .u64 t] w fun e w' => e = .returned (.int .u64 (vE F L R A (max t x))) ∧ Below w.heap.size w w' := by
  have HA := Lib.hid hA; clear hA
  rcases h with h | h
  · have HH := Lib.hid h; clear h
    go_enter Try.func40, Try.ntmps40
    go_wp2_with (first
      | (go_at_call 44; refine (of_bent HH.out).mono ?_; rintro e w' ⟨rfl, rfl⟩)
      | (go_at_call 127; refine (bahead HH.out.2.1 HA.out t ht).mono ?_; rintro e w1 ⟨rfl, hb1⟩))
    go_ret
    exact ⟨by rw [HH.out.vE_eq]; rfl, hb1⟩
  · obtain ⟨K, hK⟩ := h.2.1
    have HH := Lib.hid h; have HK := Lib.hid hK; clear h hK
    go_enter Try.func40, Try.ntmps40
    go_wp2_with (first
      | (go_at_call 44; refine (of_sag HH.out).mono ?_; rintro e w' ⟨rfl, rfl⟩)
      | (go_at_call 131; refine (sahead ⟨K, HK.out⟩ HA.out t ht).mono ?_; rintro e w1 ⟨rfl, hb1⟩))
    go_ret
    exact ⟨by rw [HK.out.vE_eq]; rfl, hb1⟩

theorem run_ahead0 (h : RunAt w r g F L R x []) (t : Int) :
    Calls Try.prog 40 #[.pointer (some ⟨r, 0, none⟩), .int .u64 t] w fun e w' => e = .returned (.int .u64 0) ∧ Below w.heap.size w w' := by
  rcases h with h | h
  · have HH := Lib.hid h; clear h
    go_enter Try.func40, Try.ntmps40
    go_wp2_with (first
      | (go_at_call 44; refine (of_bent HH.out).mono ?_; rintro e w' ⟨rfl, rfl⟩)
      | (go_at_call 127; refine (bahead0 HH.out.2.1 t).mono ?_; rintro e w1 ⟨rfl, hb1⟩))
    go_ret
    exact ⟨rfl, hb1⟩
  · obtain ⟨K, hK⟩ := h.2.1
    have hK0 : K = [] := List.eq_nil_of_length_eq_zero (Nat.le_zero.1 hK.run.sub.length_le)
    subst hK0
    have hN := hK.none; have HN := Lib.hid hN; clear hN
    have HH := Lib.hid h; have HK := Lib.hid hK; clear h hK
    go_enter Try.func40, Try.ntmps40
    go_wp2_with (first
      | (go_at_call 44; refine (of_sag HH.out).mono ?_; rintro e w' ⟨rfl, rfl⟩)
      | (go_at_call 131; refine (sahead0 ⟨_, HK.out⟩ t).mono ?_; rintro e w1 ⟨rfl, hb1⟩))
    go_ret
    exact ⟨rfl, hb1⟩

theorem run_elig (h : RunAt w r g F L R x A) (hA : A ≠ []) (y : Int) (hy : U y) :
    Calls Try.prog 42 #[.pointer (some ⟨r, 0, none⟩), .int .u64 y] w (Ans (fun t => vE F L R A (max t x)) x y w) := by
  have HA := Lib.hid hA; clear hA
  rcases h with h | h
  · have HH := Lib.hid h; clear h
    go_enter Try.func42, Try.ntmps42
    go_wp2_with (first
      | (go_at_call 44; refine (of_bent HH.out).mono ?_; rintro e w' ⟨rfl, rfl⟩)
      | (go_at_call 128; refine (belig HH.out.2.1 HA.out y hy).mono ?_; rintro e w1 ⟨n, rfl, hk, hn0, hn1, hb1⟩))
    go_ret
    exact ⟨n, rfl, by rw [HH.out.vE_eq]; exact hk, hn0, hn1, hb1⟩
  · obtain ⟨K, hK⟩ := h.2.1
    have HH := Lib.hid h; have HK := Lib.hid hK; clear h hK
    go_enter Try.func42, Try.ntmps42
    go_wp2_with (first
      | (go_at_call 44; refine (of_sag HH.out).mono ?_; rintro e w' ⟨rfl, rfl⟩)
      | (go_at_call 132; refine (selig ⟨K, HK.out⟩ HA.out y hy).mono ?_; rintro e w1 ⟨n, rfl, hk, hn0, hn1, hb1⟩))
    go_ret
    exact ⟨n, rfl, by rw [HK.out.vE_eq]; exact hk, hn0, hn1, hb1⟩

theorem run_elig0 (h : RunAt w r g F L R x []) (y : Int) :
    Calls Try.prog 42 #[.pointer (some ⟨r, 0, none⟩), .int .u64 y] w fun e w' => e = .returned (.int .u64 (nev y)) ∧ Below w.heap.size w w' := by
  rcases h with h | h
  · have HH := Lib.hid h; clear h
    go_enter Try.func42, Try.ntmps42
    go_wp2_with (first
      | (go_at_call 44; refine (of_bent HH.out).mono ?_; rintro e w' ⟨rfl, rfl⟩)
      | (go_at_call 128; refine (belig0 HH.out.2.1 y).mono ?_; rintro e w1 ⟨rfl, hb1⟩))
    go_ret
    exact ⟨rfl, hb1⟩
  · obtain ⟨K, hK⟩ := h.2.1
    have hK0 : K = [] := List.eq_nil_of_length_eq_zero (Nat.le_zero.1 hK.run.sub.length_le)
    subst hK0
    have hN := hK.none; have HN := Lib.hid hN; clear hN
    have HH := Lib.hid h; have HK := Lib.hid hK; clear h hK
    go_enter Try.func42, Try.ntmps42
    go_wp2_with (first
      | (go_at_call 44; refine (of_sag HH.out).mono ?_; rintro e w' ⟨rfl, rfl⟩)
      | (go_at_call 132; refine (selig0 ⟨_, HK.out⟩ y).mono ?_; rintro e w1 ⟨rfl, hb1⟩))
    go_ret
    exact ⟨rfl, hb1⟩

theorem run_last (h : RunAt w r g F L R x A) (hA : A ≠ []) :
    Calls Try.prog 31 #[.pointer (some ⟨r, 0, none⟩)] w fun e w' => e = .returned (.tuple #[.int .u64 x, .bool true]) ∧ w = w' := by
  have HA := Lib.hid hA; clear hA
  rcases h with h | h
  · have HH := Lib.hid h; clear h
    go_enter Try.func31, Try.ntmps31
    go_wp2_with (first
      | (go_at_call 44; refine (of_bent HH.out).mono ?_; rintro e w' ⟨rfl, rfl⟩)
      | (go_at_call 119; refine (bent_last HH.out.2.1 HA.out).mono ?_; rintro e w' ⟨rfl, rfl⟩))
    go_ret2
    exact ⟨rfl, rfl⟩
  · obtain ⟨K, hK⟩ := h.2.1
    have HH := Lib.hid h; have HK := Lib.hid hK; clear h hK
    go_enter Try.func31, Try.ntmps31
    go_wp2_with (first
      | (go_at_call 44; refine (of_sag HH.out).mono ?_; rintro e w' ⟨rfl, rfl⟩)
      | (go_at_call 52; refine (live_last HK.out HA.out).mono ?_; rintro e w' ⟨rfl, rfl⟩))
    go_ret2
    exact ⟨rfl, rfl⟩

theorem run_last0 (h : RunAt w r g F L R x []) :
    Calls Try.prog 31 #[.pointer (some ⟨r, 0, none⟩)] w fun e w' => e = .returned (.tuple #[.int .u64 0, .bool false]) ∧ w = w' := by
  rcases h with h | h
  · have HH := Lib.hid h; clear h
    go_enter Try.func31, Try.ntmps31
    go_wp2_with (first
      | (go_at_call 44; refine (of_bent HH.out).mono ?_; rintro e w' ⟨rfl, rfl⟩)
      | (go_at_call 119; refine (bent_last0 HH.out.2.1).mono ?_; rintro e w' ⟨rfl, rfl⟩))
    go_ret2
    exact ⟨rfl, rfl⟩
  · obtain ⟨K, hK⟩ := h.2.1
    have hK0 : K = [] := List.eq_nil_of_length_eq_zero (Nat.le_zero.1 hK.run.sub.length_le)
    subst hK0
    have hN := hK.none; have HN := Lib.hid hN; clear hN
    have HH := Lib.hid h; have HK := Lib.hid hK; clear h hK
    go_enter Try.func31, Try.ntmps31
    go_wp2_with (first
      | (go_at_call 44; refine (of_sag HH.out).mono ?_; rintro e w' ⟨rfl, rfl⟩)
      | (go_at_call 52; refine (slast_none _ _ HN.out).mono ?_; rintro e w' ⟨rfl, rfl⟩))
    go_ret2
    exact ⟨rfl, rfl⟩

theorem run_many (h : RunAt w r g F L R x A) (hA : A ≠ []) :
    Calls Try.prog 34 #[.pointer (some ⟨r, 0, none⟩)] w fun e w' => e = .returned (.int .i64 A.length) ∧ w = w' := by
  have HA := Lib.hid hA; clear hA
  rcases h with h | h
  · have HH := Lib.hid h; clear h
    go_enter Try.func34, Try.ntmps34
    go_wp2_with (first
      | (go_at_call 44; refine (of_bent HH.out).mono ?_; rintro e w' ⟨rfl, rfl⟩)
      | (go_at_call 122; refine (bent_starts HH.out.2.1 HA.out).mono ?_; rintro e w' ⟨rfl, rfl⟩))
    go_ret
    exact ⟨rfl, rfl⟩
  · obtain ⟨K, hK⟩ := h.2.1
    have HH := Lib.hid h; have HK := Lib.hid hK; clear h hK
    go_enter Try.func34, Try.ntmps34
    go_wp2_with (first
      | (go_at_call 44; refine (of_sag HH.out).mono ?_; rintro e w' ⟨rfl, rfl⟩)
      | (go_at_call 55; refine (live_starts HK.out HA.out).mono ?_; rintro e w' ⟨rfl, rfl⟩))
    go_ret
    exact ⟨rfl, rfl⟩

theorem run_many0 (h : RunAt w r g F L R x []) :
    Calls Try.prog 34 #[.pointer (some ⟨r, 0, none⟩)] w fun e w' => e = .returned (.int .i64 0) ∧ w = w' := by
  rcases h with h | h
  · have HH := Lib.hid h; clear h
    go_enter Try.func34, Try.ntmps34
    go_wp2_with (first
      | (go_at_call 44; refine (of_bent HH.out).mono ?_; rintro e w' ⟨rfl, rfl⟩)
      | (go_at_call 122; refine (bent_starts0 HH.out.2.1).mono ?_; rintro e w' ⟨rfl, rfl⟩))
    go_ret
    exact ⟨rfl, rfl⟩
  · obtain ⟨K, hK⟩ := h.2.1
    have hK0 : K = [] := List.eq_nil_of_length_eq_zero (Nat.le_zero.1 hK.run.sub.length_le)
    subst hK0
    have hN := hK.none; have HN := Lib.hid hN; clear hN
    have HH := Lib.hid h; have HK := Lib.hid hK; clear h hK
    go_enter Try.func34, Try.ntmps34
    go_wp2_with (first
      | (go_at_call 44; refine (of_sag HH.out).mono ?_; rintro e w' ⟨rfl, rfl⟩)
      | (go_at_call 55; refine (sstarts_none _ _ HN.out).mono ?_; rintro e w' ⟨rfl, rfl⟩))
    go_ret
    exact ⟨rfl, rfl⟩

theorem run_curve (h : RunAt w r g F L R x A) :
    Calls Try.prog 33 #[.pointer (some ⟨r, 0, none⟩)] w fun e w' => e = .returned (.agg #[.int .u64 F, .int .u64 L, .int .u64 R]) ∧ Below w.heap.size w w' := by
  have hc : ∃ i, Blk w r 65 #[.int .u64 F, .int .u64 L, .int .u64 R, i] := by
    rcases h with h | h
    · exact ⟨_, h.1⟩
    · exact ⟨_, h.1⟩
  obtain ⟨i, hB⟩ := hc
  have c0 := hB.cell 0; have c1 := hB.cell 1; have c2 := hB.cell 2
  have hlt := hB.lt
  simp only [List.getElem?_toArray, List.getElem?_cons_zero, List.getElem?_cons_succ] at c0 c1 c2
  clear h hB
  go_enter Try.func33, Try.ntmps33
  go_wp2
  go_returns
  exact ⟨rfl, by go_grown⟩
end

end Go.Proofs.Ytipiajnaechadaa
