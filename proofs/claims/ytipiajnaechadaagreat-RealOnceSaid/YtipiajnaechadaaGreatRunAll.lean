/-
  What is asked of a run: all its methods, by the copies that started.
-/
import Derived.Test.YtipiajnaechadaaGreatRun
namespace Go.Proofs.YtipiajnaechadaaGreat
set_option linter.unusedVariables false
open Go.RowKit

section
variable {w w' : World} {r g : Nat} {F L R x : Int} {A : List (Int × Int)}
theorem RunB.vE_eq (h : RunB w r g F L R x A) : vE F L R A = vA F L R A := by funext t; exact if_pos h.2.1.lt_
theorem Live.vE_eq {K : List (Int × Int)} (h : Live w g F L R x K A) : vE F L R A = vL R A := by funext t; exact if_neg (by have := h.le; omega)
theorem Live.x_U (h : ∃ K, Live w g F L R x K A) : 0 ≤ x ∧ x ≤ 9223372036854775808 := by obtain ⟨K, hK⟩ := h; exact ⟨hK.x0, hK.x1⟩

theorem belig (h : BentAt w g F L R x A) (hA : A ≠ []) (y : Int) (hy : U y) :
    Calls Tryz.prog 95 #[.agg #[.pointer (some ⟨g, 0, none⟩)], .int .u64 y] w (Ans (fun t => vA F L R A (max t x)) x y w) := by
  have hal := (Below.refl w.heap.size w).alloc (Nat.le_refl _) (.cells #[.pointer (some ⟨g, 0, none⟩)] 66)
  have h1 := h.below hal
  have HH := Lib.hid h1; have HA := Lib.hid hA; clear h h1 hA
  go_enter Tryz.func95, Tryz.ntmps95
  go_wp2_with (go_at_call 77; refine (bent_reach HH.out HA.out y hy).mono ?_; rintro e w1 ⟨n, rfl, hk, hn0, hn1, hb1⟩)
  go_ret
  exact ⟨n, rfl, hk, hn0, hn1, hal.trans (hb1.mono hal.size)⟩
theorem belig0 (h : BentAt w g F L R x []) (y : Int) :
    Calls Tryz.prog 95 #[.agg #[.pointer (some ⟨g, 0, none⟩)], .int .u64 y] w fun e w' => e = .returned (.int .u64 (nev y)) ∧ Below w.heap.size w w' := by
  have hal := (Below.refl w.heap.size w).alloc (Nat.le_refl _) (.cells #[.pointer (some ⟨g, 0, none⟩)] 66)
  have h1 := h.below hal
  have HH := Lib.hid h1; clear h h1
  have e : nevB y = nev y := rfl
  rw [← e]
  go_enter Tryz.func95, Tryz.ntmps95
  go_wp2_with (go_at_call 77; refine (bent_reach0 HH.out y).mono ?_; rintro e w1 ⟨rfl, rfl⟩)
  go_ret
  exact ⟨rfl, hal⟩
theorem selig (h : ∃ K, Live w g F L R x K A) (hA : A ≠ []) (y : Int) (hy : U y) :
    Calls Tryz.prog 123 #[.agg #[.pointer (some ⟨g, 0, none⟩)], .int .u64 y] w (Ans (fun t => vL R A (max t x)) x y w) := by
  obtain ⟨K, h⟩ := h
  have hal := (Below.refl w.heap.size w).alloc (Nat.le_refl _) (.cells #[.pointer (some ⟨g, 0, none⟩)] 75)
  have h1 := h.below hal
  have hk := (live_back (y := y) h1 hA).2.1
  have hx0 := h.x0
  have HH := Lib.hid h1; have HA := Lib.hid hA; have HK := Lib.hid hk; clear h h1 hA hk
  go_enter Tryz.func123, Tryz.ntmps123
  go_wp2_with (go_at_call 125; refine (live_ahead HH.out HA.out y hy).mono ?_; rintro e w1 ⟨rfl, hb1⟩)
  go_ret
  have hk := HK.out
  exact ⟨_, rfl, hk, by have := hk.x_le; omega, hk.le_never, hal.trans (hb1.mono hal.size)⟩
theorem selig0 (h : ∃ K, Live w g F L R x K []) (y : Int) :
    Calls Tryz.prog 123 #[.agg #[.pointer (some ⟨g, 0, none⟩)], .int .u64 y] w fun e w' => e = .returned (.int .u64 (nev y)) ∧ Below w.heap.size w w' := by
  obtain ⟨K, h⟩ := h
  have hal := (Below.refl w.heap.size w).alloc (Nat.le_refl _) (.cells #[.pointer (some ⟨g, 0, none⟩)] 75)
  have hK : K = [] := List.eq_nil_of_length_eq_zero (Nat.le_zero.1 h.run.sub.length_le)
  subst hK
  have h2 := h.below hal
  have h1 := h2.none
  have c2 : ∃ R, (w.alloc (.cells #[.pointer (some ⟨g, 0, none⟩)] 75)).cell? ⟨g, 2, none⟩ = some (.int .u64 R) := by obtain ⟨v, hb, _⟩ := h2.at_; exact ⟨R, hb.cell 2⟩
  have HH := Lib.hid h1; have HC := Lib.hid c2; clear h h1 h2 c2
  go_enter Tryz.func123, Tryz.ntmps123
  go_wp2_with (go_at_call 125; refine (sahead_none _ y _ HH.out (fun g' hg' => by cases hg'; exact HC.out)).mono ?_; rintro e w1 ⟨rfl, hb1⟩)
  go_ret
  exact ⟨rfl, hal.trans (hb1.mono hal.size)⟩

theorem run_at0 (h : RunAt w r g F L R x []) (t : Int) :
    Calls Tryz.prog 48 #[.pointer (some ⟨r, 0, none⟩), .int .u64 t] w fun e w' => e = .returned (.int .u64 0) ∧ Below w.heap.size w w' := by
  rcases h with h | h
  · have HH := Lib.hid h; clear h
    go_enter Tryz.func48, Tryz.ntmps48
    go_wp2_with (first
      | (go_at_call 37; refine (of_bent HH.out).mono ?_; rintro e w' ⟨rfl, rfl⟩)
      | (go_at_call 76; refine (bent_at0 HH.out.2.1 t).mono ?_; rintro e w1 ⟨rfl, rfl⟩))
    go_ret
    exact ⟨rfl, Below.refl _ _⟩
  · obtain ⟨K, hK⟩ := h.2.1
    have hK0 : K = [] := List.eq_nil_of_length_eq_zero (Nat.le_zero.1 hK.run.sub.length_le)
    subst hK0
    have hN := hK.none; have HN := Lib.hid hN; clear hN
    have HH := Lib.hid h; have HK := Lib.hid hK; clear h hK
    go_enter Tryz.func48, Tryz.ntmps48
    go_wp2_with (first
      | (go_at_call 37; refine (of_sag HH.out).mono ?_; rintro e w' ⟨rfl, rfl⟩)
      | (go_at_call 98; refine (sat_none _ t _ HN.out).mono ?_; rintro e w1 ⟨rfl, hb1⟩))
    go_ret
    exact ⟨rfl, hb1⟩

theorem run_reach (h : RunAt w r g F L R x A) (hA : A ≠ []) (y : Int) (hy : U y) :
    Calls Tryz.prog 41 #[.pointer (some ⟨r, 0, none⟩), .int .u64 y] w (Ans (fun t => vA F L R A (max t x)) x y w) := by
  have HA := Lib.hid hA; clear hA
  rcases h with h | h
  · have HH := Lib.hid h; clear h
    go_enter Tryz.func41, Tryz.ntmps41
    go_wp2_with (first
      | (go_at_call 37; refine (of_bent HH.out).mono ?_; rintro e w' ⟨rfl, rfl⟩)
      | (go_at_call 77; refine (bent_reach HH.out.2.1 HA.out y hy).mono ?_; rintro e w1 ⟨n, rfl, hk, hn0, hn1, hb1⟩))
    go_ret
    exact ⟨n, rfl, hk, hn0, hn1, hb1⟩
  · obtain ⟨K, hK⟩ := h.2.1
    have HH := Lib.hid h; have HK := Lib.hid hK; have HB := Lib.hid (live_back (y := y) hK HA.out).1; clear h hK
    go_enter Tryz.func41, Tryz.ntmps41
    go_wp2_with (first
      | (go_at_call 37; refine (of_sag HH.out).mono ?_; rintro e w' ⟨rfl, rfl⟩)
      | (go_at_call 101; refine (live_reach HK.out HA.out y hy).mono ?_; rintro e w1 ⟨rfl, hb1⟩))
    go_ret
    have hk := HB.out; have hx0 := HK.out.x0
    exact ⟨_, rfl, hk, by have := hk.x_le; omega, hk.le_never, hb1⟩

theorem run_reach0 (h : RunAt w r g F L R x []) (y : Int) :
    Calls Tryz.prog 41 #[.pointer (some ⟨r, 0, none⟩), .int .u64 y] w fun e w' => e = .returned (.int .u64 (nev y)) ∧ Below w.heap.size w w' := by
  rcases h with h | h
  · have HH := Lib.hid h; clear h
    go_enter Tryz.func41, Tryz.ntmps41
    go_wp2_with (first
      | (go_at_call 37; refine (of_bent HH.out).mono ?_; rintro e w' ⟨rfl, rfl⟩)
      | (go_at_call 77; refine (bent_reach0 HH.out.2.1 y).mono ?_; rintro e w1 ⟨rfl, rfl⟩))
    go_ret
    exact ⟨rfl, Below.refl _ _⟩
  · obtain ⟨K, hK⟩ := h.2.1
    have hK0 : K = [] := List.eq_nil_of_length_eq_zero (Nat.le_zero.1 hK.run.sub.length_le)
    subst hK0
    have hN := hK.none; have HN := Lib.hid hN; clear hN
    have HH := Lib.hid h; have HK := Lib.hid hK; clear h hK
    go_enter Tryz.func41, Tryz.ntmps41
    go_wp2_with (first
      | (go_at_call 37; refine (of_sag HH.out).mono ?_; rintro e w' ⟨rfl, rfl⟩)
      | (go_at_call 101; refine (sreach_none _ y _ HN.out).mono ?_; rintro e w1 ⟨rfl, hb1⟩))
    go_ret
    exact ⟨rfl, hb1⟩

theorem run_elig (h : RunAt w r g F L R x A) (hA : A ≠ []) (y : Int) (hy : U y) :
    Calls Tryz.prog 39 #[.pointer (some ⟨r, 0, none⟩), .int .u64 y] w (Ans (fun t => vE F L R A (max t x)) x y w) := by
  have HA := Lib.hid hA; clear hA
  rcases h with h | h
  · have HH := Lib.hid h; clear h
    go_enter Tryz.func39, Tryz.ntmps39
    go_wp2_with (first
      | (go_at_call 37; refine (of_bent HH.out).mono ?_; rintro e w' ⟨rfl, rfl⟩)
      | (go_at_call 95; refine (belig HH.out.2.1 HA.out y hy).mono ?_; rintro e w1 ⟨n, rfl, hk, hn0, hn1, hb1⟩))
    go_ret
    exact ⟨n, rfl, by rw [HH.out.vE_eq]; exact hk, hn0, hn1, hb1⟩
  · obtain ⟨K, hK⟩ := h.2.1
    have HH := Lib.hid h; have HK := Lib.hid hK; clear h hK
    go_enter Tryz.func39, Tryz.ntmps39
    go_wp2_with (first
      | (go_at_call 37; refine (of_sag HH.out).mono ?_; rintro e w' ⟨rfl, rfl⟩)
      | (go_at_call 123; refine (selig ⟨K, HK.out⟩ HA.out y hy).mono ?_; rintro e w1 ⟨n, rfl, hk, hn0, hn1, hb1⟩))
    go_ret
    exact ⟨n, rfl, by rw [HK.out.vE_eq]; exact hk, hn0, hn1, hb1⟩

theorem run_elig0 (h : RunAt w r g F L R x []) (y : Int) :
    Calls Tryz.prog 39 #[.pointer (some ⟨r, 0, none⟩), .int .u64 y] w fun e w' => e = .returned (.int .u64 (nev y)) ∧ Below w.heap.size w w' := by
  rcases h with h | h
  · have HH := Lib.hid h; clear h
    go_enter Tryz.func39, Tryz.ntmps39
    go_wp2_with (first
      | (go_at_call 37; refine (of_bent HH.out).mono ?_; rintro e w' ⟨rfl, rfl⟩)
      | (go_at_call 95; refine (belig0 HH.out.2.1 y).mono ?_; rintro e w1 ⟨rfl, hb1⟩))
    go_ret
    exact ⟨rfl, hb1⟩
  · obtain ⟨K, hK⟩ := h.2.1
    have hK0 : K = [] := List.eq_nil_of_length_eq_zero (Nat.le_zero.1 hK.run.sub.length_le)
    subst hK0
    have hN := hK.none; have HN := Lib.hid hN; clear hN
    have HH := Lib.hid h; have HK := Lib.hid hK; clear h hK
    go_enter Tryz.func39, Tryz.ntmps39
    go_wp2_with (first
      | (go_at_call 37; refine (of_sag HH.out).mono ?_; rintro e w' ⟨rfl, rfl⟩)
      | (go_at_call 123; refine (selig0 ⟨_, HK.out⟩ y).mono ?_; rintro e w1 ⟨rfl, hb1⟩))
    go_ret
    exact ⟨rfl, hb1⟩

end

end Go.Proofs.YtipiajnaechadaaGreat
