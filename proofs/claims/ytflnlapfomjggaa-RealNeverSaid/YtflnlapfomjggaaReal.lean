/-
  A debt in memory, and its contracts.
-/
import Derived.Test.YtflnlapfomjggaaRunStarted
namespace Go.Proofs.Ytflnlapfomjggaa
set_option linter.unusedVariables false
open Go.RowKit

section
variable {w w' : World} {r g : Nat} {F L R x : Int} {A : List (Int × Int)}
theorem Back.unique {v : Int → Int} {x y n m : Int} (h : Back v x y n) (k : Back v x y m) (hm : ∀ t u, x ≤ t → t ≤ u → v t ≤ v u) : n = m := by
  have h1 := Back.less h k hm (fun _ _ => Int.le_refl _)
  have h2 := Back.less k h hm (fun _ _ => Int.le_refl _)
  omega
/-- the answer of Eligible, ahead of the call -/
theorem elig_fix (h : RunAt w r g F L R x A) (hA : A ≠ []) (y : Int) (hy : U y) :
    ∃ n, Back (fun t => vE F L R A (max t x)) x y n ∧ 0 ≤ n ∧ n ≤ 9223372036854775808 ∧ ∀ w1, RunAt w1 r g F L R x A →
      Calls Try.prog 18 #[.pointer (some ⟨r, 0, none⟩), .int .u64 y] w1 fun e w' => e = .returned (.int .u64 n) ∧ Below w1.heap.size w1 w' := by
  obtain ⟨e, w1, fr, ⟨n, he, hk, h0, h1, _⟩, _⟩ := run_elig h hA y hy []
  refine ⟨n, hk, h0, h1, fun w2 h2 => (run_elig h2 hA y hy).mono ?_⟩
  rintro e2 w3 ⟨m, rfl, hk2, _, _, hb⟩
  rw [hk.unique hk2 (vE_max_mono h.may h.num.1)]
  exact ⟨rfl, hb⟩
theorem reach_fix (h : RunAt w r g F L R x A) (hA : A ≠ []) (y : Int) (hy : U y) :
    ∃ n, Back (fun t => vA F L R A (max t x)) x y n ∧ 0 ≤ n ∧ n ≤ 9223372036854775808 ∧ ∀ w1, RunAt w1 r g F L R x A →
      Calls Try.prog 19 #[.pointer (some ⟨r, 0, none⟩), .int .u64 y] w1 fun e w' => e = .returned (.int .u64 n) ∧ Below w1.heap.size w1 w' := by
  obtain ⟨e, w1, fr, ⟨n, he, hk, h0, h1, _⟩, _⟩ := run_reach h hA y hy []
  refine ⟨n, hk, h0, h1, fun w2 h2 => (run_reach h2 hA y hy).mono ?_⟩
  rintro e2 w3 ⟨m, rfl, hk2, _, _, hb⟩
  rw [hk.unique hk2 (vA_max_mono h.may h.num.1)]
  exact ⟨rfl, hb⟩
end

/-- a debt in memory -/
def DebtAt (w : World) (d r g : Nat) (F L R x : Int) (A : List (Int × Int)) (got : Int) (aw : Bool) (el du : Int) : Prop :=
  Blk w d 113 #[.pointer (some ⟨r, 0, none⟩), .int .u64 got, .bool aw, .int .u64 el, .int .u64 du] ∧ RunAt w r g F L R x A ∧ r < d

/-- the grains of a length -/
def grainsL (n : Int) : Int := min (max n 0) 65536 * 256
theorem grainsL_bd (n : Int) : 0 ≤ grainsL n ∧ grainsL n ≤ 16777216 := by unfold grainsL; omega

theorem grains_any (n : Int) (w : World) :
    Calls Try.prog 67 #[.int .i64 n] w fun e w' => e = .returned (.int .u64 (grainsL n)) ∧ w = w' := by
  obtain ⟨a, ha⟩ : ∃ a, (if n < 0 then 0 else n) = a := ⟨_, rfl⟩
  obtain ⟨b, hb⟩ : ∃ b, (if 65536 < a then 65536 else a) = b := ⟨_, rfl⟩
  have hm : grainsL n = b * 256 := by unfold grainsL; split at ha <;> split at hb <;> omega
  have hb0 : 0 ≤ b ∧ b ≤ 65536 := by split at ha <;> split at hb <;> omega
  rw [hm]
  go_enter Try.func67, Try.ntmps67
  go_wp2
  all_goals go_ret
  all_goals exact ⟨rfl, rfl⟩

section
variable {w w' : World} {d r g : Nat} {F L R x got el du : Int} {A : List (Int × Int)} {aw : Bool}
theorem DebtAt.below (h : DebtAt w d r g F L R x A got aw el du) (hb : Below w.heap.size w w') : DebtAt w' d r g F L R x A got aw el du := ⟨h.1.below hb h.1.lt, h.2.1.below hb, h.2.2⟩
theorem DebtAt.glt (h : DebtAt w d r g F L R x A got aw el du) : g < d := by have := h.2.1.lt; have := h.2.2; omega

theorem dnone (h : DebtAt w d r g F L R x A got aw el du) :
    Calls Try.prog 65 #[.pointer (some ⟨d, 0, none⟩)] w fun e w' => e = .returned (.bool false) ∧ w = w' := by
  have c0 := h.1.cell 0
  simp only [List.getElem?_toArray, List.getElem?_cons_zero, List.getElem?_cons_succ] at c0
  clear h
  go_enter Try.func65, Try.ntmps65
  go_wp2
  go_ret
  exact ⟨rfl, rfl⟩
theorem dawake (h : DebtAt w d r g F L R x A got aw el du) :
    Calls Try.prog 39 #[.pointer (some ⟨d, 0, none⟩)] w fun e w' => e = .returned (.bool aw) ∧ w = w' := by
  have c2 := h.1.cell 2
  simp only [List.getElem?_toArray, List.getElem?_cons_zero, List.getElem?_cons_succ] at c2
  have H := Lib.hid h; clear h
  go_enter Try.func39, Try.ntmps39
  go_wp2_with (go_at_call 65; refine (dnone H.out).mono ?_; rintro e w' ⟨rfl, rfl⟩)
  go_ret
  exact ⟨rfl, rfl⟩
theorem dgot (h : DebtAt w d r g F L R x A got aw el du) :
    Calls Try.prog 42 #[.pointer (some ⟨d, 0, none⟩)] w fun e w' => e = .returned (.int .u64 got) ∧ w = w' := by
  have c1 := h.1.cell 1
  simp only [List.getElem?_toArray, List.getElem?_cons_zero, List.getElem?_cons_succ] at c1
  have H := Lib.hid h; clear h
  go_enter Try.func42, Try.ntmps42
  go_wp2_with (go_at_call 65; refine (dnone H.out).mono ?_; rintro e w' ⟨rfl, rfl⟩)
  go_ret
  exact ⟨rfl, rfl⟩
theorem delig (h : DebtAt w d r g F L R x A got true el du) :
    Calls Try.prog 44 #[.pointer (some ⟨d, 0, none⟩)] w fun e w' => e = .returned (.int .u64 el) ∧ w = w' := by
  have c3 := h.1.cell 3
  simp only [List.getElem?_toArray, List.getElem?_cons_zero, List.getElem?_cons_succ] at c3
  have H := Lib.hid h; clear h
  go_enter Try.func44, Try.ntmps44
  go_wp2_with (go_at_call 39; refine (dawake H.out).mono ?_; rintro e w' ⟨rfl, rfl⟩)
  go_ret
  exact ⟨rfl, rfl⟩
theorem delig_no (h : DebtAt w d r g F L R x A got false el du) :
    Calls Try.prog 44 #[.pointer (some ⟨d, 0, none⟩)] w fun e w' => e = .returned (.int .u64 9223372036854775808) ∧ w = w' := by
  have H := Lib.hid h; clear h
  go_enter Try.func44, Try.ntmps44
  go_wp2_with (go_at_call 39; refine (dawake H.out).mono ?_; rintro e w' ⟨rfl, rfl⟩)
  go_ret
  exact ⟨rfl, rfl⟩
theorem ddue (h : DebtAt w d r g F L R x A got true el du) :
    Calls Try.prog 43 #[.pointer (some ⟨d, 0, none⟩)] w fun e w' => e = .returned (.int .u64 du) ∧ w = w' := by
  have c4 := h.1.cell 4
  simp only [List.getElem?_toArray, List.getElem?_cons_zero, List.getElem?_cons_succ] at c4
  have H := Lib.hid h; clear h
  go_enter Try.func43, Try.ntmps43
  go_wp2_with (go_at_call 39; refine (dawake H.out).mono ?_; rintro e w' ⟨rfl, rfl⟩)
  go_ret
  exact ⟨rfl, rfl⟩
theorem ddue_no (h : DebtAt w d r g F L R x A got false el du) :
    Calls Try.prog 43 #[.pointer (some ⟨d, 0, none⟩)] w fun e w' => e = .returned (.int .u64 9223372036854775808) ∧ w = w' := by
  have H := Lib.hid h; clear h
  go_enter Try.func43, Try.ntmps43
  go_wp2_with (go_at_call 39; refine (dawake H.out).mono ?_; rintro e w' ⟨rfl, rfl⟩)
  go_ret
  exact ⟨rfl, rfl⟩
theorem dowes (h : DebtAt w d r g F L R x A got aw el du) (hA : A ≠ []) (t : Int) (ht : U t) :
    Calls Try.prog 64 #[.pointer (some ⟨d, 0, none⟩), .int .u64 t] w fun e w' => e = .returned (.int .u64 (vA F L R A (max t x))) ∧ Below w.heap.size w w' := by
  have c0 := h.1.cell 0
  simp only [List.getElem?_toArray, List.getElem?_cons_zero, List.getElem?_cons_succ] at c0
  have H := Lib.hid h; have HA := Lib.hid hA; clear h hA
  go_enter Try.func64, Try.ntmps64
  go_wp2_with (first
    | (go_at_call 65; refine (dnone H.out).mono ?_; rintro e w' ⟨rfl, rfl⟩)
    | (go_at_call 21; refine (run_at H.out.2.1 HA.out t ht).mono ?_; rintro e w1 ⟨rfl, hb1⟩))
  go_ret
  exact ⟨rfl, hb1⟩
end

end Go.Proofs.Ytflnlapfomjggaa
