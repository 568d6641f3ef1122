/-
  A sagging run, from outside: what is asked of it, by the copies that started (A) and those that are kept (K).
-/
import Derived.Test.YtipiajnaechadaaSagStart
import Derived.Test.YtipiajnaechadaaSagSmall
import Derived.Test.YtipiajnaechadaaSagLine
import Derived.Test.YtipiajnaechadaaSagAhead
import Derived.Test.YtipiajnaechadaaSagNew
import Derived.Test.YtipiajnaechadaaSagLaw
namespace Go.Proofs.Ytipiajnaechadaa
set_option linter.unusedVariables false
open Go.RowKit

/-- a run in memory: the last copy started at x; A started, K are kept -/
structure Live (w : World) (g : Nat) (F L R x : Int) (K A : List (Int × Int)) : Prop where
  at_ : SagAt w g F L R A.length x K
  may : MayC F L R
  le : F ≤ R
  run : Run F L R x K A
  num : ∀ a ∈ A, 0 ≤ a.1 ∧ 0 ≤ a.2 ∧ a.2 ≤ 4611686018427387904
  x0 : 0 ≤ x
  x1 : x ≤ 9223372036854775808
  few : A.length ≤ 900000
  one : (∀ a ∈ A, L ≤ x - a.1) → K.length ≤ 1

section
variable {w w' : World} {g : Nat} {F L R x : Int} {K A : List (Int × Int)}

theorem Live.below (h : Live w g F L R x K A) (hb : Below w.heap.size w w') : Live w' g F L R x K A := ⟨h.at_.below hb, h.may, h.le, h.run, h.num, h.x0, h.x1, h.few, h.one⟩
theorem Live.lt (h : Live w g F L R x K A) : g < w.heap.size := by obtain ⟨v, hb, _⟩ := h.at_; exact hb.lt
theorem Live.sag (h : Live w g F L R x K A) : SagC F L R := ⟨h.may, .inr h.le⟩
theorem Live.uF (h : Live w g F L R x K A) : U F := ⟨h.may.f0, by have := h.may.f1; omega⟩
theorem Live.uR (h : Live w g F L R x K A) : U R := ⟨h.may.r0, by have := h.may.r1; omega⟩
theorem Live.uL (h : Live w g F L R x K A) : U L := ⟨h.may.l0, by have := h.may.l1; omega⟩
theorem Live.ux (h : Live w g F L R x K A) : U x := ⟨h.x0, by have := h.x1; omega⟩
theorem Live.kept (h : Live w g F L R x K A) : ∀ k ∈ K, 0 ≤ k.1 ∧ k.1 ≤ x ∧ U k.2 := fun k hk => by
  have h1 := h.run.sub.subset hk
  have h2 := h.num k h1
  exact ⟨h2.1, h.run.le k h1, h2.2.1, by omega⟩
theorem Live.kept' (h : Live w g F L R x K A) : ∀ k ∈ K, 0 ≤ k.1 ∧ k.1 ≤ 9223372036854775808 ∧ U k.2 := fun k hk => by
  have h1 := h.kept k hk; have h2 := h.x1
  exact ⟨h1.1, by omega, h1.2.2⟩
theorem Live.fewK (h : Live w g F L R x K A) : K.length ≤ 900000 := Nat.le_trans h.run.sub.length_le h.few
theorem Live.someK (h : Live w g F L R x K A) (hA : A ≠ []) : K ≠ [] := by
  have := (h.run.some hA).1
  rintro rfl
  simp at this
theorem Live.n0 (h : Live w g F L R x K A) (hA : A ≠ []) : (A.length : Int) ≠ 0 := by
  have := List.length_pos_iff.2 hA
  omega
theorem Live.none (h : Live w g F L R x K []) : NoneAt w (some ⟨g, 0, none⟩) := by
  obtain ⟨v, hb, _⟩ := h.at_
  exact .inr ⟨g, rfl, hb.lt, hb.cell 4⟩
theorem Live.rest (h : Live w g F L R x K A) : MayC 0 0 R := ⟨Int.le_refl _, by omega, h.may.r0, h.may.r1, Int.le_refl _, by omega, fun _ => rfl⟩

theorem live_new (w : World) (hF : 0 ≤ F) (hL : 0 ≤ L) (hR : 0 ≤ R) (h1 : mayB F L R = true) (h2 : F ≤ R) :
    Calls Try.prog 22 #[.agg #[.int .u64 F, .int .u64 L, .int .u64 R]] w fun e w' =>
      ∃ g, e = .returned (.tuple #[.pointer (some ⟨g, 0, none⟩), .int .i64 0]) ∧ w.heap.size ≤ g ∧ Live w' g F L R 0 [] [] ∧ Below w.heap.size w w' :=
  (snew_ok F L R w hL h1 h2).mono fun _ _ ⟨g, he, hg, hs, hb⟩ =>
    ⟨g, he, hg, ⟨hs, mayB_spec hF hL hR h1, h2, Run.nil F L R 0, by intro a ha; simp at ha, by omega, by omega, by simp, fun _ => by simp⟩, hb⟩

theorem live_start (h : Live w g F L R x K A) (t y X Y : Int) (ht : U t) (hy : U y) (hX : X = max (min t 9223372036854775808) x) (hY : Y = min y 4611686018427387904) (hfew : A.length < 900000) :
    Calls Try.prog 26 #[.pointer (some ⟨g, 0, none⟩), .int .u64 t, .int .u64 y] w fun e w' =>
      e = .returned (.tuple #[]) ∧ Live w' g F L R X (startK F L R X K (X, Y)) (A ++ [(X, Y)]) ∧ w.grownBy w' (some g) := by
  have hxX : x ≤ X := by omega
  have h0 := h.x0; have h1 := h.x1
  refine (sstart_any g F L R A.length x y t X Y K w hX hY h.ux ht hy (by omega) (by omega) h.fewK h.sag h.kept h.at_).mono fun e w' ⟨he, hs, hg⟩ => ⟨he, ?_, hg⟩
  refine ⟨?_, h.may, h.le, h.run.start h.sag hxX, fun a ha => ?_, by omega, by omega, by simp; omega, fun hall => ?_⟩
  · rw [List.length_append]
    exact hs
  · rcases List.mem_append.1 ha with ha | ha
    · exact h.num a ha
    · obtain rfl : a = (X, Y) := by simpa using ha
      unfold U at hy
      exact ⟨by simp only; omega, by simp only; omega, by simp only; omega⟩
  · refine start_one h.sag (fun o ho => hall o ?_) (hall (X, Y) (by simp))
    exact List.mem_append_left _ (h.run.sub.subset ho)

theorem Live.stay (h : Live w g F L R x K A) (g' : Nat) (hg : g' ≠ g) (hrow : g' ≤ g) (hw : w.grownBy w' (some g')) : Live w' g F L R x K A := by
  obtain ⟨v, hb, hr⟩ := h.at_
  refine ⟨⟨v, hb.grown hw (by simpa using Ne.symm hg), hr.kept hw ?_⟩, h.may, h.le, h.run, h.num, h.x0, h.x1, h.few, h.one⟩
  cases hv : v.ownBlock with
  | none => exact .inl rfl
  | some k =>
    have := (hr.lt k hv).1
    refine .inr fun he => ?_
    injection he with he
    omega

theorem live_at (h : Live w g F L R x K A) (hA : A ≠ []) (t : Int) (ht : U t) :
    Calls Try.prog 58 #[.pointer (some ⟨g, 0, none⟩), .int .u64 t] w fun e w' =>
      e = .returned (.int .u64 (minF (atK F L R (max t x)) 4611686018427387904 A)) ∧ Below w.heap.size w w' := by
  rw [← (h.run.least (t := max t x) (fun a ha => (h.num a ha).2.1) (by omega)).1]
  exact sat_any g F L R A.length x t K w h.uF h.uL h.uR ht h.ux (h.n0 hA) (h.someK hA) (Nat.le_trans h.fewK (by omega)) h.kept h.at_
theorem live_line (h : Live w g F L R x K A) (hA : A ≠ []) (t : Int) (ht : U t) :
    Calls Try.prog 62 #[.pointer (some ⟨g, 0, none⟩), .int .u64 t] w fun e w' =>
      e = .returned (.int .u64 (minF (linK R (max t x)) 4611686018427387904 A)) ∧ Below w.heap.size w w' := by
  rw [← (h.run.least (t := max t x) (fun a ha => (h.num a ha).2.1) (by omega)).2]
  exact sline_any g F L R A.length x t K w h.uF h.uL h.uR ht h.ux (h.n0 hA) (h.someK hA) (Nat.le_trans h.fewK (by omega)) h.kept h.at_
theorem live_reach (h : Live w g F L R x K A) (hA : A ≠ []) (y : Int) (hy : U y) :
    Calls Try.prog 60 #[.pointer (some ⟨g, 0, none⟩), .int .u64 y] w fun e w' =>
      e = .returned (.int .u64 (lastAt (reachC F L R) y K x)) ∧ Below w.heap.size w w' :=
  sreach_any g F L R A.length x y K w h.may hy h.ux (h.n0 hA) (h.someK hA) (Nat.le_trans h.fewK (by omega)) h.kept' h.at_
theorem live_ahead (h : Live w g F L R x K A) (hA : A ≠ []) (y : Int) (hy : U y) :
    Calls Try.prog 63 #[.pointer (some ⟨g, 0, none⟩), .int .u64 y] w fun e w' =>
      e = .returned (.int .u64 (lastAt (reachC 0 0 R) y K x)) ∧ Below w.heap.size w w' :=
  sahead_any g F L R A.length x y K w h.rest hy h.ux (h.n0 hA) (h.someK hA) (Nat.le_trans h.fewK (by omega)) h.kept' h.at_
theorem live_last (h : Live w g F L R x K A) (hA : A ≠ []) :
    Calls Try.prog 52 #[.pointer (some ⟨g, 0, none⟩)] w fun e w' => e = .returned (.tuple #[.int .u64 x, .bool true]) ∧ w = w' :=
  slast_any g F L R _ x K w (h.n0 hA) h.at_
theorem live_starts (h : Live w g F L R x K A) (hA : A ≠ []) :
    Calls Try.prog 55 #[.pointer (some ⟨g, 0, none⟩)] w fun e w' => e = .returned (.int .i64 A.length) ∧ w = w' :=
  sstarts_any g F L R _ x K w (h.n0 hA) h.at_
theorem live_kept (h : Live w g F L R x K A) (hA : A ≠ []) :
    Calls Try.prog 56 #[.pointer (some ⟨g, 0, none⟩)] w fun e w' => e = .returned (.int .i64 K.length) ∧ w = w' :=
  skept_any g F L R _ x K w (h.n0 hA) (h.someK hA) h.at_
end

end Go.Proofs.Ytipiajnaechadaa
