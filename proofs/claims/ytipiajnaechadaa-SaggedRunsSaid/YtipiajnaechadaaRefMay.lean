/-
  The document's answer whether a curve may be; its run, made new.
-/
import Derived.Test.YtipiajnaechadaaRefRun
namespace Go.Proofs.Ytipiajnaechadaa
set_option linter.unusedVariables false
open Go.RowKit

theorem rmay_any (F L R : Int) (w : World) (hL : 0 ≤ L) :
    Calls Try.prog 30 #[.agg #[.int .u64 F, .int .u64 L, .int .u64 R]] w fun e w' => e = .returned (.bool (mayB F L R)) ∧ Below w.heap.size w w' := by
  by_cases h1 : F ≤ 1048576
  · have h1b : decide (1048576 < F) = false := by simp; omega
    by_cases h2 : R ≤ 1048576
    · have h2b : decide (1048576 < R) = false := by simp; omega
      by_cases h3 : L ≤ 1099511627776
      · have h3b : decide (1099511627776 < L) = false := by simp; omega
        by_cases h4 : L = 0
        · subst h4
          have e : mayB F 0 R = decide (F = 0) := by simp [mayB, h1, h2]
          have E := Lib.hid e; clear e
          by_cases h5 : F = 0
          · subst h5
            go_enter Try.func30, Try.ntmps30
            go_wp2
            go_ret
            exact ⟨by rw [E.out]; rfl, by go_grown⟩
          · have h5b : (F == 0) = false := by simpa using h5
            go_enter Try.func30, Try.ntmps30
            go_wp2
            go_ret
            exact ⟨by rw [E.out]; simp [h5], by go_grown⟩
        · have h4b : (L == 0) = false := by simpa using h4
          have h4c : decide (0 < L) = true := by simp; omega
          have e : mayB F L R = decide (F ≠ R) := by simp [mayB, h1, h2, h3, h4]
          have E := Lib.hid e; clear e
          by_cases h5 : F = R
          · subst h5
            have h5b : (F != F) = false := by simp
            go_enter Try.func30, Try.ntmps30
            go_wp2
            go_ret
            exact ⟨by rw [E.out]; simp, by go_grown⟩
          · have h5b : (F != R) = true := by simpa using h5
            go_enter Try.func30, Try.ntmps30
            go_wp2
            go_ret
            exact ⟨by rw [E.out]; simp [h5], by go_grown⟩
      · have h3b : decide (1099511627776 < L) = true := by simp; omega
        have e : mayB F L R = false := by simp [mayB, h3]
        have E := Lib.hid e; clear e
        go_enter Try.func30, Try.ntmps30
        go_wp2
        go_ret
        exact ⟨by rw [E.out]; rfl, by go_grown⟩
    · have h2b : decide (1048576 < R) = true := by simp; omega
      have e : mayB F L R = false := by simp [mayB, h2]
      have E := Lib.hid e; clear e
      go_enter Try.func30, Try.ntmps30
      go_wp2
      go_ret
      exact ⟨by rw [E.out]; rfl, by go_grown⟩
  · have h1b : decide (1048576 < F) = true := by simp; omega
    have e : mayB F L R = false := by simp [mayB, h1]
    have E := Lib.hid e; clear e
    go_enter Try.func30, Try.ntmps30
    go_wp2
    go_ret
    exact ⟨by rw [E.out]; rfl, by go_grown⟩

theorem refnew_no (F L R : Int) (w : World) (hL : 0 ≤ L) (h : mayB F L R = false) :
    Calls Try.prog 7 #[.agg #[.int .u64 F, .int .u64 L, .int .u64 R]] w fun e w' => e = .returned (.pointer none) ∧ Below w.heap.size w w' := by
  have hal := (Below.refl w.heap.size w).alloc (Nat.le_refl _) (.cells #[.int .u64 F, .int .u64 L, .int .u64 R] 24)
  have H := Lib.hid h; clear h
  go_enter Try.func7, Try.ntmps7
  go_wp2_with (go_at_call 30; refine (rmay_any F L R _ hL).mono ?_; rintro e w1 ⟨rfl, hb1⟩; rw [H.out])
  go_ret
  exact ⟨rfl, hal.trans (hb1.mono hal.size)⟩
theorem refnew_some (F L R : Int) (w : World) (base : Nat) (hF : 0 ≤ F) (hL : 0 ≤ L) (hR : 0 ≤ R) (hb : base ≤ w.heap.size) (h : mayB F L R = true) :
    Calls Try.prog 7 #[.agg #[.int .u64 F, .int .u64 L, .int .u64 R]] w fun e w' => ∃ q, e = .returned (.pointer (some ⟨q, 0, none⟩)) ∧ RefAt w' q base F L R 0 [] ∧ Below w.heap.size w w' := by
  have hal := (Below.refl w.heap.size w).alloc (Nat.le_refl _) (.cells #[.int .u64 F, .int .u64 L, .int .u64 R] 24)
  have nb := Blk.new w 24 #[.int .u64 F, .int .u64 L, .int .u64 R]
  have NB := Lib.hid nb; clear nb
  have H := Lib.hid h
  have hM := mayB_spec hF hL hR h
  clear h
  go_enter Try.func7, Try.ntmps7
  go_wp2_with (go_at_call 30; refine (rmay_any F L R _ hL).mono ?_; rintro e w1 ⟨rfl, hb1⟩; rw [H.out]; have n1 := NB.out.below hb1 NB.out.lt; have a0 := n1.cell 0; have a1 := n1.cell 1; have a2 := n1.cell 2; simp only [List.getElem?_toArray, List.getElem?_cons_zero, List.getElem?_cons_succ] at a0 a1 a2)
  go_ret
  have hb2 := hal.trans (hb1.mono hal.size)
  have hb3 := hb2.alloc hb2.size (.cells #[.int .u64 F, .int .u64 L, .int .u64 R, .slice none 0 0, .slice none 0 0] 70)
  exact ⟨w1.heap.size, rfl, ⟨⟨_, _, Blk.new _ _ _, World.ownsRow_nil _ _ _ _, World.ownsRow_nil _ _ _ _, .inl rfl⟩, hM, Nums.nil, Nat.le_trans hb hb2.size⟩, hb3⟩

end Go.Proofs.Ytipiajnaechadaa
