/-
  A limit that a run holds back: its contracts.
-/
import Derived.Test.YtipiajnaechadaaRunStarted
namespace Go.Proofs.Ytipiajnaechadaa
set_option linter.unusedVariables false
open Go.RowKit

/-- a limit in memory, by a run of the curve F, L, R -/
def LimAt (w : World) (l r g : Nat) (F L R x : Int) (A : List (Int × Int)) : Prop :=
  Blk w l 83 #[.iface 85 (.agg #[.pointer (some ⟨r, 0, none⟩)])] ∧ RunAt w r g F L R x A ∧ r < l
/-- p leads to a limit that holds nobody back -/
def LFree (w : World) (l : Nat) : Prop := Blk w l 83 #[.iface 79 (.agg #[])]

@[go_sem] theorem as_free_bound (v : Value) (W : World) : (Instr.typeAssert (.iface 79 v) 81 85 true).run Try.prog W = .ok (.tuple #[.agg #[.pointer none], .bool false]) W := by kernel_rfl
@[go_sem] theorem as_free_free (v : Value) (W : World) : (Instr.typeAssert (.iface 79 v) 81 79 true).run Try.prog W = .ok (.tuple #[v, .bool true]) W := by kernel_rfl
@[go_sem] theorem as_bound_bound (v : Value) (W : World) : (Instr.typeAssert (.iface 85 v) 81 85 true).run Try.prog W = .ok (.tuple #[v, .bool true]) W := by kernel_rfl

section
variable {w w' : World} {l r g : Nat} {F L R x : Int} {A : List (Int × Int)}
theorem LimAt.below (h : LimAt w l r g F L R x A) (hb : Below w.heap.size w w') : LimAt w' l r g F L R x A := ⟨h.1.below hb h.1.lt, h.2.1.below hb, h.2.2⟩
theorem LimAt.may (h : LimAt w l r g F L R x A) : MayC F L R := h.2.1.may
theorem LimAt.num (h : LimAt w l r g F L R x A) : (∀ a ∈ A, a.1 ≤ x ∧ 0 ≤ a.2) ∧ 0 ≤ x ∧ x ≤ 9223372036854775808 := h.2.1.num
theorem LimAt.glt (h : LimAt w l r g F L R x A) : g < l := by have := h.2.1.lt; have := h.2.2; omega

set_option maxRecDepth 20000 in
theorem lbound_some (h : LimAt w l r g F L R x A) :
    Calls Try.prog 47 #[.pointer (some ⟨l, 0, none⟩)] w fun e w' => e = .returned (.pointer (some ⟨r, 0, none⟩)) ∧ Below w.heap.size w w' := by
  have c0 := h.1.cell 0
  simp only [List.getElem?_toArray, List.getElem?_cons_zero, List.getElem?_cons_succ] at c0
  clear h
  go_enter Try.func47, Try.ntmps47
  go_wp2
  go_ret
  exact ⟨rfl, by go_grown⟩
set_option maxRecDepth 20000 in
theorem lbound_free (h : LFree w l) :
    Calls Try.prog 47 #[.pointer (some ⟨l, 0, none⟩)] w fun e w' => e = .returned (.pointer none) ∧ Below w.heap.size w w' := by
  have c0 := h.cell 0
  simp only [List.getElem?_toArray, List.getElem?_cons_zero, List.getElem?_cons_succ] at c0
  clear h
  go_enter Try.func47, Try.ntmps47
  go_wp2
  go_ret
  exact ⟨rfl, by go_grown⟩

theorem lfit_free (total : Int) (h : LFree w l) :
    Calls Try.prog 18 #[.pointer (some ⟨l, 0, none⟩), .int .u64 total] w fun e w' => e = .returned (.int .u64 0) ∧ Below w.heap.size w w' := by
  go_enter Try.func18, Try.ntmps18
  go_wp2_with (go_at_call 47; refine (lbound_free h).mono ?_; rintro e w1 ⟨rfl, hb1⟩)
  go_ret
  exact ⟨rfl, hb1⟩

theorem lwake (h : LimAt w l r g F L R x A) (t y X Y : Int) (ht : U t) (hy : U y) (hX : X = max (min t 9223372036854775808) x) (hY : Y = min y 4611686018427387904) (hfew : A.length < 900000) :
    Calls Try.prog 15 #[.pointer (some ⟨l, 0, none⟩), .int .u64 t, .int .u64 y] w fun e w' =>
      e = .returned (.tuple #[]) ∧ LimAt w' l r g F L R X (A ++ [(X, Y)]) ∧ w.grownBy w' (some g) := by
  have H := Lib.hid h; have HX := Lib.hid hX; have HY := Lib.hid hY; clear h hX hY
  go_enter Try.func15, Try.ntmps15
  go_wp2_with (first
    | (go_at_call 47; refine (lbound_some H.out).mono ?_; rintro e w0 ⟨rfl, hb0⟩; have hq := H.out.below hb0; clear H; have H := Lib.hid hq; clear hq)
    | (go_at_call 10; refine (run_start H.out.2.1 t y X Y ht hy HX.out HY.out hfew).mono ?_; rintro e w1 ⟨rfl, hb1, hg1⟩; have HB1 := Lib.hid hb1; clear hb1))
  go_returns
  exact ⟨rfl, ⟨H.out.1.grown hg1 (by have := H.out.glt; simp; omega), HB1.out, H.out.2.2⟩, ((show w.grownBy w0 (some g) from ⟨hb0.os, hb0.tape, hb0.output, hb0.size, fun k hk _ => hb0.block k hk⟩).trans hg1)⟩

theorem lfit (h : LimAt w l r g F L R x A) (hA : A ≠ []) (y : Int) (hy : U y) :
    Calls Try.prog 18 #[.pointer (some ⟨l, 0, none⟩), .int .u64 y] w fun e w' =>
      ∃ n, e = .returned (.int .u64 n) ∧ Back (fun t => vA F L R A (max t x)) x y n ∧ 0 ≤ n ∧ n ≤ 9223372036854775808 ∧ Below w.heap.size w w' := by
  have H := Lib.hid h; have HA := Lib.hid hA; clear h hA
  go_enter Try.func18, Try.ntmps18
  go_wp2_with (first
    | (go_at_call 47; refine (lbound_some H.out).mono ?_; rintro e w0 ⟨rfl, hb0⟩; have hq := H.out.below hb0; clear H; have H := Lib.hid hq; clear hq)
    | (go_at_call 38; refine (run_reach H.out.2.1 HA.out y hy).mono ?_; rintro e w1 ⟨n, rfl, hk, hn0, hn1, hb1⟩; have HK := Lib.hid hk; clear hk))
  go_ret
  exact ⟨n, rfl, HK.out, hn0, hn1, hb0.trans (hb1.mono hb0.size)⟩

theorem lmost (h : LimAt w l r g F L R x A) (hA : A ≠ []) (t v : Int) (ht : U t) (hv : vA F L R A (max t x) = v) :
    Calls Try.prog 20 #[.pointer (some ⟨l, 0, none⟩), .int .u64 t] w fun e w' =>
      e = .returned (.int .u64 v) ∧ Below w.heap.size w w' := by
  have H := Lib.hid h; have HA := Lib.hid hA; clear h hA
  subst hv
  go_enter Try.func20, Try.ntmps20
  go_wp2_with (first
    | (go_at_call 47; refine (lbound_some H.out).mono ?_; rintro e w0 ⟨rfl, hb0⟩; have hq := H.out.below hb0; clear H; have H := Lib.hid hq; clear hq)
    | (go_at_call 36; refine (run_at H.out.2.1 HA.out t ht).mono ?_; rintro e w1 ⟨rfl, hb1⟩))
  go_ret
  exact ⟨rfl, hb0.trans (hb1.mono hb0.size)⟩
end

theorem cnone_any (F L R : Int) (w : World) :
    Calls Try.prog 46 #[.agg #[.int .u64 F, .int .u64 L, .int .u64 R]] w fun e w' => e = .returned (.bool (decide (F = 0 ∧ L = 0 ∧ R = 0))) ∧ Below w.heap.size w w' := by
  by_cases h1 : F = 0
  · by_cases h2 : L = 0
    · by_cases h3 : R = 0
      · subst h1 h2 h3
        go_enter Try.func46, Try.ntmps46
        go_wp2
        go_ret
        exact ⟨rfl, by go_grown⟩
      · go_enter Try.func46, Try.ntmps46
        go_wp2
        go_ret
        exact ⟨by simp [h3], by go_grown⟩
    · go_enter Try.func46, Try.ntmps46
      go_wp2
      go_ret
      exact ⟨by simp [h2], by go_grown⟩
  · go_enter Try.func46, Try.ntmps46
    go_wp2
    go_ret
    exact ⟨by simp [h1], by go_grown⟩

theorem cnone_no {F L R : Int} (w : World) (h : ¬ (F = 0 ∧ L = 0 ∧ R = 0)) :
    Calls Try.prog 46 #[.agg #[.int .u64 F, .int .u64 L, .int .u64 R]] w fun e w' => e = .returned (.bool false) ∧ Below w.heap.size w w' :=
  (cnone_any F L R w).mono fun e w' ⟨he, hb⟩ => ⟨by rw [he, decide_eq_false h], hb⟩
theorem cnone_yes {F L R : Int} (w : World) (h : F = 0 ∧ L = 0 ∧ R = 0) :
    Calls Try.prog 46 #[.agg #[.int .u64 F, .int .u64 L, .int .u64 R]] w fun e w' => e = .returned (.bool true) ∧ Below w.heap.size w w' :=
  (cnone_any F L R w).mono fun e w' ⟨he, hb⟩ => ⟨by rw [he, decide_eq_true h], hb⟩

theorem lnew_free (F L R : Int) (w : World) (hL : 0 ≤ L) (hno : (F = 0 ∧ L = 0 ∧ R = 0) ∨ mayB F L R = false) :
    Calls Try.prog 13 #[.agg #[.int .u64 F, .int .u64 L, .int .u64 R]] w fun e w' => ∃ l, e = .returned (.pointer (some ⟨l, 0, none⟩)) ∧ w.heap.size ≤ l ∧ LFree w' l ∧ Below w.heap.size w w' := by
  have hal := (Below.refl w.heap.size w).alloc (Nat.le_refl _) (.cells #[.int .u64 F, .int .u64 L, .int .u64 R] 24)
  have nb := Blk.new w 24 #[.int .u64 F, .int .u64 L, .int .u64 R]
  have HN := Lib.hid nb
  clear nb
  by_cases h0 : F = 0 ∧ L = 0 ∧ R = 0
  · have H0 := Lib.hid h0
    clear h0 hno
    go_enter Try.func13, Try.ntmps13
    go_wp2_with (go_at_call 46; refine (cnone_yes _ H0.out).mono ?_; rintro e w1 ⟨rfl, hb1⟩)
    go_ret
    have hb3 : Below w.heap.size w w1 := hal.trans (hb1.mono hal.size)
    exact ⟨w1.heap.size, rfl, hb3.size, Blk.new _ _ _, hb3.alloc hb3.size _⟩
  · have H := Lib.hid (hno.resolve_left h0)
    have H0 := Lib.hid h0
    clear h0 hno
    go_enter Try.func13, Try.ntmps13
    go_wp2_with (first
      | (go_at_call 46; refine (cnone_no _ H0.out).mono ?_; rintro e w1 ⟨rfl, hb1⟩; have n1 := HN.out.below hb1 HN.out.lt; have a0 := n1.cell 0; have a1 := n1.cell 1; have a2 := n1.cell 2; simp only [List.getElem?_toArray, List.getElem?_cons_zero, List.getElem?_cons_succ] at a0 a1 a2)
      | (go_at_call 28; refine (may_any F L R _ hL).mono ?_; rintro e w2 ⟨rfl, hb2⟩; rw [H.out]))
    go_ret
    have hb3 : Below w.heap.size w w2 := hal.trans ((hb1.trans (hb2.mono hb1.size)).mono hal.size)
    exact ⟨w2.heap.size, rfl, hb3.size, Blk.new _ _ _, hb3.alloc hb3.size _⟩

theorem lnew_some (F L R : Int) (w : World) (hF : 0 ≤ F) (hL : 0 ≤ L) (hR : 0 ≤ R) (hno : ¬ (F = 0 ∧ L = 0 ∧ R = 0)) (h1 : mayB F L R = true) :
    Calls Try.prog 13 #[.agg #[.int .u64 F, .int .u64 L, .int .u64 R]] w fun e w' => ∃ l r g, e = .returned (.pointer (some ⟨l, 0, none⟩)) ∧ w.heap.size ≤ g ∧ LimAt w' l r g F L R 0 [] ∧ Below w.heap.size w w' := by
  have hal := (Below.refl w.heap.size w).alloc (Nat.le_refl _) (.cells #[.int .u64 F, .int .u64 L, .int .u64 R] 24)
  have nb := Blk.new w 24 #[.int .u64 F, .int .u64 L, .int .u64 R]
  have HN := Lib.hid nb
  clear nb
  have H := Lib.hid h1
  have H0 := Lib.hid hno
  clear h1 hno
  go_enter Try.func13, Try.ntmps13
  go_wp2_with (first
    | (go_at_call 46; refine (cnone_no _ H0.out).mono ?_; rintro e w1 ⟨rfl, hb1⟩; have n1 := HN.out.below hb1 HN.out.lt; have a0 := n1.cell 0; have a1 := n1.cell 1; have a2 := n1.cell 2; simp only [List.getElem?_toArray, List.getElem?_cons_zero, List.getElem?_cons_succ] at a0 a1 a2)
    | (go_at_call 28; refine (may_any F L R _ hL).mono ?_; rintro e w2 ⟨rfl, hb2⟩; rw [H.out]; have n2 := n1.below hb2 n1.lt; have b0 := n2.cell 0; have b1 := n2.cell 1; have b2 := n2.cell 2; simp only [List.getElem?_toArray, List.getElem?_cons_zero, List.getElem?_cons_succ] at b0 b1 b2)
    | (go_at_call 6; refine (run_new F L R _ hF hL hR H.out).mono ?_; rintro e w3 ⟨r, g, rfl, hg, hr, hb3⟩; have HR := Lib.hid hr; clear hr))
  go_ret
  have hb4 := (hb1.trans (hb2.mono hb1.size)).trans (hb3.mono (hb1.trans (hb2.mono hb1.size)).size)
  have hb5 : Below w.heap.size w w3 := hal.trans (hb4.mono hal.size)
  have hal2 := (Below.refl w3.heap.size w3).alloc (Nat.le_refl _) (.cells #[.iface 85 (.agg #[.pointer (some ⟨r, 0, none⟩)])] 83)
  exact ⟨w3.heap.size, r, g, rfl, Nat.le_trans (Nat.le_trans hal.size (hb1.trans (hb2.mono hb1.size)).size) hg, ⟨Blk.new _ _ _, HR.out.below hal2, HR.out.lt.2⟩, hb5.trans (hal2.mono hb5.size)⟩

end Go.Proofs.Ytipiajnaechadaa
