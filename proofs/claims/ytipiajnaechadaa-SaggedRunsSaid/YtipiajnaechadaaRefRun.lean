/-
  The document's run: what is asked of it; a start.
-/
import Derived.Test.YtipiajnaechadaaRefStart
import Derived.RegionTactic
import Derived.BigRegion
namespace Go.Proofs.Ytipiajnaechadaa
set_option linter.unusedVariables false
open Go.RowKit

/-- what a run has, what E has; the ticks at which they have so much -/
def qA (F L R x : Int) (A : List (Int × Int)) (t : Int) : Int := if A.isEmpty then 0 else vA F L R A (max t x)
def qE (F L R x : Int) (A : List (Int × Int)) (t : Int) : Int := if A.isEmpty then 0 else vE F L R A (max t x)
noncomputable def ansI (v : Int → Int) (x y : Int) : Int := Classical.epsilon fun n => Back v x y n
noncomputable def qR (F L R x : Int) (A : List (Int × Int)) (y : Int) : Int := if A.isEmpty then nevB y else ansI (fun t => vA F L R A (max t x)) x y
noncomputable def qL (F L R x : Int) (A : List (Int × Int)) (y : Int) : Int := if A.isEmpty then nevB y else ansI (fun t => vE F L R A (max t x)) x y
theorem ans_unique {v : Int → Int} {x y n m : Int} (h : Back v x y n) (k : Back v x y m) (hm : ∀ t u, x ≤ t → t ≤ u → v t ≤ v u) : n = m := by
  have h1 := Back.less h k hm (fun _ _ => Int.le_refl _)
  have h2 := Back.less k h hm (fun _ _ => Int.le_refl _)
  omega
theorem Back.ans {v : Int → Int} {x y n : Int} (h : Back v x y n) (hm : ∀ t u, x ≤ t → t ≤ u → v t ≤ v u) : n = ansI v x y :=
  ans_unique h (Classical.epsilon_spec (p := fun n => Back v x y n) ⟨n, h⟩) hm
theorem Ans.fix {v : Int → Int} {x y : Int} {w w' : World} {e : Ending} (hm : ∀ t u, x ≤ t → t ≤ u → v t ≤ v u) (h : Ans v x y w e w') : e = .returned (.int .u64 (ansI v x y)) ∧ Below w.heap.size w w' := by
  obtain ⟨n, rfl, hk, _, _, hb⟩ := h
  exact ⟨by rw [hk.ans hm], hb⟩
theorem not_empty {A : List (Int × Int)} (h : A ≠ []) : A.isEmpty = false := by cases A with | nil => exact absurd rfl h | cons _ _ => rfl

theorem W_flat {R u : Int} (hu : 0 ≤ u) : W 0 0 R u = R * u := by
  unfold W
  rw [show min u 0 = 0 by omega, Int.sub_zero]
  omega
theorem vA_line {F L R x t : Int} {A : List (Int × Int)} (hb : ¬ R < F) (hN : Nums x A) (ht : x ≤ t) : vA 0 0 R A t = vE F L R A t := by
  unfold vE
  rw [if_neg hb]
  refine minF_congr A _ fun a ha => ?_
  have := hN.num a ha
  unfold atK linK
  rw [W_flat (show 0 ≤ t - a.1 by omega)]
theorem MayC.line {F L R : Int} (h : MayC F L R) : MayC 0 0 R := ⟨Int.le_refl _, by omega, h.r0, h.r1, Int.le_refl _, by omega, fun _ => rfl⟩

/-- the document's run of the curve F, L, R, at block r: A started, the last one at x -/
structure RefAt (w : World) (r base : Nat) (F L R x : Int) (A : List (Int × Int)) : Prop where
  at_ : ∃ vx vy, Blk w r 70 #[.int .u64 F, .int .u64 L, .int .u64 R, vx, vy] ∧ RowU w base vx (A.map (·.1)) ∧ RowU w base vy (A.map (·.2)) ∧ (vx.ownBlock = none ∨ vx.ownBlock ≠ vy.ownBlock)
  may : MayC F L R
  nums : Nums x A
  low : base ≤ r

section
variable {w w' : World} {r base : Nat} {F L R x : Int} {A : List (Int × Int)} {vx vy : Value}
theorem RefAt.lt (h : RefAt w r base F L R x A) : r < w.heap.size := by obtain ⟨vx, vy, hB, _⟩ := h.at_; exact hB.lt
theorem RefAt.below (h : RefAt w r base F L R x A) (hb : Below w.heap.size w w') : RefAt w' r base F L R x A := by
  obtain ⟨vx, vy, h1, h2, h3, h4⟩ := h.at_
  exact ⟨⟨vx, vy, h1.below hb h1.lt, h2.below hb, h3.below hb, h4⟩, h.may, h.nums, h.low⟩
/-- another block, of another kind, turns -/
theorem RefAt.grown {g : Nat} {t : TypeId} {cs : Array Value} (h : RefAt w r base F L R x A) (hw : w.grownBy w' (some g)) (hg : Blk w g t cs) (ht : t ≠ 22) (ht2 : t ≠ 70) : RefAt w' r base F L R x A := by
  obtain ⟨vx, vy, h1, h2, h3, h4⟩ := h.at_
  refine ⟨⟨vx, vy, h1.grown hw ?_, h2.kept hw (.inr (Ne.symm (row_blk h2 hg ht))), h3.kept hw (.inr (Ne.symm (row_blk h3 hg ht))), h4⟩, h.may, h.nums, h.low⟩
  have := blk_ne h1 hg (Ne.symm ht2)
  simpa using this
def Slc (v : Value) : Prop := ∃ a n c, v = .slice a n c
theorem RowU.slc {w : World} {base : Nat} {v : Value} {xs : List Int} (h : RowU w base v xs) : Slc v := by
  obtain ⟨a, c, rfl⟩ := h.shape
  exact ⟨_, _, _, rfl⟩
theorem RefAt.copies (h : RefAt w r base F L R x A) : ∃ vx vy, (Slc vx ∧ Slc vy) ∧ Blk w r 70 #[.int .u64 F, .int .u64 L, .int .u64 R, vx, vy] ∧ ∀ w' c, Below w.heap.size w w' → Blk w' c 77 #[.int .u64 F, .int .u64 L, .int .u64 R, vx, vy] → CopiesAt w' c base F L R A := by
  obtain ⟨vx, vy, h1, h2, h3, h4⟩ := h.at_
  exact ⟨vx, vy, ⟨h2.slc, h3.slc⟩, h1, fun w' c hb hB => ⟨vx, vy, hB, h2.below hb, h3.below hb⟩⟩

set_option maxHeartbeats 1000000 in
theorem run_copies (hsx : Slc vx) (hsy : Slc vy) (hB : Blk w r 70 #[.int .u64 F, .int .u64 L, .int .u64 R, vx, vy]) :
    Calls Try.prog 45 #[.pointer (some ⟨r, 0, none⟩)] w fun e w' => ∃ c, e = .returned (.pointer (some ⟨c, 0, none⟩)) ∧ w.heap.size ≤ c ∧ Blk w' c 77 #[.int .u64 F, .int .u64 L, .int .u64 R, vx, vy] ∧ Below w.heap.size w w' := by
  obtain ⟨ax, nx, cx, rfl⟩ := hsx
  obtain ⟨ay, ny, cy, rfl⟩ := hsy
  have hlt := hB.lt
  have o0 := fun e => (over_cell (w := w) (e := e) (o := 0) hlt).trans (hB.cell 0)
  have o1 := fun e => (over_cell (w := w) (e := e) (o := 1) hlt).trans (hB.cell 1)
  have o2 := fun e => (over_cell (w := w) (e := e) (o := 2) hlt).trans (hB.cell 2)
  have o3 := fun e => (over_cell (w := w) (e := e) (o := 3) hlt).trans (hB.cell 3)
  have o4 := fun e => (over_cell (w := w) (e := e) (o := 4) hlt).trans (hB.cell 4)
  simp only [List.getElem?_toArray, List.getElem?_cons_zero, List.getElem?_cons_succ] at o0 o1 o2 o3 o4
  clear hB
  go_enter Try.func45, Try.ntmps45
  go_wp2
  refine wp_region_over_tail 13 (by kernel_rfl) (by kernel_rfl) ?_
  simp only [List.take_succ_cons, List.take_zero, List.drop_succ_cons, List.drop_zero]
  repeat (first | go_big_quiet_skip | (go_big_quiet_want; go_big_quiet_op; go_big_quiet_on) | (refine wpQuiet_step (fun K hK => ?_); go_simp; (refine hK _ ?_; clear hK K)))
  refine wpQuiet_nil ?_
  rintro W2 ⟨e, he⟩
  have hb22 := over_below w e
  rw [← he] at hb22
  clear he o0 o1 o2 o3 o4
  go_wp2
  go_ret
  exact ⟨W2.heap.size, rfl, hb22.size, Blk.new _ _ _, hb22.alloc hb22.size _⟩

set_option maxHeartbeats 1000000 in
theorem ref_lines (h : CopiesAt w r base F L R A) :
    Calls Try.prog 53 #[.pointer (some ⟨r, 0, none⟩)] w fun e w' => ∃ c, e = .returned (.pointer (some ⟨c, 0, none⟩)) ∧ w.heap.size ≤ c ∧ CopiesAt w' c base 0 0 R A ∧ Below w.heap.size w w' := by
  obtain ⟨vx, vy, hB, hx, hy⟩ := h
  obtain ⟨ax, nx, cx, rfl⟩ := hx.slc
  obtain ⟨ay, ny, cy, rfl⟩ := hy.slc
  have hlt := hB.lt
  have o2 := fun e => (over_cell (w := w) (e := e) (o := 2) hlt).trans (hB.cell 2)
  have o3 := fun e => (over_cell (w := w) (e := e) (o := 3) hlt).trans (hB.cell 3)
  have o4 := fun e => (over_cell (w := w) (e := e) (o := 4) hlt).trans (hB.cell 4)
  simp only [List.getElem?_toArray, List.getElem?_cons_zero, List.getElem?_cons_succ] at o2 o3 o4
  clear hB
  have HX := Lib.hid hx; have HY := Lib.hid hy; clear hx hy
  go_enter Try.func53, Try.ntmps53
  go_wp2
  refine wp_region_over_tail 15 (by kernel_rfl) (by kernel_rfl) ?_
  simp only [List.take_succ_cons, List.take_zero, List.drop_succ_cons, List.drop_zero]
  repeat (first | go_big_quiet_skip | (go_big_quiet_want; go_big_quiet_op; go_big_quiet_on) | (refine wpQuiet_step (fun K hK => ?_); go_simp; (refine hK _ ?_; clear hK K)))
  refine wpQuiet_nil ?_
  rintro W2 ⟨e, he⟩
  have hb22 := over_below w e
  rw [← he] at hb22
  clear he o2 o3 o4
  go_wp2
  go_ret
  have hb3 := hb22.alloc hb22.size (.cells #[.int .u64 0, .int .u64 0, .int .u64 R, .slice ax nx cx, .slice ay ny cy] 77)
  exact ⟨W2.heap.size, rfl, hb22.size, ⟨_, _, Blk.new _ _ _, HX.out.below hb3, HY.out.below hb3⟩, hb3⟩

theorem rbent_any (F L R : Int) (w : World) :
    Calls Try.prog 50 #[.agg #[.int .u64 F, .int .u64 L, .int .u64 R]] w fun e w' => e = .returned (.bool (decide (R < F))) ∧ Below w.heap.size w w' := by
  go_enter Try.func50, Try.ntmps50
  go_wp2
  try go_quiet (fail)
  try go_wp2
  go_ret
  exact ⟨rfl, by go_grown <;> exact below_drewN (Below.refl _ _) _⟩

theorem ref_at (h : RefAt w r base F L R x A) (t : Int) (ht : U t) :
    Calls Try.prog 37 #[.pointer (some ⟨r, 0, none⟩), .int .u64 t] w fun e w' => e = .returned (.int .u64 (qA F L R x A t)) ∧ Below w.heap.size w w' := by
  obtain ⟨vx, vy, ⟨hsx, hsy⟩, hB, hc⟩ := h.copies
  have hm := h.may; have hn := h.nums
  have HM := Lib.hid hm; have HN := Lib.hid hn; have HB := Lib.hid hB; have HC := Lib.hid hc
  clear h hm hn hB hc
  by_cases hA : A = []
  · subst hA
    have HN' := HN; clear HN
    go_enter Try.func37, Try.ntmps37
    go_wp2_with (first
      | (go_at_call 45; refine (run_copies hsx hsy HB.out).mono ?_; rintro e w1 ⟨c, rfl, hcl, hcb, hb1⟩; have HCB := Lib.hid hcb; clear hcb)
      | (go_at_call 59; refine (copies_at0 (HC.out _ c hb1 HCB.out) t).mono ?_; rintro e w' ⟨rfl, rfl⟩))
    go_ret
    exact ⟨rfl, hb1⟩
  · have e : qA F L R x A t = vA F L R A (max t x) := by unfold qA; rw [not_empty hA]; rfl
    rw [e]
    have HA := Lib.hid hA; clear hA e
    go_enter Try.func37, Try.ntmps37
    go_wp2_with (first
      | (go_at_call 45; refine (run_copies hsx hsy HB.out).mono ?_; rintro e w1 ⟨c, rfl, hcl, hcb, hb1⟩; have HCB := Lib.hid hcb; clear hcb)
      | (go_at_call 59; refine (copies_at (HC.out _ c hb1 HCB.out) HM.out HN.out HA.out t ht).mono ?_; rintro e w' ⟨rfl, hb2⟩))
    go_ret
    exact ⟨rfl, hb1.trans (hb2.mono hb1.size)⟩

theorem ref_reach (h : RefAt w r base F L R x A) (y : Int) (hy : U y) :
    Calls Try.prog 39 #[.pointer (some ⟨r, 0, none⟩), .int .u64 y] w fun e w' => e = .returned (.int .u64 (qR F L R x A y)) ∧ Below w.heap.size w w' := by
  obtain ⟨vx, vy, ⟨hsx, hsy⟩, hB, hc⟩ := h.copies
  have hm := h.may; have hn := h.nums
  have HM := Lib.hid hm; have HN := Lib.hid hn; have HB := Lib.hid hB; have HC := Lib.hid hc
  clear h hm hn hB hc
  by_cases hA : A = []
  · subst hA
    have e : qR F L R x [] y = nevB y := rfl
    rw [e]
    clear e HN
    go_enter Try.func39, Try.ntmps39
    go_wp2_with (first
      | (go_at_call 45; refine (run_copies hsx hsy HB.out).mono ?_; rintro e w1 ⟨c, rfl, hcl, hcb, hb1⟩; have HCB := Lib.hid hcb; clear hcb)
      | (go_at_call 61; refine (copies_reach0 (HC.out _ c hb1 HCB.out) y).mono ?_; rintro e w' ⟨rfl, rfl⟩))
    go_ret
    exact ⟨rfl, hb1⟩
  · have e : qR F L R x A y = ansI (fun t => vA F L R A (max t x)) x y := by unfold qR; rw [not_empty hA]; rfl
    rw [e]
    have HA := Lib.hid hA; clear hA e
    go_enter Try.func39, Try.ntmps39
    go_wp2_with (first
      | (go_at_call 45; refine (run_copies hsx hsy HB.out).mono ?_; rintro e w1 ⟨c, rfl, hcl, hcb, hb1⟩; have HCB := Lib.hid hcb; clear hcb)
      | (go_at_call 61; refine ((copies_reach (HC.out _ c hb1 HCB.out) HM.out HN.out HA.out y hy).mono fun _ _ h => h.fix (vA_max_mono HM.out HN.out.low)).mono ?_; rintro e w' ⟨rfl, hb2⟩))
    go_ret
    exact ⟨rfl, hb1.trans (hb2.mono hb1.size)⟩

set_option maxHeartbeats 1000000 in
theorem ref_ahead (h : RefAt w r base F L R x A) (t : Int) (ht : U t) :
    Calls Try.prog 41 #[.pointer (some ⟨r, 0, none⟩), .int .u64 t] w fun e w' => e = .returned (.int .u64 (qE F L R x A t)) ∧ Below w.heap.size w w' := by
  obtain ⟨vx, vy, ⟨hsx, hsy⟩, hB, hc⟩ := h.copies
  have hm := h.may; have hn := h.nums
  have c0 := hB.cell 0; have c1 := hB.cell 1; have c2 := hB.cell 2
  simp only [List.getElem?_toArray, List.getElem?_cons_zero, List.getElem?_cons_succ] at c0 c1 c2
  have HM := Lib.hid hm; have HN := Lib.hid hn; have HB := Lib.hid hB; have HC := Lib.hid hc; have HR := Lib.hid h
  clear h hm hn hB hc
  by_cases hb : R < F
  · have e : qE F L R x A t = qA F L R x A t := by unfold qE qA vE; rw [if_pos hb]
    have hd : decide (R < F) = true := by simpa using hb
    rw [e]
    clear e
    go_enter Try.func41, Try.ntmps41
    go_wp2_with (first
      | (go_at_call 50; refine (rbent_any F L R _).mono ?_; rintro e w1 ⟨rfl, hb1⟩; rw [hd])
      | (go_at_call 37; refine (ref_at (HR.out.below hb1) t ht).mono ?_; rintro e w' ⟨rfl, hb2⟩))
    go_ret
    exact ⟨rfl, hb1.trans (hb2.mono hb1.size)⟩
  · have hd : decide (R < F) = false := by simpa using hb
    by_cases hA : A = []
    · subst hA
      have e : qE F L R x [] t = 0 := rfl
      rw [e]
      clear e HN
      go_enter Try.func41, Try.ntmps41
      go_wp2_with (first
        | (go_at_call 50; refine (rbent_any F L R _).mono ?_; rintro e w1 ⟨rfl, hb1⟩; rw [hd])
        | (go_at_call 45; refine (run_copies hsx hsy (HB.out.below hb1 HB.out.lt)).mono ?_; rintro e w2 ⟨c, rfl, hcl, hcb, hb2⟩; have HCB := Lib.hid hcb; clear hcb; have hb3 := hb1.trans (hb2.mono hb1.size))
        | (go_at_call 53; refine (ref_lines (HC.out _ c hb3 HCB.out)).mono ?_; rintro e w3 ⟨c2, rfl, hcl2, hcb2, hb4⟩; have HCC := Lib.hid hcb2; clear hcb2)
        | (go_at_call 59; refine (copies_at0 HCC.out t).mono ?_; rintro e w' ⟨rfl, rfl⟩))
      go_ret
      exact ⟨rfl, hb3.trans (hb4.mono hb3.size)⟩
    · have e : qE F L R x A t = vA 0 0 R A (max t x) := by unfold qE; rw [not_empty hA, vA_line hb HN.out (by omega)]; rfl
      rw [e]
      have HA := Lib.hid hA; clear hA e
      go_enter Try.func41, Try.ntmps41
      go_wp2_with (first
        | (go_at_call 50; refine (rbent_any F L R _).mono ?_; rintro e w1 ⟨rfl, hb1⟩; rw [hd])
        | (go_at_call 45; refine (run_copies hsx hsy (HB.out.below hb1 HB.out.lt)).mono ?_; rintro e w2 ⟨c, rfl, hcl, hcb, hb2⟩; have HCB := Lib.hid hcb; clear hcb; have hb3 := hb1.trans (hb2.mono hb1.size))
        | (go_at_call 53; refine (ref_lines (HC.out _ c hb3 HCB.out)).mono ?_; rintro e w3 ⟨c2, rfl, hcl2, hcb2, hb4⟩; have HCC := Lib.hid hcb2; clear hcb2)
        | (go_at_call 59; refine (copies_at HCC.out HM.out.line HN.out HA.out t ht).mono ?_; rintro e w' ⟨rfl, hb5⟩))
      go_ret
      exact ⟨rfl, hb3.trans ((hb4.trans (hb5.mono hb4.size)).mono hb3.size)⟩

set_option maxHeartbeats 1000000 in
theorem ref_elig (h : RefAt w r base F L R x A) (y : Int) (hy : U y) :
    Calls Try.prog 43 #[.pointer (some ⟨r, 0, none⟩), .int .u64 y] w fun e w' => e = .returned (.int .u64 (qL F L R x A y)) ∧ Below w.heap.size w w' := by
  obtain ⟨vx, vy, ⟨hsx, hsy⟩, hB, hc⟩ := h.copies
  have hm := h.may; have hn := h.nums
  have c0 := hB.cell 0; have c1 := hB.cell 1; have c2 := hB.cell 2
  simp only [List.getElem?_toArray, List.getElem?_cons_zero, List.getElem?_cons_succ] at c0 c1 c2
  have HM := Lib.hid hm; have HN := Lib.hid hn; have HB := Lib.hid hB; have HC := Lib.hid hc; have HR := Lib.hid h
  clear h hm hn hB hc
  by_cases hb : R < F
  · have e : qL F L R x A y = qR F L R x A y := by unfold qL qR vE; simp only [if_pos hb]
    have hd : decide (R < F) = true := by simpa using hb
    rw [e]
    clear e
    go_enter Try.func43, Try.ntmps43
    go_wp2_with (first
      | (go_at_call 50; refine (rbent_any F L R _).mono ?_; rintro e w1 ⟨rfl, hb1⟩; rw [hd])
      | (go_at_call 39; refine (ref_reach (HR.out.below hb1) y hy).mono ?_; rintro e w' ⟨rfl, hb2⟩))
    go_ret
    exact ⟨rfl, hb1.trans (hb2.mono hb1.size)⟩
  · have hd : decide (R < F) = false := by simpa using hb
    by_cases hA : A = []
    · subst hA
      have e : qL F L R x [] y = nevB y := rfl
      rw [e]
      clear e HN
      go_enter Try.func43, Try.ntmps43
      go_wp2_with (first
        | (go_at_call 50; refine (rbent_any F L R _).mono ?_; rintro e w1 ⟨rfl, hb1⟩; rw [hd])
        | (go_at_call 45; refine (run_copies hsx hsy (HB.out.below hb1 HB.out.lt)).mono ?_; rintro e w2 ⟨c, rfl, hcl, hcb, hb2⟩; have HCB := Lib.hid hcb; clear hcb; have hb3 := hb1.trans (hb2.mono hb1.size))
        | (go_at_call 53; refine (ref_lines (HC.out _ c hb3 HCB.out)).mono ?_; rintro e w3 ⟨c2, rfl, hcl2, hcb2, hb4⟩; have HCC := Lib.hid hcb2; clear hcb2)
        | (go_at_call 61; refine (copies_reach0 HCC.out y).mono ?_; rintro e w' ⟨rfl, rfl⟩))
      go_ret
      exact ⟨rfl, hb3.trans (hb4.mono hb3.size)⟩
    · have hfun : (fun t => vE F L R A (max t x)) = fun t => vA 0 0 R A (max t x) := by funext t; exact (vA_line hb HN.out (by omega)).symm
      have e : qL F L R x A y = ansI (fun t => vA 0 0 R A (max t x)) x y := by unfold qL; rw [not_empty hA, hfun]; rfl
      rw [e]
      have HA := Lib.hid hA; clear hA e hfun
      go_enter Try.func43, Try.ntmps43
      go_wp2_with (first
        | (go_at_call 50; refine (rbent_any F L R _).mono ?_; rintro e w1 ⟨rfl, hb1⟩; rw [hd])
        | (go_at_call 45; refine (run_copies hsx hsy (HB.out.below hb1 HB.out.lt)).mono ?_; rintro e w2 ⟨c, rfl, hcl, hcb, hb2⟩; have HCB := Lib.hid hcb; clear hcb; have hb3 := hb1.trans (hb2.mono hb1.size))
        | (go_at_call 53; refine (ref_lines (HC.out _ c hb3 HCB.out)).mono ?_; rintro e w3 ⟨c2, rfl, hcl2, hcb2, hb4⟩; have HCC := Lib.hid hcb2; clear hcb2)
        | (go_at_call 61; refine ((copies_reach HCC.out HM.out.line HN.out HA.out y hy).mono fun _ _ h => h.fix (vA_max_mono HM.out.line HN.out.low)).mono ?_; rintro e w' ⟨rfl, hb5⟩))
      go_ret
      exact ⟨rfl, hb3.trans ((hb4.trans (hb5.mono hb4.size)).mono hb3.size)⟩

theorem ref_many (h : RefAt w r base F L R x A) :
    Calls Try.prog 35 #[.pointer (some ⟨r, 0, none⟩)] w fun e w' => e = .returned (.int .i64 A.length) ∧ w = w' := by
  obtain ⟨vx, vy, hB, hx, hy, hd⟩ := h.at_
  obtain ⟨ax, cx, hvx⟩ := hx.shape
  rw [List.length_map] at hvx
  subst hvx
  have c3 := hB.cell 3
  simp only [List.getElem?_toArray, List.getElem?_cons_zero, List.getElem?_cons_succ] at c3
  clear h hB hx hy hd
  go_enter Try.func35, Try.ntmps35
  go_wp2
  go_ret
  exact ⟨rfl, rfl⟩
end

end Go.Proofs.Ytipiajnaechadaa
