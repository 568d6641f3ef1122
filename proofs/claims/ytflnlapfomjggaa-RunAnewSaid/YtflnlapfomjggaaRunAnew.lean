/-
  The law RunAnew: what a run has, started anew, is never more than it was; its walk.
-/
import Derived.Test.YtflnlapfomjggaaRunDue
import Derived.Test.YtflnlapfomjggaaRunCopy
import Derived.Test.YtflnlapfomjggaaReal
namespace Go.Proofs.Ytflnlapfomjggaa
set_option linter.unusedVariables false
open Go.RowKit

theorem Back.less_x {v u : Int → Int} {x x' y n m : Int} (h : Back v x' y n) (k : Back u x y m) (hx : x ≤ x') (hm : ∀ t s, x ≤ t → t ≤ s → u t ≤ u s) (hvw : ∀ t, x' ≤ t → v t ≤ u t) : m ≤ n := by
  have hk := k.le_never
  rcases Int.lt_or_le n m with hlt | hle
  · exfalso
    have h1 := h.x_le
    have h2 : n < 9223372036854775808 := by omega
    have h3 := k.gt hm (by omega) hlt
    have h4 := hvw n h1
    rcases h with ⟨a, _⟩ | ⟨a, _⟩ | ⟨_, _, a⟩ | ⟨_, _, a, _⟩ <;> omega
  · exact hle

theorem runA_x (z : List Act4) : 0 ≤ (runA z).1 ∧ (runA z).1 ≤ 9223372036854775808 := by
  have : ∀ (z : List Act4) (s : Int × List (Int × Int)), 0 ≤ s.1 → s.1 ≤ 9223372036854775808 → 0 ≤ (z.foldl stp s).1 ∧ (z.foldl stp s).1 ≤ 9223372036854775808 := by
    intro z
    induction z with
    | nil => intro s h0 h1; exact ⟨h0, h1⟩
    | cons q z ih => intro s h0 h1; rw [List.foldl_cons]; exact ih _ (by simp only [stp]; omega) (by simp only [stp]; omega)
  exact this z (0, []) (by decide) (by decide)
theorem runA_low (z : List Act4) (hz : ∀ q ∈ z, U q.1 ∧ U q.2.1 ∧ U q.2.2.1 ∧ U q.2.2.2) : ∀ k ∈ (runA z).2, k.1 ≤ (runA z).1 ∧ 0 ≤ k.2 := by
  have : ∀ (z : List Act4) (s : Int × List (Int × Int)), (∀ q ∈ z, U q.1 ∧ U q.2.1 ∧ U q.2.2.1 ∧ U q.2.2.2) → (∀ k ∈ s.2, k.1 ≤ s.1 ∧ 0 ≤ k.2) → ∀ k ∈ (z.foldl stp s).2, k.1 ≤ (z.foldl stp s).1 ∧ 0 ≤ k.2 := by
    intro z
    induction z with
    | nil => intro s _ h; exact h
    | cons q z ih =>
      intro s hz h
      rw [List.foldl_cons]
      refine ih _ (fun r hr => hz r (List.mem_cons_of_mem _ hr)) fun k hk => ?_
      have hq := hz q (List.mem_cons_self ..)
      have hq0 := hq.2.1.1
      simp only [stp, List.mem_append, List.mem_singleton] at hk ⊢
      rcases hk with hk | rfl
      · have := h k hk; omega
      · exact ⟨by omega, by simp only; omega⟩
  exact this z (0, []) hz (by intro k hk; simp at hk)

section
variable {F L R x x1 t y : Int} {A : List (Int × Int)}
theorem vA_more (h1 : x ≤ x1) (ht : x1 ≤ t) (y : Int) : vA F L R (A ++ [(x1, y)]) (max t x1) ≤ vA F L R A (max t x) := by
  rw [Int.max_eq_left ht, Int.max_eq_left (show x ≤ t by omega)]
  exact minF_more _ _ _ _
theorem vE_more (h1 : x ≤ x1) (ht : x1 ≤ t) (y : Int) : vE F L R (A ++ [(x1, y)]) (max t x1) ≤ vE F L R A (max t x) := by
  rw [Int.max_eq_left ht, Int.max_eq_left (show x ≤ t by omega)]
  unfold vE vL
  split
  · exact minF_more _ _ _ _
  · exact minF_more _ _ _ _
/-- started from what it has, it has just that -/
theorem vA_same {v : Int} (h : MayC F L R) (h1 : x ≤ x1) (hA : ∀ a ∈ A, a.1 ≤ x ∧ 0 ≤ a.2) (hv : vA F L R A (max x1 x) = v) : vA F L R (A ++ [(x1, v)]) (max x1 x1) = v := by
  rw [Int.max_eq_left (show x ≤ x1 by omega)] at hv
  rw [Int.max_eq_left (Int.le_refl _)]
  have hv1 := vA_le (F := F) (L := L) (R := R) (A := A) (t := x1)
  have hv2 := vA_nonneg h hA (t := x1) h1
  rw [hv] at hv1 hv2
  unfold vA at *
  rw [minF_snoc, hv]
  have h3 : atK F L R x1 (x1, v) = v := by
    rw [atK_has hv2]
    unfold hasK
    simp only [Int.sub_self]
    rw [W_zero h.l0, Int.add_zero]
    exact cap_of_le hv1
  rw [h3, Int.min_self]
end

set_option maxRecDepth 100000 in
set_option maxHeartbeats 2000000 in
theorem anew_nil (F L R X Y T N t : Int) (a : Option Addr) (len cap : Nat) (w : World) (hL : 0 ≤ L) (hlen : len ≤ 9223372036854775807) (h : mayB F L R = false) :
    Calls Try.prog 6 #[.agg #[.int .u64 F, .int .u64 L, .int .u64 R], .slice a len cap, .agg #[.int .u64 X, .int .u64 Y, .int .u64 T, .int .u64 N], .int .u64 t] w fun e' w' => e' = .returned (.bool true) ∧ Below w.heap.size w w' := by
  have nb := Blk.new w 24 #[.int .u64 F, .int .u64 L, .int .u64 R]
  have hal0 := (Below.refl w.heap.size w).alloc (Nat.le_refl _) (.cells #[.int .u64 F, .int .u64 L, .int .u64 R] 24)
  have hal1 := (Below.refl (w.alloc (.cells #[.int .u64 F, .int .u64 L, .int .u64 R] 24)).heap.size (w.alloc (.cells #[.int .u64 F, .int .u64 L, .int .u64 R] 24))).alloc (Nat.le_refl _) (.cells #[.int .u64 X, .int .u64 Y, .int .u64 T, .int .u64 N] 37)
  have nx := Blk.new (w.alloc (.cells #[.int .u64 F, .int .u64 L, .int .u64 R] 24)) 37 #[.int .u64 X, .int .u64 Y, .int .u64 T, .int .u64 N]
  have hal := hal0.trans (hal1.mono hal0.size)
  have nb2 := nb.below hal1 nb.lt
  have hsz : (w.alloc (.cells #[.int .u64 F, .int .u64 L, .int .u64 R] 24)).heap.size = w.heap.size + 1 := by simp
  rw [hsz] at nx
  have NB := Lib.hid nb2; have NX := Lib.hid nx; clear nb nb2 nx hal0 hal1
  have H := Lib.hid h; clear h
  go_enter Try.func6, Try.ntmps6
  go_wp2_with (first | (go_at_call 15; refine (awake_any _).mono ?_; rintro e' w1 ⟨rfl, hb1⟩; have n1 := NB.out.below hb1 NB.out.lt; have m1 := NX.out.below hb1 NX.out.lt; have a0 := n1.cell 0; have a1 := n1.cell 1; have a2 := n1.cell 2; have x0 := m1.cell 0; have x1 := m1.cell 1; have x3 := m1.cell 3; simp only [List.getElem?_toArray, List.getElem?_cons_zero, List.getElem?_cons_succ] at a0 a1 a2 x0 x1 x3; have hbw1 := hal.trans (hb1.mono hal.size)) | (go_at_call 16; refine (started_nil F L R a len cap _ hL hlen H.out).mono ?_; rintro e w2 ⟨rfl, hb2⟩))
  all_goals
    go_ret
    exact ⟨rfl, hbw1.trans (hb2.mono hbw1.size)⟩

set_option maxRecDepth 100000 in
set_option maxHeartbeats 2000000 in
theorem anew_many (F L R X Y T N t : Int) (a : Option Addr) (len cap : Nat) (w : World) (hF : 0 ≤ F) (hL : 0 ≤ L) (hR : 0 ≤ R) (hlen : len ≤ 9223372036854775807) (h40 : 40 < len) (h1 : mayB F L R = true) :
    Calls Try.prog 6 #[.agg #[.int .u64 F, .int .u64 L, .int .u64 R], .slice a len cap, .agg #[.int .u64 X, .int .u64 Y, .int .u64 T, .int .u64 N], .int .u64 t] w fun e' w' => e' = .returned (.bool true) ∧ Below w.heap.size w w' := by
  have nb := Blk.new w 24 #[.int .u64 F, .int .u64 L, .int .u64 R]
  have hal0 := (Below.refl w.heap.size w).alloc (Nat.le_refl _) (.cells #[.int .u64 F, .int .u64 L, .int .u64 R] 24)
  have hal1 := (Below.refl (w.alloc (.cells #[.int .u64 F, .int .u64 L, .int .u64 R] 24)).heap.size (w.alloc (.cells #[.int .u64 F, .int .u64 L, .int .u64 R] 24))).alloc (Nat.le_refl _) (.cells #[.int .u64 X, .int .u64 Y, .int .u64 T, .int .u64 N] 37)
  have nx := Blk.new (w.alloc (.cells #[.int .u64 F, .int .u64 L, .int .u64 R] 24)) 37 #[.int .u64 X, .int .u64 Y, .int .u64 T, .int .u64 N]
  have hal := hal0.trans (hal1.mono hal0.size)
  have nb2 := nb.below hal1 nb.lt
  have hsz : (w.alloc (.cells #[.int .u64 F, .int .u64 L, .int .u64 R] 24)).heap.size = w.heap.size + 1 := by simp
  rw [hsz] at nx
  have NB := Lib.hid nb2; have NX := Lib.hid nx; clear nb nb2 nx hal0 hal1
  have H := Lib.hid h1; clear h1
  go_enter Try.func6, Try.ntmps6
  go_wp2_with (first | (go_at_call 15; refine (awake_any _).mono ?_; rintro e' w1 ⟨rfl, hb1⟩; have n1 := NB.out.below hb1 NB.out.lt; have m1 := NX.out.below hb1 NX.out.lt; have a0 := n1.cell 0; have a1 := n1.cell 1; have a2 := n1.cell 2; have x0 := m1.cell 0; have x1 := m1.cell 1; have x3 := m1.cell 3; simp only [List.getElem?_toArray, List.getElem?_cons_zero, List.getElem?_cons_succ] at a0 a1 a2 x0 x1 x3; have hbw1 := hal.trans (hb1.mono hal.size)) | (go_at_call 16; refine (started_many F L R a len cap _ hF hL hR hlen h40 H.out).mono ?_; rintro e w2 ⟨rfl, hb2⟩))
  all_goals
    go_ret
    exact ⟨rfl, hbw1.trans (hb2.mono hbw1.size)⟩

set_option maxRecDepth 100000 in
set_option maxHeartbeats 2000000 in
theorem anew_few (F L R X Y T N t : Int) (a : Option Addr) (len cap : Nat) (z : List Act4) (w : World) (hF : U F) (hL : U L) (hR : U R) (hz : ActsAt w a len z) (h40 : len ≤ 40) (h : len = 0 ∨ 4611686018427387904 ≤ X ∨ 4611686018427387904 ≤ t) (h1 : mayB F L R = true) :
    Calls Try.prog 6 #[.agg #[.int .u64 F, .int .u64 L, .int .u64 R], .slice a len cap, .agg #[.int .u64 X, .int .u64 Y, .int .u64 T, .int .u64 N], .int .u64 t] w fun e' w' => e' = .returned (.bool true) ∧ Below w.heap.size w w' := by
  have nb := Blk.new w 24 #[.int .u64 F, .int .u64 L, .int .u64 R]
  have hal0 := (Below.refl w.heap.size w).alloc (Nat.le_refl _) (.cells #[.int .u64 F, .int .u64 L, .int .u64 R] 24)
  have hal1 := (Below.refl (w.alloc (.cells #[.int .u64 F, .int .u64 L, .int .u64 R] 24)).heap.size (w.alloc (.cells #[.int .u64 F, .int .u64 L, .int .u64 R] 24))).alloc (Nat.le_refl _) (.cells #[.int .u64 X, .int .u64 Y, .int .u64 T, .int .u64 N] 37)
  have nx := Blk.new (w.alloc (.cells #[.int .u64 F, .int .u64 L, .int .u64 R] 24)) 37 #[.int .u64 X, .int .u64 Y, .int .u64 T, .int .u64 N]
  have hal := hal0.trans (hal1.mono hal0.size)
  have nb2 := nb.below hal1 nb.lt
  have hsz : (w.alloc (.cells #[.int .u64 F, .int .u64 L, .int .u64 R] 24)).heap.size = w.heap.size + 1 := by simp
  rw [hsz] at nx
  have NB := Lib.hid nb2; have NX := Lib.hid nx; clear nb nb2 nx hal0 hal1
  have H := Lib.hid h1; have HZ := Lib.hid hz; clear h1 hz
  go_enter Try.func6, Try.ntmps6
  go_wp2_with (first | (go_at_call 15; refine (awake_any _).mono ?_; rintro e' w1 ⟨rfl, hb1⟩; have n1 := NB.out.below hb1 NB.out.lt; have m1 := NX.out.below hb1 NX.out.lt; have a0 := n1.cell 0; have a1 := n1.cell 1; have a2 := n1.cell 2; have x0 := m1.cell 0; have x1 := m1.cell 1; have x3 := m1.cell 3; simp only [List.getElem?_toArray, List.getElem?_cons_zero, List.getElem?_cons_succ] at a0 a1 a2 x0 x1 x3; have hbw1 := hal.trans (hb1.mono hal.size)) | (go_at_call 16; refine (started_some F L R a _ cap z _ hF.1 hL.1 hR.1 ((HZ.out.below hal).below hb1) h40 H.out).mono ?_; rintro e' w2 ⟨r, g, rfl, hg, hl, hb2⟩; have hbw := hbw1.trans (hb2.mono hbw1.size); have m2 := m1.below hb2 m1.lt; clear n1 m1 a0 a1 a2 x0 x1 x3; have x0 := m2.cell 0; have x1 := m2.cell 1; have x3 := m2.cell 3; simp only [List.getElem?_toArray, List.getElem?_cons_zero, List.getElem?_cons_succ] at x0 x1 x3; have HR := Lib.hid hl; have hgw := Nat.le_trans hbw1.size hg; clear hl))
  all_goals first
    | (exfalso; omega)
    | (go_ret; exact ⟨rfl, hbw⟩)

set_option maxRecDepth 100000 in
set_option maxHeartbeats 2000000 in
theorem anew_some (F L R X Y T N t : Int) (a : Option Addr) (len cap : Nat) (z : List Act4) (w : World) (hF : U F) (hL : U L) (hR : U R) (uX : U X) (uY : U Y) (uN : U N) (ut : U t) (hz : ActsAt w a len z) (h40 : len ≤ 40) (hpos : 0 < len) (hX : X < 4611686018427387904) (ht : t < 4611686018427387904) (h1 : mayB F L R = true) :
    Calls Try.prog 6 #[.agg #[.int .u64 F, .int .u64 L, .int .u64 R], .slice a len cap, .agg #[.int .u64 X, .int .u64 Y, .int .u64 T, .int .u64 N], .int .u64 t] w fun e' w' => e' = .returned (.bool true) ∧ Below w.heap.size w w' := by
  have nb := Blk.new w 24 #[.int .u64 F, .int .u64 L, .int .u64 R]
  have hal0 := (Below.refl w.heap.size w).alloc (Nat.le_refl _) (.cells #[.int .u64 F, .int .u64 L, .int .u64 R] 24)
  have hal1 := (Below.refl (w.alloc (.cells #[.int .u64 F, .int .u64 L, .int .u64 R] 24)).heap.size (w.alloc (.cells #[.int .u64 F, .int .u64 L, .int .u64 R] 24))).alloc (Nat.le_refl _) (.cells #[.int .u64 X, .int .u64 Y, .int .u64 T, .int .u64 N] 37)
  have nx := Blk.new (w.alloc (.cells #[.int .u64 F, .int .u64 L, .int .u64 R] 24)) 37 #[.int .u64 X, .int .u64 Y, .int .u64 T, .int .u64 N]
  have hal := hal0.trans (hal1.mono hal0.size)
  have nb2 := nb.below hal1 nb.lt
  have hsz : (w.alloc (.cells #[.int .u64 F, .int .u64 L, .int .u64 R] 24)).heap.size = w.heap.size + 1 := by simp
  rw [hsz] at nx
  have NB := Lib.hid nb2; have NX := Lib.hid nx; clear nb nb2 nx hal0 hal1
  have hA : (runA z).2 ≠ [] := by
    intro h
    have := congrArg List.length h
    rw [runA_len, hz.1] at this
    simp at this; omega
  have hAl : (runA z).2.length = len := by rw [runA_len, hz.1]
  obtain ⟨x, hx⟩ : ∃ x, (runA z).1 = x := ⟨_, rfl⟩
  obtain ⟨A, hAA⟩ : ∃ A, (runA z).2 = A := ⟨_, rfl⟩
  rw [hAA] at hA hAl
  have hM := mayB_spec hF.1 hL.1 hR.1 h1
  have HA := Lib.hid hA; have HXX := Lib.hid hx; have HAA := Lib.hid hAA; have HM := Lib.hid hM
  have H := Lib.hid h1; have HZ := Lib.hid hz; clear h1 hz hA hx hAA hM
  have HONE := Lib.hid (show True from trivial); have HTWO := Lib.hid (show True from trivial)
  obtain ⟨x1, hx1⟩ : ∃ q, (if X < x then x else X) = q := ⟨_, rfl⟩
  obtain ⟨tt, htt⟩ : ∃ q, (if t < x1 then x1 else t) = q := ⟨_, rfl⟩
  obtain ⟨y1, hy1⟩ : ∃ q, min Y 4611686018427387904 = q := ⟨_, rfl⟩
  have hX0 := uX.1; have hX1 := uX.2; have ht0 := ut.1; have ht1 := ut.2; have hY0 := uY.1; have hY1 := uY.2
  have hx0x1 : 0 ≤ x ∧ x ≤ 9223372036854775808 := by rw [← HXX.out]; exact runA_x z
  have hlow : ∀ k ∈ A, k.1 ≤ x ∧ 0 ≤ k.2 := by rw [← HXX.out, ← HAA.out]; exact runA_low z HZ.out.2.1
  have hxx1 : x ≤ x1 := by split at hx1 <;> omega
  have hx1t : x1 ≤ tt := by split at htt <;> omega
  have hx1e : x1 = max (min X 9223372036854775808) x := by split at hx1 <;> omega
  have hx1f : x1 = max (min x1 9223372036854775808) x := by split at hx1 <;> omega
  have ux1 : U x1 := ⟨by omega, by split at hx1 <;> omega⟩
  have utt : U tt := ⟨by omega, by split at htt <;> split at hx1 <;> omega⟩
  obtain ⟨p1, hp1⟩ : ∃ q, vA F L R (A ++ [(x1, y1)]) (max tt x1) = q := ⟨_, rfl⟩
  obtain ⟨p2, hp2⟩ : ∃ q, vA F L R A (max tt x) = q := ⟨_, rfl⟩
  have hp12 : p1 ≤ p2 := by rw [← hp1, ← hp2]; exact vA_more hxx1 hx1t y1
  obtain ⟨q1, hq1⟩ : ∃ q, vE F L R (A ++ [(x1, y1)]) (max tt x1) = q := ⟨_, rfl⟩
  obtain ⟨q2, hq2⟩ : ∃ q, vE F L R A (max tt x) = q := ⟨_, rfl⟩
  have hq12 : q1 ≤ q2 := by rw [← hq1, ← hq2]; exact vE_more hxx1 hx1t y1
  obtain ⟨v, hv⟩ : ∃ q, vA F L R A (max x1 x) = q := ⟨_, rfl⟩
  have hv1 : v ≤ 4611686018427387904 := by rw [← hv]; exact vA_le
  have hv0 : 0 ≤ v := by rw [← hv]; exact vA_nonneg HM.out hlow (by omega)
  have uv : U v := ⟨hv0, by omega⟩
  have hvm : v = min v 4611686018427387904 := by omega
  have hsm : vA F L R (A ++ [(x1, v)]) (max x1 x1) = v := vA_same HM.out hxx1 hlow hv
  obtain ⟨s1, hs1⟩ : ∃ q, vA F L R (A ++ [(x1, v)]) (max tt x1) = q := ⟨_, rfl⟩
  have hs12 : s1 ≤ p2 := by rw [← hs1, ← hp2]; exact vA_more hxx1 hx1t v
  have hA1 : A ++ [(x1, y1)] ≠ [] := by simp
  have hA2 : A ++ [(x1, v)] ≠ [] := by simp
  have HA1 := Lib.hid hA1; have HA2 := Lib.hid hA2
  have HP1 := Lib.hid hp1; have HP2 := Lib.hid hp2; have HQ1 := Lib.hid hq1; have HQ2 := Lib.hid hq2; have HV := Lib.hid hv; have HSM := Lib.hid hsm; have HS1 := Lib.hid hs1; have HLOW := Lib.hid hlow; have HXE := Lib.hid hx1e; have HXF := Lib.hid hx1f; have HVM := Lib.hid hvm; have HY1 := Lib.hid hy1
  clear hp1 hp2 hq1 hq2 hv hsm hs1 hA1 hA2 hlow hx1e hx1f hvm hy1
  go_enter Try.func6, Try.ntmps6
  go_wp2_with (first | (go_at_call 15; refine (awake_any _).mono ?_; rintro e' w1 ⟨rfl, hb1⟩; have n1 := NB.out.below hb1 NB.out.lt; have m1 := NX.out.below hb1 NX.out.lt; have a0 := n1.cell 0; have a1 := n1.cell 1; have a2 := n1.cell 2; have x0 := m1.cell 0; have x1c := m1.cell 1; have x3 := m1.cell 3; simp only [List.getElem?_toArray, List.getElem?_cons_zero, List.getElem?_cons_succ] at a0 a1 a2 x0 x1c x3; have hbw1 := hal.trans (hb1.mono hal.size)) | (go_at_call 16; refine (started_some F L R a _ cap z _ hF.1 hL.1 hR.1 ((HZ.out.below hal).below hb1) h40 H.out).mono ?_; rintro e' w2 ⟨r, g, rfl, hg, hl, hb2⟩; have hbw := hbw1.trans (hb2.mono hbw1.size); have m2 := m1.below hb2 m1.lt; clear n1 m1 a0 a1 a2 x0 x1c x3; have x0 := m2.cell 0; have x1c := m2.cell 1; have x3 := m2.cell 3; simp only [List.getElem?_toArray, List.getElem?_cons_zero, List.getElem?_cons_succ] at x0 x1c x3; rw [HXX.out, HAA.out] at hl; have hnum := hl.num; have HN := Lib.hid hnum; obtain ⟨-, hx0, hx1⟩ := hnum; have HR := Lib.hid hl; have hgw := Nat.le_trans hbw1.size hg; clear hl) | (go_at_call 17; refine (run_last HR.out HA.out).mono ?_; rintro e' w' ⟨rfl, rfl⟩) | (go_at_call 26; have hone := HONE.out; refine (run_copy HR.out).mono ?_; rintro e' w3 ⟨r1, g1, rfl, hg1, hl1, hb3⟩; clear HONE hone; have hgg := HR.out.lt; have h9 := HR.out.below hb3; clear HR; have HR := Lib.hid h9; clear h9; have HR1 := Lib.hid hl1; have m3 := m2.below hb3 m2.lt; clear m2 x0 x1c x3; have m2 := m3; clear m3; have x0 := m2.cell 0; have x1c := m2.cell 1; have x3 := m2.cell 3; simp only [List.getElem?_toArray, List.getElem?_cons_zero, List.getElem?_cons_succ] at x0 x1c x3; have hbw9 := hbw.trans (hb3.mono hbw.size); clear hbw; have hbw := hbw9; clear hbw9; have hgg1 := hl1.lt; have hw2s := m2.lt; clear hl1 hb3) | (go_at_call 26; refine (run_copy HR.out).mono ?_; rintro e' w4 ⟨r2, g2, rfl, hg2, hl2, hb4⟩; have h9 := HR.out.below hb4; clear HR; have HR := Lib.hid h9; clear h9; have h9 := HR1.out.below hb4; clear HR1; have HR1 := Lib.hid h9; clear h9; have HR2 := Lib.hid hl2; have m3 := m2.below hb4 m2.lt; clear m2 x0 x1c x3; have m2 := m3; clear m3; have x0 := m2.cell 0; have x1c := m2.cell 1; have x3 := m2.cell 3; simp only [List.getElem?_toArray, List.getElem?_cons_zero, List.getElem?_cons_succ] at x0 x1c x3; have hbw9 := hbw.trans (hb4.mono hbw.size); clear hbw; have hbw := hbw9; clear hbw9; clear hl2 hb4; have HTHREE := Lib.hid (show True from trivial)) | (go_at_call 24; have htwo := HTWO.out; refine (run_start HR1.out X Y x1 y1 uX uY HXE.out HY1.out.symm (by omega)).mono ?_; rintro e' w5 ⟨rfl, hl5, hg5⟩; clear HTWO htwo; have h8 := HR.out.stay HR1.out (by omega) hg5; have h7 := HR2.out.stay HR1.out (by omega) hg5; clear HR HR2 HR1; have HR := Lib.hid h8; have HR2 := Lib.hid h7; have HR1 := Lib.hid hl5; have m3 := m2.grown hg5 (by (simp; omega)); clear m2 x0 x1c x3; have m2 := m3; clear m3; have x0 := m2.cell 0; have x1c := m2.cell 1; have x3 := m2.cell 3; simp only [List.getElem?_toArray, List.getElem?_cons_zero, List.getElem?_cons_succ] at x0 x1c x3; have hbw9 := hbw.grown hg5 hbw.size (fun j hj => by (injection hj with hj; omega)); clear hbw; have hbw := hbw9; clear hbw9; clear h8 h7 hl5 hg5) | (go_at_call 24; refine (run_start HR2.out x1 v x1 v ux1 uv HXF.out HVM.out (by omega)).mono ?_; rintro e' w6 ⟨rfl, hl6, hg6⟩; have h8 := HR.out.stay HR2.out (by omega) hg6; have h7 := HR1.out.stay HR2.out (by omega) hg6; clear HR HR1 HR2; have HR := Lib.hid h8; have HR1 := Lib.hid h7; have HR2 := Lib.hid hl6; have m3 := m2.grown hg6 (by (simp; omega)); clear m2 x0 x1c x3; have m2 := m3; clear m3; have x0 := m2.cell 0; have x1c := m2.cell 1; have x3 := m2.cell 3; simp only [List.getElem?_toArray, List.getElem?_cons_zero, List.getElem?_cons_succ] at x0 x1c x3; have hbw9 := hbw.grown hg6 hbw.size (fun j hj => by (injection hj with hj; omega)); clear hbw; have hbw := hbw9; clear hbw9; clear h8 h7 hl6 hg6) | (go_at_call 21; with_reducible refine (run_at' HR.out HA.out x1 v ux1 HV.out).mono ?_; rintro e' w7 ⟨rfl, hb7⟩; have h9 := HR.out.below hb7; clear HR; have HR := Lib.hid h9; clear h9; have h9 := HR1.out.below hb7; clear HR1; have HR1 := Lib.hid h9; clear h9; have h9 := HR2.out.below hb7; clear HR2; have HR2 := Lib.hid h9; clear h9; have m3 := m2.below hb7 m2.lt; clear m2 x0 x1c x3; have m2 := m3; clear m3; have x0 := m2.cell 0; have x1c := m2.cell 1; have x3 := m2.cell 3; simp only [List.getElem?_toArray, List.getElem?_cons_zero, List.getElem?_cons_succ] at x0 x1c x3; have hbw9 := hbw.trans (hb7.mono hbw.size); clear hbw; have hbw := hbw9; clear hbw9; clear hb7) | (go_at_call 21; with_reducible refine (run_at' HR1.out HA1.out tt p1 utt HP1.out).mono ?_; rintro e' w7 ⟨rfl, hb7⟩; have h9 := HR.out.below hb7; clear HR; have HR := Lib.hid h9; clear h9; have h9 := HR1.out.below hb7; clear HR1; have HR1 := Lib.hid h9; clear h9; have h9 := HR2.out.below hb7; clear HR2; have HR2 := Lib.hid h9; clear h9; have m3 := m2.below hb7 m2.lt; clear m2 x0 x1c x3; have m2 := m3; clear m3; have x0 := m2.cell 0; have x1c := m2.cell 1; have x3 := m2.cell 3; simp only [List.getElem?_toArray, List.getElem?_cons_zero, List.getElem?_cons_succ] at x0 x1c x3; have hbw9 := hbw.trans (hb7.mono hbw.size); clear hbw; have hbw := hbw9; clear hbw9; clear hb7) | (go_at_call 21; with_reducible refine (run_at' HR.out HA.out tt p2 utt HP2.out).mono ?_; rintro e' w7 ⟨rfl, hb7⟩; have h9 := HR.out.below hb7; clear HR; have HR := Lib.hid h9; clear h9; have h9 := HR1.out.below hb7; clear HR1; have HR1 := Lib.hid h9; clear h9; have h9 := HR2.out.below hb7; clear HR2; have HR2 := Lib.hid h9; clear h9; have m3 := m2.below hb7 m2.lt; clear m2 x0 x1c x3; have m2 := m3; clear m3; have x0 := m2.cell 0; have x1c := m2.cell 1; have x3 := m2.cell 3; simp only [List.getElem?_toArray, List.getElem?_cons_zero, List.getElem?_cons_succ] at x0 x1c x3; have hbw9 := hbw.trans (hb7.mono hbw.size); clear hbw; have hbw := hbw9; clear hbw9; clear hb7) | (go_at_call 20; with_reducible refine (run_ahead' HR1.out HA1.out tt q1 utt HQ1.out).mono ?_; rintro e' w7 ⟨rfl, hb7⟩; have h9 := HR.out.below hb7; clear HR; have HR := Lib.hid h9; clear h9; have h9 := HR1.out.below hb7; clear HR1; have HR1 := Lib.hid h9; clear h9; have h9 := HR2.out.below hb7; clear HR2; have HR2 := Lib.hid h9; clear h9; have m3 := m2.below hb7 m2.lt; clear m2 x0 x1c x3; have m2 := m3; clear m3; have x0 := m2.cell 0; have x1c := m2.cell 1; have x3 := m2.cell 3; simp only [List.getElem?_toArray, List.getElem?_cons_zero, List.getElem?_cons_succ] at x0 x1c x3; have hbw9 := hbw.trans (hb7.mono hbw.size); clear hbw; have hbw := hbw9; clear hbw9; clear hb7) | (go_at_call 20; with_reducible refine (run_ahead' HR.out HA.out tt q2 utt HQ2.out).mono ?_; rintro e' w7 ⟨rfl, hb7⟩; have h9 := HR.out.below hb7; clear HR; have HR := Lib.hid h9; clear h9; have h9 := HR1.out.below hb7; clear HR1; have HR1 := Lib.hid h9; clear h9; have h9 := HR2.out.below hb7; clear HR2; have HR2 := Lib.hid h9; clear h9; have m3 := m2.below hb7 m2.lt; clear m2 x0 x1c x3; have m2 := m3; clear m3; have x0 := m2.cell 0; have x1c := m2.cell 1; have x3 := m2.cell 3; simp only [List.getElem?_toArray, List.getElem?_cons_zero, List.getElem?_cons_succ] at x0 x1c x3; have hbw9 := hbw.trans (hb7.mono hbw.size); clear hbw; have hbw := hbw9; clear hbw9; clear hb7) | (go_at_call 21; with_reducible refine (run_at' HR2.out HA2.out x1 v ux1 HSM.out).mono ?_; rintro e' w7 ⟨rfl, hb7⟩; have h9 := HR.out.below hb7; clear HR; have HR := Lib.hid h9; clear h9; have h9 := HR1.out.below hb7; clear HR1; have HR1 := Lib.hid h9; clear h9; have h9 := HR2.out.below hb7; clear HR2; have HR2 := Lib.hid h9; clear h9; have m3 := m2.below hb7 m2.lt; clear m2 x0 x1c x3; have m2 := m3; clear m3; have x0 := m2.cell 0; have x1c := m2.cell 1; have x3 := m2.cell 3; simp only [List.getElem?_toArray, List.getElem?_cons_zero, List.getElem?_cons_succ] at x0 x1c x3; have hbw9 := hbw.trans (hb7.mono hbw.size); clear hbw; have hbw := hbw9; clear hbw9; clear hb7) | (go_at_call 21; with_reducible refine (run_at' HR2.out HA2.out tt s1 utt HS1.out).mono ?_; rintro e' w7 ⟨rfl, hb7⟩; have h9 := HR.out.below hb7; clear HR; have HR := Lib.hid h9; clear h9; have h9 := HR1.out.below hb7; clear HR1; have HR1 := Lib.hid h9; clear h9; have h9 := HR2.out.below hb7; clear HR2; have HR2 := Lib.hid h9; clear h9; have m3 := m2.below hb7 m2.lt; clear m2 x0 x1c x3; have m2 := m3; clear m3; have x0 := m2.cell 0; have x1c := m2.cell 1; have x3 := m2.cell 3; simp only [List.getElem?_toArray, List.getElem?_cons_zero, List.getElem?_cons_succ] at x0 x1c x3; have hbw9 := hbw.trans (hb7.mono hbw.size); clear hbw; have hbw := hbw9; clear hbw9; clear hb7))
  all_goals first
    | (exfalso; omega)
    | (go_ret; exact ⟨rfl, hbw⟩)
    | skip
  all_goals
    obtain ⟨n1, hk1, h10, h11, hc1⟩ := reach_fix HR1.out HA1.out N uN
    obtain ⟨n2, hk2, h20, h21, hc2⟩ := reach_fix HR.out HA.out N uN
    have hnm : n2 ≤ n1 := Back.less_x hk1 hk2 hxx1 (vA_max_mono HM.out HLOW.out) (fun t' ht' => vA_more hxx1 ht' y1)
    have HC1 := Lib.hid hc1; have HC2 := Lib.hid hc2
    have hBl : (((A ++ [(x1, y1)]).length : Nat) : Int) = (A.length : Int) + 1 := by simp
    have o3 := fun e => (over_cell (w := w7) (e := e) m2.lt).trans x3
    clear hk1 hk2 hc1 hc2
    refine wp_region_over (by kernel_rfl) (by kernel_rfl) ?_
    repeat (first | go_big_quiet_skip | (go_big_quiet_want; go_big_quiet_op; first | go_big_quiet_on | (apply Exists.intro; refine ⟨fun e => ?_, ?_⟩; (focus (first
      | (go_at_call 27; with_reducible exact calls_over_same (run_many (HR1.out.below (over_below _ e)) HA1.out))
      | (go_at_call 27; with_reducible exact calls_over_same (run_many (HR.out.below (over_below _ e)) HA.out))
      | (go_at_call 19; with_reducible exact calls_over (HC1.out _ (HR1.out.below (over_below _ e))))
      | (go_at_call 19; with_reducible exact calls_over (HC2.out _ (HR.out.below (over_below _ e)))))); go_big_quiet_on)))
    refine wpQuiet_nil ?_
    rintro W2 ⟨e2, he2⟩
    have hb22 := over_below w7 e2
    rw [← he2] at hb22
    clear he2 o3
    go_wp2
    go_ret
    refine ⟨?_, hbw.trans (hb22.mono hbw.size)⟩
    simp
    try omega


theorem anew_walk (F L R X Y T N t : Int) (a : Option Addr) (len cap : Nat) (zs : List (List Value)) (w : World) (hF : U F) (hL : U L) (hR : U R) (uX : U X) (uY : U Y) (uN : U N) (ut : U t) (hz : IsRows [some .u64, some .u64, some .u64, some .u64] w a len cap zs) :
    Calls Try.prog 6 #[.agg #[.int .u64 F, .int .u64 L, .int .u64 R], .slice a len cap, .agg #[.int .u64 X, .int .u64 Y, .int .u64 T, .int .u64 N], .int .u64 t] w fun e w' => e = .returned (.bool true) ∧ Below w.heap.size w w' := by
  obtain ⟨hlen, z, hz'⟩ := acts_of hz
  by_cases h1 : mayB F L R = true
  · by_cases h40 : len ≤ 40
    · by_cases h : len = 0 ∨ 4611686018427387904 ≤ X ∨ 4611686018427387904 ≤ t
      · exact anew_few F L R X Y T N t a len cap z w hF hL hR hz' h40 h h1
      · exact anew_some F L R X Y T N t a len cap z w hF hL hR uX uY uN ut hz' h40 (by omega) (by omega) (by omega) h1
    · exact anew_many F L R X Y T N t a len cap w hF.1 hL.1 hR.1 hlen (by omega) h1
  · exact anew_nil F L R X Y T N t a len cap w hL.1 hlen (by simpa using h1)

end Go.Proofs.Ytflnlapfomjggaa
