/-
  A debt wakes, is served: the contracts.
-/
import Derived.Test.YtflnlapfomjggaaRealDo
namespace Go.Proofs.Ytflnlapfomjggaa
set_option linter.unusedVariables false
open Go.RowKit

section
variable {w w' : World} {d r g : Nat} {F L R x got el du : Int} {A : List (Int × Int)} {aw : Bool}

/-- what a debt holds while it is awake -/
def Debts (F L R x : Int) (A : List (Int × Int)) (got n el du : Int) : Prop :=
  Back (fun t => vE F L R A (max t x)) x got el ∧ 0 ≤ el ∧ el ≤ 9223372036854775808 ∧ Back (fun t => vA F L R A (max t x)) x (dueY got n) du ∧ 0 ≤ du ∧ du ≤ 9223372036854775808

/-- all but the debt and its run is as it was -/
structure Keeps (w w' : World) (g d : Nat) : Prop where
  low : ∀ B, B ≤ g → Below B w w'
  blk : ∀ b t cs, Blk w b t cs → b ≠ g → b ≠ d → Blk w' b t cs
  size : w.heap.size ≤ w'.heap.size
theorem Keeps.same (w : World) (g d : Nat) : Keeps w w g d := ⟨fun B _ => Below.refl B w, fun _ _ _ h _ _ => h, Nat.le_refl _⟩
theorem Keeps.trans {w1 w2 w3 : World} {g d : Nat} (h : Keeps w1 w2 g d) (k : Keeps w2 w3 g d) : Keeps w1 w3 g d :=
  ⟨fun B hB => (h.low B hB).trans (k.low B hB), fun b t cs hB h1 h2 => k.blk b t cs (h.blk b t cs hB h1 h2) h1 h2, Nat.le_trans h.size k.size⟩
theorem Keeps.of_below {w w' : World} {g d : Nat} (h : Below w.heap.size w w') (hg : g < w.heap.size) : Keeps w w' g d :=
  ⟨fun B hB => h.mono (by omega), fun b t cs hB _ _ => hB.below h hB.lt, h.size⟩
theorem Keeps.of_grown {w w' : World} {g d : Nat} (h : w.grownBy w' (some g)) (hg : g < w.heap.size) : Keeps w w' g d :=
  ⟨fun B hB => (Below.refl B w).grown h (by omega) (fun j hj => by (injection hj with hj; omega)), fun b t cs hB h1 _ => hB.grown h (by simpa using h1), h.size⟩
theorem Keeps.of_grown_d {w w' : World} {g d : Nat} (h : w.grownBy w' (some d)) (hg : g < d) (hd : d < w.heap.size) : Keeps w w' g d :=
  ⟨fun B hB => (Below.refl B w).grown h (by omega) (fun j hj => by (injection hj with hj; omega)), fun b t cs hB _ h2 => hB.grown h (by simpa using h2), h.size⟩
theorem Keeps.of_set {w : World} {g d : Nat} (i : Nat) (u : Value) (hg : g < d) (hd : d < w.heap.size) : Keeps w (w.setCell ⟨d, i, none⟩ u) g d :=
  Keeps.of_grown_d (World.grownBy_setCell w ⟨d, i, none⟩ u) hg hd

theorem dwake_on (h : DebtAt w d r g F L R x A got true el du) (t n : Int) :
    Calls Try.prog 40 #[.pointer (some ⟨d, 0, none⟩), .int .u64 t, .int .i64 n] w fun e w' => e = .returned (.tuple #[]) ∧ w = w' := by
  have c2 := h.1.cell 2
  simp only [List.getElem?_toArray, List.getElem?_cons_zero, List.getElem?_cons_succ] at c2
  have H := Lib.hid h; clear h
  go_enter Try.func40, Try.ntmps40
  go_wp2_with (go_at_call 65; refine (dnone H.out).mono ?_; rintro e w' ⟨rfl, rfl⟩)
  go_returns
  exact ⟨rfl, rfl⟩
theorem dserve_off (h : DebtAt w d r g F L R x A got false el du) (q n m : Int) :
    Calls Try.prog 41 #[.pointer (some ⟨d, 0, none⟩), .int .u8 q, .int .i64 n, .int .i64 m] w fun e w' => e = .returned (.tuple #[]) ∧ w = w' := by
  have H := Lib.hid h; clear h
  go_enter Try.func41, Try.ntmps41
  go_wp2_with (go_at_call 39; refine (dawake H.out).mono ?_; rintro e w' ⟨rfl, rfl⟩)
  go_returns
  exact ⟨rfl, rfl⟩

set_option maxRecDepth 100000 in
set_option maxHeartbeats 1000000 in
theorem dwake (h : DebtAt w d r g F L R x A got false el du) (t n X : Int) (ut : U t) (hg0 : 0 ≤ got) (hg1 : got ≤ 4611686018427387904) (hX : X = max (min t 9223372036854775808) x) (hfew : A.length < 900000) :
    Calls Try.prog 40 #[.pointer (some ⟨d, 0, none⟩), .int .u64 t, .int .i64 n] w fun e w' => e = .returned (.tuple #[]) ∧
      ∃ el' du', DebtAt w' d r g F L R X (A ++ [(X, got)]) got true el' du' ∧ Debts F L R X (A ++ [(X, got)]) got n el' du' ∧ Keeps w w' g d := by
  have c0 := h.1.cell 0; have c1 := h.1.cell 1; have c2 := h.1.cell 2
  simp only [List.getElem?_toArray, List.getElem?_cons_zero, List.getElem?_cons_succ] at c0 c1 c2
  have hlt := h.1.lt
  have o0 := fun e => (over_cell (w := w) (e := e) hlt).trans c0
  have o1 := fun e => (over_cell (w := w) (e := e) hlt).trans c1
  have hgd := h.glt; have hrd := h.2.2
  have H := Lib.hid h; clear h
  go_enter Try.func40, Try.ntmps40
  go_wp2_with (go_at_call 65; refine (dnone H.out).mono ?_; rintro e w' ⟨rfl, rfl⟩)
  refine wp_region_over_tail 10 (by kernel_rfl) (by kernel_rfl) ?_
  simp only [List.take_succ_cons, List.take_zero, List.drop_succ_cons, List.drop_zero]
  repeat (first | go_big_quiet_skip | (go_big_quiet_want; go_big_quiet_op; go_big_quiet_on))
  refine wpQuiet_nil ?_
  rintro W2 ⟨e2, he2⟩
  have hb2 := over_below w e2
  rw [← he2] at hb2
  clear he2 o0 o1 c0 c1 c2
  have h2 := H.out.below hb2
  have HH2 := Lib.hid h2
  clear h2
  have u8 : U got := ⟨hg0, by omega⟩
  have hgm : got = min got 4611686018427387904 := by omega
  have HGM := Lib.hid hgm; have HXX := Lib.hid hX; clear hgm hX
  go_wp2_with (first
    | (go_at_call 24; refine (run_start HH2.out.2.1 t got X got ut u8 HXX.out HGM.out hfew).mono ?_; rintro e w3 ⟨rfl, hr3, hg3⟩; have hB3 := HH2.out.1.grown hg3 (by simp; omega); have d2 := hB3.cell 2; have z2 := hB3.frozen 2; simp only [List.getElem?_toArray, List.getElem?_cons_zero, List.getElem?_cons_succ] at d2; have HB3 := Lib.hid hB3; have HR3 := Lib.hid hr3; have HG3 := Lib.hid hg3; clear hB3 hr3 hg3)
    | (go_at_call 66; refine (anew_any _).mono ?_; rintro e w4 ⟨rfl, hb4⟩; have D3 : DebtAt (w3.setCell ⟨d, 2, none⟩ (.bool true)) d r g F L R X (A ++ [(X, got)]) got true el du := ⟨by (simpa using HB3.out.set_ 2 (.bool true)), RunAt.far HR3.out HB3.out (by decide) (by omega) (by omega) (World.grownBy_setCell _ _ _), hrd⟩; have hB4s := D3.1.lt; have D4 := D3.below hb4; have D5 := D4.below ((Below.refl _ _).alloc (Nat.le_refl _) (.cells #[.func (.func 81) #[] #[], .func (.func 82) #[] #[]] 116)); have HD5 := Lib.hid D5; have hd4 := D4.1.lt; have nm := Blk.new w4 116 #[.func (.func 81) #[] #[], .func (.func 82) #[] #[]]; have NM := Lib.hid nm; clear D3 D4 D5 nm)
    | (go_at_call 81; refine (anew_elig HD5.out (by simp) u8 n).mono ?_; rintro e w6 ⟨rfl, el', hk1, h10, h11, h6, hg6⟩; have nm6 := NM.out.grown hg6 (by (simp; omega)); have m1 := nm6.cell 1; simp only [List.getElem?_toArray, List.getElem?_cons_zero, List.getElem?_cons_succ] at m1; have HK1 := Lib.hid hk1; have H6 := Lib.hid h6; clear hk1 h6 nm6)
    | (go_at_call 82; refine (anew_due H6.out (by simp) hg0 hg1 n).mono ?_; rintro e w7 ⟨rfl, du', hk2, h20, h21, h7, hg7⟩; have HK2 := Lib.hid hk2; have H7 := Lib.hid h7; clear hk2 h7))
  go_returns
  refine ⟨rfl, el', du', H7.out, ⟨HK1.out, h10, h11, HK2.out, h20, h21⟩, ?_⟩
  have s2 := hb2.size; have s3 := HG3.out.size; have s4 := hb4.size; have s6 := hg6.size
  simp only [World.size_setCell] at s4
  simp only [World.size_alloc] at s6
  exact (((((Keeps.of_below hb2 (by omega)).trans (Keeps.of_grown HG3.out (by omega))).trans (Keeps.of_set 2 (.bool true) hgd (by omega))).trans (Keeps.of_below (hb4.alloc hb4.size (.cells #[.func (.func 81) #[] #[], .func (.func 82) #[] #[]] 116)) (by simp only [World.size_setCell]; omega))).trans (Keeps.of_grown_d hg6 hgd (by simp only [World.size_alloc]; omega))).trans (Keeps.of_grown_d hg7 hgd (by omega))




set_option maxRecDepth 100000 in
set_option maxHeartbeats 1000000 in
theorem dserve_share (h : DebtAt w d r g F L R x A got true el du) (hA : A ≠ []) (hg0 : 0 ≤ got) (hg1 : got ≤ 4611686018427387904) (q : Int) (hq : q ≠ 1) (n m : Int) :
    Calls Try.prog 41 #[.pointer (some ⟨d, 0, none⟩), .int .u8 q, .int .i64 n, .int .i64 m] w fun e w' => e = .returned (.tuple #[]) ∧
      ∃ du', DebtAt w' d r g F L R x A got (decide (1 ≤ m)) el du' ∧ Back (fun t => vA F L R A (max t x)) x (dueY got m) du' ∧ 0 ≤ du' ∧ du' ≤ 9223372036854775808 ∧ Keeps w w' g d := by
  have hgd := h.glt; have hrd := h.2.2
  have H := Lib.hid h; clear h
  have HA := Lib.hid hA; clear hA
  go_enter Try.func41, Try.ntmps41
  go_wp2_with (first
    | (go_at_call 39; refine (dawake H.out).mono ?_; rintro e w' ⟨rfl, rfl⟩)
    | (go_at_call 66; refine (anew_any _).mono ?_; rintro e w4 ⟨rfl, hb4⟩)
    | (go_at_call 82; refine (anew_due (H.out.below (hb4.alloc hb4.size _)) HA.out hg0 hg1 m).mono ?_; rintro e w5 ⟨rfl, du', hk, hd0, hd1, h5, hg5⟩; have d2 := h5.1.cell 2; have z2 := h5.1.frozen 2; simp only [List.getElem?_toArray, List.getElem?_cons_zero, List.getElem?_cons_succ] at d2; have H5 := Lib.hid h5; have HK := Lib.hid hk; clear h5 hk))
  go_returns
  refine ⟨rfl, du', ⟨by simpa using H5.out.1.set_ 2 (.bool (decide (1 ≤ m))), H5.out.run_set _ _, hrd⟩, HK.out, hd0, hd1, ?_⟩
  have hlt := H.out.1.lt; have s4 := hb4.size
  have s5 := hg5.size
  simp only [World.size_alloc] at s5
  exact ((Keeps.of_below (hb4.alloc hb4.size (.cells #[.func (.func 81) #[] #[], .func (.func 82) #[] #[]] 116)) (by omega)).trans (Keeps.of_grown_d hg5 hgd (by simp only [World.size_alloc]; omega))).trans (Keeps.of_set _ _ hgd (by omega))


set_option maxRecDepth 100000 in
set_option maxHeartbeats 1000000 in
theorem dserve_real (h : DebtAt w d r g F L R x A got true el du) (hA : A ≠ []) (hg0 : 0 ≤ got) (hg1 : got ≤ 4611686018427387904) (n m : Int) :
    Calls Try.prog 41 #[.pointer (some ⟨d, 0, none⟩), .int .u8 1, .int .i64 n, .int .i64 m] w fun e w' => e = .returned (.tuple #[]) ∧
      ∃ el' du', DebtAt w' d r g F L R x A (dueY got n) (decide (1 ≤ m)) el' du' ∧ Debts F L R x A (dueY got n) m el' du' ∧ Keeps w w' g d := by
  obtain ⟨G, hG⟩ : ∃ G, grainsL n = G := ⟨_, rfl⟩
  obtain ⟨Y, hY⟩ : ∃ Y, dueY got n = Y := ⟨_, rfl⟩
  have hGb := grainsL_bd n
  rw [hG] at hGb
  have hYb := dueY_bd (n := n) hg0
  rw [hY] at hYb
  have hYe : (if 4611686018427387904 < got + G then 4611686018427387904 else got + G) = Y := by rw [← hY, ← hG]; unfold dueY; omega
  rw [hY]
  have uY : U Y := ⟨hYb.1, by omega⟩
  have hgd := h.glt; have hrd := h.2.2
  have hlt := h.1.lt
  have H := Lib.hid h; clear h hY
  have HA := Lib.hid hA; clear hA
  go_enter Try.func41, Try.ntmps41
  go_wp2_with (first
    | (go_at_call 39; refine (dawake H.out).mono ?_; rintro e w' ⟨rfl, rfl⟩)
    | (go_at_call 66; refine (anew_any _).mono ?_; rintro e w4 ⟨rfl, hb4⟩))
  have h5 := H.out.below (hb4.alloc hb4.size (.cells #[.func (.func 81) #[] #[], .func (.func 82) #[] #[]] 116))
  have hbm := hb4.alloc hb4.size (.cells #[.func (.func 81) #[] #[], .func (.func 82) #[] #[]] 116)
  have nm := Blk.new w4 116 #[.func (.func 81) #[] #[], .func (.func 82) #[] #[]]
  have s4 := hb4.size
  generalize hwm : w4.alloc (.cells #[.func (.func 81) #[] #[], .func (.func 82) #[] #[]] 116) = wm at *
  have hws : wm.heap.size = w4.heap.size + 1 := by rw [← hwm]; simp
  clear hwm
  have c1 := h5.1.cell 1
  simp only [List.getElem?_toArray, List.getElem?_cons_zero, List.getElem?_cons_succ] at c1
  have o1 := fun e => (over_cell (w := wm) (e := e) h5.1.lt).trans c1
  have H5 := Lib.hid h5; have NM := Lib.hid nm; have HBM := Lib.hid hbm
  clear h5 nm hbm hb4
  refine wp_region_over_tail 11 (by kernel_rfl) (by kernel_rfl) ?_
  simp only [List.take_succ_cons, List.take_zero, List.drop_succ_cons, List.drop_zero]
  repeat (first | go_big_quiet_skip | (go_big_quiet_want; go_big_quiet_op; first | go_big_quiet_on | (apply Exists.intro; refine ⟨fun e => ?_, ?_⟩; (focus (go_at_call 67; exact calls_over_same (hG ▸ grains_any n _))); go_big_quiet_on)))
  refine wpQuiet_nil ?_
  rintro W2 ⟨e2, he2⟩
  have hb2 := over_below wm e2
  rw [← he2] at hb2
  clear he2 o1 c1
  have h6 := H5.out.below hb2
  have nm2 := NM.out.below hb2 NM.out.lt
  have d1 := h6.1.cell 1; have z1 := h6.1.frozen 1
  have m0 := nm2.cell 0
  simp only [List.getElem?_toArray, List.getElem?_cons_zero, List.getElem?_cons_succ] at d1 m0
  have D6 : DebtAt (W2.setCell ⟨d, 1, none⟩ (.int .u64 Y)) d r g F L R x A Y true el du := ⟨by (simpa using h6.1.set_ 1 (.int .u64 Y)), h6.run_set _ _, hrd⟩
  have nm3 := nm2.grown (World.grownBy_setCell W2 ⟨d, 1, none⟩ (.int .u64 Y)) (by simp; omega)
  have mm0 := nm3.cell 0
  simp only [List.getElem?_toArray, List.getElem?_cons_zero, List.getElem?_cons_succ] at mm0
  have HD6 := Lib.hid D6; have NM3 := Lib.hid nm3; have HB2 := Lib.hid hb2
  have s2 := hb2.size
  clear h6 nm2 nm3 D6 hb2
  go_wp2_with (first
    | (go_at_call 81; refine (anew_elig HD6.out HA.out uY m).mono ?_; rintro e w6 ⟨rfl, el', hk1, h10, h11, h6, hg6⟩; have nm6 := NM3.out.grown hg6 (by (simp; omega)); have m1 := nm6.cell 1; simp only [List.getElem?_toArray, List.getElem?_cons_zero, List.getElem?_cons_succ] at m1; have HK1 := Lib.hid hk1; have H6 := Lib.hid h6; clear hk1 h6 nm6)
    | (go_at_call 82; refine (anew_due H6.out HA.out hYb.1 hYb.2 m).mono ?_; rintro e w7 ⟨rfl, du', hk2, h20, h21, h7, hg7⟩; have d2 := h7.1.cell 2; have z2 := h7.1.frozen 2; simp only [List.getElem?_toArray, List.getElem?_cons_zero, List.getElem?_cons_succ] at d2; have HK2 := Lib.hid hk2; have H7 := Lib.hid h7; clear hk2 h7))
  go_returns
  refine ⟨rfl, el', du', ⟨by simpa using H7.out.1.set_ 2 (.bool (decide (1 ≤ m))), H7.out.run_set _ _, hrd⟩, ⟨HK1.out, h10, h11, HK2.out, h20, h21⟩, ?_⟩
  have s6 := hg6.size; have s7 := hg7.size
  simp only [World.size_setCell] at s6
  exact (((((Keeps.of_below HBM.out (by omega)).trans (Keeps.of_below HB2.out (by omega))).trans (Keeps.of_set 1 (.int .u64 Y) hgd (by omega))).trans (Keeps.of_grown_d hg6 hgd (by simp only [World.size_setCell]; omega))).trans (Keeps.of_grown_d hg7 hgd (by omega))).trans (Keeps.of_set _ _ hgd (by omega))
end

end Go.Proofs.Ytflnlapfomjggaa
