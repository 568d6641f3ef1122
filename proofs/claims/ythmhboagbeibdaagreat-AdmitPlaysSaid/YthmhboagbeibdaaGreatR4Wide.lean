/-
  The document's wide numbers, by halves of 32 bits; what a curve has at a tick; may it be (cut by program from XRefWide and XRefMay: what sums' reference reaches).
-/
import Derived.Test.YthmhboagbeibdaaGreatWide
import Derived.Test.YthmhboagbeibdaaGreatCvApp
namespace Go.Proofs.YthmhboagbeibdaaGreat
set_option linter.unusedVariables false
open Go.RowKit

theorem mul_bd {a t A T : Int} (ha : 0 ≤ a) (hA : a ≤ A) (ht : 0 ≤ t) (hT : t ≤ T) : 0 ≤ a * t ∧ a * t ≤ A * T :=
  ⟨Int.mul_nonneg ha ht, Int.mul_le_mul hA hT ht (Int.le_trans ha hA)⟩

/-- a wide number as a value -/
abbrev wv (n : Int) : Value := .agg #[.int .u64 (hiW n), .int .u64 (loW n)]

theorem mul_halves (x1 x0 y1 y0 : Int) : (x1 * 4294967296 + x0) * (y1 * 4294967296 + y0) = x1 * y1 * 18446744073709551616 + (x1 * y0 + x0 * y1) * 4294967296 + x0 * y0 := by
  have e1 : x1 * 4294967296 * (y1 * 4294967296) = x1 * y1 * 18446744073709551616 := by
    rw [Int.mul_assoc, Int.mul_left_comm 4294967296, ← Int.mul_assoc, show (4294967296 : Int) * 4294967296 = 18446744073709551616 from rfl]
  have e2 : x1 * 4294967296 * y0 = x1 * y0 * 4294967296 := Int.mul_right_comm _ _ _
  have e3 : x0 * (y1 * 4294967296) = x0 * y1 * 4294967296 := (Int.mul_assoc _ _ _).symm
  rw [Int.add_mul, Int.mul_add, Int.mul_add, e1, e2, e3]
  omega

theorem rmul_walk (a b x0 x1 y0 y1 t00 t10 t01 t11 l1 l0 o1 o0 w1 w0 md m1 m0 h l : Int) (w : World)
    (e1 : IntKind.u64.wrap (a.tdiv 4294967296) = x1) (e2 : a.tmod 4294967296 = x0) (e3 : IntKind.u64.wrap (b.tdiv 4294967296) = y1) (e4 : b.tmod 4294967296 = y0)
    (g00 : IntKind.u64.wrap (x0 * y0) = t00) (g10 : IntKind.u64.wrap (x1 * y0) = t10) (g01 : IntKind.u64.wrap (x0 * y1) = t01) (g11 : IntKind.u64.wrap (x1 * y1) = t11)
    (k1 : IntKind.u64.wrap (t00.tdiv 4294967296) = l1) (k2 : t00.tmod 4294967296 = l0) (k3 : IntKind.u64.wrap (t10.tdiv 4294967296) = o1) (k4 : t10.tmod 4294967296 = o0) (k5 : IntKind.u64.wrap (t01.tdiv 4294967296) = w1) (k6 : t01.tmod 4294967296 = w0)
    (f1 : IntKind.u64.wrap (IntKind.u64.wrap (l1 + o0) + w0) = md) (k7 : IntKind.u64.wrap (md.tdiv 4294967296) = m1) (k8 : md.tmod 4294967296 = m0)
    (f2 : IntKind.u64.wrap (IntKind.u64.wrap (IntKind.u64.wrap (t11 + o1) + w1) + m1) = h) (f3 : IntKind.u64.wrap (IntKind.u64.wrap (m0 * 4294967296) + l0) = l) :
    Calls Tryz.prog 71 #[.int .u64 a, .int .u64 b] w fun e w' => e = .returned (.agg #[.int .u64 h, .int .u64 l]) ∧ Below w.heap.size w w' := by
  go_enter Tryz.func71, Tryz.ntmps71
  go_wp2
  go_returns
  exact ⟨rfl, by go_grown⟩

theorem ref_mul (a b : Int) (w : World) (ha : U a) (hb : U b) :
    Calls Tryz.prog 71 #[.int .u64 a, .int .u64 b] w fun e w' => e = .returned (wv (a * b)) ∧ Below w.heap.size w w' := by
  have ha' := ha; have hb' := hb
  unfold U at ha' hb'
  have b00 := prod_bd (x := a % 4294967296) (y := b % 4294967296) (by omega) (by omega) (by omega) (by omega)
  have b01 := prod_bd (x := a % 4294967296) (y := b / 4294967296) (by omega) (by omega) (by omega) (by omega)
  have b10 := prod_bd (x := a / 4294967296) (y := b % 4294967296) (by omega) (by omega) (by omega) (by omega)
  have b11 := prod_bd (x := a / 4294967296) (y := b / 4294967296) (by omega) (by omega) (by omega) (by omega)
  have hab := mul_halves (a / 4294967296) (a % 4294967296) (b / 4294967296) (b % 4294967296)
  rw [show a / 4294967296 * 4294967296 + a % 4294967296 = a by omega, show b / 4294967296 * 4294967296 + b % 4294967296 = b by omega] at hab
  have hU : ∀ t : Int, 0 ≤ t → t ≤ 18446744073709551615 → U t := fun t h h' => ⟨h, h'⟩
  have e1 : IntKind.u64.wrap (a.tdiv 4294967296) = a / 4294967296 := by rw [Int.tdiv_eq_ediv_of_nonneg ha.1]; exact wrap_u (hU _ (by omega) (by omega))
  have e2 : a.tmod 4294967296 = a % 4294967296 := Int.tmod_eq_emod_of_nonneg ha.1
  have e3 : IntKind.u64.wrap (b.tdiv 4294967296) = b / 4294967296 := by rw [Int.tdiv_eq_ediv_of_nonneg hb.1]; exact wrap_u (hU _ (by omega) (by omega))
  have e4 : b.tmod 4294967296 = b % 4294967296 := Int.tmod_eq_emod_of_nonneg hb.1
  unfold wv
  rw [hab]
  have dv : ∀ t : Int, 0 ≤ t → t ≤ 18446744073709551615 → IntKind.u64.wrap (t.tdiv 4294967296) = t / 4294967296 := fun t h0 h1 => by rw [Int.tdiv_eq_ediv_of_nonneg h0]; exact wrap_u (hU _ (by omega) (by omega))
  have md : ∀ t : Int, 0 ≤ t → t.tmod 4294967296 = t % 4294967296 := fun t h0 => Int.tmod_eq_emod_of_nonneg h0
  have r1 : 0 ≤ a / 4294967296 ∧ a / 4294967296 ≤ 4294967295 := by omega
  have r2 : 0 ≤ b / 4294967296 ∧ b / 4294967296 ≤ 4294967295 := by omega
  generalize h1 : a / 4294967296 = x1 at *
  generalize h2 : a % 4294967296 = x0 at *
  generalize h3 : b / 4294967296 = y1 at *
  generalize h4 : b % 4294967296 = y0 at *
  clear hab ha' hb' h1 h2 h3 h4
  generalize g00 : x0 * y0 = t00 at *
  generalize g01 : x0 * y1 = t01 at *
  generalize g10 : x1 * y0 = t10 at *
  generalize g11 : x1 * y1 = t11 at *
  have q1 : 0 ≤ t00 / 4294967296 + t10 % 4294967296 + t01 % 4294967296 ∧ t00 / 4294967296 + t10 % 4294967296 + t01 % 4294967296 ≤ 18446744073709551615 := by omega
  exact rmul_walk a b x0 x1 y0 y1 t00 t10 t01 t11 (t00 / 4294967296) (t00 % 4294967296) (t10 / 4294967296) (t10 % 4294967296) (t01 / 4294967296) (t01 % 4294967296)
    (t00 / 4294967296 + t10 % 4294967296 + t01 % 4294967296) ((t00 / 4294967296 + t10 % 4294967296 + t01 % 4294967296) / 4294967296) ((t00 / 4294967296 + t10 % 4294967296 + t01 % 4294967296) % 4294967296)
    (hiW (t11 * 18446744073709551616 + (t10 + t01) * 4294967296 + t00)) (loW (t11 * 18446744073709551616 + (t10 + t01) * 4294967296 + t00)) w
    e1 e2 e3 e4 (by rw [g00]; exact wrap_u (hU _ (by omega) (by omega))) (by rw [g10]; exact wrap_u (hU _ (by omega) (by omega))) (by rw [g01]; exact wrap_u (hU _ (by omega) (by omega))) (by rw [g11]; exact wrap_u (hU _ (by omega) (by omega)))
    (dv _ (by omega) (by omega)) (md _ (by omega)) (dv _ (by omega) (by omega)) (md _ (by omega)) (dv _ (by omega) (by omega)) (md _ (by omega))
    (by rw [wrap_u (x := t00 / 4294967296 + t10 % 4294967296) (hU _ (by omega) (by omega))]; exact wrap_u (hU _ q1.1 q1.2)) (dv _ q1.1 q1.2) (md _ q1.1)
    (by rw [wrap_u (x := t11 + t10 / 4294967296) (hU _ (by omega) (by omega)), wrap_u (x := t11 + t10 / 4294967296 + t01 / 4294967296) (hU _ (by omega) (by omega)), wrap_u (hU _ (by omega) (by omega))]; unfold hiW; omega)
    (by rw [wrap_u (x := (t00 / 4294967296 + t10 % 4294967296 + t01 % 4294967296) % 4294967296 * 4294967296) (hU _ (by omega) (by omega)), wrap_u (hU _ (by omega) (by omega))]; unfold loW; omega)

theorem ref_cmp (n m : Int) (w : World) (h0 : 0 ≤ n) (h1 : n < 340282366920938463463374607431768211456) (k0 : 0 ≤ m) (k1 : m < 340282366920938463463374607431768211456) :
    Calls Tryz.prog 69 #[wv n, wv m] w fun e w' => e = .returned (.int .i64 (cmpI n m)) ∧ Below w.heap.size w w' := by
  have hh := U_hi h0 h1; have hl := U_lo n
  have kh := U_hi k0 k1; have kl := U_lo m
  have hn : n = hiW n * 18446744073709551616 + loW n := (num_words n).symm
  have hm : m = hiW m * 18446744073709551616 + loW m := (num_words m).symm
  unfold wv
  generalize hiW n = a at *
  generalize loW n = b at *
  generalize hiW m = c at *
  generalize loW m = d at *
  unfold U at hh hl kh kl
  go_enter Tryz.func69, Tryz.ntmps69
  go_wp2
  all_goals go_ret
  all_goals first
    | exact ⟨ret_int (cmpI_lt (by omega)).symm, by go_grown⟩
    | exact ⟨ret_int (cmpI_gt (by omega)).symm, by go_grown⟩
    | exact ⟨ret_int (cmpI_eq (by omega)).symm, by go_grown⟩

theorem ref_plus (n m : Int) (w : World) (h0 : 0 ≤ n) (k0 : 0 ≤ m) (hs : n + m < 340282366920938463463374607431768211456) :
    Calls Tryz.prog 89 #[wv n, wv m] w fun e w' => e = .returned (.tuple #[wv (n + m), .int .i64 0]) ∧ Below w.heap.size w w' := by
  have hh := U_hi h0 (show n < 340282366920938463463374607431768211456 by omega); have hl := U_lo n
  have kh := U_hi k0 (show m < 340282366920938463463374607431768211456 by omega); have kl := U_lo m
  have hn : n = hiW n * 18446744073709551616 + loW n := (num_words n).symm
  have hm : m = hiW m * 18446744073709551616 + loW m := (num_words m).symm
  obtain ⟨x, hx⟩ : ∃ x, hiW (n + m) = x := ⟨_, rfl⟩
  obtain ⟨y, hy⟩ : ∃ y, loW (n + m) = y := ⟨_, rfl⟩
  have hxd := hx; have hyd := hy
  unfold hiW at hxd; unfold loW at hyd
  unfold wv
  rw [hx, hy]
  generalize hiW n = a at *
  generalize loW n = b at *
  generalize hiW m = c at *
  generalize loW m = d at *
  unfold U at hh hl kh kl
  clear hx hy
  by_cases hc : 18446744073709551616 ≤ b + d
  · have e1 : x = a + c + 1 := by omega
    have e2 : y = b + d - 18446744073709551616 := by omega
    have f1 : IntKind.u64.wrap (b + d) = y := by rw [IntKind.wrap_u64]; omega
    have f2 : a + c + 1 = x := by omega
    have f3 : (x == 0) = false := by simp; omega
    have ux : 0 ≤ x ∧ x ≤ 18446744073709551615 := by omega
    clear hn hm hxd hyd e1
    go_enter Tryz.func89, Tryz.ntmps89
    go_wp2
    all_goals first
      | (exfalso; omega)
      | skip
    all_goals go_returns
    all_goals first
      | exact ⟨rfl, by go_grown⟩
      | (rw [e2]; exact ⟨rfl, by go_grown⟩)
  · have e1 : x = a + c := by omega
    have e2 : y = b + d := by omega
    have f1 : b + d = y := e2.symm
    have f2 : a + c = x := e1.symm
    have ux : 0 ≤ x ∧ x ≤ 18446744073709551615 := by omega
    clear hn hm hxd hyd e1 e2
    go_enter Tryz.func89, Tryz.ntmps89
    go_wp2
    all_goals first
      | (exfalso; omega)
      | skip
    all_goals go_returns
    all_goals first
      | exact ⟨rfl, by go_grown⟩
      | (rw [e2]; exact ⟨rfl, by go_grown⟩)

theorem wv_small {y : Int} (h : U y) : wv y = .agg #[.int .u64 0, .int .u64 y] := by
  unfold wv
  rw [hi_small h, lo_small h]
theorem ref_plus_zero (n : Int) (w : World) (h0 : 0 ≤ n) (hs : n < 340282366920938463463374607431768211456) :
    Calls Tryz.prog 89 #[wv n, .agg #[.int .u64 0, .int .u64 0]] w fun e w' => e = .returned (.tuple #[wv n, .int .i64 0]) ∧ Below w.heap.size w w' := by
  have h := ref_plus n 0 w h0 (by omega) (by omega)
  rw [Int.add_zero, wv_small (y := 0) ⟨by omega, by omega⟩] at h
  exact h

set_option maxRecDepth 100000 in
set_option maxHeartbeats 1000000 in
theorem ref_wide (F L R t : Int) (w : World) (h : MayC F L R) (ht : U t) :
    Calls Tryz.prog 90 #[.agg #[.int .u64 F, .int .u64 L, .int .u64 R], .int .u64 t] w fun e w' => e = .returned (wv (W F L R t)) ∧ Below w.heap.size w w' := by
  have f0 := h.f0; have f1 := h.f1; have r0 := h.r0; have r1 := h.r1; have l0 := h.l0; have l1 := h.l1
  have t0 := ht.1; have t1 := ht.2
  have uF : U F := ⟨f0, by omega⟩
  have uR : U R := ⟨r0, by omega⟩
  have HM := Lib.hid h; clear h
  have nb := ((Blk.new w 25 #[.int .u64 F, .int .u64 L, .int .u64 R]).below ((Below.refl _ _).alloc (Nat.le_refl _) (.cells #[.int .u64 0, .int .u64 0] 97)) (Blk.new w 25 #[.int .u64 F, .int .u64 L, .int .u64 R]).lt)
  have hal := ((Below.refl w.heap.size w).alloc (Nat.le_refl _) (.cells #[.int .u64 F, .int .u64 L, .int .u64 R] 25))
  have hal2 := hal.alloc hal.size (.cells #[.int .u64 0, .int .u64 0] 97)
  have hsz : (w.alloc (.cells #[.int .u64 F, .int .u64 L, .int .u64 R] 25)).heap.size = w.heap.size + 1 := by simp
  have rb := Blk.new (w.alloc (.cells #[.int .u64 F, .int .u64 L, .int .u64 R] 25)) 97 #[.int .u64 0, .int .u64 0]
  rw [hsz] at rb
  have NB := Lib.hid nb; have HAL := Lib.hid hal2; have RB := Lib.hid rb
  clear nb hal hal2 rb hsz
  by_cases hc : t ≤ L
  · have e : W F L R t = F * t := W_early hc
    have hmn : min t L = t := Int.min_eq_left hc
    have b := mul_bd (a := F) (t := t) (A := 1048576) (T := 1099511627776) f0 f1 t0 (by omega)
    rw [e]
    go_enter Tryz.func90, Tryz.ntmps90
    go_wp2_with (first
      | (go_at_call 71; refine (ref_mul F t _ uF ht).mono ?_; rintro e' w1 ⟨rfl, hb1⟩; have n1 := NB.out.below hb1 NB.out.lt; have hlt1 := n1.lt; have a0 := n1.cell 0; have a1 := n1.cell 1; have a2 := n1.cell 2; simp only [List.getElem?_toArray, List.getElem?_cons_zero, List.getElem?_cons_succ] at a0 a1 a2)
      | (go_at_call 89; refine (ref_plus_zero (F * t) _ b.1 (by omega)).mono ?_; rintro e' w2 ⟨rfl, hb2⟩; have hg1 : Below w1.heap.size w1 w2 := ((Below.refl w1.heap.size w1).alloc (Nat.le_refl _) (.cells #[.int .u64 (hiW (F * t)), .int .u64 (loW (F * t))] 97)).trans ((Below.refl _ _).trans ((((Below.refl _ _).alloc (Nat.le_refl _) (.cells #[.int .u64 0, .int .u64 0] 97)).trans (hb2.mono (by simp))).mono (by simp))); have r1b := RB.out.below hb1 RB.out.lt; have r2b := r1b.below hg1 r1b.lt; have hlt2 := r2b.lt; have s0 := r2b.cell 0; have s1 := r2b.cell 1; have z0 := r2b.frozen 0; have z1 := r2b.frozen 1; simp only [List.getElem?_toArray, List.getElem?_cons_zero, List.getElem?_cons_succ] at s0 s1))
    have rr := (((r2b.set_ 0 (.int .u64 (hiW (F * t)))).set_ 1 (.int .u64 (loW (F * t)))).alloc (.cells #[.int .u64 (hiW (F * t)), .int .u64 (loW (F * t))] 97))
    have q0 := rr.cell 0; have q1 := rr.cell 1
    simp at q0 q1
    have hbw := HAL.out.trans ((hb1.trans (hg1.mono hb1.size)).mono HAL.out.size)
    refine bodyPost_ret (v := .agg #[.int .u64 (hiW (F * t)), .int .u64 (loW (F * t))]) (by simp [results, Tryz.results90, go_sem, q0, q1]) rfl ⟨rfl, ?_⟩
    exact ((hbw.setCell (by simp) _).setCell (by simp) _).alloc (by have := hbw.size; simp; omega) _
  · have e : W F L R t = F * L + R * (t - L) := W_late (by omega)
    have hmn : min t L = L := Int.min_eq_right (by omega)
    have b1 := mul_bd (a := F) (t := L) (A := 1048576) (T := 1099511627776) f0 f1 l0 (by omega)
    have b2 := mul_bd (a := R) (t := t - L) (A := 1048576) (T := 18446744073709551615) r0 r1 (by omega) (by omega)
    have uL : U L := ⟨l0, by omega⟩
    have ut : U (t - L) := ⟨by omega, by omega⟩
    rw [e]
    have HT := Lib.hid (show True from trivial)
    go_enter Tryz.func90, Tryz.ntmps90
    go_wp2_with (first
      | (go_at_call 71; have htok := HT.out; with_reducible refine (ref_mul F L _ uF uL).mono ?_; rintro e' w1 ⟨rfl, hb1⟩; clear HT htok; have n1 := NB.out.below hb1 NB.out.lt; have hlt1 := n1.lt; have a0 := n1.cell 0; have a1 := n1.cell 1; have a2 := n1.cell 2; simp only [List.getElem?_toArray, List.getElem?_cons_zero, List.getElem?_cons_succ] at a0 a1 a2)
      | (go_at_call 71; with_reducible refine (ref_mul R (t - L) _ uR ut).mono ?_; rintro e' w2 ⟨rfl, hb2⟩; have fb := (Blk.new w1 97 #[.int .u64 (hiW (F * L)), .int .u64 (loW (F * L))]).alloc (.cells #[.int .u64 0, .int .u64 0] 97); have gb := Blk.new (w1.alloc (.cells #[.int .u64 (hiW (F * L)), .int .u64 (loW (F * L))] 97)) 97 #[.int .u64 0, .int .u64 0]; rw [show (w1.alloc (.cells #[.int .u64 (hiW (F * L)), .int .u64 (loW (F * L))] 97)).heap.size = w1.heap.size + 1 by simp] at gb; have fb2 := fb.below hb2 fb.lt; have gb2 := gb.below hb2 gb.lt; have hlf := fb2.lt; have hlg := gb2.lt; have p0 := fb2.cell 0; have p1 := fb2.cell 1; have q0 := gb2.cell 0; have q1 := gb2.cell 1; have z0 := gb2.frozen 0; have z1 := gb2.frozen 1; simp only [List.getElem?_toArray, List.getElem?_cons_zero, List.getElem?_cons_succ] at p0 p1 q0 q1))
    have hs12 : F * L + R * (t - L) < 340282366920938463463374607431768211456 := by omega
    have hg1 : Below w1.heap.size w1 w2 := ((Below.refl w1.heap.size w1).alloc (Nat.le_refl _) (.cells #[.int .u64 (hiW (F * L)), .int .u64 (loW (F * L))] 97)).trans ((Below.refl _ _).trans ((((Below.refl _ _).alloc (Nat.le_refl _) (.cells #[.int .u64 0, .int .u64 0] 97)).trans (hb2.mono (by simp))).mono (by simp)))
    have r1b := RB.out.below hb1 RB.out.lt
    have r2b := r1b.below hg1 r1b.lt
    have hlr := r1b.lt
    have r3b := (r2b.grown (grown_setC w2 (w1.heap.size + 1) 0 (.int .u64 (hiW (R * (t - L))))) (by simp; omega)).grown (grown_setC _ (w1.heap.size + 1) 1 (.int .u64 (loW (R * (t - L))))) (by simp; omega)
    have hbw0 : Below w.heap.size w ((w2.setCell ⟨w1.heap.size + 1, 0, none⟩ (.int .u64 (hiW (R * (t - L))))).setCell ⟨w1.heap.size + 1, 1, none⟩ (.int .u64 (loW (R * (t - L))))) := ((HAL.out.trans ((hb1.trans (hg1.mono hb1.size)).mono HAL.out.size)).setCell (by have := HAL.out.size; have := hb1.size; simp only; omega) _).setCell (by have := HAL.out.size; have := hb1.size; simp only; omega) _
    refine (ref_plus (F * L) (R * (t - L)) _ b1.1 b2.1 hs12).mono ?_
    rintro e' w3 ⟨rfl, hb3⟩
    have r4b := r3b.below hb3 r3b.lt
    have hlt4 := r4b.lt
    have s0 := r4b.cell 0; have s1 := r4b.cell 1; have y0 := r4b.frozen 0; have y1 := r4b.frozen 1
    simp only [List.getElem?_toArray, List.getElem?_cons_zero, List.getElem?_cons_succ] at s0 s1
    have hbw := hbw0.trans (hb3.mono hbw0.size)
    obtain ⟨n, hn⟩ : ∃ n, F * L + R * (t - L) = n := ⟨_, rfl⟩
    rw [hn]
    have HN := Lib.hid hn
    clear hn p0 p1 q0 q1 z0 z1 a0 a1 a2
    go_wp2
    have rr := (((r4b.set_ 0 (.int .u64 (hiW n))).set_ 1 (.int .u64 (loW n))).alloc (.cells #[.int .u64 (hiW n), .int .u64 (loW n)] 97))
    have q0 := rr.cell 0; have q1 := rr.cell 1
    simp at q0 q1
    refine bodyPost_ret (v := .agg #[.int .u64 (hiW n), .int .u64 (loW n)]) (by simp [results, Tryz.results90, go_sem, q0, q1]) rfl ⟨by rw [HN.out], ?_⟩
    exact ((hbw.setCell (by simp) _).setCell (by simp) _).alloc (by have := hbw.size; simp; omega) _

theorem rmay_any (F L R : Int) (w : World) (hL : 0 ≤ L) :
    Calls Tryz.prog 22 #[.agg #[.int .u64 F, .int .u64 L, .int .u64 R]] w fun e w' => e = .returned (.bool (mayB F L R)) ∧ Below w.heap.size w w' := by
  by_cases h1 : F ≤ 1048576
  · have h1b : decide (1048576 < F) = false := by simp; omega
    by_cases h2 : R ≤ 1048576
    · have h2b : decide (1048576 < R) = false := by simp; omega
      by_cases h3 : L ≤ 1099511627776
      · have h3b : decide (1099511627776 < L) = false := by simp; omega
        by_cases h4 : L = 0
        · subst h4
          have e : mayB F 0 R = decide (F = 0) := by simp [mayB, h1, h2]
          have E := Lib.hid e; clear e
          by_cases h5 : F = 0
          · subst h5
            go_enter Tryz.func22, Tryz.ntmps22
            go_wp2
            go_ret
            exact ⟨by rw [E.out]; rfl, by go_grown⟩
          · have h5b : (F == 0) = false := by simpa using h5
            go_enter Tryz.func22, Tryz.ntmps22
            go_wp2
            go_ret
            exact ⟨by rw [E.out]; simp [h5], by go_grown⟩
        · have h4b : (L == 0) = false := by simpa using h4
          have h4c : decide (0 < L) = true := by simp; omega
          have e : mayB F L R = decide (F ≠ R) := by simp [mayB, h1, h2, h3, h4]
          have E := Lib.hid e; clear e
          by_cases h5 : F = R
          · subst h5
            have h5b : (F != F) = false := by simp
            go_enter Tryz.func22, Tryz.ntmps22
            go_wp2
            go_ret
            exact ⟨by rw [E.out]; simp, by go_grown⟩
          · have h5b : (F != R) = true := by simpa using h5
            go_enter Tryz.func22, Tryz.ntmps22
            go_wp2
            go_ret
            exact ⟨by rw [E.out]; simp [h5], by go_grown⟩
      · have h3b : decide (1099511627776 < L) = true := by simp; omega
        have e : mayB F L R = false := by simp [mayB, h3]
        have E := Lib.hid e; clear e
        go_enter Tryz.func22, Tryz.ntmps22
        go_wp2
        go_ret
        exact ⟨by rw [E.out]; rfl, by go_grown⟩
    · have h2b : decide (1048576 < R) = true := by simp; omega
      have e : mayB F L R = false := by simp [mayB, h2]
      have E := Lib.hid e; clear e
      go_enter Tryz.func22, Tryz.ntmps22
      go_wp2
      go_ret
      exact ⟨by rw [E.out]; rfl, by go_grown⟩
  · have h1b : decide (1048576 < F) = true := by simp; omega
    have e : mayB F L R = false := by simp [mayB, h1]
    have E := Lib.hid e; clear e
    go_enter Tryz.func22, Tryz.ntmps22
    go_wp2
    go_ret
    exact ⟨by rw [E.out]; rfl, by go_grown⟩

end Go.Proofs.YthmhboagbeibdaaGreat
