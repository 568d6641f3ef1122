/- Lemmas of the claim, merged: RefWide, Bent, BentStart, BentLive, SagSmall, SagLine, SagLast, SagAhead, SagNew, SagLive, SagAns, RunNone, Run. No conditions beyond those that each states. -/
import Derived.Test.YtbnnkkojlclgjaaGreatEN1
import Derived.Test.YtbnnkkojlclgjaaGreatEN2
import Derived.Test.YtbnnkkojlclgjaaGreatRegM
import Derived.Deep.DeepCutAuto
import Derived.Outline
import Derived.Deep.RegionWith
/-
  The document's wide numbers, by halves of 32 bits; what a curve has at a tick.
-/
namespace Go.Proofs.YtbnnkkojlclgjaaGreat
set_option linter.unusedVariables false
open Go.RowKit

/-- a wide number as a value -/
abbrev wv (n : Int) : Value := .agg #[.int .u64 (hiW n), .int .u64 (loW n)]

theorem mul_halves (x1 x0 y1 y0 : Int) : (x1 * 4294967296 + x0) * (y1 * 4294967296 + y0) = x1 * y1 * 18446744073709551616 + (x1 * y0 + x0 * y1) * 4294967296 + x0 * y0 := by
  have e1 : x1 * 4294967296 * (y1 * 4294967296) = x1 * y1 * 18446744073709551616 := by
    rw [Int.mul_assoc, Int.mul_left_comm 4294967296, ← Int.mul_assoc, show (4294967296 : Int) * 4294967296 = 18446744073709551616 from rfl]
  have e2 : x1 * 4294967296 * y0 = x1 * y0 * 4294967296 := Int.mul_right_comm _ _ _
  have e3 : x0 * (y1 * 4294967296) = x0 * y1 * 4294967296 := (Int.mul_assoc _ _ _).symm
  rw [Int.add_mul, Int.mul_add, Int.mul_add, e1, e2, e3]
  omega

theorem rmul_walk (a b x0 x1 y0 y1 t00 t10 t01 t11 l1 l0 o1 o0 w1 w0 md m1 m0 h l : Int) (w : World)
    (e1 : IntKind.u64.wrap (a.tdiv 4294967296) = x1) (e2 : a.tmod 4294967296 = x0) (e3 : IntKind.u64.wrap (b.tdiv 4294967296) = y1) (e4 : b.tmod 4294967296 = y0)
    (g00 : IntKind.u64.wrap (x0 * y0) = t00) (g10 : IntKind.u64.wrap (x1 * y0) = t10) (g01 : IntKind.u64.wrap (x0 * y1) = t01) (g11 : IntKind.u64.wrap (x1 * y1) = t11)
    (k1 : IntKind.u64.wrap (t00.tdiv 4294967296) = l1) (k2 : t00.tmod 4294967296 = l0) (k3 : IntKind.u64.wrap (t10.tdiv 4294967296) = o1) (k4 : t10.tmod 4294967296 = o0) (k5 : IntKind.u64.wrap (t01.tdiv 4294967296) = w1) (k6 : t01.tmod 4294967296 = w0)
    (f1 : IntKind.u64.wrap (IntKind.u64.wrap (l1 + o0) + w0) = md) (k7 : IntKind.u64.wrap (md.tdiv 4294967296) = m1) (k8 : md.tmod 4294967296 = m0)
    (f2 : IntKind.u64.wrap (IntKind.u64.wrap (IntKind.u64.wrap (t11 + o1) + w1) + m1) = h) (f3 : IntKind.u64.wrap (IntKind.u64.wrap (m0 * 4294967296) + l0) = l) :
    Calls Tryz.prog 109 #[.int .u64 a, .int .u64 b] w fun e w' => e = .returned (.agg #[.int .u64 h, .int .u64 l]) ∧ Below w.heap.size w w' := by
  go_enter Tryz.func109, Tryz.ntmps109
  go_wp2
  go_returns
  exact ⟨rfl, by go_grown⟩

theorem ref_mul (a b : Int) (w : World) (ha : U a) (hb : U b) :
    Calls Tryz.prog 109 #[.int .u64 a, .int .u64 b] w fun e w' => e = .returned (wv (a * b)) ∧ Below w.heap.size w w' := by
  have ha' := ha; have hb' := hb
  unfold U at ha' hb'
  have b00 := prod_bd (x := a % 4294967296) (y := b % 4294967296) (by omega) (by omega) (by omega) (by omega)
  have b01 := prod_bd (x := a % 4294967296) (y := b / 4294967296) (by omega) (by omega) (by omega) (by omega)
  have b10 := prod_bd (x := a / 4294967296) (y := b % 4294967296) (by omega) (by omega) (by omega) (by omega)
  have b11 := prod_bd (x := a / 4294967296) (y := b / 4294967296) (by omega) (by omega) (by omega) (by omega)
  have hab := mul_halves (a / 4294967296) (a % 4294967296) (b / 4294967296) (b % 4294967296)
  rw [show a / 4294967296 * 4294967296 + a % 4294967296 = a by omega, show b / 4294967296 * 4294967296 + b % 4294967296 = b by omega] at hab
  have hU : ∀ t : Int, 0 ≤ t → t ≤ 18446744073709551615 → U t := fun t h h' => ⟨h, h'⟩
  have e1 : IntKind.u64.wrap (a.tdiv 4294967296) = a / 4294967296 := by rw [Int.tdiv_eq_ediv_of_nonneg ha.1]; exact wrap_u (hU _ (by omega) (by omega))
  have e2 : a.tmod 4294967296 = a % 4294967296 := Int.tmod_eq_emod_of_nonneg ha.1
  have e3 : IntKind.u64.wrap (b.tdiv 4294967296) = b / 4294967296 := by rw [Int.tdiv_eq_ediv_of_nonneg hb.1]; exact wrap_u (hU _ (by omega) (by omega))
  have e4 : b.tmod 4294967296 = b % 4294967296 := Int.tmod_eq_emod_of_nonneg hb.1
  unfold wv
  rw [hab]
  have dv : ∀ t : Int, 0 ≤ t → t ≤ 18446744073709551615 → IntKind.u64.wrap (t.tdiv 4294967296) = t / 4294967296 := fun t h0 h1 => by rw [Int.tdiv_eq_ediv_of_nonneg h0]; exact wrap_u (hU _ (by omega) (by omega))
  have md : ∀ t : Int, 0 ≤ t → t.tmod 4294967296 = t % 4294967296 := fun t h0 => Int.tmod_eq_emod_of_nonneg h0
  have r1 : 0 ≤ a / 4294967296 ∧ a / 4294967296 ≤ 4294967295 := by omega
  have r2 : 0 ≤ b / 4294967296 ∧ b / 4294967296 ≤ 4294967295 := by omega
  generalize h1 : a / 4294967296 = x1 at *
  generalize h2 : a % 4294967296 = x0 at *
  generalize h3 : b / 4294967296 = y1 at *
  generalize h4 : b % 4294967296 = y0 at *
  clear hab ha' hb' h1 h2 h3 h4
  generalize g00 : x0 * y0 = t00 at *
  generalize g01 : x0 * y1 = t01 at *
  generalize g10 : x1 * y0 = t10 at *
  generalize g11 : x1 * y1 = t11 at *
  have q1 : 0 ≤ t00 / 4294967296 + t10 % 4294967296 + t01 % 4294967296 ∧ t00 / 4294967296 + t10 % 4294967296 + t01 % 4294967296 ≤ 18446744073709551615 := by omega
  exact rmul_walk a b x0 x1 y0 y1 t00 t10 t01 t11 (t00 / 4294967296) (t00 % 4294967296) (t10 / 4294967296) (t10 % 4294967296) (t01 / 4294967296) (t01 % 4294967296)
    (t00 / 4294967296 + t10 % 4294967296 + t01 % 4294967296) ((t00 / 4294967296 + t10 % 4294967296 + t01 % 4294967296) / 4294967296) ((t00 / 4294967296 + t10 % 4294967296 + t01 % 4294967296) % 4294967296)
    (hiW (t11 * 18446744073709551616 + (t10 + t01) * 4294967296 + t00)) (loW (t11 * 18446744073709551616 + (t10 + t01) * 4294967296 + t00)) w
    e1 e2 e3 e4 (by rw [g00]; exact wrap_u (hU _ (by omega) (by omega))) (by rw [g10]; exact wrap_u (hU _ (by omega) (by omega))) (by rw [g01]; exact wrap_u (hU _ (by omega) (by omega))) (by rw [g11]; exact wrap_u (hU _ (by omega) (by omega)))
    (dv _ (by omega) (by omega)) (md _ (by omega)) (dv _ (by omega) (by omega)) (md _ (by omega)) (dv _ (by omega) (by omega)) (md _ (by omega))
    (by rw [wrap_u (x := t00 / 4294967296 + t10 % 4294967296) (hU _ (by omega) (by omega))]; exact wrap_u (hU _ q1.1 q1.2)) (dv _ q1.1 q1.2) (md _ q1.1)
    (by rw [wrap_u (x := t11 + t10 / 4294967296) (hU _ (by omega) (by omega)), wrap_u (x := t11 + t10 / 4294967296 + t01 / 4294967296) (hU _ (by omega) (by omega)), wrap_u (hU _ (by omega) (by omega))]; unfold hiW; omega)
    (by rw [wrap_u (x := (t00 / 4294967296 + t10 % 4294967296 + t01 % 4294967296) % 4294967296 * 4294967296) (hU _ (by omega) (by omega)), wrap_u (hU _ (by omega) (by omega))]; unfold loW; omega)

theorem ref_stop (n : Int) (w : World) (h0 : 0 ≤ n) (h1 : n < 340282366920938463463374607431768211456) :
    Calls Tryz.prog 86 #[wv n] w fun e w' => e = .returned (.int .u64 (cap n)) ∧ Below w.heap.size w w' := by
  have hh := U_hi h0 h1; have hl := U_lo n
  have hn : n = hiW n * 18446744073709551616 + loW n := (num_words n).symm
  obtain ⟨a, ha⟩ : ∃ a, hiW n = a := ⟨_, rfl⟩
  obtain ⟨b, hb⟩ : ∃ b, loW n = b := ⟨_, rfl⟩
  obtain ⟨c, hc⟩ : ∃ c, cap n = c := ⟨_, rfl⟩
  have hc2 : c = if 0 < a ∨ 4611686018427387904 < b then 4611686018427387904 else b := by
    rw [← hc]; unfold cap; unfold U at hh hl; rw [ha] at hh hn; rw [hb] at hl hn
    split <;> split <;> omega
  have HC := Lib.hid hc2; clear hc2
  have hh0 := hh.1; have hl0 := hl.1
  unfold wv
  rw [hc, ha, hb]
  rw [ha] at hh0; rw [hb] at hl0
  clear hn hc hh hl ha hb
  go_enter Tryz.func86, Tryz.ntmps86
  go_wp2
  all_goals go_ret
  all_goals exact ⟨congrArg (fun q => Ending.returned (.int .u64 q)) (by (have h := HC.out; split at h <;> omega)), by go_grown⟩

theorem ref_cmp (n m : Int) (w : World) (h0 : 0 ≤ n) (h1 : n < 340282366920938463463374607431768211456) (k0 : 0 ≤ m) (k1 : m < 340282366920938463463374607431768211456) :
    Calls Tryz.prog 97 #[wv n, wv m] w fun e w' => e = .returned (.int .i64 (cmpI n m)) ∧ Below w.heap.size w w' := by
  have hh := U_hi h0 h1; have hl := U_lo n
  have kh := U_hi k0 k1; have kl := U_lo m
  have hn : n = hiW n * 18446744073709551616 + loW n := (num_words n).symm
  have hm : m = hiW m * 18446744073709551616 + loW m := (num_words m).symm
  unfold wv
  generalize hiW n = a at *
  generalize loW n = b at *
  generalize hiW m = c at *
  generalize loW m = d at *
  unfold U at hh hl kh kl
  go_enter Tryz.func97, Tryz.ntmps97
  go_wp2
  all_goals go_ret
  all_goals first
    | exact ⟨ret_int (cmpI_lt (by omega)).symm, by go_grown⟩
    | exact ⟨ret_int (cmpI_gt (by omega)).symm, by go_grown⟩
    | exact ⟨ret_int (cmpI_eq (by omega)).symm, by go_grown⟩

theorem ref_plus (n m : Int) (w : World) (h0 : 0 ≤ n) (k0 : 0 ≤ m) (hs : n + m < 340282366920938463463374607431768211456) :
    Calls Tryz.prog 104 #[wv n, wv m] w fun e w' => e = .returned (.tuple #[wv (n + m), .int .i64 0]) ∧ Below w.heap.size w w' := by
  have hh := U_hi h0 (show n < 340282366920938463463374607431768211456 by omega); have hl := U_lo n
  have kh := U_hi k0 (show m < 340282366920938463463374607431768211456 by omega); have kl := U_lo m
  have hn : n = hiW n * 18446744073709551616 + loW n := (num_words n).symm
  have hm : m = hiW m * 18446744073709551616 + loW m := (num_words m).symm
  obtain ⟨x, hx⟩ : ∃ x, hiW (n + m) = x := ⟨_, rfl⟩
  obtain ⟨y, hy⟩ : ∃ y, loW (n + m) = y := ⟨_, rfl⟩
  have hxd := hx; have hyd := hy
  unfold hiW at hxd; unfold loW at hyd
  unfold wv
  rw [hx, hy]
  generalize hiW n = a at *
  generalize loW n = b at *
  generalize hiW m = c at *
  generalize loW m = d at *
  unfold U at hh hl kh kl
  clear hx hy
  by_cases hc : 18446744073709551616 ≤ b + d
  · have e1 : x = a + c + 1 := by omega
    have e2 : y = b + d - 18446744073709551616 := by omega
    have f1 : IntKind.u64.wrap (b + d) = y := by rw [IntKind.wrap_u64]; omega
    have f2 : a + c + 1 = x := by omega
    have f3 : (x == 0) = false := by simp; omega
    have ux : 0 ≤ x ∧ x ≤ 18446744073709551615 := by omega
    clear hn hm hxd hyd e1
    go_enter Tryz.func104, Tryz.ntmps104
    go_wp2
    all_goals first
      | (exfalso; omega)
      | skip
    all_goals go_returns
    all_goals first
      | exact ⟨rfl, by go_grown⟩
      | (rw [e2]; exact ⟨rfl, by go_grown⟩)
  · have e1 : x = a + c := by omega
    have e2 : y = b + d := by omega
    have f1 : b + d = y := e2.symm
    have f2 : a + c = x := e1.symm
    have ux : 0 ≤ x ∧ x ≤ 18446744073709551615 := by omega
    clear hn hm hxd hyd e1 e2
    go_enter Tryz.func104, Tryz.ntmps104
    go_wp2
    all_goals first
      | (exfalso; omega)
      | skip
    all_goals go_returns
    all_goals first
      | exact ⟨rfl, by go_grown⟩
      | (rw [e2]; exact ⟨rfl, by go_grown⟩)

theorem wv_small {y : Int} (h : U y) : wv y = .agg #[.int .u64 0, .int .u64 y] := by
  unfold wv
  rw [hi_small h, lo_small h]
theorem ref_plus_zero (n : Int) (w : World) (h0 : 0 ≤ n) (hs : n < 340282366920938463463374607431768211456) :
    Calls Tryz.prog 104 #[wv n, .agg #[.int .u64 0, .int .u64 0]] w fun e w' => e = .returned (.tuple #[wv n, .int .i64 0]) ∧ Below w.heap.size w w' := by
  have h := ref_plus n 0 w h0 (by omega) (by omega)
  rw [Int.add_zero, wv_small (y := 0) ⟨by omega, by omega⟩] at h
  exact h

set_option maxRecDepth 100000 in
set_option maxHeartbeats 1000000 in
theorem ref_wide (F L R t : Int) (w : World) (h : MayC F L R) (ht : U t) :
    Calls Tryz.prog 105 #[.agg #[.int .u64 F, .int .u64 L, .int .u64 R], .int .u64 t] w fun e w' => e = .returned (wv (W F L R t)) ∧ Below w.heap.size w w' := by
  have f0 := h.f0; have f1 := h.f1; have r0 := h.r0; have r1 := h.r1; have l0 := h.l0; have l1 := h.l1
  have t0 := ht.1; have t1 := ht.2
  have uF : U F := ⟨f0, by omega⟩
  have uR : U R := ⟨r0, by omega⟩
  have HM := Lib.hid h; clear h
  have nb := ((Blk.new w 31 #[.int .u64 F, .int .u64 L, .int .u64 R]).below ((Below.refl _ _).alloc (Nat.le_refl _) (.cells #[.int .u64 0, .int .u64 0] 153)) (Blk.new w 31 #[.int .u64 F, .int .u64 L, .int .u64 R]).lt)
  have hal := ((Below.refl w.heap.size w).alloc (Nat.le_refl _) (.cells #[.int .u64 F, .int .u64 L, .int .u64 R] 31))
  have hal2 := hal.alloc hal.size (.cells #[.int .u64 0, .int .u64 0] 153)
  have hsz : (w.alloc (.cells #[.int .u64 F, .int .u64 L, .int .u64 R] 31)).heap.size = w.heap.size + 1 := by simp
  have rb := Blk.new (w.alloc (.cells #[.int .u64 F, .int .u64 L, .int .u64 R] 31)) 153 #[.int .u64 0, .int .u64 0]
  rw [hsz] at rb
  have NB := Lib.hid nb; have HAL := Lib.hid hal2; have RB := Lib.hid rb
  clear nb hal hal2 rb hsz
  by_cases hc : t ≤ L
  · have e : W F L R t = F * t := W_early hc
    have b := mul_bd (a := F) (t := t) (A := 1048576) (T := 1099511627776) f0 f1 t0 (by omega)
    rw [e]
    go_enter Tryz.func105, Tryz.ntmps105
    go_wp2_with (first
      | (go_at_call 109; refine (ref_mul F t _ uF ht).mono ?_; rintro e' w1 ⟨rfl, hb1⟩; have n1 := NB.out.below hb1 NB.out.lt; have hlt1 := n1.lt; have a0 := n1.cell 0; have a1 := n1.cell 1; have a2 := n1.cell 2; simp only [List.getElem?_toArray, List.getElem?_cons_zero, List.getElem?_cons_succ] at a0 a1 a2)
      | (go_at_call 104; refine (ref_plus_zero (F * t) _ b.1 (by omega)).mono ?_; rintro e' w2 ⟨rfl, hb2⟩; have hg1 : Below w1.heap.size w1 w2 := ((Below.refl w1.heap.size w1).alloc (Nat.le_refl _) (.cells #[.int .u64 (hiW (F * t)), .int .u64 (loW (F * t))] 153)).trans ((Below.refl _ _).trans ((((Below.refl _ _).alloc (Nat.le_refl _) (.cells #[.int .u64 0, .int .u64 0] 153)).trans (hb2.mono (by simp))).mono (by simp))); have r1b := RB.out.below hb1 RB.out.lt; have r2b := r1b.below hg1 r1b.lt; have hlt2 := r2b.lt; have s0 := r2b.cell 0; have s1 := r2b.cell 1; have z0 := r2b.frozen 0; have z1 := r2b.frozen 1; simp only [List.getElem?_toArray, List.getElem?_cons_zero, List.getElem?_cons_succ] at s0 s1))
    have rr := (((r2b.set_ 0 (.int .u64 (hiW (F * t)))).set_ 1 (.int .u64 (loW (F * t)))).alloc (.cells #[.int .u64 (hiW (F * t)), .int .u64 (loW (F * t))] 153))
    have q0 := rr.cell 0; have q1 := rr.cell 1
    simp at q0 q1
    have hbw := HAL.out.trans ((hb1.trans (hg1.mono hb1.size)).mono HAL.out.size)
    refine bodyPost_ret (v := .agg #[.int .u64 (hiW (F * t)), .int .u64 (loW (F * t))]) (by simp [results, Tryz.results105, go_sem, q0, q1]) rfl ⟨rfl, ?_⟩
    exact ((hbw.setCell (by simp) _).setCell (by simp) _).alloc (by have := hbw.size; simp; omega) _
  · have e : W F L R t = F * L + R * (t - L) := W_late (by omega)
    have b1 := mul_bd (a := F) (t := L) (A := 1048576) (T := 1099511627776) f0 f1 l0 (by omega)
    have b2 := mul_bd (a := R) (t := t - L) (A := 1048576) (T := 18446744073709551615) r0 r1 (by omega) (by omega)
    have uL : U L := ⟨l0, by omega⟩
    have ut : U (t - L) := ⟨by omega, by omega⟩
    rw [e]
    have HT := Lib.hid (show True from trivial)
    go_enter Tryz.func105, Tryz.ntmps105
    go_wp2_with (first
      | (go_at_call 109; have htok := HT.out; with_reducible refine (ref_mul F L _ uF uL).mono ?_; rintro e' w1 ⟨rfl, hb1⟩; clear HT htok; have n1 := NB.out.below hb1 NB.out.lt; have hlt1 := n1.lt; have a0 := n1.cell 0; have a1 := n1.cell 1; have a2 := n1.cell 2; simp only [List.getElem?_toArray, List.getElem?_cons_zero, List.getElem?_cons_succ] at a0 a1 a2)
      | (go_at_call 109; with_reducible refine (ref_mul R (t - L) _ uR ut).mono ?_; rintro e' w2 ⟨rfl, hb2⟩; have fb := (Blk.new w1 153 #[.int .u64 (hiW (F * L)), .int .u64 (loW (F * L))]).alloc (.cells #[.int .u64 0, .int .u64 0] 153); have gb := Blk.new (w1.alloc (.cells #[.int .u64 (hiW (F * L)), .int .u64 (loW (F * L))] 153)) 153 #[.int .u64 0, .int .u64 0]; rw [show (w1.alloc (.cells #[.int .u64 (hiW (F * L)), .int .u64 (loW (F * L))] 153)).heap.size = w1.heap.size + 1 by simp] at gb; have fb2 := fb.below hb2 fb.lt; have gb2 := gb.below hb2 gb.lt; have hlf := fb2.lt; have hlg := gb2.lt; have p0 := fb2.cell 0; have p1 := fb2.cell 1; have q0 := gb2.cell 0; have q1 := gb2.cell 1; have z0 := gb2.frozen 0; have z1 := gb2.frozen 1; simp only [List.getElem?_toArray, List.getElem?_cons_zero, List.getElem?_cons_succ] at p0 p1 q0 q1))
    have hs12 : F * L + R * (t - L) < 340282366920938463463374607431768211456 := by omega
    have hg1 : Below w1.heap.size w1 w2 := ((Below.refl w1.heap.size w1).alloc (Nat.le_refl _) (.cells #[.int .u64 (hiW (F * L)), .int .u64 (loW (F * L))] 153)).trans ((Below.refl _ _).trans ((((Below.refl _ _).alloc (Nat.le_refl _) (.cells #[.int .u64 0, .int .u64 0] 153)).trans (hb2.mono (by simp))).mono (by simp)))
    have r1b := RB.out.below hb1 RB.out.lt
    have r2b := r1b.below hg1 r1b.lt
    have hlr := r1b.lt
    have r3b := (r2b.grown (World.grownBy_setCell w2 ⟨w1.heap.size + 1, 0, none⟩ (.int .u64 (hiW (R * (t - L))))) (by simp; omega)).grown (World.grownBy_setCell _ ⟨w1.heap.size + 1, 1, none⟩ (.int .u64 (loW (R * (t - L))))) (by simp; omega)
    have hbw0 : Below w.heap.size w ((w2.setCell ⟨w1.heap.size + 1, 0, none⟩ (.int .u64 (hiW (R * (t - L))))).setCell ⟨w1.heap.size + 1, 1, none⟩ (.int .u64 (loW (R * (t - L))))) := ((HAL.out.trans ((hb1.trans (hg1.mono hb1.size)).mono HAL.out.size)).setCell (by have := HAL.out.size; have := hb1.size; simp only; omega) _).setCell (by have := HAL.out.size; have := hb1.size; simp only; omega) _
    refine (ref_plus (F * L) (R * (t - L)) _ b1.1 b2.1 hs12).mono ?_
    rintro e' w3 ⟨rfl, hb3⟩
    have r4b := r3b.below hb3 r3b.lt
    have hlt4 := r4b.lt
    have s0 := r4b.cell 0; have s1 := r4b.cell 1; have y0 := r4b.frozen 0; have y1 := r4b.frozen 1
    simp only [List.getElem?_toArray, List.getElem?_cons_zero, List.getElem?_cons_succ] at s0 s1
    have hbw := hbw0.trans (hb3.mono hbw0.size)
    obtain ⟨n, hn⟩ : ∃ n, F * L + R * (t - L) = n := ⟨_, rfl⟩
    rw [hn]
    have HN := Lib.hid hn
    clear hn p0 p1 q0 q1 z0 z1 a0 a1 a2
    go_wp2
    have rr := (((r4b.set_ 0 (.int .u64 (hiW n))).set_ 1 (.int .u64 (loW n))).alloc (.cells #[.int .u64 (hiW n), .int .u64 (loW n)] 153))
    have q0 := rr.cell 0; have q1 := rr.cell 1
    simp at q0 q1
    refine bodyPost_ret (v := .agg #[.int .u64 (hiW n), .int .u64 (loW n)]) (by simp [results, Tryz.results105, go_sem, q0, q1]) rfl ⟨by rw [HN.out], ?_⟩
    exact ((hbw.setCell (by simp) _).setCell (by simp) _).alloc (by have := hbw.size; simp; omega) _

end Go.Proofs.YtbnnkkojlclgjaaGreat
/-
  A bent run in memory: its two lines; all that is asked of it.
-/
namespace Go.Proofs.YtbnnkkojlclgjaaGreat
set_option linter.unusedVariables false
open Go.RowKit

theorem lhas_any (s h n : Int) (w : World) (hs : U s) (hh : U h) (hn : U n) :
    Calls Tryz.prog 135 #[.agg #[.int .u64 s, .int .u64 h], .int .u64 n] w fun e w' => e = .returned (.int .u64 (cap (h + cap (s * n)))) ∧ Below w.heap.size w w' := by
  have hal := (Below.refl w.heap.size w).alloc (Nat.le_refl _) (.cells #[.int .u64 s, .int .u64 h] 133)
  have nb := Blk.new w 133 #[.int .u64 s, .int .u64 h]
  have u0 := U_cap (Int.mul_nonneg hs.1 hn.1)
  have o0 := fun e => (over_cell (e := e) (o := 0) nb.lt).trans (nb.cell 0)
  have o1 := fun e => (over_cell (e := e) (o := 1) nb.lt).trans (nb.cell 1)
  simp only [List.getElem?_toArray, List.getElem?_cons_zero, List.getElem?_cons_succ] at o0 o1
  clear nb
  go_enter Tryz.func135, Tryz.ntmps135
  go_wp2
  refine wp_region_over (by kernel_rfl) (by kernel_rfl) ?_
  repeat (first | go_big_quiet_skip | (go_big_quiet_want; go_big_quiet_op; first | go_big_quiet_on | (apply Exists.intro; refine ⟨fun e => ?_, ?_⟩; (focus (first | (go_at_call 137; exact calls_over (times_any _ _ _ hs hn)) | (go_at_call 134; exact calls_over_same (rplus_any _ _ _ hh u0)))); go_big_quiet_on)))
  refine wpQuiet_nil ?_
  rintro W2 ⟨e, he⟩
  have hb2 := over_below (w.alloc (.cells #[.int .u64 s, .int .u64 h] 133)) e
  rw [← he] at hb2
  clear he o0 o1
  go_wp2
  go_ret
  exact ⟨rfl, hal.trans (hb2.mono hal.size)⟩

theorem luntil_any (s h y : Int) (w : World) (hs : U s) (hh : U h) (hy : U y) :
    Calls Tryz.prog 132 #[.agg #[.int .u64 s, .int .u64 h], .int .u64 y] w fun e w' => e = .returned (.int .u64 (untilL s h y)) ∧ Below w.heap.size w w' := by
  have hal := (Below.refl w.heap.size w).alloc (Nat.le_refl _) (.cells #[.int .u64 s, .int .u64 h] 133)
  by_cases h1 : y ≤ h
  · have e1 : untilL s h y = 0 := if_pos h1
    rw [e1]
    go_enter Tryz.func132, Tryz.ntmps132
    go_wp2
    go_ret
    exact ⟨rfl, hal⟩
  · have uy : U (y - h) := by unfold U at *; omega
    have wd : IntKind.u64.wrap (y - h) = y - h := wrap_u uy
    by_cases h2 : s = 0
    · have e1 : untilL s h y = 9223372036854775808 := by unfold untilL; rw [if_neg h1, if_pos (.inl h2)]
      rw [e1]
      have u1 : U 1 := ⟨by decide, by decide⟩
      subst h2
      go_enter Tryz.func132, Tryz.ntmps132
      go_wp2_with (go_at_call 136; refine (up_none _ _ _ uy u1).mono ?_; rintro e w1 ⟨rfl, hb1⟩)
      go_ret
      exact ⟨rfl, hal.trans (hb1.mono hal.size)⟩
    · have hs1 : 1 ≤ s := by have := hs.1; omega
      have hc := ceil_le (y := y - h) (c := s) hs1 uy.1
      by_cases h3 : 4611686018427387904 < y
      · have e1 : untilL s h y = 9223372036854775808 := by unfold untilL; rw [if_neg h1, if_pos (.inr h3)]
        rw [e1]
        go_enter Tryz.func132, Tryz.ntmps132
        go_wp2_with (go_at_call 136; refine (up_word _ _ _ uy hs1 hs).mono ?_; rintro e w1 ⟨rfl, hb1⟩)
        go_ret
        exact ⟨rfl, hal.trans (hb1.mono hal.size)⟩
      · have e1 : untilL s h y = ceil (y - h) s := by unfold untilL; rw [if_neg h1, if_neg (by omega)]
        have e2 : cap (ceil (y - h) s) = ceil (y - h) s := cap_of_le (by have := hh.1; omega)
        have E1 := Lib.hid e1; have E2 := Lib.hid e2
        clear e1 e2
        go_enter Tryz.func132, Tryz.ntmps132
        go_wp2_with (go_at_call 136; refine (up_word _ _ _ uy hs1 hs).mono ?_; rintro e w1 ⟨rfl, hb1⟩)
        go_ret
        exact ⟨ret_int (by rw [E1.out, E2.out]), hal.trans (hb1.mono hal.size)⟩

/-- a bent run in memory: the last copy started at x; A started -/
structure BentAt (w : World) (g : Nat) (F L R x : Int) (A : List (Int × Int)) : Prop where
  blk : ∃ h1 h2, Blk w g 135 #[.int .u64 F, .int .u64 L, .int .u64 R, .int .i64 A.length, .int .u64 x, .int .u64 F, .int .u64 h1, .int .u64 R, .int .u64 h2] ∧ U h1 ∧ U h2 ∧ (A ≠ [] → Below1 F 0 x h1 A ∧ Below1 R ((F - R) * L) x h2 A)
  may : MayC F L R
  lt_ : R < F
  num : ∀ a ∈ A, 0 ≤ a.1 ∧ a.1 ≤ x ∧ 0 ≤ a.2 ∧ a.2 ≤ 4611686018427387904
  x0 : 0 ≤ x
  x1 : x ≤ 9223372036854775808
  few : A.length ≤ 900000

section
variable {w w' : World} {g : Nat} {F L R x : Int} {A : List (Int × Int)}
theorem BentAt.below (h : BentAt w g F L R x A) (hb : Below w.heap.size w w') : BentAt w' g F L R x A := by
  obtain ⟨⟨h1, h2, hB, h3⟩, r⟩ := h
  exact ⟨⟨h1, h2, hB.below hb hB.lt, h3⟩, r, ‹_›, ‹_›, ‹_›, ‹_›, ‹_›⟩
theorem BentAt.lt (h : BentAt w g F L R x A) : g < w.heap.size := by obtain ⟨h1, h2, hB, _⟩ := h.blk; exact hB.lt
theorem BentAt.uF (h : BentAt w g F L R x A) : U F := ⟨h.may.f0, by have := h.may.f1; omega⟩
theorem BentAt.uR (h : BentAt w g F L R x A) : U R := ⟨h.may.r0, by have := h.may.r1; omega⟩
theorem BentAt.ux (h : BentAt w g F L R x A) : U x := ⟨h.x0, by have := h.x1; omega⟩
end

theorem bnone_any (g : Nat) (n : Int) (w : World) (hc : w.cell? ⟨g, 3, none⟩ = some (.int .i64 n)) :
    Calls Tryz.prog 131 #[.pointer (some ⟨g, 0, none⟩)] w fun e w' => e = .returned (.bool (n == 0)) ∧ w = w' := by
  go_enter Tryz.func131, Tryz.ntmps131
  go_wp2
  go_ret
  exact ⟨rfl, rfl⟩

theorem cap_in {h q : Int} (hh : 0 ≤ h) : cap (h + cap q) = cap (h + q) := by unfold cap; omega
theorem len0 {A : List (Int × Int)} (hA : A ≠ []) : ((A.length : Int) == 0) = false := by
  have := List.length_pos_iff.2 hA
  simp; omega

/-- cells of a bent run -/
theorem bent_cells {w : World} {g : Nat} {F L R n x h1 h2 : Int} (hB : Blk w g 135 #[.int .u64 F, .int .u64 L, .int .u64 R, .int .i64 n, .int .u64 x, .int .u64 F, .int .u64 h1, .int .u64 R, .int .u64 h2]) :
    w.cell? ⟨g, 0, none⟩ = some (.int .u64 F) ∧ w.cell? ⟨g, 1, none⟩ = some (.int .u64 L) ∧ w.cell? ⟨g, 2, none⟩ = some (.int .u64 R) ∧ w.cell? ⟨g, 3, none⟩ = some (.int .i64 n) ∧ w.cell? ⟨g, 4, none⟩ = some (.int .u64 x) ∧
    w.cell? ⟨g, 5, none⟩ = some (.int .u64 F) ∧ w.cell? ⟨g, 6, none⟩ = some (.int .u64 h1) ∧ w.cell? ⟨g, 7, none⟩ = some (.int .u64 R) ∧ w.cell? ⟨g, 8, none⟩ = some (.int .u64 h2) :=
  ⟨hB.cell 0, hB.cell 1, hB.cell 2, hB.cell 3, hB.cell 4, hB.cell 5, hB.cell 6, hB.cell 7, hB.cell 8⟩

set_option maxRecDepth 20000 in
set_option maxHeartbeats 1000000 in
theorem breach_any (g : Nat) (F L R n x h1 h2 y m : Int) (w : World) (hF : U F) (hR : U R) (hx0 : 0 ≤ x) (hx1 : x ≤ 9223372036854775808) (hy : U y) (hh1 : U h1) (hh2 : U h2) (hn : (n == 0) = false)
    (hB : Blk w g 135 #[.int .u64 F, .int .u64 L, .int .u64 R, .int .i64 n, .int .u64 x, .int .u64 F, .int .u64 h1, .int .u64 R, .int .u64 h2])
    (hm : (if untilL F h1 y < untilL R h2 y then untilL R h2 y else untilL F h1 y) = m) :
    Calls Tryz.prog 128 #[.pointer (some ⟨g, 0, none⟩), .int .u64 y] w fun e w' => e = .returned (.int .u64 (reachB F R x h1 h2 y)) ∧ Below w.heap.size w w' := by
  obtain ⟨c0, c1, c2, c3, c4, c5, c6, c7, c8⟩ := bent_cells hB
  have hg := hB.lt
  have o5 := fun e => (over_cell (e := e) hg).trans c5
  have o6 := fun e => (over_cell (e := e) hg).trans c6
  have o7 := fun e => (over_cell (e := e) hg).trans c7
  have o8 := fun e => (over_cell (e := e) hg).trans c8
  have d1 := untilL_bd (y := y) hF.1 hh1.1
  have d2 := untilL_bd (y := y) hR.1 hh2.1
  have hm0 : 0 ≤ m ∧ m ≤ 9223372036854775808 := by omega
  have er : reachB F R x h1 h2 y = if 9223372036854775808 - x ≤ m then 9223372036854775808 else x + m := by
    have : max (untilL F h1 y) (untilL R h2 y) = m := by omega
    unfold reachB; rw [this]
  obtain ⟨hm0, hm1⟩ := hm0
  have wx : IntKind.u64.wrap (9223372036854775808 - x) = 9223372036854775808 - x := wrap_u (by unfold U; omega)
  have HB := Lib.hid hB; have ER := Lib.hid er
  clear hB er c0 c1 c2 c5 c6 c7 c8 d1 d2 c4
  go_enter Tryz.func128, Tryz.ntmps128
  go_wp2_with (go_at_call 131; refine (bnone_any _ _ _ c3).mono ?_; rintro e w' ⟨rfl, rfl⟩)
  refine wp_region_over (by kernel_rfl) (by kernel_rfl) ?_
  repeat (first | go_big_quiet_skip | (go_big_quiet_want; go_big_quiet_op; first | go_big_quiet_on | (apply Exists.intro; refine ⟨fun e => ?_, ?_⟩; (focus (first | (go_at_call_of 132 (Value.agg #[.int .u64 F, .int .u64 h1]); with_reducible exact calls_over (luntil_any F h1 _ _ hF hh1 hy)) | (go_at_call 132; with_reducible exact calls_over (luntil_any R h2 _ _ hR hh2 hy)))); go_big_quiet_on)))
  refine wpQuiet_nil ?_
  rintro W2 ⟨e, he⟩
  have hb2 := over_below w e
  rw [← he] at hb2
  clear he o5 o6 o7 o8 c3
  have hB2 := HB.out.below hb2 HB.out.lt
  have c4 := hB2.cell 4
  simp only [List.getElem?_toArray, List.getElem?_cons_zero, List.getElem?_cons_succ] at c4
  clear hB2 hm
  go_wp2
  all_goals
    go_ret
    exact ⟨ret_int (by rw [ER.out]; first | rw [if_pos (by omega)] | (rw [if_neg (by omega)]; done) | (rw [if_neg (by omega)]; exact wrap_u (by unfold U; omega))), hb2⟩

end Go.Proofs.YtbnnkkojlclgjaaGreat
/-
  bent.Start: one more copy starts.
-/
namespace Go.Proofs.YtbnnkkojlclgjaaGreat
set_option linter.unusedVariables false
open Go.RowKit

theorem burst_any (F L R : Int) (w : World) (hF : U F) (hL : U L) (hR : U R) (h : R < F) :
    Calls Tryz.prog 133 #[.agg #[.int .u64 F, .int .u64 L, .int .u64 R]] w fun e w' => e = .returned (.tuple #[.int .u64 (cap ((F - R) * L)), .bool true]) ∧ Below w.heap.size w w' := by
  have hal := (Below.refl w.heap.size w).alloc (Nat.le_refl _) (.cells #[.int .u64 F, .int .u64 L, .int .u64 R] 31)
  have nb := Blk.new w 31 #[.int .u64 F, .int .u64 L, .int .u64 R]
  have hd : decide (R < F) = true := by simp; omega
  have uF : U (F - R) := by unfold U at *; omega
  have wd : IntKind.u64.wrap (F - R) = F - R := wrap_u uF
  have NB := Lib.hid nb; clear nb
  go_enter Tryz.func133, Tryz.ntmps133
  go_wp2_with (first
    | (go_at_call 75; refine (bent_any F L R _).mono ?_; rintro e w1 ⟨rfl, hb1⟩; have n1 := NB.out.below hb1 NB.out.lt; have a0 := n1.cell 0; have a1 := n1.cell 1; have a2 := n1.cell 2; simp only [List.getElem?_toArray, List.getElem?_cons_zero, List.getElem?_cons_succ] at a0 a1 a2; clear n1)
    | (go_at_call 137; refine (times_any _ _ _ uF hL).mono ?_; rintro e w2 ⟨rfl, hb2⟩))
  go_ret2
  exact ⟨rfl, (hal.trans (hb1.mono hal.size)).trans (hb2.mono (Nat.le_trans hal.size hb1.size))⟩

abbrev bentRow (F L R n x h1 h2 : Int) : Array Value := #[.int .u64 F, .int .u64 L, .int .u64 R, .int .i64 n, .int .u64 x, .int .u64 F, .int .u64 h1, .int .u64 R, .int .u64 h2]

/-- in the midst of the loop -/
def MidB (w W : World) (g hb : Nat) (F L R n x a0 a1 h1 h2 : Int) : Prop :=
  Blk W hb 188 #[.int .u64 a0, .int .u64 a1] ∧ Blk W g 135 (bentRow F L R n x h1 h2) ∧ w.grownBy W (some g) ∧ g < hb ∧ w.heap.size ≤ hb

theorem MidB.below {w W W' : World} {g hb : Nat} {F L R n x a0 a1 h1 h2 : Int} (h : MidB w W g hb F L R n x a0 a1 h1 h2) (hb' : Below W.heap.size W W') : MidB w W' g hb F L R n x a0 a1 h1 h2 := by
  obtain ⟨h1, h2, h3, h4, h5⟩ := h
  exact ⟨h1.below hb' h1.lt, h2.below hb' h2.lt, ⟨hb'.os.trans h3.os, hb'.tape.trans h3.tape, hb'.output.trans h3.output, Nat.le_trans h3.size hb'.size, fun k hk hne => (hb'.block k (Nat.lt_of_lt_of_le hk h3.size)).trans (h3.block k hk hne)⟩, h4, h5⟩

theorem grownBy_below {w W W' : World} {g : Nat} (h3 : w.grownBy W (some g)) (hb' : Below w.heap.size W W') (hs : w.heap.size ≤ W'.heap.size) : w.grownBy W' (some g) :=
  ⟨hb'.os.trans h3.os, hb'.tape.trans h3.tape, hb'.output.trans h3.output, hs, fun k hk hne => (hb'.block k hk).trans (h3.block k hk hne)⟩
theorem grownBy_set {w W : World} {g i : Nat} {u : Value} (h : w.grownBy W (some g)) : w.grownBy (W.setCell ⟨g, i, none⟩ u) (some g) :=
  ⟨h.os, h.tape, h.output, by simp [World.setCell]; exact h.size, fun k hk hne => (Below.heap_setCell _ _ _ k (by intro he; exact hne (by rw [he]))).trans (h.block k hk hne)⟩
theorem grownBy_set_new {w W : World} {g hb i : Nat} {u : Value} (h : w.grownBy W (some g)) (hn : w.heap.size ≤ hb) : w.grownBy (W.setCell ⟨hb, i, none⟩ u) (some g) :=
  ⟨h.os, h.tape, h.output, by simp [World.setCell]; exact h.size, fun k hk hne => (Below.heap_setCell _ _ _ k (by simp only; omega)).trans (h.block k hk hne)⟩

set_option maxRecDepth 100000 in
set_option maxHeartbeats 2000000 in
theorem bstart_any (g : Nat) (F L R n x h1 h2 t y M X Y ov a1 p1 p2 H1 H2 : Int) (w : World) (hF : U F) (hL : U L) (hR : U R) (hRF : R < F) (hx : U x) (ht : U t) (hy : U y) (hh1 : U h1) (hh2 : U h2) (hn0 : 0 ≤ n) (hn1 : n ≤ 1000000)
    (hM : (if 9223372036854775808 < t then 9223372036854775808 else t) = M) (hX : (if M < x then x else M) = X) (hY : (if 4611686018427387904 < y then 4611686018427387904 else y) = Y)
    (hov : cap ((F - R) * L) = ov) (ha1 : cap (Y + ov) = a1) (hp1 : cap (h1 + cap (F * (X - x))) = p1) (hp2 : cap (h2 + cap (R * (X - x))) = p2)
    (hH1 : H1 = if 0 < n ∧ p1 < Y then p1 else Y) (hH2 : H2 = if 0 < n ∧ p2 < a1 then p2 else a1)
    (hB : Blk w g 135 (bentRow F L R n x h1 h2)) :
    Calls Tryz.prog 129 #[.pointer (some ⟨g, 0, none⟩), .int .u64 t, .int .u64 y] w fun e w' =>
      e = .returned (.tuple #[]) ∧ Blk w' g 135 (bentRow F L R (n + 1) X H1 H2) ∧ w.grownBy w' (some g) := by
  have uX : U (X - x) := by unfold U at *; omega
  have wd : IntKind.u64.wrap (X - x) = X - x := wrap_u uX
  have uov : U ov := by rw [← hov]; exact U_cap (Int.mul_nonneg (by omega) hL.1)
  have uY : U Y := by unfold U at *; omega
  have hd : decide (R < F) = true := by simp; omega
  obtain ⟨c0, c1, c2, c3, c4, c5, c6, c7, c8⟩ := bent_cells hB
  have hg := hB.lt
  have HB := Lib.hid hB; have HOV := Lib.hid hov; have HA1 := Lib.hid ha1; have HP1 := Lib.hid hp1; have HP2 := Lib.hid hp2; have HH1 := Lib.hid hH1; have HH2 := Lib.hid hH2
  clear hB hov ha1 hp1 hp2 hH1 hH2 c3 c4 c5 c6 c7 c8
  go_enter Tryz.func129, Tryz.ntmps129
  go_wp2_with (first
    | (go_at_call 75; refine (bent_any F L R _).mono ?_; rintro e w1 ⟨rfl, hb1⟩; have B1 := HB.out.below hb1 hg; obtain ⟨c0, c1, c2, c3, c4, c5, c6, c7, c8⟩ := bent_cells B1; clear c3 c5 c6 c7 c8)
    | (go_at_call 133; refine (burst_any F L R _ hF hL hR hRF).mono ?_; rintro e w2 ⟨rfl, hb2⟩; rw [HOV.out])
    | (go_at_call 134; refine (rplus_any Y ov _ uY uov).mono ?_; rintro e w' ⟨rfl, rfl⟩; rw [HA1.out]))
  have hgw2 : g < w2.heap.size := Nat.lt_of_lt_of_le hg (Nat.le_trans hb1.size hb2.size)
  have hbw : Below w.heap.size w w2 := hb1.trans (hb2.mono hb1.size)
  have B2 := (HB.out.below hb1 hg).below hb2 (HB.out.below hb1 hg).lt
  have hal := (Below.refl w2.heap.size w2).alloc (Nat.le_refl _) (.cells #[.int .u64 Y, .int .u64 a1] 188)
  have hS0 : MidB w (w2.alloc (.cells #[.int .u64 Y, .int .u64 a1] 188)) g w2.heap.size F L R n x Y a1 h1 h2 :=
    ⟨Blk.new _ _ _, B2.below hal hgw2, ⟨(hbw.trans (hal.mono hbw.size)).os, (hbw.trans (hal.mono hbw.size)).tape, (hbw.trans (hal.mono hbw.size)).output, (hbw.trans (hal.mono hbw.size)).size, fun k hk _ => (hbw.trans (hal.mono hbw.size)).block k hk⟩, hgw2, hbw.size⟩
  generalize w2.alloc (.cells #[.int .u64 Y, .int .u64 a1] 188) = w3 at *
  have HS0 := Lib.hid hS0
  clear hS0 B2 hb1 hb2 hal c0 c1 c2 c4
  refine wp_region_over (by kernel_rfl) (by kernel_rfl) ?_
  repeat (first | go_big_quiet_skip | (go_big_quiet_want; go_big_quiet_op; go_big_quiet_on))
  refine wpQuiet_nil ?_
  rintro W4 ⟨e, he⟩
  have hb4 := over_below w3 e
  rw [← he] at hb4
  clear he
  have hS1 := HS0.out.below hb4
  obtain ⟨hb, hhb⟩ : ∃ hb, hb = w2.heap.size := ⟨_, rfl⟩
  rw [← hhb] at hS1 ⊢
  have HS1 := Lib.hid hS1
  clear hS1 hb4 hhb HS0
  go_wp2
  go_loopw [52] (fun i W => ∃ k : Nat, k ≤ 2 ∧ i = .int .i64 k ∧ (k = 0 → MidB w W g hb F L R n x Y a1 h1 h2) ∧ (k = 1 → MidB w W g hb F L R n x H1 a1 H1 h2) ∧ (k = 2 → MidB w W g hb F L R n x H1 H2 H1 H2)) (fun i _ => 2 - (intOf i).toNat)
  case atStart => exact ⟨0, by omega, rfl, fun _ => HS1.out, fun h => by omega, fun h => by omega⟩
  case round =>
    obtain ⟨k, hk, rfl, hs0, hs1, hs2⟩ := hrel
    by_cases h2k : k = 2
    · subst h2k
      obtain ⟨B1, B2, hgr, hgb, hwb⟩ := hs2 rfl
      obtain ⟨c0, c1, c2, c3, c4, c5, c6, c7, c8⟩ := bent_cells B2
      have z3 := B2.frozen 3; have z4 := B2.frozen 4
      have BB2 := Lib.hid B2; have HGR := Lib.hid hgr
      clear B1 B2 hgr hs0 hs1 hs2 c0 c1 c2 c5 c6 c7 c8
      go_wp2
      go_returns
      exact ⟨rfl, by simpa using (BB2.out.set_ 4 (.int .u64 X)).set_ 3 (.int .i64 (n + 1)), grownBy_set (grownBy_set HGR.out)⟩
    · by_cases h1k : k = 1
      · subst h1k
        have hS := hs1 rfl
        obtain ⟨B1, B2, hgr, hgb, hwb⟩ := hS
        have i0 : ∀ w : World, (Instr.index 190 (.agg #[.pointer (some ⟨g, 5, none⟩), .pointer (some ⟨g, 7, none⟩)]) (.int .i64 1)).run Tryz.prog w = .ok (.pointer (some ⟨g, 7, none⟩)) w := fun _ => by kernel_rfl
        obtain ⟨c0, c1, c2, c3, c4, c5, c6, c7, c8⟩ := bent_cells B2
        have z6 := B2.frozen 8
        have e0 := B1.cell 0; have e1 := B1.cell 1; have y0 := B1.frozen 1
        simp only [List.getElem?_toArray, List.getElem?_cons_zero, List.getElem?_cons_succ] at e0 e1
        have hgl := B2.lt; have hbl := B1.lt
        have BB1 := Lib.hid B1; have BB2 := Lib.hid B2; have HGR := Lib.hid hgr
        clear B1 B2 hgr hs0 hs1 hs2
        go_wp2_with (go_at_call 135; refine (lhas_any R h2 _ _ hR hh2 uX).mono ?_; rintro e w4 ⟨rfl, hb4⟩; rw [HP2.out]; have B1 := BB1.out.below hb4 hbl; have B2 := BB2.out.below hb4 hgl; obtain ⟨c0, c1, c2, c3, c4, c5, c6, c7, c8⟩ := bent_cells B2; have z6 := B2.frozen 8; have e0 := B1.cell 0; have e1 := B1.cell 1; have y0 := B1.frozen 1; simp only [List.getElem?_toArray, List.getElem?_cons_zero, List.getElem?_cons_succ] at e0 e1)
        all_goals
          have hgr4 := grownBy_below HGR.out (hb4.mono HGR.out.size) (Nat.le_trans HGR.out.size hb4.size)
          go_roundw
          case rel =>
            first
              | (have hv : H2 = p2 := by have hh := HH2.out; split at hh <;> omega
                 refine ⟨2, by omega, by go_num, fun h => by omega, fun h => by omega, fun _ => ?_⟩
                 rw [hv]
                 exact ⟨by simpa using (B1.set_ 1 (.int .u64 p2)).far (p := ⟨g, 8, none⟩) (by simp only; omega) (.int .u64 p2), by simpa using (B2.far (p := ⟨hb, 1, none⟩) (by simp only; omega) (.int .u64 p2)).set_ 8 (.int .u64 p2), grownBy_set (grownBy_set_new hgr4 hwb), hgb, hwb⟩)
              | (have hv : H2 = a1 := by have hh := HH2.out; split at hh <;> omega
                 refine ⟨2, by omega, by go_num, fun h => by omega, fun h => by omega, fun _ => ?_⟩
                 rw [hv]
                 exact ⟨by simpa using B1.far (p := ⟨g, 8, none⟩) (by simp only; omega) (.int .u64 a1), by simpa using B2.set_ 8 (.int .u64 a1), grownBy_set hgr4, hgb, hwb⟩)
          case measure => simp [intOf]
      · obtain rfl : k = 0 := by omega
        have hS := hs0 rfl
        obtain ⟨B1, B2, hgr, hgb, hwb⟩ := hS
        have i0 : ∀ w : World, (Instr.index 190 (.agg #[.pointer (some ⟨g, 5, none⟩), .pointer (some ⟨g, 7, none⟩)]) (.int .i64 0)).run Tryz.prog w = .ok (.pointer (some ⟨g, 5, none⟩)) w := fun _ => by kernel_rfl
        obtain ⟨c0, c1, c2, c3, c4, c5, c6, c7, c8⟩ := bent_cells B2
        have z6 := B2.frozen 6
        have e0 := B1.cell 0; have e1 := B1.cell 1; have y0 := B1.frozen 0
        simp only [List.getElem?_toArray, List.getElem?_cons_zero, List.getElem?_cons_succ] at e0 e1
        have hgl := B2.lt; have hbl := B1.lt
        have BB1 := Lib.hid B1; have BB2 := Lib.hid B2; have HGR := Lib.hid hgr
        clear B1 B2 hgr hs0 hs1 hs2
        go_wp2_with (go_at_call 135; refine (lhas_any F h1 _ _ hF hh1 uX).mono ?_; rintro e w4 ⟨rfl, hb4⟩; rw [HP1.out]; have B1 := BB1.out.below hb4 hbl; have B2 := BB2.out.below hb4 hgl; obtain ⟨c0, c1, c2, c3, c4, c5, c6, c7, c8⟩ := bent_cells B2; have z6 := B2.frozen 6; have e0 := B1.cell 0; have e1 := B1.cell 1; have y0 := B1.frozen 0; simp only [List.getElem?_toArray, List.getElem?_cons_zero, List.getElem?_cons_succ] at e0 e1)
        all_goals
          have hgr4 := grownBy_below HGR.out (hb4.mono HGR.out.size) (Nat.le_trans HGR.out.size hb4.size)
          go_roundw
          case rel =>
            first
              | (have hv : H1 = p1 := by have hh := HH1.out; split at hh <;> omega
                 refine ⟨1, by omega, by go_num, fun h => by omega, fun _ => ?_, fun h => by omega⟩
                 rw [hv]
                 exact ⟨by simpa using (B1.set_ 0 (.int .u64 p1)).far (p := ⟨g, 6, none⟩) (by simp only; omega) (.int .u64 p1), by simpa using (B2.far (p := ⟨hb, 0, none⟩) (by simp only; omega) (.int .u64 p1)).set_ 6 (.int .u64 p1), grownBy_set (grownBy_set_new hgr4 hwb), hgb, hwb⟩)
              | (have hv : H1 = Y := by have hh := HH1.out; split at hh <;> omega
                 refine ⟨1, by omega, by go_num, fun h => by omega, fun _ => ?_, fun h => by omega⟩
                 rw [hv]
                 exact ⟨by simpa using B1.far (p := ⟨g, 6, none⟩) (by simp only; omega) (.int .u64 Y), by simpa using B2.set_ 6 (.int .u64 Y), grownBy_set hgr4, hgb, hwb⟩)
          case measure => simp [intOf]

end Go.Proofs.YtbnnkkojlclgjaaGreat
/-
  A bent run, from outside: what is asked of it, by the copies that started.
-/
namespace Go.Proofs.YtbnnkkojlclgjaaGreat
set_option linter.unusedVariables false
open Go.RowKit

/-- when a run without copies has y -/
def nevB (y : Int) : Int := if y = 0 then 0 else 9223372036854775808

set_option maxHeartbeats 1000000 in
theorem bnew_ok (F L R : Int) (w : World) (hF : 0 ≤ F) (hL : 0 ≤ L) (hR : 0 ≤ R) (h1 : mayB F L R = true) (h2 : R < F) :
    Calls Tryz.prog 44 #[.agg #[.int .u64 F, .int .u64 L, .int .u64 R]] w fun e w' =>
      ∃ g, e = .returned (.tuple #[.pointer (some ⟨g, 0, none⟩), .int .i64 0]) ∧ w.heap.size ≤ g ∧ BentAt w' g F L R 0 [] ∧ Below w.heap.size w w' := by
  have hal := (Below.refl w.heap.size w).alloc (Nat.le_refl _) (.cells #[.int .u64 F, .int .u64 L, .int .u64 R] 31)
  have nb := Blk.new w 31 #[.int .u64 F, .int .u64 L, .int .u64 R]
  have nl := nb.lt
  have HN := Lib.hid nb
  have hd : decide (R < F) = true := by simp; omega
  have hM := mayB_spec hF hL hR h1
  have H := Lib.hid h1
  clear nb h1
  go_enter Tryz.func44, Tryz.ntmps44
  go_wp2_with (first
    | (go_at_call 16; refine (may_any F L R _ hL).mono ?_; rintro e w1 ⟨rfl, hb1⟩; rw [H.out]; have n1 := HN.out.below hb1 nl; have a0 := n1.cell 0; have a1 := n1.cell 1; have a2 := n1.cell 2; simp only [List.getElem?_toArray, List.getElem?_cons_zero, List.getElem?_cons_succ] at a0 a1 a2)
    | (go_at_call 75; refine (bent_any F L R _).mono ?_; rintro e w2 ⟨rfl, hb2⟩; have n2 := n1.below hb2 n1.lt; have b0 := n2.cell 0; have b1 := n2.cell 1; have b2 := n2.cell 2; simp only [List.getElem?_toArray, List.getElem?_cons_zero, List.getElem?_cons_succ] at b0 b1 b2))
  have hb3 : Below w.heap.size w w2 := (hal.trans (hb1.mono hal.size)).trans (hb2.mono (Nat.le_trans hal.size hb1.size))
  go_ret2
  have u0 : U 0 := ⟨by omega, by omega⟩
  exact ⟨w2.heap.size, rfl, hb3.size, ⟨⟨0, 0, Blk.new _ _ _, u0, u0, fun h => absurd rfl h⟩, hM, h2, by intro a ha; simp at ha, by omega, by omega, by simp⟩, hb3.alloc hb3.size _⟩

set_option maxHeartbeats 1000000 in
theorem bnew_no (F L R : Int) (w : World) (hL : 0 ≤ L) (h1 : mayB F L R = true) (h2 : F ≤ R) :
    Calls Tryz.prog 44 #[.agg #[.int .u64 F, .int .u64 L, .int .u64 R]] w fun e w' => e = .returned (.tuple #[.pointer none, .int .i64 30]) ∧ Below w.heap.size w w' := by
  have hal := (Below.refl w.heap.size w).alloc (Nat.le_refl _) (.cells #[.int .u64 F, .int .u64 L, .int .u64 R] 31)
  have nb := Blk.new w 31 #[.int .u64 F, .int .u64 L, .int .u64 R]
  have nl := nb.lt
  have HN := Lib.hid nb
  have hd : decide (R < F) = false := by simp; omega
  have H := Lib.hid h1
  clear nb h1
  go_enter Tryz.func44, Tryz.ntmps44
  go_wp2_with (first
    | (go_at_call 16; refine (may_any F L R _ hL).mono ?_; rintro e w1 ⟨rfl, hb1⟩; rw [H.out]; have n1 := HN.out.below hb1 nl; have a0 := n1.cell 0; have a1 := n1.cell 1; have a2 := n1.cell 2; simp only [List.getElem?_toArray, List.getElem?_cons_zero, List.getElem?_cons_succ] at a0 a1 a2)
    | (go_at_call 75; refine (bent_any F L R _).mono ?_; rintro e w2 ⟨rfl, hb2⟩))
  have hb3 : Below w.heap.size w w2 := (hal.trans (hb1.mono hal.size)).trans (hb2.mono (Nat.le_trans hal.size hb1.size))
  go_ret2
  exact ⟨rfl, hb3⟩

section
variable {w w' : World} {g : Nat} {F L R x : Int} {A : List (Int × Int)}

theorem BentAt.cell3 (h : BentAt w g F L R x A) : w.cell? ⟨g, 3, none⟩ = some (.int .i64 A.length) := by obtain ⟨h1, h2, hB, _⟩ := h.blk; exact hB.cell 3
theorem BentAt.cell4 (h : BentAt w g F L R x A) : w.cell? ⟨g, 4, none⟩ = some (.int .u64 x) := by obtain ⟨h1, h2, hB, _⟩ := h.blk; exact hB.cell 4
theorem BentAt.low (h : BentAt w g F L R x A) : ∀ a ∈ A, a.1 ≤ x ∧ 0 ≤ a.2 := fun a ha => by have := h.num a ha; exact ⟨this.2.1, this.2.2.1⟩

theorem bent_start (h : BentAt w g F L R x A) (t y X Y : Int) (ht : U t) (hy : U y) (hX : X = max (min t 9223372036854775808) x) (hY : Y = min y 4611686018427387904) (hfew : A.length < 900000) :
    Calls Tryz.prog 129 #[.pointer (some ⟨g, 0, none⟩), .int .u64 t, .int .u64 y] w fun e w' =>
      e = .returned (.tuple #[]) ∧ BentAt w' g F L R X (A ++ [(X, Y)]) ∧ w.grownBy w' (some g) := by
  obtain ⟨h1, h2, hB, u1, u2, hA⟩ := h.blk
  have hx0 := h.x0; have hx1 := h.x1
  have hM := h.may
  have hlt := h.lt_
  have hxX : x ≤ X := by omega
  have hY0 : 0 ≤ Y := by have := hy.1; omega
  have hm : 0 ≤ (F - R) * L := Int.mul_nonneg (by omega) hM.l0
  have mb := mul_bd (a := F - R) (t := L) (A := 1048576) (T := 1099511627776) (by omega) (by have := hM.f1; have := hM.r0; omega) hM.l0 hM.l1
  have uL : U L := ⟨hM.l0, by have := hM.l1; omega⟩
  have ecap : cap ((F - R) * L) = (F - R) * L := cap_of_le (by omega)
  refine (bstart_any g F L R A.length x h1 h2 t y (min t 9223372036854775808) X Y ((F - R) * L) (cap (Y + (F - R) * L)) (cap (h1 + cap (F * (X - x)))) (cap (h2 + cap (R * (X - x)))) _ _ w h.uF uL h.uR hlt h.ux ht hy u1 u2 (by omega) (by omega) (by omega) (by omega) (by omega) ecap rfl rfl rfl rfl rfl hB).mono fun e w' ⟨he, hB', hg⟩ => ⟨he, ?_, hg⟩
  have c1 := cap_nonneg (show 0 ≤ Y + (F - R) * L by omega); have c2 := cap_le (Y + (F - R) * L)
  have d1 := cap_nonneg (show 0 ≤ h1 + cap (F * (X - x)) by have := u1.1; have := cap_nonneg (Int.mul_nonneg hM.f0 (show 0 ≤ X - x by omega)); omega)
  have d2 := cap_nonneg (show 0 ≤ h2 + cap (R * (X - x)) by have := u2.1; have := cap_nonneg (Int.mul_nonneg hM.r0 (show 0 ≤ X - x by omega)); omega)
  have d3 := cap_le (h1 + cap (F * (X - x))); have d4 := cap_le (h2 + cap (R * (X - x)))
  refine ⟨⟨_, _, by rw [List.length_append]; exact hB', ?_, ?_, fun _ => ?_⟩, hM, hlt, fun a ha => ?_, by omega, by omega, by simp; omega⟩
  · unfold U; split <;> omega
  · unfold U; split <;> omega
  · have e0 : cap (Y + 0) = Y := by rw [Int.add_zero]; exact cap_of_le (by omega)
    by_cases hA0 : A = []
    · subst hA0
      have f1 := Below1.first (s := F) (m := 0) (x := X) (y := Y) hM.f0 (by omega) hY0
      have f2 := Below1.first (s := R) (m := (F - R) * L) (x := X) (y := Y) hM.r0 hm hY0
      rw [e0] at f1
      simp only [List.length_nil, List.nil_append]
      rw [if_neg (by omega), if_neg (by omega)]
      exact ⟨f1, f2⟩
    · have hl := List.length_pos_iff.2 hA0
      obtain ⟨b1, b2⟩ := hA hA0
      have f1 := b1.next (x' := X) (y := Y) hM.f0 (by omega) hY0 hxX
      have f2 := b2.next (x' := X) (y := Y) hM.r0 hm hY0 hxX
      rw [e0] at f1
      generalize cap (h1 + cap (F * (X - x))) = q1 at *
      generalize cap (h2 + cap (R * (X - x))) = q2 at *
      generalize cap (Y + (F - R) * L) = a1 at *
      rw [show (if (0 : Int) < (A.length : Int) ∧ q1 < Y then q1 else Y) = min q1 Y by split <;> omega, show (if (0 : Int) < (A.length : Int) ∧ q2 < a1 then q2 else a1) = min q2 a1 by split <;> omega]
      exact ⟨f1, f2⟩
  · rcases List.mem_append.1 ha with ha | ha
    · have := h.num a ha; exact ⟨this.1, by omega, this.2.2⟩
    · obtain rfl : a = (X, Y) := by simpa using ha
      exact ⟨by simp only; omega, by simp only; omega, by simp only; omega, by simp only; omega⟩

/-- an answer n that is a tick at which v has y, or Never -/
def Ans (v : Int → Int) (x y : Int) (w : World) (e : Ending) (w' : World) : Prop := ∃ n, e = .returned (.int .u64 n) ∧ Back v x y n ∧ 0 ≤ n ∧ n ≤ 9223372036854775808 ∧ Below w.heap.size w w'

theorem bent_reach (h : BentAt w g F L R x A) (hA : A ≠ []) (y : Int) (hy : U y) :
    Calls Tryz.prog 128 #[.pointer (some ⟨g, 0, none⟩), .int .u64 y] w (Ans (fun t => vA F L R A (max t x)) x y w) := by
  obtain ⟨h1, h2, hB, u1, u2, hh⟩ := h.blk
  obtain ⟨b1, b2⟩ := hh hA
  have hk := bent_back (y := y) h.lt_ h.may.r0 h.may.l0 h.x0 h.x1 h.low b1 b2
  have hx0 := h.x0
  exact (breach_any g F L R A.length x h1 h2 y _ w h.uF h.uR h.x0 h.x1 hy u1 u2 (len0 hA) hB rfl).mono fun e w' ⟨he, hb⟩ => ⟨_, he, hk, by have := hk.x_le; omega, hk.le_never, hb⟩

theorem bent_reach0 (h : BentAt w g F L R x []) (y : Int) :
    Calls Tryz.prog 128 #[.pointer (some ⟨g, 0, none⟩), .int .u64 y] w fun e w' => e = .returned (.int .u64 (nevB y)) ∧ w = w' := by
  have c3 := h.cell3
  by_cases hy : y = 0
  · subst hy
    go_enter Tryz.func128, Tryz.ntmps128
    go_wp2_with (go_at_call 131; refine (bnone_any _ _ _ c3).mono ?_; rintro e w' ⟨rfl, rfl⟩)
    go_ret
    exact ⟨rfl, rfl⟩
  · have h0 : (y == 0) = false := by simpa using hy
    have e1 : nevB y = 9223372036854775808 := if_neg hy
    rw [e1]
    go_enter Tryz.func128, Tryz.ntmps128
    go_wp2_with (go_at_call 131; refine (bnone_any _ _ _ c3).mono ?_; rintro e w' ⟨rfl, rfl⟩)
    go_ret
    exact ⟨rfl, rfl⟩
end

end Go.Proofs.YtbnnkkojlclgjaaGreat
/-
  The small questions of a sagging run that has copies: Last, Starts, Kept.
-/
namespace Go.Proofs.YtbnnkkojlclgjaaGreat
set_option linter.unusedVariables false
open Go.RowKit

end Go.Proofs.YtbnnkkojlclgjaaGreat
/-
  The line of a sagging run: least, Line. (Printed from XSagLeast by wip/mkline.py.)
-/
namespace Go.Proofs.YtbnnkkojlclgjaaGreat
set_option linter.unusedVariables false
open Go.RowKit

end Go.Proofs.YtbnnkkojlclgjaaGreat
/-
  When a sagging run has so much: last, Reach.
-/
namespace Go.Proofs.YtbnnkkojlclgjaaGreat
set_option linter.unusedVariables false
open Go.RowKit

theorem reachC_U {F L R y : Int} (h : MayC F L R) (hy : 0 ≤ y) (hy1 : y ≤ 4611686018427387904) : U (reachC F L R y) := by
  rcases reachC_spec h hy hy1 with ⟨h1, _⟩ | ⟨h1, h2, _⟩
  · rw [h1]; unfold U; omega
  · unfold U; omega

theorem reach1_any (c g : Nat) (F L R m : Int) (w : World) (h : MayC F L R) (hm : U m) (hc : c < w.heap.size) (hg : g < w.heap.size)
    (cc : w.cell? ⟨c, 0, none⟩ = some (.pointer (some ⟨g, 0, none⟩)))
    (c0 : w.cell? ⟨g, 0, none⟩ = some (.int .u64 F)) (c1 : w.cell? ⟨g, 1, none⟩ = some (.int .u64 L)) (c2 : w.cell? ⟨g, 2, none⟩ = some (.int .u64 R)) :
    Calls Tryz.prog 154 #[.int .u64 m, .pointer (some ⟨c, 0, none⟩)] w fun e w' => e = .returned (.int .u64 (reachC F L R m)) ∧ Below w.heap.size w w' := by
  have hF : U F := ⟨h.f0, by have := h.f1; omega⟩
  have hL : U L := ⟨h.l0, by have := h.l1; omega⟩
  have hR : U R := ⟨h.r0, by have := h.r1; omega⟩
  go_enter Tryz.func154, Tryz.ntmps154
  go_wp2_with (go_at_call 155; refine (reach_any F L R m _ hF hL hR h.l1 hm).mono ?_; rintro e w1 ⟨rfl, hb1⟩)
  go_ret
  exact ⟨rfl, hb1⟩

theorem lastL_drop {needs : Int → Int} {y a : Int} {K : List (Int × Int)} {k : Nat} {p : Int × Int} (h : K[k]? = some p) :
    lastL needs y (K.drop k) a = if 9223372036854775808 - p.1 ≤ needs (less y p.2) then 9223372036854775808 else lastL needs y (K.drop (k + 1)) (max a (p.1 + needs (less y p.2))) := by
  obtain ⟨hk, rfl⟩ := List.getElem?_eq_some_iff.1 h
  rw [List.drop_eq_getElem_cons hk]
  rfl

set_option maxRecDepth 20000 in
set_option maxHeartbeats 1000000 in
theorem last_reach (g c : Nat) (F L R n x y : Int) (K : List (Int × Int)) (w : World) (hM : MayC F L R) (hy : U y) (hx : U x) (hn : n ≠ 0) (hK0 : K ≠ []) (hbig : K.length ≤ 1000000)
    (hK : ∀ k ∈ K, 0 ≤ k.1 ∧ k.1 ≤ 9223372036854775808 ∧ U k.2) (hs : SagAt w g F L R n x K) (hc : c < w.heap.size) (cc : w.cell? ⟨c, 0, none⟩ = some (.pointer (some ⟨g, 0, none⟩))) :
    Calls Tryz.prog 153 #[.pointer (some ⟨g, 0, none⟩), .int .u64 y, .func (.func 154) #[] #[.pointer (some ⟨c, 0, none⟩)]] w fun e w' =>
      e = .returned (.int .u64 (lastAt (reachC F L R) y K x)) ∧ Below w.heap.size w w' := by
  obtain ⟨v, hb, hrow⟩ := hs
  obtain ⟨b, cp, rfl, hgb, hbw, hcap, hcells⟩ := hrow.open_ hK0
  have hg := hb.lt
  have c4 := hb.cell 4; have c5 := hb.cell 5; have c6 := hb.cell 6
  have HB := Lib.hid hb; have HR := Lib.hid hcells; have HK := Lib.hid hK
  clear hb hrow hcells hK
  simp only [List.getElem?_toArray, List.getElem?_cons_zero, List.getElem?_cons_succ] at c4 c5 c6
  by_cases hy1 : 4611686018427387904 < y
  · have hl : lastAt (reachC F L R) y K x = 9223372036854775808 := by unfold lastAt; rw [if_pos hy1]
    rw [hl]
    go_enter Tryz.func153, Tryz.ntmps153
    go_wp2_with (go_at_call 160; refine (snone_no _ _ _ hn c4).mono ?_; rintro e w' ⟨rfl, rfl⟩)
    go_ret
    exact ⟨rfl, Below.refl _ _⟩
  have hl : lastAt (reachC F L R) y K x = lastL (reachC F L R) y K x := by unfold lastAt; rw [if_neg hy1]
  rw [hl]
  have hy2 : y ≤ 4611686018427387904 := by omega
  go_enter Tryz.func153, Tryz.ntmps153
  go_wp2_with (go_at_call 160; refine (snone_no _ _ _ hn c4).mono ?_; rintro e w' ⟨rfl, rfl⟩)
  go_loopw [34, 7] (fun i o W => ∃ (k : Nat) (a : Int), k ≤ K.length ∧ i = .int .i64 k ∧ o = .int .u64 a ∧ lastL (reachC F L R) y (K.drop k) a = lastL (reachC F L R) y K x ∧ Below w.heap.size w W) (fun i _ _ => K.length - (intOf i).toNat)
  case atStart => exact ⟨0, x, by omega, rfl, rfl, by simp, Below.refl _ _⟩
  case round =>
    obtain ⟨k, a, hk, rfl, rfl, hla, hbW⟩ := hrel
    clear c4 c5 c6
    by_cases hlt : k < K.length
    · have hp : K[k]? = some K[k] := List.getElem?_eq_getElem hlt
      have hpm := HK.out _ (List.getElem_mem hlt)
      generalize K[k] = p at hp hpm
      obtain ⟨d0, d1⟩ := HR.out k p hp
      have e0 := (hbW.cell (p := ⟨b, k * 2, none⟩) hbw).trans d0
      have e1 := (hbW.cell (p := ⟨b, k * 2 + 1, none⟩) hbw).trans d1
      clear d0 d1
      have hld := lastL_drop (needs := reachC F L R) (y := y) (a := a) hp
      rw [hla] at hld
      have hLD := Lib.hid hld
      clear hld hla
      have hcW : c < wr.heap.size := Nat.lt_of_lt_of_le hc hbW.size
      have hgW : g < wr.heap.size := Nat.lt_of_lt_of_le hg hbW.size
      have hal := (Below.refl wr.heap.size wr).alloc (Nat.le_refl _) (.cells #[.int .u64 p.1, .int .u64 p.2] 210)
      have nb := Blk.new wr 210 #[.int .u64 p.1, .int .u64 p.2]
      have nl := nb.lt
      have ccW := (hal.cell (p := ⟨c, 0, none⟩) hcW).trans ((hbW.cell (p := ⟨c, 0, none⟩) hc).trans cc)
      have hB := (HB.out.below hbW hg).below hal hgW
      have HF := Lib.hid (And.intro ccW (And.intro hB nb))
      have hcW1 := Nat.lt_of_lt_of_le hcW hal.size
      clear ccW hB nb
      have wd : IntKind.u64.wrap (9223372036854775808 - p.1) = 9223372036854775808 - p.1 := wrap_u (by unfold U; omega)
      have hrU := reachC_U hM (U_less (a := y) (b := p.2)).1 (show less y p.2 ≤ 4611686018427387904 by unfold less cap; omega)
      generalize hnn : reachC F L R (less y p.2) = m at *
      go_wp2_with (first
        | (go_at_call 161; refine (minus_any _ _ _ hy hpm.2.2).mono ?_; rintro e w' ⟨rfl, rfl⟩)
        | (go_at_call 154; refine (reach1_any c g F L R _ _ hM U_less hcW1 HF.out.2.1.lt HF.out.1 (HF.out.2.1.cell 0) (HF.out.2.1.cell 1) (HF.out.2.1.cell 2)).mono ?_; rintro e w2 ⟨rfl, hb2⟩; have n0 := (hb2.cell (p := ⟨wr.heap.size, 0, none⟩) nl).trans (HF.out.2.2.cell 0); simp only [List.getElem?_toArray, List.getElem?_cons_zero, List.getElem?_cons_succ] at n0))
      all_goals have hbW2 : Below w.heap.size w w2 := (hbW.trans (hal.mono hbW.size)).trans (hb2.mono (Nat.le_trans hbW.size hal.size))
      · go_ret
        have h1 := hLD.out
        rw [if_pos (by omega)] at h1
        exact ⟨ret_int h1.symm, hbW2⟩
      all_goals
        have h1 := hLD.out
        rw [if_neg (by omega)] at h1
        have hwm : p.1 + m < 18446744073709551616 → IntKind.u64.wrap (p.1 + m) = p.1 + m := fun h => wrap_u (by unfold U at *; omega)
        have hwm2 := hwm (by omega)
        simp only [hwm2] at *
        go_roundw
        case rel => exact ⟨k + 1, max a (p.1 + m), by omega, by go_num, val_int (by omega), h1.symm, hbW2⟩
        case measure => simp [intOf]; omega
    · obtain rfl : k = K.length := by omega
      go_wp2
      go_ret
      have hla' : lastL (reachC F L R) y (K.drop K.length) a = a := by rw [List.drop_length]; rfl
      exact ⟨ret_int (by rw [← hla, hla']), hbW⟩

theorem sreach_any (g : Nat) (F L R n x y : Int) (K : List (Int × Int)) (w : World) (hM : MayC F L R) (hy : U y) (hx : U x) (hn : n ≠ 0) (hK0 : K ≠ []) (hbig : K.length ≤ 1000000)
    (hK : ∀ k ∈ K, 0 ≤ k.1 ∧ k.1 ≤ 9223372036854775808 ∧ U k.2) (hs : SagAt w g F L R n x K) :
    Calls Tryz.prog 150 #[.pointer (some ⟨g, 0, none⟩), .int .u64 y] w fun e w' =>
      e = .returned (.int .u64 (lastAt (reachC F L R) y K x)) ∧ Below w.heap.size w w' := by
  have hal := (Below.refl w.heap.size w).alloc (Nat.le_refl _) (.cells #[.pointer (some ⟨g, 0, none⟩)] 97)
  have hs1 := hs.below hal
  have nb := Blk.new w 97 #[.pointer (some ⟨g, 0, none⟩)]
  have nl := nb.lt
  have cc := nb.cell 0
  simp only [List.getElem?_toArray, List.getElem?_cons_zero, List.getElem?_cons_succ] at cc
  have H := Lib.hid (And.intro hs1 (And.intro nl cc))
  clear hs hs1 nb
  go_enter Tryz.func150, Tryz.ntmps150
  go_wp2_with (go_at_call 153; refine (last_reach g w.heap.size F L R n x y K _ hM hy hx hn hK0 hbig hK H.out.1 H.out.2.1 H.out.2.2).mono ?_; rintro e w1 ⟨rfl, hb1⟩)
  go_ret
  exact ⟨rfl, hal.trans (hb1.mono hal.size)⟩

end Go.Proofs.YtbnnkkojlclgjaaGreat
/-
  When the line of a sagging run has so much: last, Ahead. (last_ahead is printed from XSagLast by wip/mkahead.py.)
-/
namespace Go.Proofs.YtbnnkkojlclgjaaGreat
set_option linter.unusedVariables false
open Go.RowKit

theorem ahead1_any (c : Nat) (R m : Int) (w : World) (h : MayC 0 0 R) (hm : U m) (hc : c < w.heap.size) (cc : w.cell? ⟨c, 0, none⟩ = some (.int .u64 R)) :
    Calls Tryz.prog 172 #[.int .u64 m, .pointer (some ⟨c, 0, none⟩)] w fun e w' => e = .returned (.int .u64 (reachC 0 0 R m)) ∧ Below w.heap.size w w' := by
  have hR : U R := ⟨h.r0, by have := h.r1; omega⟩
  have h0 : U 0 := ⟨by omega, by omega⟩
  go_enter Tryz.func172, Tryz.ntmps172
  go_wp2_with (go_at_call 155; refine (reach_any 0 0 R m _ h0 h0 hR (by omega) hm).mono ?_; rintro e w1 ⟨rfl, hb1⟩)
  go_ret
  exact ⟨rfl, hb1⟩

set_option maxRecDepth 20000 in
set_option maxHeartbeats 1000000 in
theorem last_ahead (g c : Nat) (F L R n x y : Int) (K : List (Int × Int)) (w : World) (hM : MayC 0 0 R) (hy : U y) (hx : U x) (hn : n ≠ 0) (hK0 : K ≠ []) (hbig : K.length ≤ 1000000)
    (hK : ∀ k ∈ K, 0 ≤ k.1 ∧ k.1 ≤ 9223372036854775808 ∧ U k.2) (hs : SagAt w g F L R n x K) (hc : c < w.heap.size) (cc : w.cell? ⟨c, 0, none⟩ = some (.int .u64 R)) :
    Calls Tryz.prog 153 #[.pointer (some ⟨g, 0, none⟩), .int .u64 y, .func (.func 172) #[] #[.pointer (some ⟨c, 0, none⟩)]] w fun e w' =>
      e = .returned (.int .u64 (lastAt (reachC 0 0 R) y K x)) ∧ Below w.heap.size w w' := by
  obtain ⟨v, hb, hrow⟩ := hs
  obtain ⟨b, cp, rfl, hgb, hbw, hcap, hcells⟩ := hrow.open_ hK0
  have hg := hb.lt
  have c4 := hb.cell 4; have c5 := hb.cell 5; have c6 := hb.cell 6
  have HB := Lib.hid hb; have HR := Lib.hid hcells; have HK := Lib.hid hK
  clear hb hrow hcells hK
  simp only [List.getElem?_toArray, List.getElem?_cons_zero, List.getElem?_cons_succ] at c4 c5 c6
  by_cases hy1 : 4611686018427387904 < y
  · have hl : lastAt (reachC 0 0 R) y K x = 9223372036854775808 := by unfold lastAt; rw [if_pos hy1]
    rw [hl]
    go_enter Tryz.func153, Tryz.ntmps153
    go_wp2_with (go_at_call 160; refine (snone_no _ _ _ hn c4).mono ?_; rintro e w' ⟨rfl, rfl⟩)
    go_ret
    exact ⟨rfl, Below.refl _ _⟩
  have hl : lastAt (reachC 0 0 R) y K x = lastL (reachC 0 0 R) y K x := by unfold lastAt; rw [if_neg hy1]
  rw [hl]
  have hy2 : y ≤ 4611686018427387904 := by omega
  go_enter Tryz.func153, Tryz.ntmps153
  go_wp2_with (go_at_call 160; refine (snone_no _ _ _ hn c4).mono ?_; rintro e w' ⟨rfl, rfl⟩)
  go_loopw [34, 7] (fun i o W => ∃ (k : Nat) (a : Int), k ≤ K.length ∧ i = .int .i64 k ∧ o = .int .u64 a ∧ lastL (reachC 0 0 R) y (K.drop k) a = lastL (reachC 0 0 R) y K x ∧ Below w.heap.size w W) (fun i _ _ => K.length - (intOf i).toNat)
  case atStart => exact ⟨0, x, by omega, rfl, rfl, by simp, Below.refl _ _⟩
  case round =>
    obtain ⟨k, a, hk, rfl, rfl, hla, hbW⟩ := hrel
    clear c4 c5 c6
    by_cases hlt : k < K.length
    · have hp : K[k]? = some K[k] := List.getElem?_eq_getElem hlt
      have hpm := HK.out _ (List.getElem_mem hlt)
      generalize K[k] = p at hp hpm
      obtain ⟨d0, d1⟩ := HR.out k p hp
      have e0 := (hbW.cell (p := ⟨b, k * 2, none⟩) hbw).trans d0
      have e1 := (hbW.cell (p := ⟨b, k * 2 + 1, none⟩) hbw).trans d1
      clear d0 d1
      have hld := lastL_drop (needs := reachC 0 0 R) (y := y) (a := a) hp
      rw [hla] at hld
      have hLD := Lib.hid hld
      clear hld hla
      have hcW : c < wr.heap.size := Nat.lt_of_lt_of_le hc hbW.size
      have hgW : g < wr.heap.size := Nat.lt_of_lt_of_le hg hbW.size
      have hal := (Below.refl wr.heap.size wr).alloc (Nat.le_refl _) (.cells #[.int .u64 p.1, .int .u64 p.2] 210)
      have nb := Blk.new wr 210 #[.int .u64 p.1, .int .u64 p.2]
      have nl := nb.lt
      have ccW := (hal.cell (p := ⟨c, 0, none⟩) hcW).trans ((hbW.cell (p := ⟨c, 0, none⟩) hc).trans cc)
      have hB := (HB.out.below hbW hg).below hal hgW
      have HF := Lib.hid (And.intro ccW (And.intro hB nb))
      have hcW1 := Nat.lt_of_lt_of_le hcW hal.size
      clear ccW hB nb
      have wd : IntKind.u64.wrap (9223372036854775808 - p.1) = 9223372036854775808 - p.1 := wrap_u (by unfold U; omega)
      have hrU := reachC_U hM (U_less (a := y) (b := p.2)).1 (show less y p.2 ≤ 4611686018427387904 by unfold less cap; omega)
      generalize hnn : reachC 0 0 R (less y p.2) = m at *
      go_wp2_with (first
        | (go_at_call 161; refine (minus_any _ _ _ hy hpm.2.2).mono ?_; rintro e w' ⟨rfl, rfl⟩)
        | (go_at_call 172; refine (ahead1_any c R _ _ hM U_less hcW1 HF.out.1).mono ?_; rintro e w2 ⟨rfl, hb2⟩; have n0 := (hb2.cell (p := ⟨wr.heap.size, 0, none⟩) nl).trans (HF.out.2.2.cell 0); simp only [List.getElem?_toArray, List.getElem?_cons_zero, List.getElem?_cons_succ] at n0))
      all_goals have hbW2 : Below w.heap.size w w2 := (hbW.trans (hal.mono hbW.size)).trans (hb2.mono (Nat.le_trans hbW.size hal.size))
      · go_ret
        have h1 := hLD.out
        rw [if_pos (by omega)] at h1
        exact ⟨ret_int h1.symm, hbW2⟩
      all_goals
        have h1 := hLD.out
        rw [if_neg (by omega)] at h1
        have hwm : p.1 + m < 18446744073709551616 → IntKind.u64.wrap (p.1 + m) = p.1 + m := fun h => wrap_u (by unfold U at *; omega)
        have hwm2 := hwm (by omega)
        simp only [hwm2] at *
        go_roundw
        case rel => exact ⟨k + 1, max a (p.1 + m), by omega, by go_num, val_int (by omega), h1.symm, hbW2⟩
        case measure => simp [intOf]; omega
    · obtain rfl : k = K.length := by omega
      go_wp2
      go_ret
      have hla' : lastL (reachC 0 0 R) y (K.drop K.length) a = a := by rw [List.drop_length]; rfl
      exact ⟨ret_int (by rw [← hla, hla']), hbW⟩


theorem sahead_any (g : Nat) (F L R n x y : Int) (K : List (Int × Int)) (w : World) (hM : MayC 0 0 R) (hy : U y) (hx : U x) (hn : n ≠ 0) (hK0 : K ≠ []) (hbig : K.length ≤ 1000000)
    (hK : ∀ k ∈ K, 0 ≤ k.1 ∧ k.1 ≤ 9223372036854775808 ∧ U k.2) (hs : SagAt w g F L R n x K) :
    Calls Tryz.prog 171 #[.pointer (some ⟨g, 0, none⟩), .int .u64 y] w fun e w' =>
      e = .returned (.int .u64 (lastAt (reachC 0 0 R) y K x)) ∧ Below w.heap.size w w' := by
  have hal := (Below.refl w.heap.size w).alloc (Nat.le_refl _) (.cells #[.int .u64 R] 23)
  have hs1 := hs.below hal
  have c2 : w.cell? ⟨g, 2, none⟩ = some (.int .u64 R) := by obtain ⟨v, hb, _⟩ := hs; exact hb.cell 2
  have hg : g < w.heap.size := by obtain ⟨v, hb, _⟩ := hs; exact hb.lt
  have nb := Blk.new w 23 #[.int .u64 R]
  have nl := nb.lt
  have cc := nb.cell 0
  simp only [List.getElem?_toArray, List.getElem?_cons_zero, List.getElem?_cons_succ] at cc
  have H := Lib.hid (And.intro hs1 (And.intro nl cc))
  clear hs hs1 nb
  go_enter Tryz.func171, Tryz.ntmps171
  go_wp2_with (go_at_call 153; refine (last_ahead g w.heap.size F L R n x y K _ hM hy hx hn hK0 hbig hK H.out.1 H.out.2.1 H.out.2.2).mono ?_; rintro e w1 ⟨rfl, hb1⟩)
  go_ret
  exact ⟨rfl, hal.trans (hb1.mono hal.size)⟩

end Go.Proofs.YtbnnkkojlclgjaaGreat
/-
  sagged.New: a run without copies of a curve that may be and is not bent; else nil and ErrCurve.
-/
namespace Go.Proofs.YtbnnkkojlclgjaaGreat
set_option linter.unusedVariables false
open Go.RowKit

set_option maxHeartbeats 1000000 in
theorem snew_ok (F L R : Int) (w : World) (hL : 0 ≤ L) (h1 : mayB F L R = true) (h2 : F ≤ R) :
    Calls Tryz.prog 45 #[.agg #[.int .u64 F, .int .u64 L, .int .u64 R]] w fun e w' =>
      ∃ g, e = .returned (.tuple #[.pointer (some ⟨g, 0, none⟩), .int .i64 0]) ∧ w.heap.size ≤ g ∧ SagAt w' g F L R 0 0 [] ∧ Below w.heap.size w w' := by
  have hal := (Below.refl w.heap.size w).alloc (Nat.le_refl _) (.cells #[.int .u64 F, .int .u64 L, .int .u64 R] 31)
  have nb := Blk.new w 31 #[.int .u64 F, .int .u64 L, .int .u64 R]
  have nl := nb.lt
  have HN := Lib.hid nb
  clear nb
  have hd : decide (R < F) = false := by simp; omega
  go_enter Tryz.func45, Tryz.ntmps45
  go_wp2_with (first
    | (go_at_call 16; refine (may_any F L R _ hL).mono ?_; rintro e w1 ⟨rfl, hb1⟩; have n1 := HN.out.below hb1 nl; have a0 := n1.cell 0; have a1 := n1.cell 1; have a2 := n1.cell 2; simp only [List.getElem?_toArray, List.getElem?_cons_zero, List.getElem?_cons_succ] at a0 a1 a2)
    | (go_at_call 75; refine (bent_any F L R _).mono ?_; rintro e w2 ⟨rfl, hb2⟩; have n2 := n1.below hb2 n1.lt; have b0 := n2.cell 0; have b1 := n2.cell 1; have b2 := n2.cell 2; simp only [List.getElem?_toArray, List.getElem?_cons_zero, List.getElem?_cons_succ] at b0 b1 b2))
  have hb3 : Below w.heap.size w w2 := (hal.trans (hb1.mono hal.size)).trans (hb2.mono (Nat.le_trans hal.size hb1.size))
  go_ret2
  exact ⟨w2.heap.size, rfl, hb3.size, ⟨_, Blk.new _ _ _, World.ownsRow_nil _ _ _ _⟩, hb3.alloc hb3.size _⟩

end Go.Proofs.YtbnnkkojlclgjaaGreat
/-
  A sagging run, from outside: what is asked of it, by the copies that started (A) and those that are kept (K).
-/
namespace Go.Proofs.YtbnnkkojlclgjaaGreat
set_option linter.unusedVariables false
open Go.RowKit

/-- a run in memory: the last copy started at x; A started, K are kept -/
structure Live (w : World) (g : Nat) (F L R x : Int) (K A : List (Int × Int)) : Prop where
  at_ : SagAt w g F L R A.length x K
  may : MayC F L R
  le : F ≤ R
  run : Run F L R x K A
  num : ∀ a ∈ A, 0 ≤ a.1 ∧ 0 ≤ a.2 ∧ a.2 ≤ 4611686018427387904
  x0 : 0 ≤ x
  x1 : x ≤ 9223372036854775808
  few : A.length ≤ 900000
  one : (∀ a ∈ A, L ≤ x - a.1) → K.length ≤ 1

section
variable {w w' : World} {g : Nat} {F L R x : Int} {K A : List (Int × Int)}

theorem Live.below (h : Live w g F L R x K A) (hb : Below w.heap.size w w') : Live w' g F L R x K A := ⟨h.at_.below hb, h.may, h.le, h.run, h.num, h.x0, h.x1, h.few, h.one⟩
theorem Live.lt (h : Live w g F L R x K A) : g < w.heap.size := by obtain ⟨v, hb, _⟩ := h.at_; exact hb.lt
theorem Live.sag (h : Live w g F L R x K A) : SagC F L R := ⟨h.may, .inr h.le⟩
theorem Live.uF (h : Live w g F L R x K A) : U F := ⟨h.may.f0, by have := h.may.f1; omega⟩
theorem Live.uR (h : Live w g F L R x K A) : U R := ⟨h.may.r0, by have := h.may.r1; omega⟩
theorem Live.uL (h : Live w g F L R x K A) : U L := ⟨h.may.l0, by have := h.may.l1; omega⟩
theorem Live.ux (h : Live w g F L R x K A) : U x := ⟨h.x0, by have := h.x1; omega⟩
theorem Live.kept (h : Live w g F L R x K A) : ∀ k ∈ K, 0 ≤ k.1 ∧ k.1 ≤ x ∧ U k.2 := fun k hk => by
  have h1 := h.run.sub.subset hk
  have h2 := h.num k h1
  exact ⟨h2.1, h.run.le k h1, h2.2.1, by omega⟩
theorem Live.kept' (h : Live w g F L R x K A) : ∀ k ∈ K, 0 ≤ k.1 ∧ k.1 ≤ 9223372036854775808 ∧ U k.2 := fun k hk => by
  have h1 := h.kept k hk; have h2 := h.x1
  exact ⟨h1.1, by omega, h1.2.2⟩
theorem Live.fewK (h : Live w g F L R x K A) : K.length ≤ 900000 := Nat.le_trans h.run.sub.length_le h.few
theorem Live.someK (h : Live w g F L R x K A) (hA : A ≠ []) : K ≠ [] := by
  have := (h.run.some hA).1
  rintro rfl
  simp at this
theorem Live.n0 (h : Live w g F L R x K A) (hA : A ≠ []) : (A.length : Int) ≠ 0 := by
  have := List.length_pos_iff.2 hA
  omega
theorem Live.none (h : Live w g F L R x K []) : NoneAt w (some ⟨g, 0, none⟩) := by
  obtain ⟨v, hb, _⟩ := h.at_
  exact .inr ⟨g, rfl, hb.lt, hb.cell 4⟩
theorem Live.rest (h : Live w g F L R x K A) : MayC 0 0 R := ⟨Int.le_refl _, by omega, h.may.r0, h.may.r1, Int.le_refl _, by omega, fun _ => rfl⟩

theorem live_new (w : World) (hF : 0 ≤ F) (hL : 0 ≤ L) (hR : 0 ≤ R) (h1 : mayB F L R = true) (h2 : F ≤ R) :
    Calls Tryz.prog 45 #[.agg #[.int .u64 F, .int .u64 L, .int .u64 R]] w fun e w' =>
      ∃ g, e = .returned (.tuple #[.pointer (some ⟨g, 0, none⟩), .int .i64 0]) ∧ w.heap.size ≤ g ∧ Live w' g F L R 0 [] [] ∧ Below w.heap.size w w' :=
  (snew_ok F L R w hL h1 h2).mono fun _ _ ⟨g, he, hg, hs, hb⟩ =>
    ⟨g, he, hg, ⟨hs, mayB_spec hF hL hR h1, h2, Run.nil F L R 0, by intro a ha; simp at ha, by omega, by omega, by simp, fun _ => by simp⟩, hb⟩

theorem live_start (h : Live w g F L R x K A) (t y X Y : Int) (ht : U t) (hy : U y) (hX : X = max (min t 9223372036854775808) x) (hY : Y = min y 4611686018427387904) (hfew : A.length < 900000) :
    Calls Tryz.prog 151 #[.pointer (some ⟨g, 0, none⟩), .int .u64 t, .int .u64 y] w fun e w' =>
      e = .returned (.tuple #[]) ∧ Live w' g F L R X (startK F L R X K (X, Y)) (A ++ [(X, Y)]) ∧ w.grownBy w' (some g) := by
  have hxX : x ≤ X := by omega
  have h0 := h.x0; have h1 := h.x1
  refine (sstart_any g F L R A.length x y t X Y K w hX hY h.ux ht hy (by omega) (by omega) h.fewK h.sag h.kept h.at_).mono fun e w' ⟨he, hs, hg⟩ => ⟨he, ?_, hg⟩
  refine ⟨?_, h.may, h.le, h.run.start h.sag hxX, fun a ha => ?_, by omega, by omega, by simp; omega, fun hall => ?_⟩
  · rw [List.length_append]
    exact hs
  · rcases List.mem_append.1 ha with ha | ha
    · exact h.num a ha
    · obtain rfl : a = (X, Y) := by simpa using ha
      unfold U at hy
      exact ⟨by simp only; omega, by simp only; omega, by simp only; omega⟩
  · refine start_one h.sag (fun o ho => hall o ?_) (hall (X, Y) (by simp))
    exact List.mem_append_left _ (h.run.sub.subset ho)

theorem Live.stay (h : Live w g F L R x K A) (g' : Nat) (hg : g' ≠ g) (hrow : g' ≤ g) (hw : w.grownBy w' (some g')) : Live w' g F L R x K A := by
  obtain ⟨v, hb, hr⟩ := h.at_
  refine ⟨⟨v, hb.grown hw (by simpa using Ne.symm hg), hr.kept hw ?_⟩, h.may, h.le, h.run, h.num, h.x0, h.x1, h.few, h.one⟩
  cases hv : v.ownBlock with
  | none => exact .inl rfl
  | some k =>
    have := (hr.lt k hv).1
    refine .inr fun he => ?_
    injection he with he
    omega

theorem live_reach (h : Live w g F L R x K A) (hA : A ≠ []) (y : Int) (hy : U y) :
    Calls Tryz.prog 150 #[.pointer (some ⟨g, 0, none⟩), .int .u64 y] w fun e w' =>
      e = .returned (.int .u64 (lastAt (reachC F L R) y K x)) ∧ Below w.heap.size w w' :=
  sreach_any g F L R A.length x y K w h.may hy h.ux (h.n0 hA) (h.someK hA) (Nat.le_trans h.fewK (by omega)) h.kept' h.at_
theorem live_ahead (h : Live w g F L R x K A) (hA : A ≠ []) (y : Int) (hy : U y) :
    Calls Tryz.prog 171 #[.pointer (some ⟨g, 0, none⟩), .int .u64 y] w fun e w' =>
      e = .returned (.int .u64 (lastAt (reachC 0 0 R) y K x)) ∧ Below w.heap.size w w' :=
  sahead_any g F L R A.length x y K w h.rest hy h.ux (h.n0 hA) (h.someK hA) (Nat.le_trans h.fewK (by omega)) h.kept' h.at_
end

end Go.Proofs.YtbnnkkojlclgjaaGreat
/-
  What is asked of a sagging run, in values that the caller names; the two answers 'Reach' and 'Ahead', told by what all copies have.
-/
namespace Go.Proofs.YtbnnkkojlclgjaaGreat
set_option linter.unusedVariables false
open Go.RowKit

section
variable {w : World} {g : Nat} {F L R x : Int} {K A : List (Int × Int)}
theorem live_reach' (h : Live w g F L R x K A) (hA : A ≠ []) (y n : Int) (hy : U y) (hn : lastAt (reachC F L R) y K x = n) :
    Calls Tryz.prog 150 #[.pointer (some ⟨g, 0, none⟩), .int .u64 y] w fun e w' => e = .returned (.int .u64 n) ∧ Below w.heap.size w w' := by
  rw [← hn]; exact live_reach h hA y hy
theorem live_ahead' (h : Live w g F L R x K A) (hA : A ≠ []) (y n : Int) (hy : U y) (hn : lastAt (reachC 0 0 R) y K x = n) :
    Calls Tryz.prog 171 #[.pointer (some ⟨g, 0, none⟩), .int .u64 y] w fun e w' => e = .returned (.int .u64 n) ∧ Below w.heap.size w w' := by
  rw [← hn]; exact live_ahead h hA y hy
end

theorem lastAt_le (needs : Int → Int) (y : Int) (K : List (Int × Int)) {s : Int} (hs : s ≤ 9223372036854775808) : lastAt needs y K s ≤ 9223372036854775808 := by
  unfold lastAt; split
  · exact Int.le_refl _
  · exact lastL_never needs y K s hs

theorem reach_first {F L R : Int} (h : MayC F L R) : ∀ m, 0 ≤ m → m ≤ 4611686018427387904 → FirstF (W F L R) m (reachC F L R m) := by
  intro m h0 h1
  rcases reachC_spec h h0 h1 with h2 | ⟨h2, _, h3, h4⟩
  · exact .inl h2
  · exact .inr ⟨h2, h3, h4⟩

theorem W_line (R t : Int) (ht : 0 ≤ t) : W 0 0 R t = R * t := by
  unfold W; rw [Int.min_eq_right ht]; simp

theorem reach_mono {F L R m : Int} (h : MayC F L R) (hs : F ≤ R) (h0 : 0 ≤ m) (h1 : m ≤ 4611686018427387904) : reachC 0 0 R m ≤ reachC F L R m := by
  have hr : MayC 0 0 R := ⟨Int.le_refl _, by omega, h.r0, h.r1, Int.le_refl _, by omega, fun _ => rfl⟩
  rcases reach_first h m h0 h1 with ⟨e, _⟩ | ⟨a0, a1, _⟩
  · rw [e]
    rcases reach_first hr m h0 h1 with ⟨e2, _⟩ | ⟨b0, b1, b2⟩
    · omega
    · rcases reachC_spec hr h0 h1 with ⟨e3, _⟩ | ⟨_, b3, _⟩ <;> omega
  · rcases reach_first hr m h0 h1 with ⟨e2, b2⟩ | ⟨b0, b1, b2⟩
    · exfalso
      have h4 := b2 (reachC F L R m) a0
      have hg := gap_nonneg (F := F) (L := L) (R := R) ⟨h, .inr hs⟩ a0
      have := W_gap F L R (reachC F L R m)
      rw [W_line _ _ a0] at h4
      omega
    · rcases Int.lt_or_le (reachC F L R m) (reachC 0 0 R m) with h3 | h3
      · exfalso
        have h4 := b2 (reachC F L R m) a0 h3
        have hg := gap_nonneg (F := F) (L := L) (R := R) ⟨h, .inr hs⟩ a0
        have := W_gap F L R (reachC F L R m)
        rw [W_line _ _ a0] at h4
        omega
      · exact h3

/-- the two answers, told by what all copies have -/
theorem live_back {w : World} {g : Nat} {F L R x y : Int} {K A : List (Int × Int)} (h : Live w g F L R x K A) (hA : A ≠ []) :
    Back (fun t => minF (atK F L R (max t x)) 4611686018427387904 A) x y (lastAt (reachC F L R) y K x) ∧
    Back (fun t => minF (linK R (max t x)) 4611686018427387904 A) x y (lastAt (reachC 0 0 R) y K x) ∧
    lastAt (reachC 0 0 R) y K x ≤ lastAt (reachC F L R) y K x := by
  have hrun := fun t (ht : x ≤ t) => h.run.least (t := t) (fun a ha => (h.num a ha).2.1) ht
  have hk : ∀ k ∈ K, 0 ≤ k.1 ∧ k.1 ≤ x ∧ 0 ≤ k.2 := fun k hk => by have := h.kept k hk; exact ⟨this.1, this.2.1, this.2.2.1⟩
  refine ⟨?_, ?_, ?_⟩
  · refine Back.of h.x1 (lastAt_le _ _ _ h.x1) (back_any (y := y) (f := W F L R) (fun t => minF (atK F L R (max t x)) 4611686018427387904 A) (reach_first h.may) (fun t ht => W_nonneg h.may.f0 h.may.r0 h.may.l0 ht) (fun t u _ htu => W_mono h.may.f0 h.may.r0 htu) hk h.x1 ?_ ?_ ?_)
    · intro t; exact minF_le_start _ _ _
    · intro t ht k hkK
      simp only [Int.max_eq_left ht]; rw [← (hrun t ht).1]
      refine Int.le_trans (minF_le _ K _ k hkK) ?_
      rw [atK_has (hk k hkK).2.2]
      exact cap_le_self _
    · intro t ht hy hall
      simp only [Int.max_eq_left ht]; rw [← (hrun t ht).1]
      refine le_minF _ _ K _ hy fun k hkK => ?_
      rw [atK_has (hk k hkK).2.2]
      have := hall k hkK
      unfold hasK cap; split <;> omega
  · refine Back.of h.x1 (lastAt_le _ _ _ h.x1) (back_any (y := y) (f := W 0 0 R) (fun t => minF (linK R (max t x)) 4611686018427387904 A) (reach_first h.rest) (fun t ht => W_nonneg (by omega) h.may.r0 (by omega) ht) (fun t u _ htu => W_mono (by omega) h.may.r0 htu) hk h.x1 ?_ ?_ ?_)
    · intro t; exact minF_le_start _ _ _
    · intro t ht k hkK
      simp only [Int.max_eq_left ht]; rw [← (hrun t ht).2]
      refine Int.le_trans (minF_le _ K _ k hkK) ?_
      rw [linK_line (hk k hkK).2.2, W_line _ _ (by have := hk k hkK; omega)]
      exact cap_le_self _
    · intro t ht hy hall
      simp only [Int.max_eq_left ht]; rw [← (hrun t ht).2]
      refine le_minF _ _ K _ hy fun k hkK => ?_
      rw [linK_line (hk k hkK).2.2]
      have := hall k hkK
      rw [W_line _ _ (by have := hk k hkK; omega)] at this
      unfold lineK cap; split <;> omega
  · unfold lastAt
    split
    · exact Int.le_refl _
    · exact lastL_le (fun m h0 h1 => reach_mono h.may h.le h0 h1) K x x (Int.le_refl _) h.x1


end Go.Proofs.YtbnnkkojlclgjaaGreat
/-
  The contracts of a run that nobody made: a nil one, or a zero one.
-/
namespace Go.Proofs.YtbnnkkojlclgjaaGreat
set_option linter.unusedVariables false
open Go.RowKit

/-- p leads to a run that nobody made -/
def RNone (w : World) (p : Option Addr) : Prop := p = none ∨ ∃ g, p = some ⟨g, 0, none⟩ ∧ Blk w g 96 #[.int .u64 0, .int .u64 0, .int .u64 0, .nilIface]

theorem RNone.below {w w' : World} {p : Option Addr} (h : RNone w p) (hb : Below w.heap.size w w') : RNone w' p := by
  rcases h with rfl | ⟨g, rfl, hg⟩
  · exact .inl rfl
  · exact .inr ⟨g, rfl, hg.below hb hg.lt⟩

abbrev nilSags : Value := .iface 101 (.agg #[.pointer none])

theorem of_none' (p : Option Addr) (w : World) (h : RNone w p) :
    Calls Tryz.prog 46 #[.pointer p] w fun e w' => e = .returned nilSags ∧ w = w' := by
  rcases h with rfl | ⟨g, rfl, hg⟩
  · go_enter Tryz.func46, Tryz.ntmps46
    go_wp2
    go_ret
    exact ⟨rfl, rfl⟩
  · have c3 := hg.cell 3
    simp only [List.getElem?_toArray, List.getElem?_cons_zero, List.getElem?_cons_succ] at c3
    go_enter Tryz.func46, Tryz.ntmps46
    go_wp2
    all_goals go_ret
    all_goals exact ⟨rfl, rfl⟩

theorem seligible_nil (y : Int) (w : World) :
    Calls Tryz.prog 169 #[.agg #[.pointer none], .int .u64 y] w fun e w' => e = .returned (.int .u64 (nev y)) ∧ Below w.heap.size w w' := by
  go_enter Tryz.func169, Tryz.ntmps169
  go_wp2_with (go_at_call 171; refine (sahead_none _ _ _ (.inl rfl) (fun g h => by cases h)).mono ?_; rintro e w1 ⟨rfl, hb1⟩)
  go_ret
  exact ⟨rfl, ((Below.refl _ _).alloc (Nat.le_refl _) _).trans (hb1.mono (by simp))⟩

theorem rreach_none (p : Option Addr) (y : Int) (w : World) (h : RNone w p) :
    Calls Tryz.prog 50 #[.pointer p, .int .u64 y] w fun e w' => e = .returned (.int .u64 (nev y)) ∧ Below w.heap.size w w' := by
  go_enter Tryz.func50, Tryz.ntmps50
  go_wp2_with (first
    | (go_at_call 46; refine (of_none' _ _ h).mono ?_; rintro e w' ⟨rfl, rfl⟩)
    | (go_at_call 150; refine (sreach_none _ _ _ (.inl rfl)).mono ?_; rintro e w1 ⟨rfl, hb1⟩))
  go_ret
  exact ⟨rfl, hb1⟩

theorem religible_none (p : Option Addr) (y : Int) (w : World) (h : RNone w p) :
    Calls Tryz.prog 48 #[.pointer p, .int .u64 y] w fun e w' => e = .returned (.int .u64 (nev y)) ∧ Below w.heap.size w w' := by
  go_enter Tryz.func48, Tryz.ntmps48
  go_wp2_with (first
    | (go_at_call 46; refine (of_none' _ _ h).mono ?_; rintro e w' ⟨rfl, rfl⟩)
    | (go_at_call 169; refine (seligible_nil _ _).mono ?_; rintro e w1 ⟨rfl, hb1⟩))
  go_ret
  exact ⟨rfl, hb1⟩

theorem rstart_none (p : Option Addr) (x y : Int) (w : World) (h : RNone w p) :
    Calls Tryz.prog 21 #[.pointer p, .int .u64 x, .int .u64 y] w fun e w' => e = .returned (.tuple #[]) ∧ w = w' := by
  go_enter Tryz.func21, Tryz.ntmps21
  go_wp2_with (first
    | (go_at_call 46; refine (of_none' _ _ h).mono ?_; rintro e w' ⟨rfl, rfl⟩)
    | (go_at_call 151; refine (sstart_nil _ _ _).mono ?_; rintro e w' ⟨rfl, rfl⟩))
  go_returns
  exact ⟨rfl, rfl⟩

end Go.Proofs.YtbnnkkojlclgjaaGreat
/-
  A run of a curve of either kind: a bent one's two lines, or a sagging one's copies, behind an interface.
-/
namespace Go.Proofs.YtbnnkkojlclgjaaGreat
set_option linter.unusedVariables false
open Go.RowKit

abbrev ifB (g : Nat) : Value := .iface 92 (.agg #[.pointer (some ⟨g, 0, none⟩)])
abbrev ifS (g : Nat) : Value := .iface 101 (.agg #[.pointer (some ⟨g, 0, none⟩)])

def RunB (w : World) (r g : Nat) (F L R x : Int) (A : List (Int × Int)) : Prop :=
  Blk w r 96 #[.int .u64 F, .int .u64 L, .int .u64 R, ifB g] ∧ BentAt w g F L R x A ∧ g < r
def RunS (w : World) (r g : Nat) (F L R x : Int) (A : List (Int × Int)) : Prop :=
  Blk w r 96 #[.int .u64 F, .int .u64 L, .int .u64 R, ifS g] ∧ (∃ K, Live w g F L R x K A) ∧ g < r
/-- a run in memory, of the curve F, L, R: A started, the last one at x -/
def RunAt (w : World) (r g : Nat) (F L R x : Int) (A : List (Int × Int)) : Prop := RunB w r g F L R x A ∨ RunS w r g F L R x A

section
variable {w w' : World} {r g : Nat} {F L R x : Int} {A : List (Int × Int)}

theorem RunB.below (h : RunB w r g F L R x A) (hb : Below w.heap.size w w') : RunB w' r g F L R x A := ⟨h.1.below hb h.1.lt, h.2.1.below hb, h.2.2⟩
theorem RunS.below (h : RunS w r g F L R x A) (hb : Below w.heap.size w w') : RunS w' r g F L R x A := ⟨h.1.below hb h.1.lt, by obtain ⟨K, hK⟩ := h.2.1; exact ⟨K, hK.below hb⟩, h.2.2⟩
theorem RunAt.below (h : RunAt w r g F L R x A) (hb : Below w.heap.size w w') : RunAt w' r g F L R x A := by
  rcases h with h | h
  · exact .inl (h.below hb)
  · exact .inr (h.below hb)
theorem RunAt.lt (h : RunAt w r g F L R x A) : g < r ∧ r < w.heap.size := by
  rcases h with h | h
  · exact ⟨h.2.2, h.1.lt⟩
  · exact ⟨h.2.2, h.1.lt⟩
theorem RunAt.may (h : RunAt w r g F L R x A) : MayC F L R := by
  rcases h with h | ⟨_, ⟨K, hK⟩, _⟩
  · exact h.2.1.may
  · exact hK.may
theorem RunAt.num (h : RunAt w r g F L R x A) : (∀ a ∈ A, a.1 ≤ x ∧ 0 ≤ a.2) ∧ 0 ≤ x ∧ x ≤ 9223372036854775808 := by
  rcases h with h | ⟨_, ⟨K, hK⟩, _⟩
  · exact ⟨h.2.1.low, h.2.1.x0, h.2.1.x1⟩
  · exact ⟨fun a ha => ⟨hK.run.le a ha, (hK.num a ha).2.1⟩, hK.x0, hK.x1⟩

theorem of_bent (h : RunB w r g F L R x A) : Calls Tryz.prog 46 #[.pointer (some ⟨r, 0, none⟩)] w fun e w' => e = .returned (ifB g) ∧ w = w' := by
  have c3 := h.1.cell 3
  simp only [List.getElem?_toArray, List.getElem?_cons_zero, List.getElem?_cons_succ] at c3
  clear h
  go_enter Tryz.func46, Tryz.ntmps46
  go_wp2
  all_goals go_ret
  all_goals exact ⟨rfl, rfl⟩
theorem of_sag (h : RunS w r g F L R x A) : Calls Tryz.prog 46 #[.pointer (some ⟨r, 0, none⟩)] w fun e w' => e = .returned (ifS g) ∧ w = w' := by
  have c3 := h.1.cell 3
  simp only [List.getElem?_toArray, List.getElem?_cons_zero, List.getElem?_cons_succ] at c3
  clear h
  go_enter Tryz.func46, Tryz.ntmps46
  go_wp2
  all_goals go_ret
  all_goals exact ⟨rfl, rfl⟩

theorem run_start (h : RunAt w r g F L R x A) (t y X Y : Int) (ht : U t) (hy : U y) (hX : X = max (min t 9223372036854775808) x) (hY : Y = min y 4611686018427387904) (hfew : A.length < 900000) :
    Calls Tryz.prog 21 #[.pointer (some ⟨r, 0, none⟩), .int .u64 t, .int .u64 y] w fun e w' =>
      e = .returned (.tuple #[]) ∧ RunAt w' r g F L R X (A ++ [(X, Y)]) ∧ w.grownBy w' (some g) := by
  rcases h with h | h
  · have HH := Lib.hid h; have HX := Lib.hid hX; have HY := Lib.hid hY; clear h hX hY
    go_enter Tryz.func21, Tryz.ntmps21
    go_wp2_with (first
      | (go_at_call 46; refine (of_bent HH.out).mono ?_; rintro e w' ⟨rfl, rfl⟩)
      | (go_at_call 129; refine (bent_start HH.out.2.1 t y X Y ht hy HX.out HY.out hfew).mono ?_; rintro e w1 ⟨rfl, hb1, hg1⟩; have HB1 := Lib.hid hb1; clear hb1))
    go_returns
    exact ⟨rfl, .inl ⟨HH.out.1.grown hg1 (by have := HH.out.2.2; simp; omega), HB1.out, HH.out.2.2⟩, hg1⟩
  · obtain ⟨hB, ⟨K, hK⟩, hlt⟩ := h
    have HH := Lib.hid (show RunS w r g F L R x A from ⟨hB, ⟨K, hK⟩, hlt⟩); have HK := Lib.hid hK; have HX := Lib.hid hX; have HY := Lib.hid hY; clear hB hK hX hY
    go_enter Tryz.func21, Tryz.ntmps21
    go_wp2_with (first
      | (go_at_call 46; refine (of_sag HH.out).mono ?_; rintro e w' ⟨rfl, rfl⟩)
      | (go_at_call 151; refine (live_start HK.out t y X Y ht hy HX.out HY.out hfew).mono ?_; rintro e w1 ⟨rfl, hb1, hg1⟩; have HB1 := Lib.hid hb1; clear hb1))
    go_returns
    exact ⟨rfl, .inr ⟨HH.out.1.grown hg1 (by simp; omega), ⟨_, HB1.out⟩, hlt⟩, hg1⟩

end

end Go.Proofs.YtbnnkkojlclgjaaGreat
