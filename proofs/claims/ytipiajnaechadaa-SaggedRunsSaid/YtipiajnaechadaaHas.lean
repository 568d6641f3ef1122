/-
  The contracts of a sagging run's has and line: what a copy has at a tick, and its line, without an end.
-/
import Derived.Test.YtipiajnaechadaaCurves
import Derived.Test.YtipiajnaechadaaRegA
namespace Go.Proofs.Ytipiajnaechadaa
set_option linter.unusedVariables false
open Go.RowKit
attribute [local go_sem] quietR quietAtR quietUponR plain plainUpon

theorem mul_bd {a t A T : Int} (ha : 0 ≤ a) (hA : a ≤ A) (ht : 0 ≤ t) (hT : t ≤ T) : 0 ≤ a * t ∧ a * t ≤ A * T :=
  ⟨Int.mul_nonneg ha ht, Int.mul_le_mul hA hT ht (Int.le_trans ha hA)⟩

theorem line_any (g : Nat) (F L R x y t : Int) (w : World) (hR : U R) (hR1 : R ≤ 1048576) (hx : 0 ≤ x) (hxt : x ≤ t) (ht : U t) (hy : U y) (hg : g < w.heap.size) (c2 : w.cell? ⟨g, 2, none⟩ = some (.int .u64 R)) :
    Calls Try.prog 66 #[.pointer (some ⟨g, 0, none⟩), .agg #[.int .u64 x, .int .u64 y], .int .u64 t] w fun e w' =>
      e = .returned (.agg #[.int .u64 (hiW (R * (t - x) + y)), .int .u64 (loW (R * (t - x) + y))]) ∧ Below w.heap.size w w' := by
  have wd : IntKind.u64.wrap (t - x) = t - x := wrap_u (by unfold U at *; omega)
  have ud : U (t - x) := by unfold U at *; omega
  have mb := mul_bd hR.1 hR1 ud.1 ud.2
  have nm : num (hiW (R * (t - x))) (loW (R * (t - x))) + num 0 y = R * (t - x) + y := by rw [num_words]; simp [num]
  have h1 := U_hi (n := R * (t - x)) mb.1 (by omega)
  have h2 := U_lo (R * (t - x))
  have hs : num (hiW (R * (t - x))) (loW (R * (t - x))) + num 0 y < 340282366920938463463374607431768211456 := by rw [nm]; unfold U at hy; omega
  have NM := Lib.hid nm
  have U0 : U (0 : Int) := ⟨by decide, by decide⟩
  clear nm mb
  go_enter Try.func66, Try.ntmps66
  go_wp2
  obtain ⟨W0, hW0⟩ : ∃ W0, (w.alloc (.cells #[.int .u64 x, .int .u64 y] 94)).alloc (.cells #[.int .u64 0, .int .u64 0] 99) = W0 := ⟨_, rfl⟩
  have bX : Blk W0 w.heap.size 94 #[.int .u64 x, .int .u64 y] := by rw [← hW0]; exact (Blk.new w _ _).alloc _
  have bO : Blk W0 (w.heap.size + 1) 99 #[.int .u64 0, .int .u64 0] := by rw [← hW0]; have h := Blk.new (w.alloc (.cells #[.int .u64 x, .int .u64 y] 94)) 99 #[.int .u64 0, .int .u64 0]; simpa using h
  have hb0 : Below w.heap.size w W0 := by rw [← hW0]; go_grown
  have c2' := (hb0.cell (p := ⟨g, 2, none⟩) hg).trans c2
  have hg' : g < W0.heap.size := Nat.lt_of_lt_of_le hg hb0.size
  rw [hW0]
  clear hW0
  have o2 := fun e => (over_cell (w := W0) (e := e) (o := 2) hg').trans c2'
  have ox := fun e => (over_cell (w := W0) (e := e) (o := 0) bX.lt).trans (bX.cell 0)
  have oy := fun e => (over_cell (w := W0) (e := e) (o := 1) bX.lt).trans (bX.cell 1)
  simp only [List.getElem?_toArray, List.getElem?_cons_zero, List.getElem?_cons_succ] at ox oy
  refine wp_region_alloc (w := W0) 17 _ _ 7 (.cells #[.int .u64 0, .int .u64 0] 99) (by kernel_rfl) rfl rfl rfl (fun _ _ => by kernel_rfl) (by kernel_rfl) ?_
  simp only [List.take_succ_cons, List.take_zero, List.drop_succ_cons, List.drop_zero]
  repeat (refine wpQuietR_step (fun K hK => ?_); go_simp; first | (refine hK _ ?_; clear hK K) | (apply Exists.intro; refine ⟨fun _ => ?_, hK _ ?_⟩; (first | (go_at_call 80; exact mul_any _ _ _ hR ud) | (go_at_call 81; exact plus_any _ _ _ _ _ h1 h2 U0 hy hs)); clear hK K))

  refine wpQuietR_nil ?_
  intro B W1 hB hb1 hO
  have bN : Blk W1 B 99 #[.int .u64 0, .int .u64 0] := hO
  have n0 := bN.cell 0; have n1 := bN.cell 1; have f0 := bN.frozen 0; have f1 := bN.frozen 1
  simp only [List.getElem?_toArray, List.getElem?_cons_zero, List.getElem?_cons_succ] at n0 n1
  go_simp
  rw [NM.out]
  have bN2 := (bN.set_ 0 (.int .u64 (hiW (R * (t - x) + y)))).set_ 1 (.int .u64 (loW (R * (t - x) + y)))
  have hb2 : Below W0.heap.size W0 ((W1.setCell ⟨B, 0, none⟩ (.int .u64 (hiW (R * (t - x) + y)))).setCell ⟨B, 1, none⟩ (.int .u64 (loW (R * (t - x) + y)))) := (hb1.setCell hB _).setCell hB _
  refine ⟨hb2, ?_⟩
  obtain ⟨W2, hW2⟩ : ∃ W2, (W1.setCell ⟨B, 0, none⟩ (.int .u64 (hiW (R * (t - x) + y)))).setCell ⟨B, 1, none⟩ (.int .u64 (loW (R * (t - x) + y))) = W2 := ⟨_, rfl⟩
  rw [hW2] at bN2 hb2 ⊢
  clear hW2 n0 n1 f0 f1 o2 ox oy bN
  have m0 := bN2.cell 0; have m1 := bN2.cell 1
  simp at m0 m1
  have bO2 := bO.below hb2 bO.lt
  have p0 := bO2.cell 0; have p1 := bO2.cell 1; have g0 := bO2.frozen 0; have g1 := bO2.frozen 1
  simp only [List.getElem?_toArray, List.getElem?_cons_zero, List.getElem?_cons_succ] at p0 p1
  generalize hhi : hiW (R * (t - x) + y) = hi at *
  generalize hlo : loW (R * (t - x) + y) = lo at *
  have HHI := Lib.hid hhi; have HLO := Lib.hid hlo; clear hhi hlo
  go_wp2
  have r0 := ((bO2.set_ 0 (.int .u64 hi)).set_ 1 (.int .u64 lo)).cell 0
  have r1 := ((bO2.set_ 0 (.int .u64 hi)).set_ 1 (.int .u64 lo)).cell 1
  simp at r0 r1
  refine bodyPost_ret (v := .agg #[.int .u64 hi, .int .u64 lo]) (by simp [results, Try.results66, go_sem, r0, r1]) rfl ⟨by rw [HHI.out, HLO.out], ?_⟩
  exact (((hb0.trans (hb2.mono hb0.size)).setCell (by simp) _).setCell (by simp) _)


theorem has_any (g : Nat) (F L R x y t n : Int) (w : World) (hF : U F) (hF1 : F ≤ 1048576) (hR : U R) (hR1 : R ≤ 1048576) (hL : U L) (hx : 0 ≤ x) (hxt : x ≤ t) (ht : U t) (hy : U y) (hn : n = min (t - x) L) (hg : g < w.heap.size)
    (c0 : w.cell? ⟨g, 0, none⟩ = some (.int .u64 F)) (c1 : w.cell? ⟨g, 1, none⟩ = some (.int .u64 L)) (c2 : w.cell? ⟨g, 2, none⟩ = some (.int .u64 R)) :
    Calls Try.prog 64 #[.pointer (some ⟨g, 0, none⟩), .agg #[.int .u64 x, .int .u64 y], .int .u64 t] w fun e w' =>
      e = .returned (.agg #[.int .u64 (hiW (F * n + R * (t - x - n) + y)), .int .u64 (loW (F * n + R * (t - x - n) + y))]) ∧ Below w.heap.size w w' := by
  have wd : IntKind.u64.wrap (t - x) = t - x := wrap_u (by unfold U at *; omega)
  have wn : IntKind.u64.wrap (t - x - n) = t - x - n := wrap_u (by unfold U at *; omega)
  have un : U n := by unfold U at *; omega
  have ud : U (t - x - n) := by unfold U at *; omega
  have mb := mul_bd hF.1 hF1 un.1 un.2
  have mc := mul_bd hR.1 hR1 ud.1 ud.2
  have h1 := U_hi (n := F * n) mb.1 (by omega)
  have h2 := U_lo (F * n)
  have h3 := U_hi (n := R * (t - x - n)) mc.1 (by omega)
  have h4 := U_lo (R * (t - x - n))
  have nm : num (hiW (F * n)) (loW (F * n)) + num (hiW (R * (t - x - n))) (loW (R * (t - x - n))) = F * n + R * (t - x - n) := by rw [num_words, num_words]
  have hs1 : num (hiW (F * n)) (loW (F * n)) + num (hiW (R * (t - x - n))) (loW (R * (t - x - n))) < 340282366920938463463374607431768211456 := by rw [nm]; omega
  have h5 := U_hi (n := F * n + R * (t - x - n)) (by omega) (by omega)
  have h6 := U_lo (F * n + R * (t - x - n))
  have nm2 : num (hiW (F * n + R * (t - x - n))) (loW (F * n + R * (t - x - n))) + num 0 y = F * n + R * (t - x - n) + y := by rw [num_words]; simp [num]
  have hs2 : num (hiW (F * n + R * (t - x - n))) (loW (F * n + R * (t - x - n))) + num 0 y < 340282366920938463463374607431768211456 := by rw [nm2]; unfold U at hy; omega
  have NM := Lib.hid nm; have NM2 := Lib.hid nm2
  have U0 : U (0 : Int) := ⟨by decide, by decide⟩
  clear nm nm2 mb mc
  have hn' : (if L < t - x then L else t - x) = n := by rw [hn]; omega
  clear hn
  go_enter Try.func64, Try.ntmps64
  go_wp2
  obtain ⟨W0, hW0⟩ : ∃ W0, (w.alloc (.cells #[.int .u64 x, .int .u64 y] 94)).alloc (.cells #[.int .u64 0, .int .u64 0] 99) = W0 := ⟨_, rfl⟩
  have bX : Blk W0 w.heap.size 94 #[.int .u64 x, .int .u64 y] := by rw [← hW0]; exact (Blk.new w _ _).alloc _
  have bO : Blk W0 (w.heap.size + 1) 99 #[.int .u64 0, .int .u64 0] := by rw [← hW0]; have h := Blk.new (w.alloc (.cells #[.int .u64 x, .int .u64 y] 94)) 99 #[.int .u64 0, .int .u64 0]; simpa using h
  have hb0 : Below w.heap.size w W0 := by rw [← hW0]; go_grown
  have c0' := (hb0.cell (p := ⟨g, 0, none⟩) hg).trans c0
  have c1' := (hb0.cell (p := ⟨g, 1, none⟩) hg).trans c1
  have c2' := (hb0.cell (p := ⟨g, 2, none⟩) hg).trans c2
  have hg' : g < W0.heap.size := Nat.lt_of_lt_of_le hg hb0.size
  rw [hW0]
  clear hW0 c0 c1 c2
  have ex := bX.cell 0; have ey := bX.cell 1
  simp only [List.getElem?_toArray, List.getElem?_cons_zero, List.getElem?_cons_succ] at ex ey
  go_quiet (fail)
  go_wp2
  clear ex ey hn'
  obtain ⟨W1, hW1⟩ : ∃ W1, W0.drewN nq = W1 := ⟨_, rfl⟩
  have bX1 : Blk W1 w.heap.size 94 #[.int .u64 x, .int .u64 y] := by rw [← hW1]; exact bX.drewN _
  have bO1 : Blk W1 (w.heap.size + 1) 99 #[.int .u64 0, .int .u64 0] := by rw [← hW1]; exact bO.drewN _
  have hb1 : Below w.heap.size w W1 := by rw [← hW1]; exact below_drewN hb0 _
  have hg1 : g < W1.heap.size := by rw [← hW1]; exact hg'
  have d0 : W1.cell? ⟨g, 0, none⟩ = some (.int .u64 F) := by rw [← hW1]; exact c0'
  have d2 : W1.cell? ⟨g, 2, none⟩ = some (.int .u64 R) := by rw [← hW1]; exact c2'
  rw [hW1]
  clear hW1 c0' c1' c2' bX bO hb0 hg' W0
  have o0 := fun e => (over_cell (w := W1) (e := e) (o := 0) hg1).trans d0
  have o2 := fun e => (over_cell (w := W1) (e := e) (o := 2) hg1).trans d2
  have ox := fun e => (over_cell (w := W1) (e := e) (o := 0) bX1.lt).trans (bX1.cell 0)
  simp only [List.getElem?_toArray, List.getElem?_cons_zero, List.getElem?_cons_succ] at ox
  clear d0 d2
  refine wp_region_alloc (w := W1) 23 _ _ 8 (.cells #[.int .u64 0, .int .u64 0] 99) (by kernel_rfl) rfl rfl rfl (fun _ _ => by kernel_rfl) (by kernel_rfl) ?_
  simp only [List.take_succ_cons, List.take_zero, List.drop_succ_cons, List.drop_zero]
  repeat (refine wpQuietR_step (fun K hK => ?_); go_simp; first | (refine hK _ ?_; clear hK K) | (apply Exists.intro; refine ⟨fun _ => ?_, hK _ ?_⟩; (first | (go_at_call 80; first | exact mul_any _ _ _ hF un | exact mul_any _ _ _ hR ud) | (go_at_call 81; exact plus_any _ _ _ _ _ h1 h2 h3 h4 hs1)); clear hK K))
  refine wpQuietR_nil ?_
  intro B W2 hB hb2 hO
  have bN : Blk W2 B 99 #[.int .u64 0, .int .u64 0] := hO
  have n0 := bN.cell 0; have n1 := bN.cell 1; have f0 := bN.frozen 0; have f1 := bN.frozen 1
  simp only [List.getElem?_toArray, List.getElem?_cons_zero, List.getElem?_cons_succ] at n0 n1
  go_simp
  rw [NM.out]
  have bN2 := (bN.set_ 0 (.int .u64 (hiW (F * n + R * (t - x - n))))).set_ 1 (.int .u64 (loW (F * n + R * (t - x - n))))
  have hb3 : Below W1.heap.size W1 ((W2.setCell ⟨B, 0, none⟩ (.int .u64 (hiW (F * n + R * (t - x - n))))).setCell ⟨B, 1, none⟩ (.int .u64 (loW (F * n + R * (t - x - n))))) := (hb2.setCell hB _).setCell hB _
  refine ⟨hb3, ?_⟩
  obtain ⟨W3, hW3⟩ : ∃ W3, (W2.setCell ⟨B, 0, none⟩ (.int .u64 (hiW (F * n + R * (t - x - n))))).setCell ⟨B, 1, none⟩ (.int .u64 (loW (F * n + R * (t - x - n)))) = W3 := ⟨_, rfl⟩
  rw [hW3] at bN2 hb3 ⊢
  clear hW3 n0 n1 f0 f1 o0 o2 ox bN
  have hBne : ¬ B = w.heap.size + 1 := by have := bO1.lt; omega
  have hBne' : ¬ w.heap.size + 1 = B := by have := bO1.lt; omega
  have m0 := bN2.cell 0; have m1 := bN2.cell 1; have f0 := bN2.frozen 0; have f1 := bN2.frozen 1
  simp at m0 m1
  have bX3 := bX1.below hb3 bX1.lt
  have bO3 := bO1.below hb3 bO1.lt
  have y0 := bX3.cell 1
  simp only [List.getElem?_toArray, List.getElem?_cons_zero, List.getElem?_cons_succ] at y0
  have hBlt := bN2.lt
  have hblt := bO3.lt
  generalize hiW (F * n + R * (t - x - n)) = hi at *
  generalize loW (F * n + R * (t - x - n)) = lo at *
  go_wp2_with (go_at_call 81; refine (plus_any _ _ _ _ _ h5 h6 U0 hy hs2).mono ?_; rintro e W4 ⟨rfl, hb4⟩; have bN4 := bN2.below hb4 hBlt; have bO4 := bO3.below hb4 hblt; have k0 := bN4.cell 0; have k1 := bN4.cell 1; have j0 := bN4.frozen 0; have j1 := bN4.frozen 1; have q0 := bO4.cell 0; have q1 := bO4.cell 1; have i0 := bO4.frozen 0; have i1 := bO4.frozen 1; simp only [List.getElem?_toArray, List.getElem?_cons_zero, List.getElem?_cons_succ, List.setIfInBounds_toArray, List.set_cons_zero, List.set_cons_succ] at k0 k1 q0 q1)
  rw [NM2.out]
  have bO5 := ((bO4.far (p := ⟨B, 0, none⟩) hBne' (.int .u64 (hiW (F * n + R * (t - x - n) + y)))).far (p := ⟨B, 1, none⟩) hBne' (.int .u64 (loW (F * n + R * (t - x - n) + y))))
  have bO6 := (bO5.set_ 0 (.int .u64 (hiW (F * n + R * (t - x - n) + y)))).set_ 1 (.int .u64 (loW (F * n + R * (t - x - n) + y)))
  have r0 := bO6.cell 0
  have r1 := bO6.cell 1
  simp at r0 r1
  refine bodyPost_ret (v := .agg #[.int .u64 (hiW (F * n + R * (t - x - n) + y)), .int .u64 (loW (F * n + R * (t - x - n) + y))]) (by simp [results, Try.results64, go_sem, r0, r1]) rfl ⟨rfl, ?_⟩
  have hb5 : Below w.heap.size w W4 := hb1.trans ((hb3.mono hb1.size).trans (hb4.mono (Nat.le_trans hb1.size hb3.size)))
  exact (((hb5.setCell (by simp; have := hb1.size; omega) _).setCell (by simp; have := hb1.size; omega) _).setCell (by simp) _).setCell (by simp) _

end Go.Proofs.Ytipiajnaechadaa
