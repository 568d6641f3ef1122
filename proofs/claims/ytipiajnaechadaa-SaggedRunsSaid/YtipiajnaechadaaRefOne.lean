/-
  The document's copies: what one copy has at a tick, without an end.
-/
import Derived.Test.YtipiajnaechadaaRefLast
namespace Go.Proofs.Ytipiajnaechadaa
set_option linter.unusedVariables false
open Go.RowKit
attribute [local go_sem] quietR quietAtR quietUponR plain plainUpon

theorem W_upper {F L R u : Int} (h : MayC F L R) (hu : 0 ≤ u) : W F L R u ≤ 1048576 * u := by
  have f0 := h.f0; have f1 := h.f1; have r0 := h.r0; have r1 := h.r1; have l0 := h.l0
  unfold W
  have h1 := Int.mul_le_mul_of_nonneg_right f1 (show 0 ≤ min u L by omega)
  have h2 := Int.mul_le_mul_of_nonneg_right r1 (show 0 ≤ u - min u L by omega)
  omega
theorem ref_plus_low (n y : Int) (w : World) (h0 : 0 ≤ n) (hy : U y) (hs : n + y < 340282366920938463463374607431768211456) :
    Calls Try.prog 93 #[.agg #[.int .u64 (hiW n), .int .u64 (loW n)], .agg #[.int .u64 0, .int .u64 y]] w fun e w' => e = .returned (.tuple #[.agg #[.int .u64 (hiW (n + y)), .int .u64 (loW (n + y))], .int .i64 0]) ∧ Below w.heap.size w w' := by
  have h := ref_plus n y w h0 hy.1 hs
  rw [wv_small hy] at h
  exact h

section
variable {w : World} {c base : Nat} {F L R x y t : Int} {A : List (Int × Int)}
set_option maxRecDepth 20000 in
set_option maxHeartbeats 1000000 in
theorem copies_one (h : CopiesAt w c base F L R A) (hM : MayC F L R) (hf : A.length ≤ 900000) {k : Nat} (hk : A[k]? = some (x, y)) (ht : U t) (hx0 : 0 ≤ x) (hxt : x ≤ t) (hy0 : U y) :
    Calls Try.prog 87 #[.pointer (some ⟨c, 0, none⟩), .int .i64 k, .int .u64 t] w fun e w' => e = .returned (wv (hasK F L R (x, y) t)) ∧ Below w.heap.size w w' := by
  obtain ⟨vx, vy, hB, hrx, hry⟩ := h
  have hne : A ≠ [] := by rintro rfl; simp at hk
  obtain ⟨bx, cx, hvx, hbx, hlx, hcx, hcellx⟩ := hrx.open_ (by simpa using hne)
  obtain ⟨by', cy, hvy, hby, hly, hcy, hcelly⟩ := hry.open_ (by simpa using hne)
  have hcX := hcellx k x (by simp [hk])
  have hcY := hcelly k y (by simp [hk])
  have hkl : k < A.length := (List.getElem?_eq_some_iff.1 hk).1
  rw [List.length_map] at hvx hvy hcx hcy
  subst hvx; subst hvy
  have hkl2 : (k : Int) < (A.length : Int) := by omega
  have hk0 : (0 : Int) ≤ (k : Int) := by omega
  have wd : IntKind.u64.wrap (t - x) = t - x := wrap_u (by unfold U at *; omega)
  have ud : U (t - x) := by unfold U at *; omega
  have hw0 := W_nonneg hM.f0 hM.r0 hM.l0 (t := t - x) ud.1
  have hw1 := W_upper hM (u := t - x) ud.1
  have hW : hasK F L R (x, y) t = W F L R (t - x) + y := by unfold hasK; simp only; omega
  rw [hW]
  have hs : W F L R (t - x) + y < 340282366920938463463374607431768211456 := by unfold U at hy0 ud; omega
  generalize hn : W F L R (t - x) = n at *
  have HN := Lib.hid hn; have HM := Lib.hid hM
  clear hn hW hM hrx hry hcellx hcelly hk hw1
  go_enter Try.func87, Try.ntmps87
  go_wp2
  obtain ⟨W0, hW0⟩ : ∃ W0, w.alloc (.cells #[.int .u64 0, .int .u64 0] 99) = W0 := ⟨_, rfl⟩
  have bO : Blk W0 w.heap.size 99 #[.int .u64 0, .int .u64 0] := by rw [← hW0]; exact Blk.new w _ _
  have hb0 : Below w.heap.size w W0 := by rw [← hW0]; go_grown
  have bC : Blk W0 c 77 #[.int .u64 F, .int .u64 L, .int .u64 R, .slice (some ⟨bx, 0, none⟩) A.length cx, .slice (some ⟨by', 0, none⟩) A.length cy] := hB.below hb0 hB.lt
  have dX := (hb0.cell (p := ⟨bx, k, none⟩) hlx).trans hcX
  have dY := (hb0.cell (p := ⟨by', k, none⟩) hly).trans hcY
  have lx := Nat.lt_of_lt_of_le hlx hb0.size
  have ly := Nat.lt_of_lt_of_le hly hb0.size
  rw [hW0]
  clear hW0 hcX hcY hB
  have o0 := fun e => (over_cell (w := W0) (e := e) (o := 0) bC.lt).trans (bC.cell 0)
  have o1 := fun e => (over_cell (w := W0) (e := e) (o := 1) bC.lt).trans (bC.cell 1)
  have o2 := fun e => (over_cell (w := W0) (e := e) (o := 2) bC.lt).trans (bC.cell 2)
  have o3 := fun e => (over_cell (w := W0) (e := e) (o := 3) bC.lt).trans (bC.cell 3)
  have o4 := fun e => (over_cell (w := W0) (e := e) (o := 4) bC.lt).trans (bC.cell 4)
  simp only [List.getElem?_toArray, List.getElem?_cons_zero, List.getElem?_cons_succ] at o0 o1 o2 o3 o4
  have oX := fun e => (over_cell (w := W0) (e := e) (o := k) lx).trans dX
  have oY := fun e => (over_cell (w := W0) (e := e) (o := k) ly).trans dY
  clear dX dY
  refine wp_region_alloc (w := W0) 26 _ _ 7 (.cells #[.int .u64 0, .int .u64 0] 99) (by kernel_rfl) rfl rfl rfl (fun _ _ => by kernel_rfl) (by kernel_rfl) ?_
  simp only [List.take_succ_cons, List.take_zero, List.drop_succ_cons, List.drop_zero]
  repeat (refine wpQuietR_step (fun K hK => ?_); go_simp; first | (refine hK _ ?_; clear hK K) | (apply Exists.intro; refine ⟨fun _ => ?_, hK _ ?_⟩; (first | (go_at_call 94; (refine Calls.mono (ref_wide F L R (t - x) _ HM.out ud) ?_); rintro e' w' ⟨he, hb⟩; exact ⟨he.trans (by rw [HN.out]), hb⟩) | (go_at_call 93; exact ref_plus_low n y _ hw0 hy0 hs)); clear hK K))
  refine wpQuietR_nil ?_
  intro B W1 hB hb1 hO
  have bN : Blk W1 B 99 #[.int .u64 0, .int .u64 0] := hO
  have n0 := bN.cell 0; have n1 := bN.cell 1; have f0 := bN.frozen 0; have f1 := bN.frozen 1
  simp only [List.getElem?_toArray, List.getElem?_cons_zero, List.getElem?_cons_succ] at n0 n1
  go_simp
  generalize hsum : n + y = s at *
  have HSUM := Lib.hid hsum
  clear hsum
  have bN2 := (bN.set_ 0 (.int .u64 (hiW s))).set_ 1 (.int .u64 (loW s))
  have hb2 : Below W0.heap.size W0 ((W1.setCell ⟨B, 0, none⟩ (.int .u64 (hiW s))).setCell ⟨B, 1, none⟩ (.int .u64 (loW s))) := (hb1.setCell hB _).setCell hB _
  refine ⟨hb2, ?_⟩
  obtain ⟨W2, hW2⟩ : ∃ W2, (W1.setCell ⟨B, 0, none⟩ (.int .u64 (hiW s))).setCell ⟨B, 1, none⟩ (.int .u64 (loW s)) = W2 := ⟨_, rfl⟩
  rw [hW2] at bN2 hb2 ⊢
  clear hW2 n0 n1 f0 f1 o0 o1 o2 o3 o4 oX oY bN
  have m0 := bN2.cell 0; have m1 := bN2.cell 1
  simp at m0 m1
  have bO2 := bO.below hb2 bO.lt
  have p0 := bO2.cell 0; have p1 := bO2.cell 1; have g0 := bO2.frozen 0; have g1 := bO2.frozen 1
  simp only [List.getElem?_toArray, List.getElem?_cons_zero, List.getElem?_cons_succ] at p0 p1
  generalize hhi : hiW s = hi at *
  generalize hlo : loW s = lo at *
  have HHI := Lib.hid hhi; have HLO := Lib.hid hlo; clear hhi hlo
  go_wp2
  have r0 := ((bO2.set_ 0 (.int .u64 hi)).set_ 1 (.int .u64 lo)).cell 0
  have r1 := ((bO2.set_ 0 (.int .u64 hi)).set_ 1 (.int .u64 lo)).cell 1
  simp at r0 r1
  refine bodyPost_ret (v := .agg #[.int .u64 hi, .int .u64 lo]) (by simp [results, Try.results87, go_sem, r0, r1]) rfl ⟨by unfold wv; rw [HSUM.out, HHI.out, HLO.out], ?_⟩
  exact (((hb0.trans (hb2.mono hb0.size)).setCell (by simp) _).setCell (by simp) _)
end

end Go.Proofs.Ytipiajnaechadaa
