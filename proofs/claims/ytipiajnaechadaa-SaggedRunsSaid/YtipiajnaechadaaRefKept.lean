/-
  The document's answer how many copies are kept.
-/
import Derived.Test.YtipiajnaechadaaRefAsk
import Derived.Test.YtipiajnaechadaaRefBack
import Derived.Test.YtipiajnaechadaaKeptPlain
import Derived.Laws.NewBlocks
namespace Go.Proofs.Ytipiajnaechadaa
set_option linter.unusedVariables false
open Go.RowKit
attribute [local go_sem] quietR quietAtR quietUponR plain plainUpon

section
variable {w : World} {c base : Nat} {F L R x y t : Int} {A : List (Int × Int)}
set_option maxRecDepth 20000 in
set_option maxHeartbeats 1000000 in
theorem ref_one6 (h : CopiesAt w c base F L R A) (hM : MayC F L R) (hf : A.length ≤ 900000) {k : Nat} (hk : A[k]? = some (x, y)) (ht : U t) (hx0 : 0 ≤ x) (hxt : x ≤ t) (hy0 : U y) :
    Calls Try.prog 84 #[.pointer (some ⟨c, 0, none⟩), .int .i64 k, .int .u64 t] w fun e w' => e = .returned (wv (hasK F L R (x, y) t)) ∧ Below w.heap.size w w' := by
  obtain ⟨vx, vy, hB, hrx, hry⟩ := h
  have hne : A ≠ [] := by rintro rfl; simp at hk
  obtain ⟨bx, cx, hvx, hbx, hlx, hcx, hcellx⟩ := hrx.open_ (by simpa using hne)
  obtain ⟨by', cy, hvy, hby, hly, hcy, hcelly⟩ := hry.open_ (by simpa using hne)
  have hcX := hcellx k x (by simp [hk])
  have hcY := hcelly k y (by simp [hk])
  have hkl : k < A.length := (List.getElem?_eq_some_iff.1 hk).1
  rw [List.length_map] at hvx hvy hcx hcy
  subst hvx; subst hvy
  have hkl2 : (k : Int) < (A.length : Int) := by omega
  have hk0 : (0 : Int) ≤ (k : Int) := by omega
  have wd : IntKind.u64.wrap (t - x) = t - x := wrap_u (by unfold U at *; omega)
  have ud : U (t - x) := by unfold U at *; omega
  have hw0 := W_nonneg hM.f0 hM.r0 hM.l0 (t := t - x) ud.1
  have hw1 := W_upper hM (u := t - x) ud.1
  have hW : hasK F L R (x, y) t = W F L R (t - x) + y := by unfold hasK; simp only; omega
  rw [hW]
  have hs : W F L R (t - x) + y < 340282366920938463463374607431768211456 := by unfold U at hy0 ud; omega
  generalize hn : W F L R (t - x) = n at *
  have HN := Lib.hid hn; have HM := Lib.hid hM
  clear hn hW hM hrx hry hcellx hcelly hk hw1
  go_enter Try.func84, Try.ntmps84
  go_wp2
  obtain ⟨W0, hW0⟩ : ∃ W0, w.alloc (.cells #[.int .u64 0, .int .u64 0] 99) = W0 := ⟨_, rfl⟩
  have bO : Blk W0 w.heap.size 99 #[.int .u64 0, .int .u64 0] := by rw [← hW0]; exact Blk.new w _ _
  have hb0 : Below w.heap.size w W0 := by rw [← hW0]; go_grown
  have bC : Blk W0 c 77 #[.int .u64 F, .int .u64 L, .int .u64 R, .slice (some ⟨bx, 0, none⟩) A.length cx, .slice (some ⟨by', 0, none⟩) A.length cy] := hB.below hb0 hB.lt
  have dX := (hb0.cell (p := ⟨bx, k, none⟩) hlx).trans hcX
  have dY := (hb0.cell (p := ⟨by', k, none⟩) hly).trans hcY
  have lx := Nat.lt_of_lt_of_le hlx hb0.size
  have ly := Nat.lt_of_lt_of_le hly hb0.size
  rw [hW0]
  clear hW0 hcX hcY hB
  have o0 := fun e => (over_cell (w := W0) (e := e) (o := 0) bC.lt).trans (bC.cell 0)
  have o1 := fun e => (over_cell (w := W0) (e := e) (o := 1) bC.lt).trans (bC.cell 1)
  have o2 := fun e => (over_cell (w := W0) (e := e) (o := 2) bC.lt).trans (bC.cell 2)
  have o3 := fun e => (over_cell (w := W0) (e := e) (o := 3) bC.lt).trans (bC.cell 3)
  have o4 := fun e => (over_cell (w := W0) (e := e) (o := 4) bC.lt).trans (bC.cell 4)
  simp only [List.getElem?_toArray, List.getElem?_cons_zero, List.getElem?_cons_succ] at o0 o1 o2 o3 o4
  have oX := fun e => (over_cell (w := W0) (e := e) (o := k) lx).trans dX
  have oY := fun e => (over_cell (w := W0) (e := e) (o := k) ly).trans dY
  clear dX dY
  refine wp_region_alloc (w := W0) 26 _ _ 7 (.cells #[.int .u64 0, .int .u64 0] 99) (by kernel_rfl) rfl rfl rfl (fun _ _ => by kernel_rfl) (by kernel_rfl) ?_
  simp only [List.take_succ_cons, List.take_zero, List.drop_succ_cons, List.drop_zero]
  repeat (refine wpQuietR_step (fun K hK => ?_); go_simp; first | (refine hK _ ?_; clear hK K) | (apply Exists.intro; refine ⟨fun _ => ?_, hK _ ?_⟩; (first | (go_at_call 94; (refine Calls.mono (ref_wide F L R (t - x) _ HM.out ud) ?_); rintro e' w' ⟨he, hb⟩; exact ⟨he.trans (by rw [HN.out]), hb⟩) | (go_at_call 93; exact ref_plus_low n y _ hw0 hy0 hs)); clear hK K))
  refine wpQuietR_nil ?_
  intro B W1 hB hb1 hO
  have bN : Blk W1 B 99 #[.int .u64 0, .int .u64 0] := hO
  have n0 := bN.cell 0; have n1 := bN.cell 1; have f0 := bN.frozen 0; have f1 := bN.frozen 1
  simp only [List.getElem?_toArray, List.getElem?_cons_zero, List.getElem?_cons_succ] at n0 n1
  go_simp
  generalize hsum : n + y = s at *
  have HSUM := Lib.hid hsum
  clear hsum
  have bN2 := (bN.set_ 0 (.int .u64 (hiW s))).set_ 1 (.int .u64 (loW s))
  have hb2 : Below W0.heap.size W0 ((W1.setCell ⟨B, 0, none⟩ (.int .u64 (hiW s))).setCell ⟨B, 1, none⟩ (.int .u64 (loW s))) := (hb1.setCell hB _).setCell hB _
  refine ⟨hb2, ?_⟩
  obtain ⟨W2, hW2⟩ : ∃ W2, (W1.setCell ⟨B, 0, none⟩ (.int .u64 (hiW s))).setCell ⟨B, 1, none⟩ (.int .u64 (loW s)) = W2 := ⟨_, rfl⟩
  rw [hW2] at bN2 hb2 ⊢
  clear hW2 n0 n1 f0 f1 o0 o1 o2 o3 o4 oX oY bN
  have m0 := bN2.cell 0; have m1 := bN2.cell 1
  simp at m0 m1
  have bO2 := bO.below hb2 bO.lt
  have p0 := bO2.cell 0; have p1 := bO2.cell 1; have g0 := bO2.frozen 0; have g1 := bO2.frozen 1
  simp only [List.getElem?_toArray, List.getElem?_cons_zero, List.getElem?_cons_succ] at p0 p1
  generalize hhi : hiW s = hi at *
  generalize hlo : loW s = lo at *
  have HHI := Lib.hid hhi; have HLO := Lib.hid hlo; clear hhi hlo
  go_wp2
  have r0 := ((bO2.set_ 0 (.int .u64 hi)).set_ 1 (.int .u64 lo)).cell 0
  have r1 := ((bO2.set_ 0 (.int .u64 hi)).set_ 1 (.int .u64 lo)).cell 1
  simp at r0 r1
  refine bodyPost_ret (v := .agg #[.int .u64 hi, .int .u64 lo]) (by simp [results, Try.results84, go_sem, r0, r1]) rfl ⟨by unfold wv; rw [HSUM.out, HHI.out, HLO.out], ?_⟩
  exact (((hb0.trans (hb2.mono hb0.size)).setCell (by simp) _).setCell (by simp) _)
end

section
variable {w : World} {c base : Nat} {F L R x : Int} {A : List (Int × Int)}
/-- the n first of the five comparisons -/
def isN (F L R s : Int) (a b : Int × Int) (n : Nat) : Bool := ((ticksK L s a b).take n).all fun t => decide (hasK F L R a t ≤ hasK F L R b t)
def lessN (F L R s : Int) (a b : Int × Int) (n : Nat) : Bool := ((ticksK L s a b).take n).any fun t => decide (hasK F L R a t < hasK F L R b t)
theorem isN_succ (F L R s : Int) (a b : Int × Int) {n : Nat} {t : Int} (h : (ticksK L s a b)[n]? = some t) : isN F L R s a b (n + 1) = (isN F L R s a b n && decide (hasK F L R a t ≤ hasK F L R b t)) := by
  unfold isN
  rw [List.take_add_one, h]
  simp [List.all_append]
theorem lessN_succ (F L R s : Int) (a b : Int × Int) {n : Nat} {t : Int} (h : (ticksK L s a b)[n]? = some t) : lessN F L R s a b (n + 1) = (lessN F L R s a b n || decide (hasK F L R a t < hasK F L R b t)) := by
  unfold lessN
  rw [List.take_add_one, h]
  simp [List.any_append]
theorem cmp_case2 (n m : Int) : ∃ c, cmpI n m = c ∧ decide (n ≤ m) = decide (c ≤ 0) ∧ decide (n < m) = decide (c < 0) := by
  refine ⟨_, rfl, ?_⟩
  unfold cmpI
  by_cases h : n < m
  · rw [if_pos h, decide_eq_true (show n ≤ m by omega), decide_eq_true h]; exact ⟨rfl, rfl⟩
  · rw [if_neg h, decide_eq_false h]
    by_cases h2 : n = m
    · rw [if_pos h2, decide_eq_true (show n ≤ m by omega)]; exact ⟨rfl, rfl⟩
    · rw [if_neg h2, decide_eq_false (show ¬ n ≤ m by omega)]; exact ⟨rfl, rfl⟩

set_option maxRecDepth 20000 in
set_option maxHeartbeats 4000000 in
theorem ref_below (h : CopiesAt w c base F L R A) (hM : MayC F L R) (hN : Nums x A) {i k : Nat} {a b : Int × Int} (hi : A[i]? = some a) (hk : A[k]? = some b) :
    Calls Try.prog 68 #[.pointer (some ⟨c, 0, none⟩), .int .i64 i, .int .i64 k] w fun e w' => e = .returned (.tuple #[.bool (isK F L R x a b), .bool (lessK F L R x a b)]) ∧ Below w.heap.size w w' := by
  have HC := Lib.hid h; have HM := Lib.hid hM; have HN := Lib.hid hN; have HI := Lib.hid hi; have HK := Lib.hid hk
  have hx0 := hN.x0; have hx1 := hN.x1; have hl0 := hM.l0; have hl1 := hM.l1
  have ha := hN.num a (List.mem_of_getElem? hi); have hb := hN.num b (List.mem_of_getElem? hk)
  have hfew := hN.few
  obtain ⟨a1, a2⟩ := a
  obtain ⟨b1, b2⟩ := b
  simp only at ha hb
  obtain ⟨vx, vy, hB, hrx, hry⟩ := h
  have hne : A ≠ [] := by rintro rfl; simp at hi
  obtain ⟨bx, cx, hvx, hbx, hlx, hcx, hcellx⟩ := hrx.open_ (by simpa using hne)
  have hcI := hcellx i a1 (by simp [hi])
  have hcK := hcellx k b1 (by simp [hk])
  have hil : i < A.length := (List.getElem?_eq_some_iff.1 hi).1
  have hkl : k < A.length := (List.getElem?_eq_some_iff.1 hk).1
  rw [List.length_map] at hvx hcx
  subst hvx
  have hil2 : (i : Int) < (A.length : Int) := by omega
  have hkl2 : (k : Int) < (A.length : Int) := by omega
  have hi0 : (0 : Int) ≤ (i : Int) := by omega
  have hk0 : (0 : Int) ≤ (k : Int) := by omega
  obtain ⟨far, hfar⟩ : ∃ far, x + L = far := ⟨_, rfl⟩
  obtain ⟨fa, hfa⟩ : ∃ fa, a1 + L = fa := ⟨_, rfl⟩
  obtain ⟨fb, hfb⟩ : ∃ fb, b1 + L = fb := ⟨_, rfl⟩
  obtain ⟨ta, hta⟩ : ∃ ta, (if x < fa then fa else x) = ta := ⟨_, rfl⟩
  obtain ⟨tb, htb⟩ : ∃ tb, (if x < fb then fb else x) = tb := ⟨_, rfl⟩
  obtain ⟨f1, hf1⟩ : ∃ f1, far + 1 = f1 := ⟨_, rfl⟩
  have htick : ticksK L x (a1, a2) (b1, b2) = [x, ta, tb, far, f1] := by
    unfold ticksK
    rw [show max x ((a1, a2).1 + L) = ta by simp only; split at hta <;> omega, show max x ((b1, b2).1 + L) = tb by simp only; split at htb <;> omega, hfar, hf1]
  have HT := Lib.hid htick
  have hb1' : far ≤ 9223373136366403584 ∧ 0 ≤ far ∧ 0 ≤ fa ∧ fa ≤ 9223373136366403584 ∧ 0 ≤ fb ∧ fb ≤ 9223373136366403584 ∧ x ≤ ta ∧ ta ≤ 9223373136366403584 ∧ x ≤ tb ∧ tb ≤ 9223373136366403584 ∧ f1 ≤ 9223373136366403585 ∧ x ≤ f1 ∧ x ≤ far := by
    split at hta <;> split at htb <;> omega
  obtain ⟨g1, g2, g3, g4, g5, g6, g7, g8, g9, g10, g11, g12, g13⟩ := hb1'
  have hlast := fun (W : World) (hb : Below w.heap.size w W) => copies_last (HC.out.below hb) hfew
  rw [hN.last] at hlast
  have HL : Hid (∀ W, Below w.heap.size w W → Calls Try.prog 54 #[.pointer (some ⟨c, 0, none⟩)] W fun e w' => e = .returned (.int .u64 x) ∧ Below W.heap.size W w') := Lib.hid fun W hb => (hlast W hb).mono fun e w' ⟨he, n, hn⟩ => ⟨he, by rw [hn]; exact below_drewN (Below.refl _ _) n⟩
  have o1 := fun e => (over_cell (w := w) (e := e) (o := 1) hB.lt).trans (hB.cell 1)
  simp only [List.getElem?_toArray, List.getElem?_cons_zero, List.getElem?_cons_succ] at o1
  have HB := Lib.hid hB; have HCI := Lib.hid hcI; have HCK := Lib.hid hcK; have HLX := Lib.hid hlx
  have HTA := Lib.hid hta; have HTB := Lib.hid htb
  clear hB hrx hry hcellx hcI hcK hi hk hlast hN hM hne htick hta htb
  go_enter Try.func68, Try.ntmps68
  go_wp2
  refine wp_region_over (by kernel_rfl) (by kernel_rfl) ?_
  repeat (first | go_big_quiet_skip | (go_big_quiet_want; go_big_quiet_op; first | go_big_quiet_on | (apply Exists.intro; refine ⟨fun e => ?_, ?_⟩; (focus (go_at_call 54; exact calls_over (HL.out _ (over_below _ e)))); go_big_quiet_on)))
  refine wpQuiet_nil ?_
  rintro W1 ⟨e, he⟩
  have hb1 := over_below w e
  rw [← he] at hb1
  clear he o1
  have hBW := HB.out.below hb1 HB.out.lt
  have o1 := fun e => (over_cell (w := W1) (e := e) (o := 1) hBW.lt).trans (hBW.cell 1)
  have o3 := fun e => (over_cell (w := W1) (e := e) (o := 3) hBW.lt).trans (hBW.cell 3)
  simp only [List.getElem?_toArray, List.getElem?_cons_zero, List.getElem?_cons_succ] at o1 o3
  have hlx1 := Nat.lt_of_lt_of_le HLX.out hb1.size
  have oI := fun e => (over_cell (w := W1) (e := e) (o := i) hlx1).trans ((hb1.cell (p := ⟨bx, i, none⟩) HLX.out).trans HCI.out)
  have oK := fun e => (over_cell (w := W1) (e := e) (o := k) hlx1).trans ((hb1.cell (p := ⟨bx, k, none⟩) HLX.out).trans HCK.out)
  have hta := HTA.out; have htb := HTB.out
  clear hBW
  go_wp2
  refine wp_region_over_tail 37 (by kernel_rfl) (by kernel_rfl) ?_
  simp only [List.take_succ_cons, List.take_zero, List.drop_succ_cons, List.drop_zero]
  repeat (first | go_big_quiet_skip | (go_big_quiet_want; go_big_quiet_op; first | go_big_quiet_on | (apply Exists.intro; refine ⟨fun e => ?_, ?_⟩; (focus (go_at_call 54; exact calls_over ((HL.out _ (hb1.trans ((over_below _ e).mono hb1.size)))))); go_big_quiet_on)))
  refine wpQuiet_nil ?_
  rintro W2 ⟨e, he⟩
  have hb2 := over_below W1 e
  rw [← he] at hb2
  clear he o1 o3 oI oK hta htb
  have hbw2 := hb1.trans (hb2.mono hb1.size)
  have nb := Blk.new W2 22 #[.int .u64 x, .int .u64 ta, .int .u64 tb, .int .u64 far, .int .u64 f1]
  have hbw3 := hbw2.alloc hbw2.size (.cells #[.int .u64 x, .int .u64 ta, .int .u64 tb, .int .u64 far, .int .u64 f1] 22)
  have NB := Lib.hid nb; have HB3 := Lib.hid hbw3
  clear nb hbw3 hbw2 hb1 hb2
  go_wp2
  go_loopw [10, 11, 12] (fun bi bl nv W => ∃ n : Nat, n ≤ 5 ∧ nv = .int .i64 n ∧ bi = .bool (isN F L R x (a1, a2) (b1, b2) n) ∧ bl = .bool (lessN F L R x (a1, a2) (b1, b2) n) ∧ Blk W W2.heap.size 22 #[.int .u64 x, .int .u64 ta, .int .u64 tb, .int .u64 far, .int .u64 f1] ∧ Below w.heap.size w W) (fun _ _ nv _ => 5 - (intOf nv).toNat)
  case atStart => exact ⟨0, by omega, rfl, rfl, rfl, NB.out, HB3.out⟩
  case round =>
    obtain ⟨n, hn, rfl, rfl, rfl, hnb, hbw⟩ := hrel
    by_cases hlt : n < 5
    · obtain ⟨tn, htn⟩ : ∃ tn, [x, ta, tb, far, f1][n]? = some tn := ⟨_, List.getElem?_eq_getElem (by simpa using hlt)⟩
      have htx : x ≤ tn ∧ tn ≤ 9223373136366403585 := by
        have := List.mem_of_getElem? htn
        simp only [List.mem_cons, List.not_mem_nil, or_false] at this
        omega
      have hcell : wr.cell? ⟨W2.heap.size, n, none⟩ = some (.int .u64 tn) := by
        rw [hnb.cell n]
        have e1 : (#[Value.int .u64 x, Value.int .u64 ta, Value.int .u64 tb, Value.int .u64 far, Value.int .u64 f1] : Array Value) = ([x, ta, tb, far, f1].map (Value.int .u64)).toArray := rfl
        rw [e1, List.getElem?_toArray, List.getElem?_map, htn]
        rfl
      have oT := fun e => (over_cell (w := wr) (e := e) (o := n) hnb.lt).trans hcell
      have utn : U tn := ⟨by omega, by omega⟩
      have e1 := isN_succ F L R x (a1, a2) (b1, b2) (n := n) (t := tn) (by rw [HT.out]; exact htn)
      have e2 := lessN_succ F L R x (a1, a2) (b1, b2) (n := n) (t := tn) (by rw [HT.out]; exact htn)
      have ba := hasK_bd (F := F) (L := L) (R := R) (a := (a1, a2)) (t := tn) HM.out ha.1 (by simp only; omega) utn ha.2.2
      have bb := hasK_bd (F := F) (L := L) (R := R) (a := (b1, b2)) (t := tn) HM.out hb.1 (by simp only; omega) utn hb.2.2
      obtain ⟨p, hp⟩ : ∃ p, hasK F L R (a1, a2) tn = p := ⟨_, rfl⟩
      obtain ⟨q, hq⟩ : ∃ q, hasK F L R (b1, b2) tn = q := ⟨_, rfl⟩
      rw [hp] at ba e1 e2
      rw [hq] at bb e1 e2
      obtain ⟨cc, hcc, hle, hltt⟩ := cmp_case2 p q
      rw [hle] at e1
      rw [hltt] at e2
      obtain ⟨B1, hB1⟩ : ∃ B1, isN F L R x (a1, a2) (b1, b2) n = B1 := ⟨_, rfl⟩
      obtain ⟨B2, hB2⟩ : ∃ B2, lessN F L R x (a1, a2) (b1, b2) n = B2 := ⟨_, rfl⟩
      rw [hB1] at e1
      rw [hB2] at e2
      have ca := fun (e : World) => ref_one6 (HC.out.below (hbw.trans ((over_below wr e).mono hbw.size))) HM.out hfew (k := i) (x := a1) (y := a2) HI.out utn ha.1 (by omega) ⟨ha.2.2.1, by omega⟩
      have cb := fun (e : World) => ref_one6 (HC.out.below (hbw.trans ((over_below wr e).mono hbw.size))) HM.out hfew (k := k) (x := b1) (y := b2) HK.out utn hb.1 (by omega) ⟨hb.2.2.1, by omega⟩
      rw [hp] at ca
      rw [hq] at cb
      have cm := fun (W : World) => ref_cmp p q W ba.1 ba.2 bb.1 bb.2
      rw [hcc] at cm
      have CA := Lib.hid ca; have CB := Lib.hid cb; have CM := Lib.hid cm; have HNB := Lib.hid hnb; have HBW := Lib.hid hbw; have E1 := Lib.hid e1; have E2 := Lib.hid e2
      rw [hB1, hB2]
      clear htn hcell e1 e2 hp hq hcc hle hltt hB1 hB2 ca cb cm hnb hbw
      have hn0 : (0 : Int) ≤ (n : Int) := by omega
      have hn5 : (n : Int) < 5 := by omega
      go_wp2
      refine wp_region_over (by kernel_rfl) (by kernel_rfl) ?_
      repeat (first | go_big_quiet_skip | (go_big_quiet_want; go_big_quiet_op; first | go_big_quiet_on | (apply Exists.intro; refine ⟨fun e => ?_, ?_⟩; (focus (first | (go_at_call_of 84 (Value.int IntKind.i64 (i : Int)); exact calls_over (CA.out _)) | (go_at_call_of 84 (Value.int IntKind.i64 (k : Int)); exact calls_over (CB.out _)) | (go_at_call 83; exact calls_over (CM.out _)))); go_big_quiet_on)))
      refine wpQuiet_nil ?_
      rintro W3 ⟨e, he⟩
      have hb33 := over_below wr e
      rw [← he] at hb33
      clear he oT
      have NB3 := Lib.hid (HNB.out.below hb33 HNB.out.lt); have HB3 := Lib.hid (HBW.out.trans (hb33.mono HBW.out.size))
      rcases B1 with _ | _
      all_goals rcases B2 with _ | _
      all_goals
        go_wp2
        go_roundw
        case rel => exact ⟨n + 1, by omega, by go_num, by rw [E1.out]; rfl, by rw [E2.out]; rfl, NB3.out, HB3.out⟩
        case measure => simp [intOf]; omega
    · obtain rfl : n = 5 := by omega
      have e1 : isN F L R x (a1, a2) (b1, b2) 5 = isK F L R x (a1, a2) (b1, b2) := by unfold isN isK; rw [HT.out]; rfl
      have e2 : lessN F L R x (a1, a2) (b1, b2) 5 = lessK F L R x (a1, a2) (b1, b2) := by unfold lessN lessK; rw [HT.out]; rfl
      rw [e1, e2]
      clear e1 e2
      go_wp2
      go_ret2
      exact ⟨rfl, hbw⟩
theorem all_succ (p : Nat → Bool) (n : Nat) : (List.range (n + 1)).all p = ((List.range n).all p && p n) := by
  rw [List.range_succ, List.all_append]
  simp
theorem filter_succ (p : Nat → Bool) (n : Nat) : ((List.range (n + 1)).filter p).length = ((List.range n).filter p).length + (if p n = true then 1 else 0) := by
  rw [List.range_succ, List.filter_append, List.length_append]
  by_cases h : p n = true
  · simp [h]
  · simp [h]
theorem filter_le (p : Nat → Bool) (n : Nat) : ((List.range n).filter p).length ≤ n := by
  have := List.length_filter_le p (List.range n)
  simpa using this
set_option maxRecDepth 20000 in
set_option maxHeartbeats 4000000 in
theorem ref_kept (h : CopiesAt w c base F L R A) (hM : MayC F L R) (hN : Nums x A) :
    Calls Try.prog 57 #[.pointer (some ⟨c, 0, none⟩)] w fun e w' => e = .returned (.int .i64 (keptN F L R x A)) ∧ Below w.heap.size w w' := by
  have HC := Lib.hid h; have HM := Lib.hid hM; have HN := Lib.hid hN
  have hfew := hN.few
  obtain ⟨vx, vy, hB, hrx, hry⟩ := h
  obtain ⟨ax, cx, hvx⟩ := hrx.shape
  rw [List.length_map] at hvx
  subst hvx
  have HB := Lib.hid hB
  clear hM hN hB hrx hry
  go_enter Try.func57, Try.ntmps57
  go_wp2
  go_loopw [3, 4] (fun nv kv W => ∃ k : Nat, k ≤ A.length ∧ kv = .int .i64 k ∧ nv = .int .i64 (((List.range k).filter (keptB F L R x A)).length : Nat) ∧ Below w.heap.size w W) (fun _ kv _ => A.length - (intOf kv).toNat)
  case atStart => exact ⟨0, by omega, rfl, rfl, Below.refl _ _⟩
  case round =>
    obtain ⟨wo, rfl⟩ : ∃ wo : World, wo = wr := ⟨_, rfl⟩
    obtain ⟨k, hk, rfl, rfl, hbw⟩ := hrel
    have hcnt := filter_le (keptB F L R x A) k
    have hsucc := filter_succ (keptB F L R x A) k
    obtain ⟨cnt, hcn⟩ : ∃ cnt, ((List.range k).filter (keptB F L R x A)).length = cnt := ⟨_, rfl⟩
    rw [hcn] at hcnt hsucc ⊢
    have HS := Lib.hid hsucc; have HCN := Lib.hid hcn
    clear hcn hsucc
    have hBw := HB.out.below hbw HB.out.lt
    have c3 := hBw.cell 3
    simp only [List.getElem?_toArray, List.getElem?_cons_zero, List.getElem?_cons_succ] at c3
    clear hBw
    by_cases hlt : k < A.length
    · obtain ⟨ak, hak⟩ : ∃ q, A[k]? = some q := ⟨_, List.getElem?_eq_getElem hlt⟩
      have hatk : atA A k = ak := by unfold atA; rw [List.getD_eq_getElem?_getD, hak]; rfl
      have HAK := Lib.hid hak; have HATK := Lib.hid hatk
      clear hak hatk
      go_wp2
      go_loopw [5, 6] (fun kb iv W => ∃ i : Nat, i ≤ A.length ∧ iv = .int .i64 i ∧ kb = .bool ((List.range i).all fun j => !killK F L R x A j k) ∧ Below w.heap.size w W) (fun _ iv _ => A.length - (intOf iv).toNat)
      case atStart => exact ⟨0, by omega, rfl, rfl, hbw⟩
      case round =>
        clear c3
        obtain ⟨i, hi, rfl, rfl, hbr⟩ := hrel
        have hBr := HB.out.below hbr HB.out.lt
        have c3 := hBr.cell 3
        simp only [List.getElem?_toArray, List.getElem?_cons_zero, List.getElem?_cons_succ] at c3
        clear hBr
        by_cases hlt2 : i < A.length
        · obtain ⟨ai, hai⟩ : ∃ q, A[i]? = some q := ⟨_, List.getElem?_eq_getElem hlt2⟩
          have hati : atA A i = ai := by unfold atA; rw [List.getD_eq_getElem?_getD, hai]; rfl
          have hall := all_succ (fun j => !killK F L R x A j k) i
          have hkill : killK F L R x A i k = killB i k (isK F L R x ai ak) (lessK F L R x ai ak) := by unfold killK; rw [hati, HATK.out]
          simp only [hkill] at hall
          obtain ⟨B0, hB0⟩ : ∃ B0, ((List.range i).all fun j => !killK F L R x A j k) = B0 := ⟨_, rfl⟩
          obtain ⟨B1, hB1⟩ : ∃ B1, isK F L R x ai ak = B1 := ⟨_, rfl⟩
          obtain ⟨B2, hB2⟩ : ∃ B2, lessK F L R x ai ak = B2 := ⟨_, rfl⟩
          rw [hB0, hB1, hB2] at hall
          have hcall := ref_below (HC.out.below hbr) HM.out HN.out hai HAK.out
          rw [hB1, hB2] at hcall
          rw [hB0]
          have HCALL := Lib.hid hcall; have HALL := Lib.hid hall; have HBR := Lib.hid hbr
          clear hai hati hall hkill hB0 hB1 hB2 hcall hbr
          rcases Nat.lt_trichotomy i k with hik | hik | hik
          · have hd : decide (k < i) = false := by simp; omega
            have hd2 : decide (i < k) = true := by simpa using hik
            have hi3 : decide ((k : Int) < (i : Int)) = false := by simp; omega
            rcases B1 with _ | _
            all_goals rcases B2 with _ | _
            all_goals
              go_wp2_with (go_at_call 68; refine HCALL.out.mono ?_; rintro e' W3 ⟨rfl, hb3⟩)
              go_roundw
              case rel => exact ⟨i + 1, by omega, by go_num, by rw [HALL.out]; unfold killB; rw [hd, hd2]; cases B0 <;> rfl, HBR.out.trans (hb3.mono HBR.out.size)⟩
              case measure => simp [intOf]; omega
          · subst hik
            have hd : decide (i < i) = false := by simp
            rcases B1 with _ | _
            all_goals rcases B2 with _ | _
            all_goals
              go_wp2_with (go_at_call 68; refine HCALL.out.mono ?_; rintro e' W3 ⟨rfl, hb3⟩)
              go_roundw
              case rel => exact ⟨i + 1, by omega, by go_num, by rw [HALL.out]; unfold killB; rw [hd]; cases B0 <;> rfl, HBR.out.trans (hb3.mono HBR.out.size)⟩
              case measure => simp [intOf]; omega
          · have hd : decide (k < i) = true := by simpa using hik
            have hd2 : decide (i < k) = false := by simp; omega
            have hi3 : decide ((i : Int) < (k : Int)) = false := by simp; omega
            rcases B1 with _ | _
            all_goals rcases B2 with _ | _
            all_goals
              go_wp2_with (go_at_call 68; refine HCALL.out.mono ?_; rintro e' W3 ⟨rfl, hb3⟩)
              go_roundw
              case rel => exact ⟨i + 1, by omega, by go_num, by rw [HALL.out]; unfold killB; rw [hd, hd2]; cases B0 <;> rfl, HBR.out.trans (hb3.mono HBR.out.size)⟩
              case measure => simp [intOf]; omega
        · obtain rfl : i = A.length := by omega
          have hkb : ((List.range A.length).all fun j => !killK F L R x A j k) = keptB F L R x A k := rfl
          rw [hkb]
          obtain ⟨B3, hB3⟩ : ∃ B3, keptB F L R x A k = B3 := ⟨_, rfl⟩
          have hsucc := HS.out
          rw [hB3] at hsucc
          rw [hB3]
          have HS2 := Lib.hid hsucc; have HBR := Lib.hid hbr
          clear hkb hB3 hsucc hbr HS
          rcases B3 with _ | _
          · go_wp2
            go_roundw
            case rel => exact ⟨k + 1, by omega, by go_num, by rw [HS2.out]; rfl, HBR.out⟩
            case measure => simp [intOf]; omega
          · go_wp2
            go_roundw
            case rel => exact ⟨k + 1, by omega, by go_num, by rw [HS2.out]; exact val_int (by simp), HBR.out⟩
            case measure => simp [intOf]; omega
    · obtain rfl : k = A.length := by omega
      go_wp2
      go_ret
      exact ⟨by unfold keptN; rw [HCN.out]; rfl, hbw⟩
end

end Go.Proofs.Ytipiajnaechadaa
