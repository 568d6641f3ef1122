/-
  The document's book of counters: Drop. (The place found: printed by wip/mkcbdrop.py.)
-/
import Derived.Test.YtclhhegfffccgaaCbGet
import Derived.Test.YtclhhegfffccgaaCbWhere
import Derived.Test.YtclhhegfffccgaaCbErase
import Derived.Test.YtclhhegfffccgaaCbOne
import Derived.Test.YtclhhegfffccgaaRegX
namespace Go.Proofs.Ytclhhegfffccgaa
set_option linter.unusedVariables false
open Go.RowKit Go.Maps
attribute [local go_sem ↓] Go.wp_at_zero Go.wp_at_succ
attribute [local go_sem] quietR quietAtR quietUponR midAt midUpon
attribute [local irreducible] TStep HStep

theorem dropB_none {B : Bk} {c : Int} (hh : Head0 B) (hok : OkB B) (h : ∀ x ∈ B.drop 1, x.1 ≠ c) : dropB B c = B := by
  unfold dropB
  by_cases hc : c < 1
  · rw [if_pos hc]
  · rw [if_neg hc]
    obtain ⟨s0, R, rfl, h0⟩ := hh
    have hne : ∀ x ∈ (0, s0) :: R, x.1 ≠ c := by
      intro x hx
      rcases List.mem_cons.1 hx with rfl | hx
      · show (0 : Int) ≠ c; omega
      · exact h x (by simpa using hx)
    have hg : getB ((0, s0) :: R) c = st0 := by unfold getB; rw [look_never hne]; rfl
    rw [hg]
    have h6 := hok (0, s0) (by simp) 6
    have h7 := hok (0, s0) (by simp) 7
    dsimp only at h6 h7
    have hst : stepsS s0 [(6, st0 6, true), (7, st0 7, true)] = s0 := by
      funext i
      simp only [stepsS, List.foldl_cons, List.foldl_nil, step1, setS, sumv, st0, if_true]
      by_cases h1 : i = 7
      · subst h1; simp; omega
      · by_cases h2 : i = 6
        · subst h2; simp; omega
        · simp [h1, h2]
    have htell : tellB ((0, s0) :: R) 0 [(6, st0 6, true), (7, st0 7, true)] = (0, s0) :: R := by
      simp [tellB, tell0, getB, lookM, putM, hst]
    rw [htell]
    unfold delM
    exact List.filter_eq_self.2 fun x hx => by simp [hne x hx]

theorem raw_put1o {W : World} {p g cap j f n o : Nat} {cur : Array Value} {B : Bk} {c : Int} {s : St} (x : Int) (ho : j * 9 + 1 + f = o) (h1 : Blk W p 63 #[.slice (some ⟨g, 0, none⟩) n cap]) (h2 : Blk W g 60 cur) (h3 : ClIn cur B) (hj : B[j]? = some (c, s)) (hf : f < 8) :
    Blk (W.setCell ⟨g, o, none⟩ (.int .u64 x)) p 63 #[.slice (some ⟨g, 0, none⟩) n cap] ∧
    Blk (W.setCell ⟨g, o, none⟩ (.int .u64 x)) g 60 (cur.setIfInBounds o (.int .u64 x)) ∧
    ClIn (cur.setIfInBounds o (.int .u64 x)) (B.set j (c, setS s f x)) ∧ (cur.setIfInBounds o (.int .u64 x)).size = cur.size := by
  subst ho
  exact raw_put1 x h1 h2 h3 hj hf
theorem owns_baseC {w : World} {b b' sz n : Nat} {e : TypeId} {v : Value} {xs : List Value} (h : w.ownsRow b e sz v n xs) (hb : b' ≤ b) : w.ownsRow b' e sz v n xs :=
  ⟨h.1, h.2.imp id fun ⟨g, cap, cur, e, h1, h2⟩ => ⟨g, cap, cur, e, Nat.le_trans hb h1, h2⟩⟩
theorem ok_drop {B : Bk} (h : OkB B) (c : Int) : OkB (dropB B c) := by
  unfold dropB
  split
  · exact h
  · intro q hq
    refine h.tell 0 (l := [(6, getB B c 6, true), (7, getB B c 7, true)]) ?_ q (List.mem_filter.1 hq).1
    intro x hx
    have h6 := h.get c 6
    have h7 := h.get c 7
    simp only [List.mem_cons, List.not_mem_nil, or_false] at hx
    rcases hx with rfl | rfl <;> refine ⟨by dsimp only; omega, ?_, ?_⟩ <;> dsimp only <;> omega
theorem fits_cast {p q : Prop} (h : p) (e : p = q) : q := e ▸ h
theorem hstep_app {P : Program} {ops : Array Oper} {o : Oper} {a : Act} {w W W' : World} {T : Value → World → Prop} {s x : Operand} {t : TypeId} {va vx v : Value} (hw : Region.wanted o (yielded ops a.tmps) = true)
    (ho : o.op = .call { callee := .builtin .append, args := #[s, x], argTypes := #[t, t] }) (hs : a.eval s = va) (hx : a.eval x = vx)
    (hr : (Builtin.append_ #[t, t] o.type #[va, vx]).run P W = .ok v W') (hb : Below w.heap.size w W') (hT : T v W') : HStep P ops w o a W T := by
  refine hstep_yes hw ?_
  unfold hotUpon execOp
  simp only [ho, resolve, invoke, builtin, Sem.run_bind, Sem.run_pure, Result.andThen_ok, List.map_toArray, List.map_cons, List.map_nil, hs, hx, hr]
  exact ⟨hb, hT⟩

set_option maxRecDepth 100000 in
set_option maxHeartbeats 8000000 in
theorem rdrop_any (c : Int) (base p : Nat) (B : Bk) (W : World) (h : CbAt W base p B) (hr : Rising B) (hh : Head0 B) (hn : B.length < 1000) (hc : (Lit.int .i64 c).wf = true) :
    Calls Try.prog 18 #[.pointer (some ⟨p, 0, none⟩), .int .i64 c] W fun e W' => e = .returned (.tuple #[]) ∧ CbAt W' base p (dropB B c) ∧ Below base W W' := by
  have H0 := Lib.hid h
  obtain ⟨⟨g, cap, cur, h1, h2, h3, h4, h5, h6, h7⟩, hpb, hok⟩ := h
  have y0 := h1.cell 0
  simp only [List.getElem?_toArray, List.getElem?_cons_zero] at y0
  obtain ⟨n, hn0⟩ : ∃ n, B.length = n := ⟨_, rfl⟩
  rw [hn0] at y0 hn
  have hn1 : 1 ≤ n := by obtain ⟨s0, R, rfl, _⟩ := hh; rw [← hn0]; simp
  have hcn : n ≤ cap := by omega
  have H := Lib.hid (And.intro h1 (And.intro h2 (And.intro h3 hn0))); have HR := Lib.hid (And.intro hr hh); have hpok := Lib.hid hok
  have HZ := Lib.hid (And.intro h4 (And.intro h5 (And.intro h6 h7)))
  clear h1 h2 h3 h4 h5 h6 h7 hok hr hh
  go_enter Try.func18, Try.ntmps18
  clear hn0
  go_wp2_with fail
  go_loopw [4] (fun v4 W' => ∃ k : Nat, v4 = .int .i64 k ∧ 1 ≤ k ∧ k ≤ n ∧ W' = W ∧ ∀ x ∈ (B.take k).drop 1, x.1 ≠ c) (fun v4 _ => (n - Go.RowKit.intOf v4).toNat)
  case atStart => exact ⟨1, rfl, Nat.le_refl _, hn1, rfl, by simp⟩
  case round =>
    obtain ⟨k, rfl, hk1, hk, rfl, hlow⟩ := hrel
    have HLOW := Lib.hid hlow
    clear hlow
    by_cases hlt : k < n
    · obtain ⟨⟨q, s⟩, hq⟩ : ∃ q, B[k]? = some q := ⟨_, List.getElem?_eq_getElem (by have := H.out.2.2.2; omega)⟩
      have hcq := (H.out.2.1.cell (k * 9)).trans (H.out.2.2.1.2 k _ hq).1
      dsimp only at hcq
      have HQ := Lib.hid hq
      clear hq
      by_cases he : q = c
      · subst he
        obtain ⟨s0, R, hB0, hpos⟩ := HR.out.2
        have hq1 : B[0]? = some (0, s0) := by rw [hB0]; rfl
        clear hB0 hpos R
        have hk2 := HQ.out
        obtain ⟨a0, a1⟩ := hpok.out (0, s0) (List.mem_of_getElem? hq1) 6
        obtain ⟨b0, b1⟩ := hpok.out (q, s) (List.mem_of_getElem? hk2) 6
        dsimp only at a0 a1 b0 b1
        have l1 := H.out.1.lt; have l2 := H.out.2.1.lt
        have o0 := fun e => (over_cell (w := wr) (e := e) (o := 0) l1).trans (H.out.1.cell 0)
        have od := fun e => (over_cell (w := wr) (e := e) (o := 7) l2).trans ((H.out.2.1.cell _).trans ((H.out.2.2.1.2 0 _ hq1).2 6 (by decide)))
        have oc := fun e => (over_cell (w := wr) (e := e) (o := k * 9 + 1 + 6) l2).trans ((H.out.2.1.cell _).trans ((H.out.2.2.1.2 k _ hk2).2 6 (by decide)))
        simp only [List.getElem?_toArray, List.getElem?_cons_zero] at o0
        have hdn := fun W => down_any (s0 6) (s 6) W a0 a1 b0 (by omega)
        go_upto_region 4 with fail
        have hcn' : (k : Int) < (n : Int) := by omega
        have hk0 : (0 : Int) ≤ (k : Int) := by omega
        have hn0' : (0 : Int) < (n : Int) := by omega
        have hBl : 0 < List.length B := by have := H.out.2.2.2; omega
        have hBk : (k : Int) < ((List.length B : Nat) : Int) := by have := H.out.2.2.2; omega
        refine wp_region_over_tail 25 (by kernel_rfl) (by kernel_rfl) ?_
        simp only [List.take_succ_cons, List.take_zero, List.drop_succ_cons, List.drop_zero]
        repeat (first | go_big_quiet_skip | (go_big_quiet_want; go_big_quiet_op; first | go_big_quiet_on | (apply Exists.intro; refine ⟨fun e => ?_, ?_⟩; (focus (go_at_call 46; with_reducible exact calls_over_same (hdn _))); go_big_quiet_on)))
        refine wpQuiet_nil ?_
        rintro W2 ⟨e2, he2⟩
        have hb2 := over_below wr e2
        rw [← he2] at hb2
        clear he2 o0 od oc hdn
        have hbase : base ≤ wr.heap.size := by have h1 := HZ.out.2.2.2; have h2 := H.out.2.1.lt; omega
        have p1 := H.out.1.below hb2 H.out.1.lt
        have p2 := H.out.2.1.below hb2 H.out.2.1.lt
        rw [H.out.2.2.2] at p1
        have z0 := p2.frozen 7
        have z1 := (p2.cell 7).trans ((H.out.2.2.1.2 0 _ hq1).2 6 (by decide))
        have r := raw_put1o (o := 7) (sumv (s0 6) true (s 6)) rfl p1 p2 H.out.2.2.1 hq1 (show 6 < 8 by decide)
        have hb3 := (hb2.mono hbase).setCell (p := ⟨g, 7, none⟩) HZ.out.2.2.2 (.int .u64 (sumv (s0 6) true (s 6)))
        have HP := Lib.hid (And.intro r hb3)
        clear r hb3 p1 p2 hb2
        go_upto_region 5 with fail
        generalize W2.setCell ⟨g, 7, none⟩ (.int .u64 (sumv (s0 6) true (s 6))) = W3 at HP ⊢
        clear z0 z1
        have hq2 : (B.set 0 (0, setS s0 6 (sumv (s0 6) true (s 6))))[0]? = some (0, setS s0 6 (sumv (s0 6) true (s 6))) := by rw [List.getElem?_set, if_pos rfl, if_pos hBl]
        have hkk : (B.set 0 (0, setS s0 6 (sumv (s0 6) true (s 6))))[k]? = some (q, s) := by rw [List.getElem?_set_ne (by omega)]; exact hk2
        have m1 := HP.out.1.1.lt; have m2 := HP.out.1.2.1.lt
        have e7 : setS s0 6 (sumv (s0 6) true (s 6)) 7 = s0 7 := rfl
        have o0 := fun e => (over_cell (w := W3) (e := e) (o := 0) m1).trans (HP.out.1.1.cell 0)
        have od := fun e => (over_cell (w := W3) (e := e) (o := 8) m2).trans ((HP.out.1.2.1.cell _).trans ((HP.out.1.2.2.1.2 0 _ hq2).2 7 (by decide)))
        have oc := fun e => (over_cell (w := W3) (e := e) (o := k * 9 + 1 + 7) m2).trans ((HP.out.1.2.1.cell _).trans ((HP.out.1.2.2.1.2 k _ hkk).2 7 (by decide)))
        simp only [List.getElem?_toArray, List.getElem?_cons_zero] at o0
        dsimp only at od oc
        rw [e7] at od
        obtain ⟨a0', a1'⟩ := hpok.out (0, s0) (List.mem_of_getElem? hq1) 7
        obtain ⟨b0', b1'⟩ := hpok.out (q, s) (List.mem_of_getElem? hk2) 7
        dsimp only at a0' a1' b0' b1'
        have hdn := fun W => down_any (s0 7) (s 7) W a0' a1' b0' (by omega)
        refine wp_region_over_tail 25 (by kernel_rfl) (by kernel_rfl) ?_
        simp only [List.take_succ_cons, List.take_zero, List.drop_succ_cons, List.drop_zero]
        repeat (first | go_big_quiet_skip | (go_big_quiet_want; go_big_quiet_op; first | go_big_quiet_on | (apply Exists.intro; refine ⟨fun e => ?_, ?_⟩; (focus (go_at_call 46; with_reducible exact calls_over_same (hdn _))); go_big_quiet_on)))
        refine wpQuiet_nil ?_
        rintro W4 ⟨e4, he4⟩
        have hb4 := over_below W3 e4
        rw [← he4] at hb4
        clear he4 o0 od oc hdn
        have p1 := HP.out.1.1.below hb4 m1
        have p2 := HP.out.1.2.1.below hb4 m2
        have z0 := p2.frozen 8
        have z1 := (p2.cell 8).trans ((HP.out.1.2.2.1.2 0 _ hq2).2 7 (by decide))
        have r := raw_put1o (o := 8) (sumv (s0 7) true (s 7)) rfl p1 p2 HP.out.1.2.2.1 hq2 (show 7 < 8 by decide)
        have hb5 := (HP.out.2.trans (hb4.mono (Nat.le_trans hbase HP.out.2.size))).setCell (p := ⟨g, 8, none⟩) HZ.out.2.2.2 (.int .u64 (sumv (s0 7) true (s 7)))
        rw [List.set_set] at r
        have hds : dropB B q = (B.set 0 (0, setS (setS s0 6 (sumv (s0 6) true (s 6))) 7 (sumv (s0 7) true (s 7)))).take k ++ (B.set 0 (0, setS (setS s0 6 (sumv (s0 6) true (s 6))) 7 (sumv (s0 7) true (s 7)))).drop (k + 1) := by
          obtain ⟨s0', R, hB0, hpos⟩ := HR.out.2
          have e0 : s0' = s0 := by
            rw [hB0] at hq1
            simpa using hq1
          subst e0
          exact dropB_some hB0 hpos HR.out.1 hk1 hk2
        have hA2 : (B.set 0 (0, setS (setS s0 6 (sumv (s0 6) true (s 6))) 7 (sumv (s0 7) true (s 7)))).length = n := by rw [List.length_set]; exact H.out.2.2.2
        have hszc := r.2.2.2.trans HP.out.1.2.2.2
        have HQ5 := Lib.hid (And.intro (And.intro r.1 (And.intro r.2.1 (And.intro r.2.2.1 hszc))) (And.intro hb5 (And.intro hds hA2)))
        clear r hb5 p1 p2 hb4 m1 m2 hq2 hkk hds hA2 hszc HP
        go_upto_region 6 with fail
        generalize W4.setCell ⟨g, 8, none⟩ (.int .u64 (sumv (s0 7) true (s 7))) = W5 at HQ5 ⊢
        generalize (B.set 0 (0, setS (setS s0 6 (sumv (s0 6) true (s 6))) 7 (sumv (s0 7) true (s 7)))) = A2 at HQ5
        generalize ((cur.setIfInBounds 7 (Value.int .u64 (sumv (s0 6) true (s 6)))).setIfInBounds 8 (.int .u64 (sumv (s0 7) true (s 7)))) = cur5 at HQ5
        clear z0 z1 a0 a1 b0 b1 a0' a1' b0' b1' hq1 hk2 l1 l2
        have m1 := HQ5.out.1.1.lt
        have o0 := fun e => (over_cell (w := W5) (e := e) (o := 0) m1).trans (HQ5.out.1.1.cell 0)
        simp only [List.getElem?_toArray, List.getElem?_cons_zero] at o0
        have hkc : k ≤ cap := by omega
        have hkc1 : k + 1 ≤ cap := by omega
        have kI0 : (0 : Int) ≤ (k : Int) + 1 := by omega
        have kI1 : (k : Int) + 1 ≤ (n : Int) := by omega
        have wk1 : IntKind.i64.wrap ((k : Int) + 1) = (k : Int) + 1 := IntWalk.i64_in _ (by omega)
        refine wp_region_hot (w := W5) 19 1 [1, 8, 16] [] [(1, fun u W' => ∃ g1, u = .slice (some ⟨g1, 0, none⟩) 0 0 ∧ W'.ownsRow W5.heap.size 60 9 u 0 []), (8, fun u W' => (∃ g3 c3, u = .slice (some ⟨g3, 0, none⟩) (A2.take k).length c3) ∧ W'.ownsRow W5.heap.size 60 9 u (A2.take k).length (clCells (A2.take k))), (16, fun u W' => (∃ g3 c3, u = .slice (some ⟨g3, 0, none⟩) (A2.take k ++ A2.drop (k + 1)).length c3) ∧ W'.ownsRow W5.heap.size 60 9 u (A2.take k ++ A2.drop (k + 1)).length (clCells (A2.take k ++ A2.drop (k + 1))))] [(1, 8), (8, 16)] [8, 16] [] rfl (by decide) (by decide) (by kernel_rfl) (by kernel_rfl) (by kernel_rfl) (by kernel_rfl) (by kernel_rfl) (fun _ _ _ _ _ h => h) ⟨fun v W1 W2 ⟨b, h1, h2⟩ hb => ⟨b, h1, owns_laterC h2 hb⟩, fun v W1 W2 h hb => ⟨h.1, owns_laterC h.2 hb⟩, fun v W1 W2 h hb => ⟨h.1, owns_laterC h.2 hb⟩, trivial⟩ ⟨fun h => by simp at h, fun h => by simp at h, fun h => by simp at h, trivial⟩ ?_
        intro LL hL
        have HL := Lib.hid hL
        clear hL
        simp only [List.take_succ_cons, List.take_zero, putL]
        iterate 19 (first | refine wpHead_skip (by decide) ?_ | (refine wpHead_step (by decide) (fun K hK => ?_); go_simp; refine hK _ ?_; clear hK K))
        refine wpHead_nil (HL.out _ ⟨?_, ?_, ?_, trivial⟩ ?_)
        · intro vs W6 hb6 hf
          clear HL
          change TStep _ _ _ (Act.put (Act.put (Act.put _ (some 75) (vs 1)) (some 82) (vs 8)) (some 90) (vs 16)) _ _
          refine tstep_yes (by kernel_rfl) ?_
          go_simp
          exact ⟨(Below.refl _ _).alloc (Nat.le_refl _) _, World.ownsRow_made (base := W5.heap.size) (e := 60) (size := 9) W6 #[] 0 hb6.size (by decide) rfl⟩
        · intro vs W6 hb6 hf
          have hf := fits_cast (q := (∃ g1, (vs 1) = .slice (some ⟨g1, 0, none⟩) 0 0 ∧ W6.ownsRow W5.heap.size 60 9 (vs 1) 0 []) ∧ True) hf (by kernel_rfl)
          clear HL
          refine Exists.elim hf.1 fun B1 hB1 => ?_
          change HStep _ _ _ _ (Act.put (Act.put (Act.put _ (some 75) (vs 1)) (some 82) (vs 8)) (some 90) (vs 16)) _ _
          have hown := hB1.2
          rw [hB1.1] at hown
          have p2 := HQ5.out.1.2.1.below hb6 HQ5.out.1.2.1.lt
          have hce := CbAt.cellsOf p2 HQ5.out.1.2.2.1
          have hlk : (A2.take k).length = k := by rw [List.length_take, HQ5.out.2.2.2]; omega
          have happ := app_cls 61 (A := []) (B := A2.take k) (w := W6) (base := W5.heap.size) (m := k) (c := cap) (a := some ⟨g, 0, none⟩) hown ⟨_, _, rfl⟩ hlk (.inr ⟨g, 0, rfl, fun j u hj => by
            rw [Nat.zero_add]
            refine hce j u ?_
            rw [← clCells_take] at hj
            rw [List.getElem?_take] at hj
            split at hj
            · exact hj
            · cases hj⟩) hb6.size (by rw [hlk]; simp; omega)
          rw [List.nil_append] at happ
          refine Exists.elim happ fun v' ha1 => ?_
          refine Exists.elim ha1 fun w' ha2 => ?_
          rw [hB1.1]
          exact hstep_app (by kernel_rfl) rfl (by kernel_rfl) (by kernel_rfl) ha2.1 (hb6.trans ((Below.refl W5.heap.size W6).grown ha2.2.2.1 hb6.size fun q e => (hown.lt q e).1)) ⟨ha2.2.2.2.2, ha2.2.1⟩
        · intro vs W6 hb6 hf
          have hf := fits_cast (q := ((∃ g3 c3, (vs 8) = .slice (some ⟨g3, 0, none⟩) (A2.take k).length c3) ∧ W6.ownsRow W5.heap.size 60 9 (vs 8) (A2.take k).length (clCells (A2.take k))) ∧ True) hf (by kernel_rfl)
          clear HL
          refine Exists.elim hf.1.1 fun g3 hg3 => ?_
          refine Exists.elim hg3 fun c3 hc3 => ?_
          change HStep _ _ _ _ (Act.put (Act.put (Act.put _ (some 75) (vs 1)) (some 82) (vs 8)) (some 90) (vs 16)) _ _
          have hown := hf.1.2
          rw [hc3] at hown
          have p2 := HQ5.out.1.2.1.below hb6 HQ5.out.1.2.1.lt
          have hce := CbAt.cellsOf p2 HQ5.out.1.2.2.1
          have hld : (A2.drop (k + 1)).length = n - (k + 1) := by rw [List.length_drop, HQ5.out.2.2.2]
          have hlk : (A2.take k).length = k := by rw [List.length_take, HQ5.out.2.2.2]; omega
          have happ := app_cls 61 (A := A2.take k) (B := A2.drop (k + 1)) (w := W6) (base := W5.heap.size) (m := n - (k + 1)) (c := cap - (k + 1)) (a := if cap = k + 1 then some ⟨g, 0, none⟩ else some ⟨g, (k + 1) * 9, none⟩) hown ⟨_, _, rfl⟩ hld (by
            by_cases h0 : n - (k + 1) = 0
            · exact .inl h0
            · right
              refine ⟨g, (k + 1) * 9, if_neg (by omega), fun j u hj => ?_⟩
              rw [clCells_drop] at hj
              exact hce _ u hj) hb6.size (by rw [hlk, hld]; omega)
          refine Exists.elim happ fun v' ha1 => ?_
          refine Exists.elim ha1 fun w' ha2 => ?_
          rw [hc3]
          exact hstep_app (by kernel_rfl) rfl (by kernel_rfl) (by kernel_rfl) ha2.1 (hb6.trans ((Below.refl W5.heap.size W6).grown ha2.2.2.1 hb6.size fun q e => (hown.lt q e).1)) ⟨ha2.2.2.2.2, ha2.2.1⟩
        · intro vs W6 hb6 hf
          have hf := fits_cast (q := ((∃ g3 c3, (vs 16) = .slice (some ⟨g3, 0, none⟩) (A2.take k ++ A2.drop (k + 1)).length c3) ∧ W6.ownsRow W5.heap.size 60 9 (vs 16) (A2.take k ++ A2.drop (k + 1)).length (clCells (A2.take k ++ A2.drop (k + 1)))) ∧ True) hf (by kernel_rfl)
          clear HL
          change wpList _ _ _ _ (Act.put (Act.put (Act.put _ (some 75) (vs 1)) (some 82) (vs 8)) (some 90) (vs 16)) _
          refine Exists.elim hf.1.1 fun g3 hg3 => ?_
          refine Exists.elim hg3 fun c3 hc3 => ?_
          have hown := hf.1.2
          rw [hc3] at hown
          have p1 := HQ5.out.1.1.below hb6 m1
          have hb5 := HQ5.out.2.1
          have hfin := CbAt.of (base := base) (p := p) p1 (owns_baseC hown (Nat.le_trans hbase hb5.size)) (by rw [← HQ5.out.2.2.1]; exact ok_drop hpok.out q) hpb
          have hbl := (hb5.trans (hb6.mono (Nat.le_trans hbase hb5.size))).setCell (p := ⟨p, 0, none⟩) hpb (.slice (some ⟨g3, 0, none⟩) (A2.take k ++ A2.drop (k + 1)).length c3)
          rw [← HQ5.out.2.2.1] at hfin hbl hc3
          have z0 := p1.frozen 0; have z1 := p1.cell 0
          have HF := Lib.hid (And.intro hfin hbl)
          rw [hc3]
          generalize (dropB B q).length = n9 at HF ⊢
          clear hf hown p1 hb5 hfin hbl hc3 hg3 hb6 o0 m1
          simp only [List.drop_succ_cons, List.drop_zero, List.take_succ_cons, List.take_zero]
          go_wp2_with fail
          all_goals go_returns
          all_goals exact ⟨rfl, HF.out.1, HF.out.2⟩
      · have hne : (q == c) = false := by simpa using he
        go_wp2_with fail
        go_roundw
        case measure => (simp [Go.RowKit.intOf]; try omega)
        case rel =>
          refine ⟨k + 1, by go_num, by omega, by omega, by first | rfl | trivial, fun x hx => ?_⟩
          rw [List.take_add_one, HQ.out, List.drop_append_of_le_length (by simp; have := H.out.2.2.2; omega)] at hx
          rcases List.mem_append.1 hx with hx | hx
          · exact HLOW.out x hx
          · simp at hx; subst hx; exact he
    · obtain rfl : k = n := by omega
      have hfin : dropB B c = B := dropB_none HR.out.2 hpok.out (by have := HLOW.out; rwa [List.take_of_length_le (by rw [H.out.2.2.2]; exact Nat.le_refl _)] at this)
      have HF := Lib.hid hfin
      clear hfin
      go_wp2_with fail
      go_returns
      exact ⟨rfl, by rw [HF.out]; exact H0.out, Below.refl _ _⟩
end Go.Proofs.Ytclhhegfffccgaa
