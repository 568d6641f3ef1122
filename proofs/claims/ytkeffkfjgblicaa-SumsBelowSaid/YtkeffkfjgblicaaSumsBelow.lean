/-
  The law: a curve is below another one just if it has at most what that has; then it can be kept wherever that can be.
-/
import Derived.Test.YtkeffkfjgblicaaSumsBelPlain
import Derived.Test.YtkeffkfjgblicaaSumsRoom
import Derived.Test.YtkeffkfjgblicaaRegX
namespace Go.Proofs.Ytkeffkfjgblicaa
set_option linter.unusedVariables false
open Go.RowKit
attribute [local go_sem ↓] Go.wp_at_zero Go.wp_at_succ
attribute [local go_sem] quietR quietAtR quietUponR midAt midUpon
attribute [local irreducible] TStep HStep

theorem fits_cast {p q : Prop} (h : p) (e : p = q) : q := e ▸ h
theorem owns_below {w w' : World} {base : Nat} {e : TypeId} {sz n : Nat} {v : Value} {xs : List Value} (h : w.ownsRow base e sz v n xs) (hb : Below w.heap.size w w') : w'.ownsRow base e sz v n xs :=
  h.kept (grown_none hb) (by cases hv : v.ownBlock <;> simp)
theorem midAt_app {P : Program} {o : Oper} {a : Act} {W W' : World} {T : Value → World → Prop} {s x : Operand} {t : TypeId} {va vx v : Value}
    (ho : o.op = .call { callee := .builtin .append, args := #[s, x], argTypes := #[t, t] }) (hs : a.eval s = va) (hx : a.eval x = vx)
    (hr : (Builtin.append_ #[t, t] o.type #[va, vx]).run P W = .ok v W') (hb : Below W.heap.size W W') (hT : T v W') : midAt P o a W T := by
  unfold midAt execOp
  simp only [ho, resolve, invoke, builtin, Sem.run_bind, Sem.run_pure, Result.andThen_ok, List.map_toArray, List.map_cons, List.map_nil, hs, hx, hr]
  exact ⟨hb, hT⟩
theorem hotUpon_app {P : Program} {o : Oper} {a : Act} {w W W' : World} {T : Value → World → Prop} {s x : Operand} {t : TypeId} {va vx v : Value}
    (ho : o.op = .call { callee := .builtin .append, args := #[s, x], argTypes := #[t, t] }) (hs : a.eval s = va) (hx : a.eval x = vx)
    (hr : (Builtin.append_ #[t, t] o.type #[va, vx]).run P W = .ok v W') (hb : Below w.heap.size w W') (hT : T v W') : hotUpon w T ((execOp a.eval o).run P W) := by
  unfold execOp
  simp only [ho, resolve, invoke, builtin, Sem.run_bind, Sem.run_pure, Result.andThen_ok, List.map_toArray, List.map_cons, List.map_nil, hs, hx, hr]
  exact ⟨hb, hT⟩

/-- three curves in boxes of the call's own -/
structure Box3 (w W : World) (a b c : Cv) : Prop where
  ba : Blk W w.heap.size 31 #[.int .u64 a.1, .int .u64 a.2.1, .int .u64 a.2.2]
  bb : Blk W (w.heap.size + 1) 31 #[.int .u64 b.1, .int .u64 b.2.1, .int .u64 b.2.2]
  bc : Blk W (w.heap.size + 1 + 1) 31 #[.int .u64 c.1, .int .u64 c.2.1, .int .u64 c.2.2]
  below : Below w.heap.size w W
theorem Box3.later {w W W' : World} {a b c : Cv} (h : Box3 w W a b c) (hb : Below W.heap.size W W') : Box3 w W' a b c :=
  ⟨h.ba.below hb h.ba.lt, h.bb.below hb h.bb.lt, h.bc.below hb h.bc.lt, h.below.trans (hb.mono h.below.size)⟩
theorem Box3.new (w : World) (a b c : Cv) : Box3 w (((w.alloc (.cells #[.int .u64 a.1, .int .u64 a.2.1, .int .u64 a.2.2] 31)).alloc (.cells #[.int .u64 b.1, .int .u64 b.2.1, .int .u64 b.2.2] 31)).alloc (.cells #[.int .u64 c.1, .int .u64 c.2.1, .int .u64 c.2.2] 31)) a b c := by
  refine ⟨((Blk.new w _ _).alloc _).alloc _, ?_, ?_, (((Below.refl w.heap.size w).alloc (Nat.le_refl _) _).alloc (by simp) _).alloc (by simp; omega) _⟩
  · have h := (Blk.new (w.alloc (.cells #[.int .u64 a.1, .int .u64 a.2.1, .int .u64 a.2.2] 31)) 31 #[.int .u64 b.1, .int .u64 b.2.1, .int .u64 b.2.2]).alloc (.cells #[.int .u64 c.1, .int .u64 c.2.1, .int .u64 c.2.2] 31)
    rw [World.size_alloc] at h
    exact h
  · have h := Blk.new ((w.alloc (.cells #[.int .u64 a.1, .int .u64 a.2.1, .int .u64 a.2.2] 31)).alloc (.cells #[.int .u64 b.1, .int .u64 b.2.1, .int .u64 b.2.2] 31)) 31 #[.int .u64 c.1, .int .u64 c.2.1, .int .u64 c.2.2]
    rw [World.size_alloc, World.size_alloc] at h
    exact h
theorem Box3.cells {w W : World} {F L R G M S X Y Z : Int} (h : Box3 w W (F, L, R) (G, M, S) (X, Y, Z)) :
    (W.cell? ⟨w.heap.size, 0, none⟩ = some (.int .u64 F) ∧ W.cell? ⟨w.heap.size, 1, none⟩ = some (.int .u64 L) ∧ W.cell? ⟨w.heap.size, 2, none⟩ = some (.int .u64 R)) ∧
    (W.cell? ⟨w.heap.size + 1, 0, none⟩ = some (.int .u64 G) ∧ W.cell? ⟨w.heap.size + 1, 1, none⟩ = some (.int .u64 M) ∧ W.cell? ⟨w.heap.size + 1, 2, none⟩ = some (.int .u64 S)) ∧
    (W.cell? ⟨w.heap.size + 1 + 1, 0, none⟩ = some (.int .u64 X) ∧ W.cell? ⟨w.heap.size + 1 + 1, 1, none⟩ = some (.int .u64 Y) ∧ W.cell? ⟨w.heap.size + 1 + 1, 2, none⟩ = some (.int .u64 Z)) :=
  ⟨⟨h.ba.cell 0, h.ba.cell 1, h.ba.cell 2⟩, ⟨h.bb.cell 0, h.bb.cell 1, h.bb.cell 2⟩, ⟨h.bc.cell 0, h.bc.cell 1, h.bc.cell 2⟩⟩
theorem Box3.over {w W : World} {F L R G M S X Y Z : Int} (h : Box3 w W (F, L, R) (G, M, S) (X, Y, Z)) (e : World) : Box3 w (over W e) (F, L, R) (G, M, S) (X, Y, Z) := h.later (over_below W e)

set_option maxRecDepth 100000 in
set_option maxHeartbeats 20000000 in
theorem sbelow_walk (F L R G M S X Y Z : Int) (a0 : Option Addr) (len cap : Nat) (zs : List (List Value)) (r t : Int) (w : World) (ua : U F ∧ U L ∧ U R) (ub : U G ∧ U M ∧ U S) (uc : U X ∧ U Y ∧ U Z) (hz : IsRows [some .u64, some .u64, some .u64] w a0 len cap zs) (hr : U r) (ht : U t) :
    Calls Try.prog 8 #[.agg #[.int .u64 F, .int .u64 L, .int .u64 R], .agg #[.int .u64 G, .int .u64 M, .int .u64 S], .agg #[.int .u64 X, .int .u64 Y, .int .u64 Z], .slice a0 len cap, .int .u64 r, .int .u64 t] w fun e w' => e = .returned (.bool true) ∧ Below w.heap.size w w' := by
  have hlm : len ≤ 9223372036854775807 := by have := hz.1; have := hz.2.1; unfold maxLen at this; omega
  have h3 := Box3.new w (F, L, R) (G, M, S) (X, Y, Z)
  have hma := fun w => may_any F L R w ua.2.1.1
  have hmb := fun w => may_any G M S w ub.2.1.1
  have hmc := fun w => may_any X Y Z w uc.2.1.1
  rw [show mayB F L R = okC (F, L, R) from rfl] at hma
  rw [show mayB G M S = okC (G, M, S) from rfl] at hmb
  rw [show mayB X Y Z = okC (X, Y, Z) from rfl] at hmc
  by_cases h20 : len ≤ 20
  · obtain ⟨l, rfl, hcv⟩ := cvs_of hz (by omega)
    have hcv0 := fun W (h : Below w.heap.size w W) => hcv.later h
    by_cases htN : t < 9223372036854775808
    · have HA := Lib.hid hma; have HB := Lib.hid hmb; have HC := Lib.hid hmc; have H := Lib.hid hcv0; have H3 := Lib.hid h3
      clear hma hmb hmc hcv hcv0 hz h3
      have hgn : decide ((20 : Int) < (l.length : Int)) = false := decide_eq_false (by omega)
      go_enter Try.func8, Try.ntmps8
      go_wp2_with fail
      refine (awake_any _).mono ?_
      rintro e w1 ⟨rfl, hb1⟩
      have h3 := H3.out.later hb1
      obtain ⟨⟨c0, c1, c2⟩, ⟨d0, d1, d2⟩, ⟨e0, e1, e2⟩⟩ := h3.cells
      have HW1 := Lib.hid h3
      clear h3 hb1 H3
      have hbn : okC (F, L, R) = false ∨ okC (G, M, S) = false → ∀ W, Calls Try.prog 23 #[.agg #[.int .u64 F, .int .u64 L, .int .u64 R], .agg #[.int .u64 G, .int .u64 M, .int .u64 S]] W fun e w' => e = .returned (.bool false) ∧ Below W.heap.size W w' := fun hn W => by
        have h := below_any (F, L, R) (G, M, S) W ua ub
        unfold BelW cvV at h
        rw [decide_eq_false (fun hb => by
          have h1 := hb.1; have h2 := hb.2.1
          rcases hn with hn | hn
          · rw [hn] at h1; cases h1
          · rw [hn] at h2; cases h2)] at h
        exact h
      cases oa : okC (F, L, R)
      · rw [oa] at HA
        have hbf := hbn (.inl oa)
        clear hbn HB HC H
        go_wp2_with fail
        clear c0 c1 c2 d0 d1 d2 e0 e1 e2
        refine (HA.out _).mono ?_
        rintro e w2 ⟨rfl, hb2⟩
        have h3 := HW1.out.later hb2
        obtain ⟨⟨c0, c1, c2⟩, ⟨d0, d1, d2⟩, ⟨e0, e1, e2⟩⟩ := h3.cells
        have HW2 := Lib.hid h3
        clear h3 hb2 HW1
        go_wp2_with fail
        clear c0 c1 c2 d0 d1 d2 e0 e1 e2
        refine (HA.out _).mono ?_
        rintro e w3 ⟨rfl, hb3⟩
        have h3 := HW2.out.later hb3
        obtain ⟨⟨c0, c1, c2⟩, ⟨d0, d1, d2⟩, ⟨e0, e1, e2⟩⟩ := h3.cells
        have HW3 := Lib.hid h3
        clear h3 hb3 HW2
        go_wp2_with fail
        clear c0 c1 c2 d0 d1 d2 e0 e1 e2
        refine (hbf _).mono ?_
        clear hbf
        rintro e w4 ⟨rfl, hb4⟩
        have HW4 := Lib.hid (HW3.out.later hb4).below
        clear hb4 HW3
        go_wp2_with fail
        go_ret
        exact ⟨rfl, HW4.out⟩
      · cases ob : okC (G, M, S)
        · rw [oa] at HA
          rw [ob] at HB
          have hbf := hbn (.inr ob)
          clear hbn HC H
          go_wp2_with fail
          clear c0 c1 c2 d0 d1 d2 e0 e1 e2
          refine (HA.out _).mono ?_
          rintro e w2 ⟨rfl, hb2⟩
          have h3 := HW1.out.later hb2
          obtain ⟨⟨c0, c1, c2⟩, ⟨d0, d1, d2⟩, ⟨e0, e1, e2⟩⟩ := h3.cells
          have HW2 := Lib.hid h3
          clear h3 hb2 HW1
          go_wp2_with fail
          clear c0 c1 c2 d0 d1 d2 e0 e1 e2
          refine (HB.out _).mono ?_
          rintro e w3 ⟨rfl, hb3⟩
          have h3 := HW2.out.later hb3
          obtain ⟨⟨c0, c1, c2⟩, ⟨d0, d1, d2⟩, ⟨e0, e1, e2⟩⟩ := h3.cells
          have HW3 := Lib.hid h3
          clear h3 hb3 HW2
          go_wp2_with fail
          clear c0 c1 c2 d0 d1 d2 e0 e1 e2
          refine (HA.out _).mono ?_
          rintro e w4 ⟨rfl, hb4⟩
          have h3 := HW3.out.later hb4
          obtain ⟨⟨c0, c1, c2⟩, ⟨d0, d1, d2⟩, ⟨e0, e1, e2⟩⟩ := h3.cells
          have HW4 := Lib.hid h3
          clear h3 hb4 HW3
          go_wp2_with fail
          clear c0 c1 c2 d0 d1 d2 e0 e1 e2
          refine (HB.out _).mono ?_
          rintro e w5 ⟨rfl, hb5⟩
          have h3 := HW4.out.later hb5
          obtain ⟨⟨c0, c1, c2⟩, ⟨d0, d1, d2⟩, ⟨e0, e1, e2⟩⟩ := h3.cells
          have HW5 := Lib.hid h3
          clear h3 hb5 HW4
          go_wp2_with fail
          clear c0 c1 c2 d0 d1 d2 e0 e1 e2
          refine (hbf _).mono ?_
          clear hbf
          rintro e w6 ⟨rfl, hb6⟩
          have HW6 := Lib.hid (HW5.out.later hb6).below
          clear hb6 HW5
          go_wp2_with fail
          go_ret
          exact ⟨rfl, HW6.out⟩
        · rw [oa] at HA
          rw [ob] at HB
          clear hbn
          go_wp2_with fail
          clear c0 c1 c2 d0 d1 d2 e0 e1 e2
          refine (HA.out _).mono ?_
          rintro e w2 ⟨rfl, hb2⟩
          have h3 := HW1.out.later hb2
          obtain ⟨⟨c0, c1, c2⟩, ⟨d0, d1, d2⟩, ⟨e0, e1, e2⟩⟩ := h3.cells
          have HW2 := Lib.hid h3
          clear h3 hb2 HW1
          go_wp2_with fail
          clear c0 c1 c2 d0 d1 d2 e0 e1 e2
          refine (HB.out _).mono ?_
          rintro e w3 ⟨rfl, hb3⟩
          have h3 := HW2.out.later hb3
          obtain ⟨⟨c0, c1, c2⟩, ⟨d0, d1, d2⟩, ⟨e0, e1, e2⟩⟩ := h3.cells
          have HW3 := Lib.hid h3
          clear h3 hb3 HW2
          go_wp2_with fail
          clear c0 c1 c2 d0 d1 d2 e0 e1 e2
          refine (HC.out _).mono ?_
          rintro e w4 ⟨rfl, hb4⟩
          have h3 := HW3.out.later hb4
          have HW4 := Lib.hid h3
          clear hb4 HW3
          cases oc : okC (X, Y, Z)
          · obtain ⟨⟨c0, c1, c2⟩, ⟨d0, d1, d2⟩, ⟨e0, e1, e2⟩⟩ := h3.cells
            clear h3 H
            go_wp2_with fail
            clear c0 c1 c2 d0 d1 d2 e0 e1 e2
            refine (HA.out _).mono ?_
            rintro e w5 ⟨rfl, hb5⟩
            have h3 := HW4.out.later hb5
            obtain ⟨⟨c0, c1, c2⟩, ⟨d0, d1, d2⟩, ⟨e0, e1, e2⟩⟩ := h3.cells
            have HW5 := Lib.hid h3
            clear h3 hb5 HW4
            go_wp2_with fail
            clear c0 c1 c2 d0 d1 d2 e0 e1 e2
            refine (HB.out _).mono ?_
            rintro e w6 ⟨rfl, hb6⟩
            have HW6 := Lib.hid (HW5.out.later hb6).below
            clear hb6 HW5
            go_wp2_with fail
            go_ret
            exact ⟨rfl, HW6.out⟩
          · have hAA := fun W => below_any (F, L, R) (F, L, R) W ua ua
            have hAB := fun W => below_any (F, L, R) (G, M, S) W ua ub
            have hBC := fun W => below_any (G, M, S) (X, Y, Z) W ub uc
            have hAC := fun W => below_any (F, L, R) (X, Y, Z) W ua uc
            have hBA := fun W => below_any (G, M, S) (F, L, R) W ub ua
            unfold BelW cvV at hAA hAB hBC hAC hBA
            dsimp only at hAA hAB hBC hAC hBA
            rw [show decide (BelowP (F, L, R) (F, L, R)) = true from decide_eq_true (BelowP.self oa)] at hAA
            obtain ⟨kab, hkab⟩ : ∃ k, decide (BelowP (F, L, R) (G, M, S)) = k := ⟨_, rfl⟩
            obtain ⟨kbc, hkbc⟩ : ∃ k, decide (BelowP (G, M, S) (X, Y, Z)) = k := ⟨_, rfl⟩
            obtain ⟨kac, hkac⟩ : ∃ k, decide (BelowP (F, L, R) (X, Y, Z)) = k := ⟨_, rfl⟩
            obtain ⟨kba, hkba⟩ : ∃ k, decide (BelowP (G, M, S) (F, L, R)) = k := ⟨_, rfl⟩
            rw [hkab] at hAB; rw [hkbc] at hBC; rw [hkac] at hAC; rw [hkba] at hBA
            have HAA := Lib.hid hAA; have HAB := Lib.hid hAB; have HBC := Lib.hid hBC; have HAC := Lib.hid hAC; have HBA := Lib.hid hBA
            have KAB := Lib.hid hkab; have KBC := Lib.hid hkbc; have KAC := Lib.hid hkac; have KBA := Lib.hid hkba
            clear hAA hAB hBC hAC hBA hkab hkbc hkac hkba
            have l0 := h3.ba.lt; have l1 := h3.bb.lt; have l2 := h3.bc.lt
            have o0 := fun e => (h3.over e).cells.1.1; have o1 := fun e => (h3.over e).cells.1.2.1; have o2 := fun e => (h3.over e).cells.1.2.2
            have p0 := fun e => (h3.over e).cells.2.1.1; have p1 := fun e => (h3.over e).cells.2.1.2.1; have p2 := fun e => (h3.over e).cells.2.1.2.2
            have q0 := fun e => (h3.over e).cells.2.2.1; have q1 := fun e => (h3.over e).cells.2.2.2.1; have q2 := fun e => (h3.over e).cells.2.2.2.2
            clear h3
            go_upto_region 7 with fail
            refine wp_region_mid (w := w4) 12 0 [] [] [] rfl (by kernel_rfl) (by kernel_rfl) (by kernel_rfl) (by kernel_rfl) (fun _ _ _ _ _ h => h) trivial ?_
            intro LL hL
            have HL := Lib.hid hL
            clear hL
            simp only [List.take_succ_cons, List.take_zero, putL]
            iterate 12 (first | refine wpHead_skip (by decide) ?_ | (refine wpHead_step (by decide) (fun K hK => ?_); go_simp; first | (refine hK _ ?_; clear hK K) | (apply Exists.intro; refine ⟨fun e => ?_, hK _ ?_⟩; (focus (first | (go_at_call 23; with_reducible exact HAB.out _) | (go_at_call 23; with_reducible exact HBC.out _) | (go_at_call 23; with_reducible exact HAC.out _))); clear hK K)))
            refine wpHead_nil (HL.out _ trivial ?_)
            intro vs W5 hb5 _
            clear HL o0 o1 o2 p0 p1 p2 q0 q1 q2 l0 l1 l2
            simp only [putHd, List.drop_succ_cons, List.drop_zero, List.take_succ_cons, List.take_zero]
            have h3 := HW4.out.later hb5
            have HW5 := Lib.hid h3
            clear hb5 HW4 h3
            cases kab
            · go_upto_region 8 with fail
              go_cut [12, 87] from 61 to 86 (fun _ v wx => v = .bool false ∧ Box3 w wx (F, L, R) (G, M, S) (X, Y, Z))
              case first =>
                obtain ⟨⟨c0, c1, c2⟩, ⟨d0, d1, d2⟩, ⟨e0, e1, e2⟩⟩ := HW5.out.cells
                go_wp2_with fail
                clear c0 c1 c2 d0 d1 d2 e0 e1 e2
                refine (HAA.out _).mono ?_
                rintro e w6 ⟨rfl, hb6⟩
                have HW6 := Lib.hid (HW5.out.later hb6)
                clear hb6 HW5
                go_wp2_with fail
                go_meet
                exact ⟨rfl, HW6.out⟩
              case rest =>
                obtain ⟨rfl, h3⟩ := hcut
                have HW6 := Lib.hid h3
                clear h3
                have hnb : ¬ BelowP (F, L, R) (G, M, S) := of_decide_eq_false KAB.out
                have hex := not_below oa ob ⟨ua.1.1, ua.2.1.1, ua.2.2.1⟩ ⟨ub.1.1, ub.2.1.1, ub.2.2.1⟩ hnb
                have HEX := Lib.hid hex
                clear hnb hex
                obtain ⟨⟨c0, c1, c2⟩, ⟨d0, d1, d2⟩, ⟨e0, e1, e2⟩⟩ := HW6.out.cells
                go_wp2_with fail
                go_quiet (fail)
                clear c0 c1 c2 d0 d1 d2 e0 e1 e2
                have h3 := HW6.out.later (below_drewN (Below.refl _ _) nq)
                generalize wc.drewN nq = w7 at h3 ⊢
                obtain ⟨⟨c0, c1, c2⟩, ⟨d0, d1, d2⟩, ⟨e0, e1, e2⟩⟩ := h3.cells
                have HW7 := Lib.hid h3
                clear h3 HW6
                go_wp2_with fail
                clear c0 c1 c2 d0 d1 d2 e0 e1 e2
                have h3 := HW7.out.later ((Below.refl _ _).alloc (Nat.le_refl _) (.cells #[.int .u64 L, .int .u64 M, .int .u64 9223372036854775807] 23))
                have hce : ∀ W, Below (w7.alloc (.cells #[.int .u64 L, .int .u64 M, .int .u64 9223372036854775807] 23)).heap.size (w7.alloc (.cells #[.int .u64 L, .int .u64 M, .int .u64 9223372036854775807] 23)) W → ∀ (j : Nat) (t : Int), [L, M, 9223372036854775807][j]? = some t → W.cell? ⟨w7.heap.size, j, none⟩ = some (.int .u64 t) := fun W hW j t hj => by
                  have h1 := Blk.new w7 23 #[.int .u64 L, .int .u64 M, .int .u64 9223372036854775807]
                  rw [(h1.below hW h1.lt).cell j]
                  match j, hj with
                  | 0, hj => cases hj; rfl
                  | 1, hj => cases hj; rfl
                  | 2, hj => cases hj; rfl
                  | j + 3, hj => simp at hj
                generalize w7.alloc (.cells #[.int .u64 L, .int .u64 M, .int .u64 9223372036854775807] 23) = w8 at h3 hce ⊢
                have HW8 := Lib.hid h3; have HCE := Lib.hid hce
                clear h3 hce HW7
                go_loopw [17] (fun vi W => ∃ k : Nat, vi = .int .i64 k ∧ k ≤ 3 ∧ Below w8.heap.size w8 W ∧ ∀ t ∈ [L, M, 9223372036854775807].take k, vC (F, L, R) t ≤ vC (G, M, S) t) (fun vi _ => (3 - Go.RowKit.intOf vi).toNat)
                case atStart => exact ⟨0, rfl, by omega, Below.refl _ _, fun t ht => by simp at ht⟩
                case round =>
                  obtain ⟨k, rfl, hk, hbW, hall⟩ := hrel
                  have HA9 := Lib.hid hall; have HBW3 := Lib.hid hbW
                  clear hall
                  have h3 := HW8.out.later hbW
                  by_cases hlt : k < 3
                  · obtain ⟨tt, htt⟩ : ∃ t, [L, M, 9223372036854775807][k]? = some t := ⟨_, List.getElem?_eq_getElem (by simpa using hlt)⟩
                    have ct := HCE.out _ hbW k tt htt
                    have hT : [L, M, 9223372036854775807].take (k + 1) = [L, M, 9223372036854775807].take k ++ [tt] := by rw [List.take_add_one, htt]; rfl
                    have ut : U tt := by
                      have := List.mem_of_getElem? htt
                      simp only [List.mem_cons, List.not_mem_nil, or_false] at this
                      rcases this with rfl | rfl | rfl
                      · exact ua.2.1
                      · exact ub.2.1
                      · exact ⟨by decide, by decide⟩
                    have hat := fun (c : Cv) (hc : U c.1 ∧ U c.2.1 ∧ U c.2.2) (W : World) (B : Nat) (hB : Blk W B 31 #[.int .u64 c.1, .int .u64 c.2.1, .int .u64 c.2.2]) => sat_any (.slice (some ⟨B, 0, none⟩) 1 1) [c] tt W (CvAt.of_blk (l := [c]) hB (fun d hd => by simp at hd; subst hd; exact hc) (by simp) (by simp)) ut
                    have hta := hat (F, L, R) ua
                    have htb := hat (G, M, S) ub
                    rw [vS_one oa] at hta
                    rw [vS_one ob] at htb
                    obtain ⟨x, hx⟩ : ∃ x, vC (F, L, R) tt = x := ⟨_, rfl⟩
                    obtain ⟨y, hy⟩ : ∃ y, vC (G, M, S) tt = y := ⟨_, rfl⟩
                    rw [hx] at hta
                    rw [hy] at htb
                    have hcmp := fun W => cmp_any (hiW x) (loW x) (hiW y) (loW y) W (U_lo _) (U_lo _)
                    simp only [num_words] at hcmp
                    generalize hiW x = x1 at hta hcmp
                    generalize loW x = x0 at hta hcmp
                    generalize hiW y = y1 at htb hcmp
                    generalize loW y = y0 at htb hcmp
                    have HTA := Lib.hid hta; have HTB := Lib.hid htb; have HCMP := Lib.hid hcmp; have HX := Lib.hid hx; have HY := Lib.hid hy; have HT := Lib.hid hT; have HW9 := Lib.hid h3
                    have lt2 := World.block_lt_of_cell? _ _ ct
                    have o0 := fun e => (h3.over e).cells.1.1; have o1 := fun e => (h3.over e).cells.1.2.1; have o2 := fun e => (h3.over e).cells.1.2.2
                    have p0 := fun e => (h3.over e).cells.2.1.1; have p1 := fun e => (h3.over e).cells.2.1.2.1; have p2 := fun e => (h3.over e).cells.2.1.2.2
                    have q0 := fun e => (over_cell (w := wr) (e := e) lt2).trans ct
                    clear hta htb hcmp hx hy hT hat htt h3 hbW
                    go_wp2
                    refine wp_region_mid (w := wr) 14 2 [1, 6, 8, 13] [] [(1, fun u W' => ∃ B, u = .slice (some ⟨B, 0, none⟩) 1 1 ∧ Blk W' B 31 #[.int .u64 F, .int .u64 L, .int .u64 R]), (6, fun u W' => u = .agg #[.int .u64 x1, .int .u64 x0]), (8, fun u W' => ∃ B, u = .slice (some ⟨B, 0, none⟩) 1 1 ∧ Blk W' B 31 #[.int .u64 G, .int .u64 M, .int .u64 S]), (13, fun u W' => u = .agg #[.int .u64 y1, .int .u64 y0])] rfl (by kernel_rfl) (by kernel_rfl) (by kernel_rfl) (by kernel_rfl) (fun _ _ _ _ _ h => h) ⟨?st1, ?st2, ?st3, ?st4, trivial⟩ ?_
                    case st1 => exact fun v W1 W2 ⟨b, h1, h2⟩ hb => ⟨b, h1, h2.below hb h2.lt⟩
                    case st2 => exact fun v W1 W2 h hb => h
                    case st3 => exact fun v W1 W2 ⟨b, h1, h2⟩ hb => ⟨b, h1, h2.below hb h2.lt⟩
                    case st4 => exact fun v W1 W2 h hb => h
                    intro LL hL
                    have HL := Lib.hid hL
                    clear hL
                    simp only [List.take_succ_cons, List.take_zero, putL]
                    iterate 14 (first | refine wpHead_skip (by decide) ?_ | (refine wpHead_step (by decide) (fun K hK => ?_); go_simp; refine hK _ ?_; clear hK K))
                    refine wpHead_nil (HL.out _ ⟨?_, ?_, ?_, ?_, trivial⟩ ?_)
                    · intro vs W2 hb2 hf
                      clear hf HL
                      change midAt _ _ (Act.put (Act.put (Act.put (Act.put _ (some 133) (vs 1)) (some 138) (vs 6)) (some 140) (vs 8)) (some 145) (vs 13)) _ _
                      go_simp
                      exact ⟨(Below.refl _ _).alloc (Nat.le_refl _) _, Blk.new _ _ _⟩
                    · intro vs W2 hb2 hf
                      obtain ⟨⟨B, hB1, hB2⟩, hff⟩ := hf
                      clear hff HL
                      change midAt _ _ (Act.put (Act.put (Act.put (Act.put _ (some 133) (vs 1)) (some 138) (vs 6)) (some 140) (vs 8)) (some 145) (vs 13)) _ _
                      rw [hB1]
                      clear hB1
                      go_simp
                      exact HTA.out W2 B hB2
                    · intro vs W2 hb2 hf
                      clear hf HL
                      change midAt _ _ (Act.put (Act.put (Act.put (Act.put _ (some 133) (vs 1)) (some 138) (vs 6)) (some 140) (vs 8)) (some 145) (vs 13)) _ _
                      go_simp
                      exact ⟨(Below.refl _ _).alloc (Nat.le_refl _) _, Blk.new _ _ _⟩
                    · intro vs W2 hb2 hf
                      obtain ⟨⟨B, hB1, hB2⟩, hff⟩ := hf
                      clear hff HL
                      change midAt _ _ (Act.put (Act.put (Act.put (Act.put _ (some 133) (vs 1)) (some 138) (vs 6)) (some 140) (vs 8)) (some 145) (vs 13)) _ _
                      rw [hB1]
                      clear hB1
                      go_simp
                      exact HTB.out W2 B hB2
                    · intro vs W2 hb2 hf
                      obtain ⟨⟨B1, f1, f2⟩, f3, ⟨B2, f4, f5⟩, f6, hff⟩ := hf
                      clear hff HL
                      change wpList _ _ _ _ (Act.put (Act.put (Act.put (Act.put _ (some 133) (vs 1)) (some 138) (vs 6)) (some 140) (vs 8)) (some 145) (vs 13)) _
                      rw [f1, f3, f4, f6]
                      clear f1 f3 f4 f6 f2 f5 o0 o1 o2 p0 p1 p2 q0 ct
                      simp only [List.drop_succ_cons, List.drop_zero, List.take_succ_cons, List.take_zero]
                      have HB2 := Lib.hid hb2
                      clear hb2
                      go_wp2_with fail
                      refine (HCMP.out _).mono ?_
                      rintro e wv ⟨rfl, hb4⟩
                      have hb4' := HB2.out.trans (hb4.mono HB2.out.size)
                      have HB4 := Lib.hid hb4'
                      clear hb4 hb4' HB2
                      by_cases hxy : x ≤ y
                      · have hc : decide (0 < cmpI x y) = false := by
                          unfold cmpI; simp; split
                          · omega
                          · split <;> omega
                        simp only [hc]
                        have hc0 : ¬ 0 < cmpI x y := of_decide_eq_false hc
                        generalize cmpI x y = z at hc hc0 ⊢
                        clear hc
                        go_wp2_with fail
                        go_roundw
                        case measure => (simp [Go.RowKit.intOf]; try omega)
                        case rel =>
                          refine ⟨k + 1, by go_num, by omega, HBW3.out.trans (HB4.out.mono HBW3.out.size), fun q hq => ?_⟩
                          rw [HT.out] at hq
                          rcases List.mem_append.1 hq with hq | hq
                          · exact HA9.out q hq
                          · simp at hq; subst hq; rw [HX.out, HY.out]; exact hxy
                      · have hc0 : 0 < cmpI x y := by
                          unfold cmpI; split
                          · omega
                          · split <;> omega
                        generalize cmpI x y = z at hc0 ⊢
                        go_wp2_with fail
                        go_ret
                        exact ⟨rfl, (HW9.out.later HB4.out).below⟩
                  · obtain rfl : k = 3 := by omega
                    obtain ⟨q, hq, hlt3⟩ := HEX.out
                    have := HA9.out q (by simpa using hq)
                    omega
            · --13
              go_upto_region 8 with fail
              go_cut [12, 87] from 61 to 86 (fun _ v wx => v = .bool false ∧ Box3 w wx (F, L, R) (G, M, S) (X, Y, Z))
              case first =>
                have hac : kbc = true → kac = true := fun e => by rw [← KAC.out]; rw [← KBC.out] at e; exact decide_eq_true ((of_decide_eq_true KAB.out).trans (of_decide_eq_true e))
                have hba : kba = true → (F, L, R) = (G, M, S) := fun e => by rw [← KBA.out] at e; exact BelowP.anti ⟨ua.1.1, ua.2.1.1, ua.2.2.1⟩ ⟨ub.1.1, ub.2.1.1, ub.2.2.1⟩ (of_decide_eq_true KAB.out) (of_decide_eq_true e)
                clear KAB KBC KAC KBA
                cases kba
                · clear hba
                  cases kbc
                  · clear hac
                    obtain ⟨⟨c0, c1, c2⟩, ⟨d0, d1, d2⟩, ⟨e0, e1, e2⟩⟩ := HW5.out.cells
                    go_wp2_with fail
                    clear c0 c1 c2 d0 d1 d2 e0 e1 e2
                    refine (HAA.out _).mono ?_
                    rintro e w6 ⟨rfl, hb6⟩
                    have h3 := HW5.out.later hb6
                    obtain ⟨⟨c0, c1, c2⟩, ⟨d0, d1, d2⟩, ⟨e0, e1, e2⟩⟩ := h3.cells
                    have HW6 := Lib.hid h3
                    clear h3 hb6 HW5
                    go_wp2_with fail
                    clear c0 c1 c2 d0 d1 d2 e0 e1 e2
                    refine (HBA.out _).mono ?_
                    rintro e w7 ⟨rfl, hb7⟩
                    have h3 := HW6.out.later hb7
                    obtain ⟨⟨c0, c1, c2⟩, ⟨d0, d1, d2⟩, ⟨e0, e1, e2⟩⟩ := h3.cells
                    have HW7 := Lib.hid h3
                    clear h3 hb7 HW6
                    go_wp2_with fail
                    go_meet
                    exact ⟨by first | rfl | simp, HW7.out⟩
                  · obtain rfl := hac rfl
                    clear hac
                    obtain ⟨⟨c0, c1, c2⟩, ⟨d0, d1, d2⟩, ⟨e0, e1, e2⟩⟩ := HW5.out.cells
                    go_wp2_with fail
                    clear c0 c1 c2 d0 d1 d2 e0 e1 e2
                    refine (HAA.out _).mono ?_
                    rintro e w6 ⟨rfl, hb6⟩
                    have h3 := HW5.out.later hb6
                    obtain ⟨⟨c0, c1, c2⟩, ⟨d0, d1, d2⟩, ⟨e0, e1, e2⟩⟩ := h3.cells
                    have HW6 := Lib.hid h3
                    clear h3 hb6 HW5
                    go_wp2_with fail
                    clear c0 c1 c2 d0 d1 d2 e0 e1 e2
                    refine (HBA.out _).mono ?_
                    rintro e w7 ⟨rfl, hb7⟩
                    have h3 := HW6.out.later hb7
                    obtain ⟨⟨c0, c1, c2⟩, ⟨d0, d1, d2⟩, ⟨e0, e1, e2⟩⟩ := h3.cells
                    have HW7 := Lib.hid h3
                    clear h3 hb7 HW6
                    go_wp2_with fail
                    go_meet
                    exact ⟨by first | rfl | simp, HW7.out⟩
                · have he := hba rfl
                  simp only [Prod.mk.injEq] at he
                  obtain ⟨rfl, rfl, rfl⟩ := he
                  clear hba
                  cases kbc
                  · clear hac
                    obtain ⟨⟨c0, c1, c2⟩, ⟨d0, d1, d2⟩, ⟨e0, e1, e2⟩⟩ := HW5.out.cells
                    go_wp2_with fail
                    clear c0 c1 c2 d0 d1 d2 e0 e1 e2
                    refine (HAA.out _).mono ?_
                    rintro e w6 ⟨rfl, hb6⟩
                    have h3 := HW5.out.later hb6
                    obtain ⟨⟨c0, c1, c2⟩, ⟨d0, d1, d2⟩, ⟨e0, e1, e2⟩⟩ := h3.cells
                    have HW6 := Lib.hid h3
                    clear h3 hb6 HW5
                    go_wp2_with fail
                    clear c0 c1 c2 d0 d1 d2 e0 e1 e2
                    refine (HBA.out _).mono ?_
                    rintro e w7 ⟨rfl, hb7⟩
                    have h3 := HW6.out.later hb7
                    obtain ⟨⟨c0, c1, c2⟩, ⟨d0, d1, d2⟩, ⟨e0, e1, e2⟩⟩ := h3.cells
                    have HW7 := Lib.hid h3
                    clear h3 hb7 HW6
                    go_wp2_with fail
                    go_meet
                    exact ⟨by first | rfl | simp, HW7.out⟩
                  · obtain rfl := hac rfl
                    clear hac
                    obtain ⟨⟨c0, c1, c2⟩, ⟨d0, d1, d2⟩, ⟨e0, e1, e2⟩⟩ := HW5.out.cells
                    go_wp2_with fail
                    clear c0 c1 c2 d0 d1 d2 e0 e1 e2
                    refine (HAA.out _).mono ?_
                    rintro e w6 ⟨rfl, hb6⟩
                    have h3 := HW5.out.later hb6
                    obtain ⟨⟨c0, c1, c2⟩, ⟨d0, d1, d2⟩, ⟨e0, e1, e2⟩⟩ := h3.cells
                    have HW6 := Lib.hid h3
                    clear h3 hb6 HW5
                    go_wp2_with fail
                    clear c0 c1 c2 d0 d1 d2 e0 e1 e2
                    refine (HBA.out _).mono ?_
                    rintro e w7 ⟨rfl, hb7⟩
                    have h3 := HW6.out.later hb7
                    obtain ⟨⟨c0, c1, c2⟩, ⟨d0, d1, d2⟩, ⟨e0, e1, e2⟩⟩ := h3.cells
                    have HW7 := Lib.hid h3
                    clear h3 hb7 HW6
                    go_wp2_with fail
                    go_meet
                    exact ⟨by first | rfl | simp, HW7.out⟩
              case rest =>
                obtain ⟨rfl, h3⟩ := hcut
                have hab := of_decide_eq_true KAB.out
                have hle := hab.2.2 t ht.1
                have HABP := Lib.hid hab
                have hta := fun (W : World) (B : Nat) (hB : Blk W B 31 #[.int .u64 F, .int .u64 L, .int .u64 R]) => sat_any (.slice (some ⟨B, 0, none⟩) 1 1) [(F, L, R)] t W (CvAt.of_blk (l := [(F, L, R)]) hB (fun d hd => by simp at hd; subst hd; exact ua) (by simp) (by simp)) ht
                rw [vS_one oa] at hta
                have htb := fun (W : World) (B : Nat) (hB : Blk W B 31 #[.int .u64 G, .int .u64 M, .int .u64 S]) => sat_any (.slice (some ⟨B, 0, none⟩) 1 1) [(G, M, S)] t W (CvAt.of_blk (l := [(G, M, S)]) hB (fun d hd => by simp at hd; subst hd; exact ub) (by simp) (by simp)) ht
                rw [vS_one ob] at htb
                obtain ⟨x, hx⟩ : ∃ x, vC (F, L, R) t = x := ⟨_, rfl⟩
                obtain ⟨y, hy⟩ : ∃ y, vC (G, M, S) t = y := ⟨_, rfl⟩
                rw [hx] at hta hle
                rw [hy] at htb hle
                have hcmp := fun W => cmp_any (hiW x) (loW x) (hiW y) (loW y) W (U_lo _) (U_lo _)
                simp only [num_words] at hcmp
                generalize hiW x = x1 at hta hcmp
                generalize loW x = x0 at hta hcmp
                generalize hiW y = y1 at htb hcmp
                generalize loW y = y0 at htb hcmp
                have hc : decide (0 < cmpI x y) = false := by
                  unfold cmpI; simp; split
                  · omega
                  · split <;> omega
                have hc0 : ¬ 0 < cmpI x y := of_decide_eq_false hc
                generalize cmpI x y = z at hcmp hc hc0
                have HTA := Lib.hid hta; have HTB := Lib.hid htb; have HCMP := Lib.hid hcmp; have HW6 := Lib.hid h3
                clear hta htb hcmp hx hy hc hab hle HAA HAB HBC HAC HBA KAB KBC KAC KBA
                have o0 := fun e => (h3.over e).cells.1.1; have o1 := fun e => (h3.over e).cells.1.2.1; have o2 := fun e => (h3.over e).cells.1.2.2
                have p0 := fun e => (h3.over e).cells.2.1.1; have p1 := fun e => (h3.over e).cells.2.1.2.1; have p2 := fun e => (h3.over e).cells.2.1.2.2
                clear h3
                go_upto_region 10 with fail
                refine wp_region_midg (w := wc) 10 3 [3, 5, 7, 9] [] [(3, fun u W' => ∃ B, u = .slice (some ⟨B, 0, none⟩) 1 1 ∧ Blk W' B 31 #[.int .u64 F, .int .u64 L, .int .u64 R]), (5, fun u W' => u = .agg #[.int .u64 x1, .int .u64 x0]), (7, fun u W' => ∃ B, u = .slice (some ⟨B, 0, none⟩) 1 1 ∧ Blk W' B 31 #[.int .u64 G, .int .u64 M, .int .u64 S]), (9, fun u W' => u = .agg #[.int .u64 y1, .int .u64 y0])] rfl (by kernel_rfl) (by kernel_rfl) (by kernel_rfl) (by kernel_rfl) (fun _ _ _ _ _ h => h) ⟨?st1, ?st2, ?st3, ?st4, trivial⟩ ?_
                case st1 => exact fun v W1 W2 ⟨b, h1, h2⟩ hb => ⟨b, h1, h2.below hb h2.lt⟩
                case st2 => exact fun v W1 W2 h hb => h
                case st3 => exact fun v W1 W2 ⟨b, h1, h2⟩ hb => ⟨b, h1, h2.below hb h2.lt⟩
                case st4 => exact fun v W1 W2 h hb => h
                intro LL hL
                have HL := Lib.hid hL
                clear hL
                simp only [List.take_succ_cons, List.take_zero, putL]
                iterate 10 (first | refine wpHead_skip (by decide) ?_ | (refine wpHead_step (by decide) (fun K hK => ?_); go_simp; refine hK _ ?_; clear hK K))
                refine wpHead_nil (HL.out _ ⟨?_, ?_, ?_, ?_, trivial⟩ ?_)
                · intro vs W2 hb2 hf
                  clear hf HL
                  change TStep _ _ _ (Act.put (Act.put (Act.put (Act.put _ (some 91) (vs 3)) (some 93) (vs 5)) (some 95) (vs 7)) (some 97) (vs 9)) _ _
                  refine tstep_yes (by kernel_rfl) ?_
                  go_simp
                  exact ⟨(Below.refl _ _).alloc (Nat.le_refl _) _, Blk.new _ _ _⟩
                · intro vs W2 hb2 hf
                  have hf := fits_cast (q := (∃ B, vs 3 = .slice (some ⟨B, 0, none⟩) 1 1 ∧ Blk W2 B 31 #[.int .u64 F, .int .u64 L, .int .u64 R]) ∧ True) hf (by kernel_rfl)
                  obtain ⟨⟨B, hB1, hB2⟩, hff⟩ := hf
                  clear hff HL
                  change TStep _ _ _ (Act.put (Act.put (Act.put (Act.put _ (some 91) (vs 3)) (some 93) (vs 5)) (some 95) (vs 7)) (some 97) (vs 9)) _ _
                  rw [hB1]
                  clear hB1
                  refine tstep_yes (by kernel_rfl) ?_
                  go_simp
                  exact HTA.out W2 B hB2
                · intro vs W2 hb2 hf
                  clear hf HL
                  change TStep _ _ _ (Act.put (Act.put (Act.put (Act.put _ (some 91) (vs 3)) (some 93) (vs 5)) (some 95) (vs 7)) (some 97) (vs 9)) _ _
                  refine tstep_yes (by kernel_rfl) ?_
                  go_simp
                  exact ⟨(Below.refl _ _).alloc (Nat.le_refl _) _, Blk.new _ _ _⟩
                · intro vs W2 hb2 hf
                  have hf := fits_cast (q := (∃ B, vs 7 = .slice (some ⟨B, 0, none⟩) 1 1 ∧ Blk W2 B 31 #[.int .u64 G, .int .u64 M, .int .u64 S]) ∧ True) hf (by kernel_rfl)
                  obtain ⟨⟨B, hB1, hB2⟩, hff⟩ := hf
                  clear hff HL
                  change TStep _ _ _ (Act.put (Act.put (Act.put (Act.put _ (some 91) (vs 3)) (some 93) (vs 5)) (some 95) (vs 7)) (some 97) (vs 9)) _ _
                  rw [hB1]
                  clear hB1
                  refine tstep_yes (by kernel_rfl) ?_
                  go_simp
                  exact HTB.out W2 B hB2
                · intro vs W2 hb2 hf
                  have hf := fits_cast (q := (∃ B, vs 3 = .slice (some ⟨B, 0, none⟩) 1 1 ∧ Blk W2 B 31 #[.int .u64 F, .int .u64 L, .int .u64 R]) ∧ (vs 5 = .agg #[.int .u64 x1, .int .u64 x0]) ∧ (∃ B, vs 7 = .slice (some ⟨B, 0, none⟩) 1 1 ∧ Blk W2 B 31 #[.int .u64 G, .int .u64 M, .int .u64 S]) ∧ (vs 9 = .agg #[.int .u64 y1, .int .u64 y0]) ∧ True) hf (by kernel_rfl)
                  clear HL
                  refine Exists.elim hf.1 fun B1 h1 => ?_
                  refine Exists.elim hf.2.2.1 fun B2 h2 => ?_
                  change wpList _ _ _ _ (Act.put (Act.put (Act.put (Act.put _ (some 91) (vs 3)) (some 93) (vs 5)) (some 95) (vs 7)) (some 97) (vs 9)) _
                  rw [h1.1, hf.2.1, h2.1, hf.2.2.2.1]
                  clear h1 h2 hf o0 o1 o2 p0 p1 p2
                  simp only [List.drop_succ_cons, List.drop_zero, List.take_succ_cons, List.take_zero]
                  have HB2 := Lib.hid (HW6.out.later hb2)
                  clear hb2 HW6
                  go_wp2_with fail
                  refine (HCMP.out _).mono ?_
                  rintro e w9 ⟨rfl, hb4⟩
                  have h3 := HB2.out.later hb4
                  have HW9 := Lib.hid h3
                  clear hb4 HB2 HTA HTB HCMP
                  have huu : ∀ c : Cv, U c.1 ∧ U c.2.1 ∧ U c.2.2 → UU (l ++ [c]) := fun c hc d hd => by
                    rcases List.mem_append.1 hd with hd | hd
                    · exact (H.out w (Below.refl _ _)).1 d hd
                    · simp at hd; subst hd; exact hc
                  have HUU := Lib.hid huu
                  clear huu
                  have o0 := fun e => (h3.over e).cells.1.1; have o1 := fun e => (h3.over e).cells.1.2.1; have o2 := fun e => (h3.over e).cells.1.2.2
                  have p0 := fun e => (h3.over e).cells.2.1.1; have p1 := fun e => (h3.over e).cells.2.1.2.1; have p2 := fun e => (h3.over e).cells.2.1.2.2
                  clear h3
                  go_upto_region 13 with fail
                  cases hkb : decide (Keep (l ++ [(G, M, S)]) r)
                  · have KB := Lib.hid hkb
                    clear hkb
                    refine wp_region_hot (w := w9) 18 2 [0, 2, 4, 5, 7, 8, 9, 10, 11, 12, 13, 14, 15, 16, 17] [] [(0, fun u W' => ∃ g, u = .slice (some ⟨g, 0, none⟩) 0 0 ∧ W'.ownsRow w9.heap.size 31 3 u 0 []), (2, fun u W' => W'.ownsRow w9.heap.size 31 3 u l.length (cvCells l)), (4, fun u W' => ∃ B, u = .slice (some ⟨B, 0, none⟩) 1 1 ∧ Blk W' B 31 #[.int .u64 G, .int .u64 M, .int .u64 S]), (5, fun u W' => CvAt W' u (l ++ [(G, M, S)])), (7, fun u W' => u = .bool false), (8, fun u W' => u = .bool true), (9, fun u W' => u = .bool true), (10, fun u W' => u = undef), (11, fun u W' => u = undef), (12, fun u W' => u = undef), (13, fun u W' => u = undef), (14, fun u W' => u = undef), (15, fun u W' => u = undef), (16, fun u W' => u = undef), (17, fun u W' => u = undef)] [(0, 2), (2, 5), (4, 5), (5, 7)] [5] [7, 8, 9, 10, 11, 12, 13, 14, 15, 16, 17] rfl (by decide) (by decide) (by kernel_rfl) (by kernel_rfl) (by kernel_rfl) (by kernel_rfl) (by kernel_rfl) (fun _ _ _ _ _ h => h) ⟨?st0, ?st2, ?st4, ?st5, ?st7, ?st8, ?st9, ?st10, ?st11, ?st12, ?st13, ?st14, ?st15, ?st16, ?st17, trivial⟩ ⟨?sl0, ?sl2, ?sl4, ?sl5, ?sl7, ?sl8, ?sl9, ?sl10, ?sl11, ?sl12, ?sl13, ?sl14, ?sl15, ?sl16, ?sl17, trivial⟩ ?_
                    case st0 => exact fun v W1 W2 ⟨g, h1, h2⟩ hb => ⟨g, h1, owns_below h2 hb⟩
                    case st2 => exact fun v W1 W2 h hb => owns_below h hb
                    case st4 => exact fun v W1 W2 ⟨b, h1, h2⟩ hb => ⟨b, h1, h2.below hb h2.lt⟩
                    case st5 => exact fun v W1 W2 h hb => h.later hb
                    case st7 => exact fun v W1 W2 h hb => h
                    case st8 => exact fun v W1 W2 h hb => h
                    case st9 => exact fun v W1 W2 h hb => h
                    case st10 => exact fun v W1 W2 h hb => h
                    case st11 => exact fun v W1 W2 h hb => h
                    case st12 => exact fun v W1 W2 h hb => h
                    case st13 => exact fun v W1 W2 h hb => h
                    case st14 => exact fun v W1 W2 h hb => h
                    case st15 => exact fun v W1 W2 h hb => h
                    case st16 => exact fun v W1 W2 h hb => h
                    case st17 => exact fun v W1 W2 h hb => h
                    case sl0 => exact fun h => by simp at h
                    case sl2 => exact fun h => by simp at h
                    case sl4 => exact fun h => by simp at h
                    case sl5 => exact fun h => by simp at h
                    case sl7 => exact fun _ v W1 W2 h => h
                    case sl8 => exact fun _ v W1 W2 h => h
                    case sl9 => exact fun _ v W1 W2 h => h
                    case sl10 => exact fun _ v W1 W2 h => h
                    case sl11 => exact fun _ v W1 W2 h => h
                    case sl12 => exact fun _ v W1 W2 h => h
                    case sl13 => exact fun _ v W1 W2 h => h
                    case sl14 => exact fun _ v W1 W2 h => h
                    case sl15 => exact fun _ v W1 W2 h => h
                    case sl16 => exact fun _ v W1 W2 h => h
                    case sl17 => exact fun _ v W1 W2 h => h
                    intro LL hL
                    have HL := Lib.hid hL
                    clear hL
                    simp only [List.take_succ_cons, List.take_zero, putL]
                    iterate 18 (first | refine wpHead_skip (by decide) ?_ | (refine wpHead_step (by decide) (fun K hK => ?_); go_simp; refine hK _ ?_; clear hK K))
                    refine wpHead_nil (HL.out _ ⟨?_, ?_, ?_, ?_, ?_, ?_, ?_, ?_, ?_, ?_, ?_, ?_, ?_, ?_, ?_, trivial⟩ ?_)
                    · intro vs W2 hb2 hf
                      clear HL
                      have hsz := hb2.size
                      change TStep _ _ _ (Act.put (Act.put (Act.put (Act.put (Act.put (Act.put (Act.put (Act.put (Act.put (Act.put (Act.put (Act.put (Act.put (Act.put (Act.put _ (some 102) (vs 0)) (some 104) (vs 2)) (some 106) (vs 4)) (some 107) (vs 5)) (some 109) (vs 7)) (some 110) (vs 8)) (some 111) (vs 9)) (some 112) (vs 10)) (some 113) (vs 11)) (some 114) (vs 12)) (some 115) (vs 13)) (some 116) (vs 14)) (some 117) (vs 15)) (some 118) (vs 16)) (some 119) (vs 17)) _ _
                      refine tstep_yes (by kernel_rfl) ?_
                      go_simp
                      exact ⟨(Below.refl _ _).alloc (Nat.le_refl _) _, World.ownsRow_made (base := w9.heap.size) (e := 31) (size := 3) W2 #[] 0 hsz (by decide) rfl⟩
                    · intro vs W2 hb2 hf
                      clear HL
                      have hf := fits_cast (q := (∃ g, vs 0 = .slice (some ⟨g, 0, none⟩) 0 0 ∧ W2.ownsRow w9.heap.size 31 3 (vs 0) 0 []) ∧ True) hf (by kernel_rfl)
                      obtain ⟨⟨g0, eq0, f0⟩, _⟩ := hf
                      rw [eq0] at f0
                      have hsz := hb2.size
                      change TStep _ _ _ (Act.put (Act.put (Act.put (Act.put (Act.put (Act.put (Act.put (Act.put (Act.put (Act.put (Act.put (Act.put (Act.put (Act.put (Act.put _ (some 102) (vs 0)) (some 104) (vs 2)) (some 106) (vs 4)) (some 107) (vs 5)) (some 109) (vs 7)) (some 110) (vs 8)) (some 111) (vs 9)) (some 112) (vs 10)) (some 113) (vs 11)) (some 114) (vs 12)) (some 115) (vs 13)) (some 116) (vs 14)) (some 117) (vs 15)) (some 118) (vs 16)) (some 119) (vs 17)) _ _
                      rw [eq0]
                      refine tstep_yes (by kernel_rfl) ?_
                      obtain ⟨v1, w1', r1, o1, b1⟩ := app_all 22 (H.out W2 (HW9.out.below.trans (hb2.mono HW9.out.below.size))) f0 hsz
                      exact midAt_app rfl (by kernel_rfl) (by kernel_rfl) r1 b1 o1
                    · intro vs W2 hb2 hf
                      clear HL
                      have hsz := hb2.size
                      change TStep _ _ _ (Act.put (Act.put (Act.put (Act.put (Act.put (Act.put (Act.put (Act.put (Act.put (Act.put (Act.put (Act.put (Act.put (Act.put (Act.put _ (some 102) (vs 0)) (some 104) (vs 2)) (some 106) (vs 4)) (some 107) (vs 5)) (some 109) (vs 7)) (some 110) (vs 8)) (some 111) (vs 9)) (some 112) (vs 10)) (some 113) (vs 11)) (some 114) (vs 12)) (some 115) (vs 13)) (some 116) (vs 14)) (some 117) (vs 15)) (some 118) (vs 16)) (some 119) (vs 17)) _ _
                      refine tstep_yes (by kernel_rfl) ?_
                      go_simp
                      exact ⟨(Below.refl _ _).alloc (Nat.le_refl _) _, Blk.new _ _ _⟩
                    · intro vs W2 hb2 hf
                      clear HL
                      have hf := fits_cast (q := (W2.ownsRow w9.heap.size 31 3 (vs 2) l.length (cvCells l)) ∧ (∃ B, vs 4 = .slice (some ⟨B, 0, none⟩) 1 1 ∧ Blk W2 B 31 #[.int .u64 G, .int .u64 M, .int .u64 S]) ∧ True) hf (by kernel_rfl)
                      obtain ⟨f2, ⟨B4, eq4, f4⟩, _⟩ := hf
                      have hsz := hb2.size
                      change HStep _ _ _ _ (Act.put (Act.put (Act.put (Act.put (Act.put (Act.put (Act.put (Act.put (Act.put (Act.put (Act.put (Act.put (Act.put (Act.put (Act.put _ (some 102) (vs 0)) (some 104) (vs 2)) (some 106) (vs 4)) (some 107) (vs 5)) (some 109) (vs 7)) (some 110) (vs 8)) (some 111) (vs 9)) (some 112) (vs 10)) (some 113) (vs 11)) (some 114) (vs 12)) (some 115) (vs 13)) (some 116) (vs 14)) (some 117) (vs 15)) (some 118) (vs 16)) (some 119) (vs 17)) _ _
                      rw [eq4]
                      refine hstep_yes (by kernel_rfl) ?_
                      obtain ⟨v2, w2', r2, o2, b2⟩ := app_one 22 (c := (G, M, S)) (HUU.out _ ub) f2 hsz (by omega) f4
                      exact hotUpon_app rfl (by kernel_rfl) (by kernel_rfl) r2 (hb2.trans b2) o2
                    · intro vs W2 hb2 hf
                      clear HL
                      have hf := fits_cast (q := (CvAt W2 (vs 5) (l ++ [(G, M, S)])) ∧ True) hf (by kernel_rfl)
                      obtain ⟨f5, _⟩ := hf
                      have hsz := hb2.size
                      change TStep _ _ _ (Act.put (Act.put (Act.put (Act.put (Act.put (Act.put (Act.put (Act.put (Act.put (Act.put (Act.put (Act.put (Act.put (Act.put (Act.put _ (some 102) (vs 0)) (some 104) (vs 2)) (some 106) (vs 4)) (some 107) (vs 5)) (some 109) (vs 7)) (some 110) (vs 8)) (some 111) (vs 9)) (some 112) (vs 10)) (some 113) (vs 11)) (some 114) (vs 12)) (some 115) (vs 13)) (some 116) (vs 14)) (some 117) (vs 15)) (some 118) (vs 16)) (some 119) (vs 17)) _ _
                      refine tstep_yes (by kernel_rfl) ?_
                      have hk := kept_any _ _ r W2 f5 hr
                      rw [KB.out] at hk
                      go_simp
                      try exact hk
                    · intro vs W2 hb2 hf
                      clear HL
                      have hf := fits_cast (q := (vs 7 = .bool false) ∧ True) hf (by kernel_rfl)
                      obtain ⟨eq7, _⟩ := hf
                      have hsz := hb2.size
                      change TStep _ _ _ (Act.put (Act.put (Act.put (Act.put (Act.put (Act.put (Act.put (Act.put (Act.put (Act.put (Act.put (Act.put (Act.put (Act.put (Act.put _ (some 102) (vs 0)) (some 104) (vs 2)) (some 106) (vs 4)) (some 107) (vs 5)) (some 109) (vs 7)) (some 110) (vs 8)) (some 111) (vs 9)) (some 112) (vs 10)) (some 113) (vs 11)) (some 114) (vs 12)) (some 115) (vs 13)) (some 116) (vs 14)) (some 117) (vs 15)) (some 118) (vs 16)) (some 119) (vs 17)) _ _
                      rw [eq7]
                      refine tstep_yes (by kernel_rfl) ?_
                      go_simp
                      first | exact ⟨Below.refl _ _, rfl⟩ | exact Below.refl _ _
                    · intro vs W2 hb2 hf
                      clear HL
                      have hf := fits_cast (q := (vs 8 = .bool true) ∧ True) hf (by kernel_rfl)
                      obtain ⟨eq8, _⟩ := hf
                      have hsz := hb2.size
                      change TStep _ _ _ (Act.put (Act.put (Act.put (Act.put (Act.put (Act.put (Act.put (Act.put (Act.put (Act.put (Act.put (Act.put (Act.put (Act.put (Act.put _ (some 102) (vs 0)) (some 104) (vs 2)) (some 106) (vs 4)) (some 107) (vs 5)) (some 109) (vs 7)) (some 110) (vs 8)) (some 111) (vs 9)) (some 112) (vs 10)) (some 113) (vs 11)) (some 114) (vs 12)) (some 115) (vs 13)) (some 116) (vs 14)) (some 117) (vs 15)) (some 118) (vs 16)) (some 119) (vs 17)) _ _
                      rw [eq8]
                      refine tstep_yes (by kernel_rfl) ?_
                      go_simp
                      first | exact ⟨Below.refl _ _, rfl⟩ | exact Below.refl _ _
                    · intro vs W2 hb2 hf
                      clear HL
                      have hf := fits_cast (q := (vs 9 = .bool true) ∧ True) hf (by kernel_rfl)
                      obtain ⟨eq9, _⟩ := hf
                      have hsz := hb2.size
                      change TStep _ _ _ (Act.put (Act.put (Act.put (Act.put (Act.put (Act.put (Act.put (Act.put (Act.put (Act.put (Act.put (Act.put (Act.put (Act.put (Act.put _ (some 102) (vs 0)) (some 104) (vs 2)) (some 106) (vs 4)) (some 107) (vs 5)) (some 109) (vs 7)) (some 110) (vs 8)) (some 111) (vs 9)) (some 112) (vs 10)) (some 113) (vs 11)) (some 114) (vs 12)) (some 115) (vs 13)) (some 116) (vs 14)) (some 117) (vs 15)) (some 118) (vs 16)) (some 119) (vs 17)) _ _
                      rw [eq9]
                      exact tstep_no (by kernel_rfl) rfl
                    · intro vs W2 hb2 hf
                      clear HL
                      have hf := fits_cast (q := (vs 9 = .bool true) ∧ True) hf (by kernel_rfl)
                      obtain ⟨eq9, _⟩ := hf
                      have hsz := hb2.size
                      change TStep _ _ _ (Act.put (Act.put (Act.put (Act.put (Act.put (Act.put (Act.put (Act.put (Act.put (Act.put (Act.put (Act.put (Act.put (Act.put (Act.put _ (some 102) (vs 0)) (some 104) (vs 2)) (some 106) (vs 4)) (some 107) (vs 5)) (some 109) (vs 7)) (some 110) (vs 8)) (some 111) (vs 9)) (some 112) (vs 10)) (some 113) (vs 11)) (some 114) (vs 12)) (some 115) (vs 13)) (some 116) (vs 14)) (some 117) (vs 15)) (some 118) (vs 16)) (some 119) (vs 17)) _ _
                      rw [eq9]
                      exact tstep_no (by kernel_rfl) rfl
                    · intro vs W2 hb2 hf
                      clear HL
                      have hf := fits_cast (q := (vs 9 = .bool true) ∧ (vs 10 = undef) ∧ (vs 11 = undef) ∧ True) hf (by kernel_rfl)
                      obtain ⟨eq9, eq10, eq11, _⟩ := hf
                      have hsz := hb2.size
                      change TStep _ _ _ (Act.put (Act.put (Act.put (Act.put (Act.put (Act.put (Act.put (Act.put (Act.put (Act.put (Act.put (Act.put (Act.put (Act.put (Act.put _ (some 102) (vs 0)) (some 104) (vs 2)) (some 106) (vs 4)) (some 107) (vs 5)) (some 109) (vs 7)) (some 110) (vs 8)) (some 111) (vs 9)) (some 112) (vs 10)) (some 113) (vs 11)) (some 114) (vs 12)) (some 115) (vs 13)) (some 116) (vs 14)) (some 117) (vs 15)) (some 118) (vs 16)) (some 119) (vs 17)) _ _
                      rw [eq9, eq10, eq11]
                      exact tstep_no (by kernel_rfl) rfl
                    · intro vs W2 hb2 hf
                      clear HL
                      have hf := fits_cast (q := (vs 9 = .bool true) ∧ True) hf (by kernel_rfl)
                      obtain ⟨eq9, _⟩ := hf
                      have hsz := hb2.size
                      change TStep _ _ _ (Act.put (Act.put (Act.put (Act.put (Act.put (Act.put (Act.put (Act.put (Act.put (Act.put (Act.put (Act.put (Act.put (Act.put (Act.put _ (some 102) (vs 0)) (some 104) (vs 2)) (some 106) (vs 4)) (some 107) (vs 5)) (some 109) (vs 7)) (some 110) (vs 8)) (some 111) (vs 9)) (some 112) (vs 10)) (some 113) (vs 11)) (some 114) (vs 12)) (some 115) (vs 13)) (some 116) (vs 14)) (some 117) (vs 15)) (some 118) (vs 16)) (some 119) (vs 17)) _ _
                      rw [eq9]
                      exact tstep_no (by kernel_rfl) rfl
                    · intro vs W2 hb2 hf
                      clear HL
                      have hf := fits_cast (q := (vs 9 = .bool true) ∧ (vs 13 = undef) ∧ True) hf (by kernel_rfl)
                      obtain ⟨eq9, eq13, _⟩ := hf
                      have hsz := hb2.size
                      change TStep _ _ _ (Act.put (Act.put (Act.put (Act.put (Act.put (Act.put (Act.put (Act.put (Act.put (Act.put (Act.put (Act.put (Act.put (Act.put (Act.put _ (some 102) (vs 0)) (some 104) (vs 2)) (some 106) (vs 4)) (some 107) (vs 5)) (some 109) (vs 7)) (some 110) (vs 8)) (some 111) (vs 9)) (some 112) (vs 10)) (some 113) (vs 11)) (some 114) (vs 12)) (some 115) (vs 13)) (some 116) (vs 14)) (some 117) (vs 15)) (some 118) (vs 16)) (some 119) (vs 17)) _ _
                      rw [eq9, eq13]
                      exact tstep_no (by kernel_rfl) rfl
                    · intro vs W2 hb2 hf
                      clear HL
                      have hf := fits_cast (q := (vs 9 = .bool true) ∧ (vs 12 = undef) ∧ (vs 14 = undef) ∧ True) hf (by kernel_rfl)
                      obtain ⟨eq9, eq12, eq14, _⟩ := hf
                      have hsz := hb2.size
                      change TStep _ _ _ (Act.put (Act.put (Act.put (Act.put (Act.put (Act.put (Act.put (Act.put (Act.put (Act.put (Act.put (Act.put (Act.put (Act.put (Act.put _ (some 102) (vs 0)) (some 104) (vs 2)) (some 106) (vs 4)) (some 107) (vs 5)) (some 109) (vs 7)) (some 110) (vs 8)) (some 111) (vs 9)) (some 112) (vs 10)) (some 113) (vs 11)) (some 114) (vs 12)) (some 115) (vs 13)) (some 116) (vs 14)) (some 117) (vs 15)) (some 118) (vs 16)) (some 119) (vs 17)) _ _
                      rw [eq9, eq12, eq14]
                      exact tstep_no (by kernel_rfl) rfl
                    · intro vs W2 hb2 hf
                      clear HL
                      have hf := fits_cast (q := (vs 9 = .bool true) ∧ True) hf (by kernel_rfl)
                      obtain ⟨eq9, _⟩ := hf
                      have hsz := hb2.size
                      change TStep _ _ _ (Act.put (Act.put (Act.put (Act.put (Act.put (Act.put (Act.put (Act.put (Act.put (Act.put (Act.put (Act.put (Act.put (Act.put (Act.put _ (some 102) (vs 0)) (some 104) (vs 2)) (some 106) (vs 4)) (some 107) (vs 5)) (some 109) (vs 7)) (some 110) (vs 8)) (some 111) (vs 9)) (some 112) (vs 10)) (some 113) (vs 11)) (some 114) (vs 12)) (some 115) (vs 13)) (some 116) (vs 14)) (some 117) (vs 15)) (some 118) (vs 16)) (some 119) (vs 17)) _ _
                      rw [eq9]
                      exact tstep_no (by kernel_rfl) rfl
                    · intro vs W2 hb2 hf
                      clear HL
                      have hf := fits_cast (q := (vs 9 = .bool true) ∧ (vs 15 = undef) ∧ (vs 16 = undef) ∧ True) hf (by kernel_rfl)
                      obtain ⟨eq9, eq15, eq16, _⟩ := hf
                      have hsz := hb2.size
                      change TStep _ _ _ (Act.put (Act.put (Act.put (Act.put (Act.put (Act.put (Act.put (Act.put (Act.put (Act.put (Act.put (Act.put (Act.put (Act.put (Act.put _ (some 102) (vs 0)) (some 104) (vs 2)) (some 106) (vs 4)) (some 107) (vs 5)) (some 109) (vs 7)) (some 110) (vs 8)) (some 111) (vs 9)) (some 112) (vs 10)) (some 113) (vs 11)) (some 114) (vs 12)) (some 115) (vs 13)) (some 116) (vs 14)) (some 117) (vs 15)) (some 118) (vs 16)) (some 119) (vs 17)) _ _
                      rw [eq9, eq15, eq16]
                      exact tstep_no (by kernel_rfl) rfl
                    · intro vs W2 hb2 hf
                      have hf := fits_cast (q := (vs 7 = .bool false) ∧ (vs 8 = .bool true) ∧ (vs 9 = .bool true) ∧ (vs 10 = undef) ∧ (vs 11 = undef) ∧ (vs 12 = undef) ∧ (vs 13 = undef) ∧ (vs 14 = undef) ∧ (vs 15 = undef) ∧ (vs 16 = undef) ∧ (vs 17 = undef) ∧ True) hf (by kernel_rfl)
                      clear HL
                      change wpList _ _ _ _ (Act.put (Act.put (Act.put (Act.put (Act.put (Act.put (Act.put (Act.put (Act.put (Act.put (Act.put (Act.put (Act.put (Act.put (Act.put _ (some 102) (vs 0)) (some 104) (vs 2)) (some 106) (vs 4)) (some 107) (vs 5)) (some 109) (vs 7)) (some 110) (vs 8)) (some 111) (vs 9)) (some 112) (vs 10)) (some 113) (vs 11)) (some 114) (vs 12)) (some 115) (vs 13)) (some 116) (vs 14)) (some 117) (vs 15)) (some 118) (vs 16)) (some 119) (vs 17)) _
                      rw [hf.1, hf.2.1, hf.2.2.1, hf.2.2.2.1, hf.2.2.2.2.1, hf.2.2.2.2.2.1, hf.2.2.2.2.2.2.1, hf.2.2.2.2.2.2.2.1, hf.2.2.2.2.2.2.2.2.1, hf.2.2.2.2.2.2.2.2.2.1, hf.2.2.2.2.2.2.2.2.2.2.1]
                      clear hf o0 o1 o2 p0 p1 p2
                      simp only [List.drop_succ_cons, List.drop_zero, List.take_succ_cons, List.take_zero]
                      have HB2 := Lib.hid (HW9.out.later hb2).below
                      clear hb2
                      go_wp2_with fail
                      go_ret
                      exact ⟨rfl, HB2.out⟩
                  · have KB := Lib.hid hkb
                    have hka : decide (Keep (l ++ [(F, L, R)]) r) = true := decide_eq_true (keep_under HABP.out (of_decide_eq_true hkb))
                    have KA := Lib.hid hka
                    clear hkb hka
                    refine wp_region_hot (w := w9) 18 2 [0, 2, 4, 5, 7, 8, 9, 10, 11, 12, 13, 14, 15, 16, 17] [] [(0, fun u W' => ∃ g, u = .slice (some ⟨g, 0, none⟩) 0 0 ∧ W'.ownsRow w9.heap.size 31 3 u 0 []), (2, fun u W' => W'.ownsRow w9.heap.size 31 3 u l.length (cvCells l)), (4, fun u W' => ∃ B, u = .slice (some ⟨B, 0, none⟩) 1 1 ∧ Blk W' B 31 #[.int .u64 G, .int .u64 M, .int .u64 S]), (5, fun u W' => CvAt W' u (l ++ [(G, M, S)])), (7, fun u W' => u = .bool true), (8, fun u W' => u = .bool false), (9, fun u W' => u = .bool false), (10, fun u W' => ∃ g, u = .slice (some ⟨g, 0, none⟩) 0 0 ∧ W'.ownsRow w9.heap.size 31 3 u 0 []), (11, fun u W' => u = .slice a0 l.length cap), (12, fun u W' => W'.ownsRow w9.heap.size 31 3 u l.length (cvCells l)), (13, fun u W' => u = .agg #[.int .u64 F, .int .u64 L, .int .u64 R]), (14, fun u W' => ∃ B, u = .slice (some ⟨B, 0, none⟩) 1 1 ∧ Blk W' B 31 #[.int .u64 F, .int .u64 L, .int .u64 R]), (15, fun u W' => CvAt W' u (l ++ [(F, L, R)])), (16, fun u W' => u = .int .u64 r), (17, fun u W' => u = .bool true)] [(0, 2), (2, 5), (4, 5), (5, 7), (10, 12), (12, 15), (14, 15), (15, 17)] [5, 15] [7, 8, 9, 11, 13, 16, 17] rfl (by decide) (by decide) (by kernel_rfl) (by kernel_rfl) (by kernel_rfl) (by kernel_rfl) (by kernel_rfl) (fun _ _ _ _ _ h => h) ⟨?st0, ?st2, ?st4, ?st5, ?st7, ?st8, ?st9, ?st10, ?st11, ?st12, ?st13, ?st14, ?st15, ?st16, ?st17, trivial⟩ ⟨?sl0, ?sl2, ?sl4, ?sl5, ?sl7, ?sl8, ?sl9, ?sl10, ?sl11, ?sl12, ?sl13, ?sl14, ?sl15, ?sl16, ?sl17, trivial⟩ ?_
                    case st0 => exact fun v W1 W2 ⟨g, h1, h2⟩ hb => ⟨g, h1, owns_below h2 hb⟩
                    case st2 => exact fun v W1 W2 h hb => owns_below h hb
                    case st4 => exact fun v W1 W2 ⟨b, h1, h2⟩ hb => ⟨b, h1, h2.below hb h2.lt⟩
                    case st5 => exact fun v W1 W2 h hb => h.later hb
                    case st7 => exact fun v W1 W2 h hb => h
                    case st8 => exact fun v W1 W2 h hb => h
                    case st9 => exact fun v W1 W2 h hb => h
                    case st10 => exact fun v W1 W2 ⟨g, h1, h2⟩ hb => ⟨g, h1, owns_below h2 hb⟩
                    case st11 => exact fun v W1 W2 h hb => h
                    case st12 => exact fun v W1 W2 h hb => owns_below h hb
                    case st13 => exact fun v W1 W2 h hb => h
                    case st14 => exact fun v W1 W2 ⟨b, h1, h2⟩ hb => ⟨b, h1, h2.below hb h2.lt⟩
                    case st15 => exact fun v W1 W2 h hb => h.later hb
                    case st16 => exact fun v W1 W2 h hb => h
                    case st17 => exact fun v W1 W2 h hb => h
                    case sl0 => exact fun h => by simp at h
                    case sl2 => exact fun h => by simp at h
                    case sl4 => exact fun h => by simp at h
                    case sl5 => exact fun h => by simp at h
                    case sl7 => exact fun _ v W1 W2 h => h
                    case sl8 => exact fun _ v W1 W2 h => h
                    case sl9 => exact fun _ v W1 W2 h => h
                    case sl10 => exact fun h => by simp at h
                    case sl11 => exact fun _ v W1 W2 h => h
                    case sl12 => exact fun h => by simp at h
                    case sl13 => exact fun _ v W1 W2 h => h
                    case sl14 => exact fun h => by simp at h
                    case sl15 => exact fun h => by simp at h
                    case sl16 => exact fun _ v W1 W2 h => h
                    case sl17 => exact fun _ v W1 W2 h => h
                    intro LL hL
                    have HL := Lib.hid hL
                    clear hL
                    simp only [List.take_succ_cons, List.take_zero, putL]
                    iterate 18 (first | refine wpHead_skip (by decide) ?_ | (refine wpHead_step (by decide) (fun K hK => ?_); go_simp; refine hK _ ?_; clear hK K))
                    refine wpHead_nil (HL.out _ ⟨?_, ?_, ?_, ?_, ?_, ?_, ?_, ?_, ?_, ?_, ?_, ?_, ?_, ?_, ?_, trivial⟩ ?_)
                    · intro vs W2 hb2 hf
                      clear HL
                      have hsz := hb2.size
                      change TStep _ _ _ (Act.put (Act.put (Act.put (Act.put (Act.put (Act.put (Act.put (Act.put (Act.put (Act.put (Act.put (Act.put (Act.put (Act.put (Act.put _ (some 102) (vs 0)) (some 104) (vs 2)) (some 106) (vs 4)) (some 107) (vs 5)) (some 109) (vs 7)) (some 110) (vs 8)) (some 111) (vs 9)) (some 112) (vs 10)) (some 113) (vs 11)) (some 114) (vs 12)) (some 115) (vs 13)) (some 116) (vs 14)) (some 117) (vs 15)) (some 118) (vs 16)) (some 119) (vs 17)) _ _
                      refine tstep_yes (by kernel_rfl) ?_
                      go_simp
                      exact ⟨(Below.refl _ _).alloc (Nat.le_refl _) _, World.ownsRow_made (base := w9.heap.size) (e := 31) (size := 3) W2 #[] 0 hsz (by decide) rfl⟩
                    · intro vs W2 hb2 hf
                      clear HL
                      have hf := fits_cast (q := (∃ g, vs 0 = .slice (some ⟨g, 0, none⟩) 0 0 ∧ W2.ownsRow w9.heap.size 31 3 (vs 0) 0 []) ∧ True) hf (by kernel_rfl)
                      obtain ⟨⟨g0, eq0, f0⟩, _⟩ := hf
                      rw [eq0] at f0
                      have hsz := hb2.size
                      change TStep _ _ _ (Act.put (Act.put (Act.put (Act.put (Act.put (Act.put (Act.put (Act.put (Act.put (Act.put (Act.put (Act.put (Act.put (Act.put (Act.put _ (some 102) (vs 0)) (some 104) (vs 2)) (some 106) (vs 4)) (some 107) (vs 5)) (some 109) (vs 7)) (some 110) (vs 8)) (some 111) (vs 9)) (some 112) (vs 10)) (some 113) (vs 11)) (some 114) (vs 12)) (some 115) (vs 13)) (some 116) (vs 14)) (some 117) (vs 15)) (some 118) (vs 16)) (some 119) (vs 17)) _ _
                      rw [eq0]
                      refine tstep_yes (by kernel_rfl) ?_
                      obtain ⟨v1, w1', r1, o1, b1⟩ := app_all 22 (H.out W2 (HW9.out.below.trans (hb2.mono HW9.out.below.size))) f0 hsz
                      exact midAt_app rfl (by kernel_rfl) (by kernel_rfl) r1 b1 o1
                    · intro vs W2 hb2 hf
                      clear HL
                      have hsz := hb2.size
                      change TStep _ _ _ (Act.put (Act.put (Act.put (Act.put (Act.put (Act.put (Act.put (Act.put (Act.put (Act.put (Act.put (Act.put (Act.put (Act.put (Act.put _ (some 102) (vs 0)) (some 104) (vs 2)) (some 106) (vs 4)) (some 107) (vs 5)) (some 109) (vs 7)) (some 110) (vs 8)) (some 111) (vs 9)) (some 112) (vs 10)) (some 113) (vs 11)) (some 114) (vs 12)) (some 115) (vs 13)) (some 116) (vs 14)) (some 117) (vs 15)) (some 118) (vs 16)) (some 119) (vs 17)) _ _
                      refine tstep_yes (by kernel_rfl) ?_
                      go_simp
                      exact ⟨(Below.refl _ _).alloc (Nat.le_refl _) _, Blk.new _ _ _⟩
                    · intro vs W2 hb2 hf
                      clear HL
                      have hf := fits_cast (q := (W2.ownsRow w9.heap.size 31 3 (vs 2) l.length (cvCells l)) ∧ (∃ B, vs 4 = .slice (some ⟨B, 0, none⟩) 1 1 ∧ Blk W2 B 31 #[.int .u64 G, .int .u64 M, .int .u64 S]) ∧ True) hf (by kernel_rfl)
                      obtain ⟨f2, ⟨B4, eq4, f4⟩, _⟩ := hf
                      have hsz := hb2.size
                      change HStep _ _ _ _ (Act.put (Act.put (Act.put (Act.put (Act.put (Act.put (Act.put (Act.put (Act.put (Act.put (Act.put (Act.put (Act.put (Act.put (Act.put _ (some 102) (vs 0)) (some 104) (vs 2)) (some 106) (vs 4)) (some 107) (vs 5)) (some 109) (vs 7)) (some 110) (vs 8)) (some 111) (vs 9)) (some 112) (vs 10)) (some 113) (vs 11)) (some 114) (vs 12)) (some 115) (vs 13)) (some 116) (vs 14)) (some 117) (vs 15)) (some 118) (vs 16)) (some 119) (vs 17)) _ _
                      rw [eq4]
                      refine hstep_yes (by kernel_rfl) ?_
                      obtain ⟨v2, w2', r2, o2, b2⟩ := app_one 22 (c := (G, M, S)) (HUU.out _ ub) f2 hsz (by omega) f4
                      exact hotUpon_app rfl (by kernel_rfl) (by kernel_rfl) r2 (hb2.trans b2) o2
                    · intro vs W2 hb2 hf
                      clear HL
                      have hf := fits_cast (q := (CvAt W2 (vs 5) (l ++ [(G, M, S)])) ∧ True) hf (by kernel_rfl)
                      obtain ⟨f5, _⟩ := hf
                      have hsz := hb2.size
                      change TStep _ _ _ (Act.put (Act.put (Act.put (Act.put (Act.put (Act.put (Act.put (Act.put (Act.put (Act.put (Act.put (Act.put (Act.put (Act.put (Act.put _ (some 102) (vs 0)) (some 104) (vs 2)) (some 106) (vs 4)) (some 107) (vs 5)) (some 109) (vs 7)) (some 110) (vs 8)) (some 111) (vs 9)) (some 112) (vs 10)) (some 113) (vs 11)) (some 114) (vs 12)) (some 115) (vs 13)) (some 116) (vs 14)) (some 117) (vs 15)) (some 118) (vs 16)) (some 119) (vs 17)) _ _
                      refine tstep_yes (by kernel_rfl) ?_
                      have hk := kept_any _ _ r W2 f5 hr
                      rw [KB.out] at hk
                      go_simp
                      try exact hk
                    · intro vs W2 hb2 hf
                      clear HL
                      have hf := fits_cast (q := (vs 7 = .bool true) ∧ True) hf (by kernel_rfl)
                      obtain ⟨eq7, _⟩ := hf
                      have hsz := hb2.size
                      change TStep _ _ _ (Act.put (Act.put (Act.put (Act.put (Act.put (Act.put (Act.put (Act.put (Act.put (Act.put (Act.put (Act.put (Act.put (Act.put (Act.put _ (some 102) (vs 0)) (some 104) (vs 2)) (some 106) (vs 4)) (some 107) (vs 5)) (some 109) (vs 7)) (some 110) (vs 8)) (some 111) (vs 9)) (some 112) (vs 10)) (some 113) (vs 11)) (some 114) (vs 12)) (some 115) (vs 13)) (some 116) (vs 14)) (some 117) (vs 15)) (some 118) (vs 16)) (some 119) (vs 17)) _ _
                      rw [eq7]
                      refine tstep_yes (by kernel_rfl) ?_
                      go_simp
                      first | exact ⟨Below.refl _ _, rfl⟩ | exact Below.refl _ _
                    · intro vs W2 hb2 hf
                      clear HL
                      have hf := fits_cast (q := (vs 8 = .bool false) ∧ True) hf (by kernel_rfl)
                      obtain ⟨eq8, _⟩ := hf
                      have hsz := hb2.size
                      change TStep _ _ _ (Act.put (Act.put (Act.put (Act.put (Act.put (Act.put (Act.put (Act.put (Act.put (Act.put (Act.put (Act.put (Act.put (Act.put (Act.put _ (some 102) (vs 0)) (some 104) (vs 2)) (some 106) (vs 4)) (some 107) (vs 5)) (some 109) (vs 7)) (some 110) (vs 8)) (some 111) (vs 9)) (some 112) (vs 10)) (some 113) (vs 11)) (some 114) (vs 12)) (some 115) (vs 13)) (some 116) (vs 14)) (some 117) (vs 15)) (some 118) (vs 16)) (some 119) (vs 17)) _ _
                      rw [eq8]
                      refine tstep_yes (by kernel_rfl) ?_
                      go_simp
                      first | exact ⟨Below.refl _ _, rfl⟩ | exact Below.refl _ _
                    · intro vs W2 hb2 hf
                      clear HL
                      have hf := fits_cast (q := (vs 9 = .bool false) ∧ True) hf (by kernel_rfl)
                      obtain ⟨eq9, _⟩ := hf
                      have hsz := hb2.size
                      change TStep _ _ _ (Act.put (Act.put (Act.put (Act.put (Act.put (Act.put (Act.put (Act.put (Act.put (Act.put (Act.put (Act.put (Act.put (Act.put (Act.put _ (some 102) (vs 0)) (some 104) (vs 2)) (some 106) (vs 4)) (some 107) (vs 5)) (some 109) (vs 7)) (some 110) (vs 8)) (some 111) (vs 9)) (some 112) (vs 10)) (some 113) (vs 11)) (some 114) (vs 12)) (some 115) (vs 13)) (some 116) (vs 14)) (some 117) (vs 15)) (some 118) (vs 16)) (some 119) (vs 17)) _ _
                      rw [eq9]
                      refine tstep_yes (by kernel_rfl) ?_
                      go_simp
                      exact ⟨(Below.refl _ _).alloc (Nat.le_refl _) _, World.ownsRow_made (base := w9.heap.size) (e := 31) (size := 3) W2 #[] 0 hsz (by decide) rfl⟩
                    · intro vs W2 hb2 hf
                      clear HL
                      have hf := fits_cast (q := (vs 9 = .bool false) ∧ True) hf (by kernel_rfl)
                      obtain ⟨eq9, _⟩ := hf
                      have hsz := hb2.size
                      change TStep _ _ _ (Act.put (Act.put (Act.put (Act.put (Act.put (Act.put (Act.put (Act.put (Act.put (Act.put (Act.put (Act.put (Act.put (Act.put (Act.put _ (some 102) (vs 0)) (some 104) (vs 2)) (some 106) (vs 4)) (some 107) (vs 5)) (some 109) (vs 7)) (some 110) (vs 8)) (some 111) (vs 9)) (some 112) (vs 10)) (some 113) (vs 11)) (some 114) (vs 12)) (some 115) (vs 13)) (some 116) (vs 14)) (some 117) (vs 15)) (some 118) (vs 16)) (some 119) (vs 17)) _ _
                      rw [eq9]
                      refine tstep_yes (by kernel_rfl) ?_
                      go_simp
                      first | exact ⟨Below.refl _ _, rfl⟩ | exact Below.refl _ _
                    · intro vs W2 hb2 hf
                      clear HL
                      have hf := fits_cast (q := (vs 9 = .bool false) ∧ (∃ g, vs 10 = .slice (some ⟨g, 0, none⟩) 0 0 ∧ W2.ownsRow w9.heap.size 31 3 (vs 10) 0 []) ∧ (vs 11 = .slice a0 l.length cap) ∧ True) hf (by kernel_rfl)
                      obtain ⟨eq9, ⟨g10, eq10, f10⟩, eq11, _⟩ := hf
                      rw [eq10] at f10
                      have hsz := hb2.size
                      change TStep _ _ _ (Act.put (Act.put (Act.put (Act.put (Act.put (Act.put (Act.put (Act.put (Act.put (Act.put (Act.put (Act.put (Act.put (Act.put (Act.put _ (some 102) (vs 0)) (some 104) (vs 2)) (some 106) (vs 4)) (some 107) (vs 5)) (some 109) (vs 7)) (some 110) (vs 8)) (some 111) (vs 9)) (some 112) (vs 10)) (some 113) (vs 11)) (some 114) (vs 12)) (some 115) (vs 13)) (some 116) (vs 14)) (some 117) (vs 15)) (some 118) (vs 16)) (some 119) (vs 17)) _ _
                      rw [eq9, eq10, eq11]
                      refine tstep_yes (by kernel_rfl) ?_
                      obtain ⟨v1, w1', r1, o1, b1⟩ := app_all 22 (H.out W2 (HW9.out.below.trans (hb2.mono HW9.out.below.size))) f10 hsz
                      exact midAt_app rfl (by kernel_rfl) (by kernel_rfl) r1 b1 o1
                    · intro vs W2 hb2 hf
                      clear HL
                      have hf := fits_cast (q := (vs 9 = .bool false) ∧ True) hf (by kernel_rfl)
                      obtain ⟨eq9, _⟩ := hf
                      have hsz := hb2.size
                      change TStep _ _ _ (Act.put (Act.put (Act.put (Act.put (Act.put (Act.put (Act.put (Act.put (Act.put (Act.put (Act.put (Act.put (Act.put (Act.put (Act.put _ (some 102) (vs 0)) (some 104) (vs 2)) (some 106) (vs 4)) (some 107) (vs 5)) (some 109) (vs 7)) (some 110) (vs 8)) (some 111) (vs 9)) (some 112) (vs 10)) (some 113) (vs 11)) (some 114) (vs 12)) (some 115) (vs 13)) (some 116) (vs 14)) (some 117) (vs 15)) (some 118) (vs 16)) (some 119) (vs 17)) _ _
                      rw [eq9]
                      refine tstep_yes (by kernel_rfl) ?_
                      have hcc := (HW9.out.later hb2).cells.1
                      have c0 := hcc.1; have c1 := hcc.2.1; have c2 := hcc.2.2
                      clear hcc
                      go_simp
                      first | exact ⟨Below.refl _ _, rfl⟩ | exact Below.refl _ _
                    · intro vs W2 hb2 hf
                      clear HL
                      have hf := fits_cast (q := (vs 9 = .bool false) ∧ (vs 13 = .agg #[.int .u64 F, .int .u64 L, .int .u64 R]) ∧ True) hf (by kernel_rfl)
                      obtain ⟨eq9, eq13, _⟩ := hf
                      have hsz := hb2.size
                      change TStep _ _ _ (Act.put (Act.put (Act.put (Act.put (Act.put (Act.put (Act.put (Act.put (Act.put (Act.put (Act.put (Act.put (Act.put (Act.put (Act.put _ (some 102) (vs 0)) (some 104) (vs 2)) (some 106) (vs 4)) (some 107) (vs 5)) (some 109) (vs 7)) (some 110) (vs 8)) (some 111) (vs 9)) (some 112) (vs 10)) (some 113) (vs 11)) (some 114) (vs 12)) (some 115) (vs 13)) (some 116) (vs 14)) (some 117) (vs 15)) (some 118) (vs 16)) (some 119) (vs 17)) _ _
                      rw [eq9, eq13]
                      refine tstep_yes (by kernel_rfl) ?_
                      go_simp
                      exact ⟨(Below.refl _ _).alloc (Nat.le_refl _) _, Blk.new _ _ _⟩
                    · intro vs W2 hb2 hf
                      clear HL
                      have hf := fits_cast (q := (vs 9 = .bool false) ∧ (W2.ownsRow w9.heap.size 31 3 (vs 12) l.length (cvCells l)) ∧ (∃ B, vs 14 = .slice (some ⟨B, 0, none⟩) 1 1 ∧ Blk W2 B 31 #[.int .u64 F, .int .u64 L, .int .u64 R]) ∧ True) hf (by kernel_rfl)
                      obtain ⟨eq9, f12, ⟨B14, eq14, f14⟩, _⟩ := hf
                      have hsz := hb2.size
                      change HStep _ _ _ _ (Act.put (Act.put (Act.put (Act.put (Act.put (Act.put (Act.put (Act.put (Act.put (Act.put (Act.put (Act.put (Act.put (Act.put (Act.put _ (some 102) (vs 0)) (some 104) (vs 2)) (some 106) (vs 4)) (some 107) (vs 5)) (some 109) (vs 7)) (some 110) (vs 8)) (some 111) (vs 9)) (some 112) (vs 10)) (some 113) (vs 11)) (some 114) (vs 12)) (some 115) (vs 13)) (some 116) (vs 14)) (some 117) (vs 15)) (some 118) (vs 16)) (some 119) (vs 17)) _ _
                      rw [eq9, eq14]
                      refine hstep_yes (by kernel_rfl) ?_
                      obtain ⟨v2, w2', r2, o2, b2⟩ := app_one 22 (c := (F, L, R)) (HUU.out _ ua) f12 hsz (by omega) f14
                      exact hotUpon_app rfl (by kernel_rfl) (by kernel_rfl) r2 (hb2.trans b2) o2
                    · intro vs W2 hb2 hf
                      clear HL
                      have hf := fits_cast (q := (vs 9 = .bool false) ∧ True) hf (by kernel_rfl)
                      obtain ⟨eq9, _⟩ := hf
                      have hsz := hb2.size
                      change TStep _ _ _ (Act.put (Act.put (Act.put (Act.put (Act.put (Act.put (Act.put (Act.put (Act.put (Act.put (Act.put (Act.put (Act.put (Act.put (Act.put _ (some 102) (vs 0)) (some 104) (vs 2)) (some 106) (vs 4)) (some 107) (vs 5)) (some 109) (vs 7)) (some 110) (vs 8)) (some 111) (vs 9)) (some 112) (vs 10)) (some 113) (vs 11)) (some 114) (vs 12)) (some 115) (vs 13)) (some 116) (vs 14)) (some 117) (vs 15)) (some 118) (vs 16)) (some 119) (vs 17)) _ _
                      rw [eq9]
                      refine tstep_yes (by kernel_rfl) ?_
                      go_simp
                      first | exact ⟨Below.refl _ _, rfl⟩ | exact Below.refl _ _
                    · intro vs W2 hb2 hf
                      clear HL
                      have hf := fits_cast (q := (vs 9 = .bool false) ∧ (CvAt W2 (vs 15) (l ++ [(F, L, R)])) ∧ (vs 16 = .int .u64 r) ∧ True) hf (by kernel_rfl)
                      obtain ⟨eq9, f15, eq16, _⟩ := hf
                      have hsz := hb2.size
                      change TStep _ _ _ (Act.put (Act.put (Act.put (Act.put (Act.put (Act.put (Act.put (Act.put (Act.put (Act.put (Act.put (Act.put (Act.put (Act.put (Act.put _ (some 102) (vs 0)) (some 104) (vs 2)) (some 106) (vs 4)) (some 107) (vs 5)) (some 109) (vs 7)) (some 110) (vs 8)) (some 111) (vs 9)) (some 112) (vs 10)) (some 113) (vs 11)) (some 114) (vs 12)) (some 115) (vs 13)) (some 116) (vs 14)) (some 117) (vs 15)) (some 118) (vs 16)) (some 119) (vs 17)) _ _
                      rw [eq9, eq16]
                      refine tstep_yes (by kernel_rfl) ?_
                      have hk := kept_any _ _ r W2 f15 hr
                      rw [KA.out] at hk
                      go_simp
                      try exact hk
                    · intro vs W2 hb2 hf
                      have hf := fits_cast (q := (vs 7 = .bool true) ∧ (vs 8 = .bool false) ∧ (vs 9 = .bool false) ∧ (vs 11 = .slice a0 l.length cap) ∧ (vs 13 = .agg #[.int .u64 F, .int .u64 L, .int .u64 R]) ∧ (vs 16 = .int .u64 r) ∧ (vs 17 = .bool true) ∧ True) hf (by kernel_rfl)
                      clear HL
                      change wpList _ _ _ _ (Act.put (Act.put (Act.put (Act.put (Act.put (Act.put (Act.put (Act.put (Act.put (Act.put (Act.put (Act.put (Act.put (Act.put (Act.put _ (some 102) (vs 0)) (some 104) (vs 2)) (some 106) (vs 4)) (some 107) (vs 5)) (some 109) (vs 7)) (some 110) (vs 8)) (some 111) (vs 9)) (some 112) (vs 10)) (some 113) (vs 11)) (some 114) (vs 12)) (some 115) (vs 13)) (some 116) (vs 14)) (some 117) (vs 15)) (some 118) (vs 16)) (some 119) (vs 17)) _
                      rw [hf.1, hf.2.1, hf.2.2.1, hf.2.2.2.1, hf.2.2.2.2.1, hf.2.2.2.2.2.1, hf.2.2.2.2.2.2.1]
                      clear hf o0 o1 o2 p0 p1 p2
                      simp only [List.drop_succ_cons, List.drop_zero, List.take_succ_cons, List.take_zero]
                      have HB2 := Lib.hid (HW9.out.later hb2).below
                      clear hb2
                      go_wp2_with fail
                      go_ret
                      exact ⟨rfl, HB2.out⟩
    · clear hma hmb hmc hcv hcv0 hz
      have hgn : decide ((20 : Int) < (l.length : Int)) = false := decide_eq_false (by omega)
      go_enter Try.func8, Try.ntmps8
      go_wp2_with fail
      refine (awake_any _).mono ?_
      rintro e w1 ⟨rfl, hb1⟩
      have HB1 := Lib.hid (h3.later hb1).below
      clear hb1 h3
      have htn2 : (9223372036854775808 : Int) ≤ t := by omega
      go_wp2_with fail
      go_ret
      exact ⟨rfl, HB1.out⟩
  · clear hz hma hmb hmc
    have hgn : decide ((20 : Int) < (len : Int)) = true := decide_eq_true (by omega)
    go_enter Try.func8, Try.ntmps8
    go_wp2_with fail
    refine (awake_any _).mono ?_
    rintro e w1 ⟨rfl, hb1⟩
    have HB1 := Lib.hid (h3.later hb1).below
    clear hb1 h3
    go_wp2_with fail
    go_ret
    exact ⟨rfl, HB1.out⟩
end Go.Proofs.Ytkeffkfjgblicaa
