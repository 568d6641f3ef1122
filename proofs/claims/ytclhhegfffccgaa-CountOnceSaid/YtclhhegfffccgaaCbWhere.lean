/-
  The document's book of counters: at, both.
-/
import Derived.Test.YtclhhegfffccgaaCbAt
namespace Go.Proofs.Ytclhhegfffccgaa
set_option linter.unusedVariables false
open Go.RowKit Go.Maps

theorem owns_laterC {w w' : World} {base : Nat} {e : TypeId} {sz n : Nat} {v : Value} {xs : List Value} (h : w.ownsRow base e sz v n xs) (hb : Below w.heap.size w w') : w'.ownsRow base e sz v n xs :=
  h.kept (grown_none hb) (by rcases Classical.em (v.ownBlock = none) with h | h; exact .inl h; exact .inr h)
theorem wpList_append_runC {P : Program} {w w' : World} {ops : Array Oper} {rest : List Oper} {o : Oper} {a : Act} {Q : Exit → Act → World → Prop} (hgd : o.guard = none) (s x : Operand) (t : TypeId)
    (ho : o.op = .call { callee := .builtin .append, args := #[s, x], argTypes := #[t, t] }) (va vx v : Value) (hs : a.eval s = va) (hx : a.eval x = vx)
    (hr : (Builtin.append_ #[t, t] o.type #[va, vx]).run P w = .ok v w') (h : wpList P ops Q rest (a.put o.dst v) w') : wpList P ops Q (o :: rest) a w :=
  wpList_plain hgd fun K hK => by
    unfold Oper.wp execOp
    simp only [ho, resolve, invoke, builtin, Sem.run_bind, Sem.run_pure, Result.andThen_ok, List.map_toArray, List.map_cons, List.map_nil, hs, hx, hr]
    exact hK _ _ h

set_option maxRecDepth 100000 in
set_option maxHeartbeats 4000000 in
theorem rat_any (c : Int) (base p : Nat) (B : Bk) (W : World) (h : CbAt W base p B) (hr : Rising B) (hn : B.length < 1000) (hc : (Lit.int .i64 c).wf = true) :
    Calls Try.prog 64 #[.pointer (some ⟨p, 0, none⟩), .int .i64 c] W (RatTo W base p B c) := by
  obtain ⟨⟨g, cap, cur, h1, h2, h3, h4, h5, h6, h7⟩, hpb, hok⟩ := h
  have y0 := h1.cell 0
  simp only [List.getElem?_toArray, List.getElem?_cons_zero] at y0
  obtain ⟨n, hn0⟩ : ∃ n, B.length = n := ⟨_, rfl⟩
  rw [hn0] at y0 hn
  have hcn : n ≤ cap := by omega
  have H := Lib.hid (And.intro h1 (And.intro h2 (And.intro h3 (And.intro h4 (And.intro h5 (And.intro h6 h7)))))); have HR := Lib.hid hr; have HN := Lib.hid hn0; have HOK := Lib.hid hok
  clear h1 h2 h3 h4 h5 h6 h7 hr hok
  go_enter Try.func64, Try.ntmps64
  clear hn0
  go_wp2_with fail
  go_loopw [5] (fun v5 W' => ∃ k : Nat, v5 = .int .i64 k ∧ k ≤ n ∧ W' = W ∧ ∀ x ∈ B.take k, x.1 < c) (fun v5 _ => (n - Go.RowKit.intOf v5).toNat)
  case atStart => exact ⟨0, rfl, Nat.zero_le _, rfl, by simp⟩
  case round =>
    obtain ⟨k, rfl, hk, rfl, hlow⟩ := hrel
    have HLOW := Lib.hid hlow
    clear hlow
    have hcell : ∀ q, B[k]? = some q → wr.cell? ⟨g, k * 9, none⟩ = some (.int .i64 q.1) := fun q hq => (H.out.2.1.cell _).trans (H.out.2.2.1.2 k q hq).1
    by_cases hlt : k < n
    · obtain ⟨⟨q, s⟩, hq⟩ : ∃ q, B[k]? = some q := ⟨_, List.getElem?_eq_getElem (by have := HN.out; omega)⟩
      have hcq := hcell _ hq
      dsimp only at hcq
      have HQ := Lib.hid hq
      clear hcell hq
      by_cases hlq : q < c
      · go_wp2_with fail
        go_roundw
        case measure => (simp [Go.RowKit.intOf]; try omega)
        case rel =>
          refine ⟨k + 1, by go_num, by omega, by first | rfl | trivial, fun x hx => ?_⟩
          rw [List.take_add_one, HQ.out] at hx
          rcases List.mem_append.1 hx with hx | hx
          · exact HLOW.out x hx
          · simp at hx; subst hx; exact hlq
      · by_cases he : q = c
        · subst he
          go_wp2_with fail
          go_ret
          have hl := look_at' HR.out HQ.out
          have hi : insB B q = B := by unfold insB; rw [if_pos (by rw [hl]; rfl)]
          exact ⟨k, rfl, by rw [hi]; have := HN.out; omega, by rw [hi, get_look hl]; exact HQ.out, by rw [hi]; exact ⟨⟨g, cap, cur, H.out.1, H.out.2⟩, hpb, HOK.out⟩, Below.refl _ _, fun _ _ _ h _ _ => h⟩
        · have hne : (q == c) = false := by simpa using he
          have hge : ∀ x, B[k]? = some x → c ≤ x.1 := fun x hx => by rw [HQ.out] at hx; cases hx; omega
          have HNE := Lib.hid (show ∀ x : Int × St, B[k]? = some x → x.1 ≠ c from fun x hx => by rw [HQ.out] at hx; cases hx; exact he)
          go_upto_region 6 with fail
          clear hcq hne
          have hnone : lookM B c = none := look_none.2 fun x hx e => by
            obtain ⟨j, hj, hjx⟩ := List.mem_iff_getElem.1 hx
            by_cases hjk : j < k
            · have hm : x ∈ B.take k := List.mem_iff_getElem.2 ⟨j, by rw [List.length_take]; omega, by rw [List.getElem_take]; exact hjx⟩
              have := HLOW.out x hm
              omega
            · have hkl : k < B.length := by omega
              have hg := hge (B[k]'hkl) (List.getElem?_eq_getElem hkl)
              by_cases hjk2 : j = k
              · subst hjk2
                have hq2 := HNE.out x (by rw [List.getElem?_eq_getElem hj, hjx])
                exact hq2 e
              · have hlt2 := (List.pairwise_iff_getElem.1 HR.out) k j hkl hj (by omega)
                rw [hjx] at hlt2
                omega
          have hin : insB B c = B.take k ++ [(c, st0)] ++ B.drop k := by
            unfold insB
            rw [if_neg (by rw [hnone]; simp), putM_cut hnone (by have := HN.out; omega) HLOW.out hge]
          have hgr : ∀ W' : World, Below wr.heap.size wr W' → W'.ownsRow base 60 9 (.slice (some ⟨g, 0, none⟩) n cap) n (clCells B) ∧ Blk W' p 63 #[.slice (some ⟨g, 0, none⟩) n cap] := fun W' hW => by
            have ho := CbAt.owns H.out.2.1 H.out.2.2.1 H.out.2.2.2.1 H.out.2.2.2.2.1 H.out.2.2.2.2.2.1 H.out.2.2.2.2.2.2
            rw [HN.out] at ho
            exact ⟨owns_laterC ho hW, by have := H.out.1.below hW H.out.1.lt; rwa [HN.out] at this⟩
          have hgs : g < wr.heap.size := H.out.2.1.lt
          have hbs : base ≤ wr.heap.size := by have := H.out.2.2.2.2.2.2; omega
          have hps : p < wr.heap.size := H.out.1.lt
          have hb1 := (Below.refl wr.heap.size wr).alloc (Nat.le_refl _) (.cells #[] 60)
          have y1 := (hgr _ hb1).2.cell 0
          simp only [List.getElem?_toArray, List.getElem?_cons_zero] at y1
          obtain ⟨v1, w2, r1, o1, gr1, _, g1, cp1, hv1⟩ := app_cls 61 (A := []) (B := B.drop k) (w := wr.alloc (.cells #[] 60)) (v := .slice (some ⟨wr.heap.size, 0, none⟩) 0 0) (base := wr.heap.size) (m := n - k) (c := cap - k) (a := if cap = k then some ⟨g, 0, none⟩ else some ⟨g, k * 9, none⟩) (World.ownsRow_made (base := wr.heap.size) wr #[] 0 (Nat.le_refl _) (by decide) rfl) ⟨_, _, rfl⟩ (by rw [List.length_drop, HN.out]) (by
            by_cases h0 : n - k = 0
            · exact .inl h0
            · refine .inr ⟨g, k * 9, by rw [if_neg (by omega)], fun j u hj => ?_⟩
              rw [clCells_drop] at hj
              exact (hb1.cell (p := ⟨g, k * 9 + j, none⟩) hgs).trans (CbAt.cellsOf H.out.2.1 H.out.2.2.1 _ u hj)) hb1.size (by simp; have := HN.out; omega)
          rw [List.nil_append] at o1 hv1
          rw [List.length_drop, HN.out] at o1 hv1
          subst hv1
          have hb2 : Below wr.heap.size wr w2 := hb1.trans ((Below.refl wr.heap.size _).grown gr1 hb1.size fun q e => by cases e; exact Nat.le_refl _)
          have hb3 := hb2.alloc hb2.size (.cells #[.int .i64 c, .int .u64 0, .int .u64 0, .int .u64 0, .int .u64 0, .int .u64 0, .int .u64 0, .int .u64 0, .int .u64 0] 60)
          have hB3 := Blk.new w2 60 #[.int .i64 c, .int .u64 0, .int .u64 0, .int .u64 0, .int .u64 0, .int .u64 0, .int .u64 0, .int .u64 0, .int .u64 0]
          have o1b := owns_laterC o1 ((Below.refl w2.heap.size w2).alloc (Nat.le_refl _) (.cells #[.int .i64 c, .int .u64 0, .int .u64 0, .int .u64 0, .int .u64 0, .int .u64 0, .int .u64 0, .int .u64 0, .int .u64 0] 60))
          have hlk : (B.take k).length = k := by rw [List.length_take]; have := HN.out; omega
          have ot := owns_takeC (hgr _ hb3).1 (show k ≤ n by omega)
          rw [clCells_take] at ot
          obtain ⟨v2, w4, r2, o2, gr2, hat2, g2, cp2, hv2⟩ := app_cls 61 (A := B.take k) (B := [(c, st0)]) (v := .slice (some ⟨g, 0, none⟩) k cap) (m := 1) (c := 1) (a := some ⟨w2.heap.size, 0, none⟩) (by rw [hlk]; exact ot) ⟨g, cap, by rw [hlk]⟩ rfl (.inr ⟨w2.heap.size, 0, rfl, fun j u hj => by rw [Nat.zero_add, hB3.cell j]; simpa [clCells, clC, stC, st0] using hj⟩) (Nat.le_trans hbs hb3.size) (by rw [hlk]; simp; omega)
          have hl2 : (B.take k ++ [(c, st0)]).length = k + 1 := by rw [List.length_append, hlk]; rfl
          rw [hl2] at hv2
          subst hv2
          have o1c := o1b.kept gr2 (.inr (by
            have h1 := o1b.lt
            intro e
            have := (h1 g e).1
            omega))
          have hp4 := ((hgr _ hb3).2).grown gr2 (by
            intro e
            have h1 := H.out.1; have h2 := H.out.2.1
            cases e
            have := h1.symm.trans h2
            simp at this)
          obtain ⟨v3, w5, r3, o3, gr3, hat3, g3, cp3, hv3⟩ := app_cls 61 (A := B.take k ++ [(c, st0)]) (B := B.drop k) (m := n - k) (c := cp1) (a := some ⟨g1, 0, none⟩) o2 ⟨g2, cp2, by rw [hl2]⟩ (by rw [List.length_drop, HN.out]) (by
            by_cases h0 : n - k = 0
            · exact .inl h0
            · refine .inr ⟨g1, 0, rfl, fun j u hj => ?_⟩
              rw [Nat.zero_add, o1c.cellAt j (by have := (List.getElem?_eq_some_iff.1 hj).1; rw [clCells_len, List.length_drop, HN.out] at this; omega)]
              exact hj) (Nat.le_trans (Nat.le_trans hbs hb3.size) gr2.size) (by rw [hl2, List.length_drop, HN.out]; omega)
          have hg2b : base ≤ g2 := (o2.lt g2 rfl).1
          have hp5 := hp4.grown gr3 (by
            intro e
            cases e
            rcases o2.2 with ⟨e2, _⟩ | ⟨g', c', cur', e2, _, q4, _⟩
            · cases e2
            · simp only [Value.slice.injEq, Option.some.injEq, Addr.mk.injEq, and_true] at e2
              rw [← e2.1] at q4
              have := hp4.symm.trans q4
              simp at this)
          have hbelow5 : Below base wr w5 := ((hb3.mono hbs).trans ((Below.refl base _).grown gr2 (Nat.le_trans hbs hb3.size) fun q e => by cases e; exact H.out.2.2.2.2.2.2)).trans ((Below.refl base _).grown gr3 (Nat.le_trans (Nat.le_trans hbs hb3.size) gr2.size) fun q e => by cases e; exact hg2b)
          rw [← hin] at o3 hv3
          subst hv3
          obtain ⟨n3, hn3⟩ : ∃ n3, (insB B c).length = n3 := ⟨_, rfl⟩
          rw [hn3] at r3
          have hfin := CbAt.of hp5 o3 (ok_ins HOK.out c) hpb
          have hbl := hbelow5.setCell (p := ⟨p, 0, none⟩) hpb (.slice (some ⟨g3, 0, none⟩) (insB B c).length cp3)
          rw [hn3] at hfin hbl
          have hk3 : (insB B c)[k]? = some (c, getB B c) := by
            rw [hin, ins_get hnone, List.append_assoc, List.getElem?_append_right (by omega), hlk, Nat.sub_self]
            rfl
          have hk4 : k < (insB B c).length := (List.getElem?_eq_some_iff.1 hk3).1
          have y3 := (hgr _ hb2).2.cell 0
          have z5 := hp5.frozen 0; have y5 := hp5.cell 0
          simp only [List.getElem?_toArray, List.getElem?_cons_zero] at y3 y5
          have hkd : KeepD wr (w5.setCell ⟨p, 0, none⟩ (.slice (some ⟨g3, 0, none⟩) n3 cp3)) := fun b t cs hb t1 t2 => by
            have hbg : b ≠ g := by
              rintro rfl
              have := hb.symm.trans H.out.2.1
              simp at this
              exact t1 this.2
            have hbp : b ≠ p := by
              rintro rfl
              have := hb.symm.trans H.out.1
              simp at this
              exact t2 this.2
            have q3 := hb.below hb3 hb.lt
            have q4 := q3.grown gr2 (by simpa [Value.ownBlock] using hbg)
            have q5 := q4.grown gr3 (by
              intro e
              have e : b = g2 := by simpa [Value.ownBlock] using e
              have hlb := hb.lt
              have hsz := hb3.size
              rcases hat2 with h | h
              · have : g2 = g := by simpa [Value.ownBlock] using h
                omega
              · have : g2 = (w2.alloc (.cells #[.int .i64 c, .int .u64 0, .int .u64 0, .int .u64 0, .int .u64 0, .int .u64 0, .int .u64 0, .int .u64 0, .int .u64 0] 60)).heap.size := by simpa [Value.ownBlock] using h
                omega)
            exact q5.grown (grown_setC w5 p 0 _) (by simpa using hbp)
          have HF := Lib.hid (And.intro hk4 (And.intro hk3 (And.intro hfin (And.intro hbl hkd))))
          clear hkd hnone hin hgr hgs hps hb1 o1 gr1 hb2 hb3 hB3 o1b ot o2 gr2 hat2 o1c hp4 o3 gr3 hat3 hg2b hp5 hbelow5 hfin hbl hk3 hk4 hlk hl2 hn3 hge
          have hk0 : (0 : Int) ≤ (k : Int) := by omega
          have hkn : (k : Int) ≤ (n : Int) := by omega
          have hkc : (k : Int) ≤ (cap : Int) := by omega
          rcases Classical.em (cap = k) with hck | hck
          · exact absurd hck (by omega)
          · rw [if_neg hck] at r1
            go_upto_region 7 with (at_builtin; refine wpList_append_runC rfl _ _ _ rfl _ _ _ rfl rfl r1 ?_; clear r1)
            clear y1 hck
            go_wp2_with (at_builtin; first | (refine wpList_append_runC rfl _ _ _ rfl _ _ _ rfl rfl r2 ?_; clear r2) | (refine wpList_append_runC rfl _ _ _ rfl _ _ _ rfl rfl r3 ?_; clear r3))
            go_ret
            exact ⟨k, rfl, HF.out⟩
    · obtain rfl : k = n := by omega
      clear hcell
      have hge : ∀ x, B[k]? = some x → c ≤ x.1 := fun x hx => by have := (List.getElem?_eq_some_iff.1 hx).1; have := HN.out; omega
      have HNE := Lib.hid (show ∀ x : Int × St, B[k]? = some x → x.1 ≠ c from fun x hx => by have := (List.getElem?_eq_some_iff.1 hx).1; have := HN.out; omega)
      go_upto_region 6 with fail
      have hnone : lookM B c = none := look_none.2 fun x hx e => by
        obtain ⟨j, hj, hjx⟩ := List.mem_iff_getElem.1 hx
        by_cases hjk : j < k
        · have hm : x ∈ B.take k := List.mem_iff_getElem.2 ⟨j, by rw [List.length_take]; omega, by rw [List.getElem_take]; exact hjx⟩
          have := HLOW.out x hm
          omega
        · have hkl : k < B.length := by omega
          have hg := hge (B[k]'hkl) (List.getElem?_eq_getElem hkl)
          by_cases hjk2 : j = k
          · subst hjk2
            have hq2 := HNE.out x (by rw [List.getElem?_eq_getElem hj, hjx])
            exact hq2 e
          · have hlt2 := (List.pairwise_iff_getElem.1 HR.out) k j hkl hj (by omega)
            rw [hjx] at hlt2
            omega
      have hin : insB B c = B.take k ++ [(c, st0)] ++ B.drop k := by
        unfold insB
        rw [if_neg (by rw [hnone]; simp), putM_cut hnone (by have := HN.out; omega) HLOW.out hge]
      have hgr : ∀ W' : World, Below wr.heap.size wr W' → W'.ownsRow base 60 9 (.slice (some ⟨g, 0, none⟩) k cap) k (clCells B) ∧ Blk W' p 63 #[.slice (some ⟨g, 0, none⟩) k cap] := fun W' hW => by
        have ho := CbAt.owns H.out.2.1 H.out.2.2.1 H.out.2.2.2.1 H.out.2.2.2.2.1 H.out.2.2.2.2.2.1 H.out.2.2.2.2.2.2
        rw [HN.out] at ho
        exact ⟨owns_laterC ho hW, by have := H.out.1.below hW H.out.1.lt; rwa [HN.out] at this⟩
      have hgs : g < wr.heap.size := H.out.2.1.lt
      have hbs : base ≤ wr.heap.size := by have := H.out.2.2.2.2.2.2; omega
      have hps : p < wr.heap.size := H.out.1.lt
      have hb1 := (Below.refl wr.heap.size wr).alloc (Nat.le_refl _) (.cells #[] 60)
      have y1 := (hgr _ hb1).2.cell 0
      simp only [List.getElem?_toArray, List.getElem?_cons_zero] at y1
      obtain ⟨v1, w2, r1, o1, gr1, _, g1, cp1, hv1⟩ := app_cls 61 (A := []) (B := B.drop k) (w := wr.alloc (.cells #[] 60)) (v := .slice (some ⟨wr.heap.size, 0, none⟩) 0 0) (base := wr.heap.size) (m := 0) (c := cap - k) (a := if cap = k then some ⟨g, 0, none⟩ else some ⟨g, k * 9, none⟩) (World.ownsRow_made (base := wr.heap.size) wr #[] 0 (Nat.le_refl _) (by decide) rfl) ⟨_, _, rfl⟩ (by rw [List.length_drop, HN.out, Nat.sub_self]) (.inl rfl) hb1.size (by simp; have := HN.out; omega)
      rw [List.nil_append] at o1 hv1
      rw [List.length_drop, HN.out, Nat.sub_self] at o1 hv1
      subst hv1
      have hb2 : Below wr.heap.size wr w2 := hb1.trans ((Below.refl wr.heap.size _).grown gr1 hb1.size fun q e => by cases e; exact Nat.le_refl _)
      have hb3 := hb2.alloc hb2.size (.cells #[.int .i64 c, .int .u64 0, .int .u64 0, .int .u64 0, .int .u64 0, .int .u64 0, .int .u64 0, .int .u64 0, .int .u64 0] 60)
      have hB3 := Blk.new w2 60 #[.int .i64 c, .int .u64 0, .int .u64 0, .int .u64 0, .int .u64 0, .int .u64 0, .int .u64 0, .int .u64 0, .int .u64 0]
      have o1b := owns_laterC o1 ((Below.refl w2.heap.size w2).alloc (Nat.le_refl _) (.cells #[.int .i64 c, .int .u64 0, .int .u64 0, .int .u64 0, .int .u64 0, .int .u64 0, .int .u64 0, .int .u64 0, .int .u64 0] 60))
      have hlk : (B.take k).length = k := by rw [List.length_take]; have := HN.out; omega
      have ot := owns_takeC (hgr _ hb3).1 (Nat.le_refl _)
      rw [clCells_take] at ot
      obtain ⟨v2, w4, r2, o2, gr2, hat2, g2, cp2, hv2⟩ := app_cls 61 (A := B.take k) (B := [(c, st0)]) (v := .slice (some ⟨g, 0, none⟩) k cap) (m := 1) (c := 1) (a := some ⟨w2.heap.size, 0, none⟩) (by rw [hlk]; exact ot) ⟨g, cap, by rw [hlk]⟩ rfl (.inr ⟨w2.heap.size, 0, rfl, fun j u hj => by rw [Nat.zero_add, hB3.cell j]; simpa [clCells, clC, stC, st0] using hj⟩) (Nat.le_trans hbs hb3.size) (by rw [hlk]; simp; omega)
      have hl2 : (B.take k ++ [(c, st0)]).length = k + 1 := by rw [List.length_append, hlk]; rfl
      rw [hl2] at hv2
      subst hv2
      have o1c := o1b.kept gr2 (.inr (by
        have h1 := o1b.lt
        intro e
        have := (h1 g e).1
        omega))
      have hp4 := ((hgr _ hb3).2).grown gr2 (by
        intro e
        have h1 := H.out.1; have h2 := H.out.2.1
        cases e
        have := h1.symm.trans h2
        simp at this)
      obtain ⟨v3, w5, r3, o3, gr3, hat3, g3, cp3, hv3⟩ := app_cls 61 (A := B.take k ++ [(c, st0)]) (B := B.drop k) (m := 0) (c := cp1) (a := some ⟨g1, 0, none⟩) o2 ⟨g2, cp2, by rw [hl2]⟩ (by rw [List.length_drop, HN.out, Nat.sub_self]) (.inl rfl) (Nat.le_trans (Nat.le_trans hbs hb3.size) gr2.size) (by rw [hl2, List.length_drop, HN.out]; omega)
      have hg2b : base ≤ g2 := (o2.lt g2 rfl).1
      have hp5 := hp4.grown gr3 (by
        intro e
        cases e
        rcases o2.2 with ⟨e2, _⟩ | ⟨g', c', cur', e2, _, q4, _⟩
        · cases e2
        · simp only [Value.slice.injEq, Option.some.injEq, Addr.mk.injEq, and_true] at e2
          rw [← e2.1] at q4
          have := hp4.symm.trans q4
          simp at this)
      have hbelow5 : Below base wr w5 := ((hb3.mono hbs).trans ((Below.refl base _).grown gr2 (Nat.le_trans hbs hb3.size) fun q e => by cases e; exact H.out.2.2.2.2.2.2)).trans ((Below.refl base _).grown gr3 (Nat.le_trans (Nat.le_trans hbs hb3.size) gr2.size) fun q e => by cases e; exact hg2b)
      rw [← hin] at o3 hv3
      subst hv3
      obtain ⟨n3, hn3⟩ : ∃ n3, (insB B c).length = n3 := ⟨_, rfl⟩
      rw [hn3] at r3
      have hfin := CbAt.of hp5 o3 (ok_ins HOK.out c) hpb
      have hbl := hbelow5.setCell (p := ⟨p, 0, none⟩) hpb (.slice (some ⟨g3, 0, none⟩) (insB B c).length cp3)
      rw [hn3] at hfin hbl
      have hk3 : (insB B c)[k]? = some (c, getB B c) := by
        rw [hin, ins_get hnone, List.append_assoc, List.getElem?_append_right (by omega), hlk, Nat.sub_self]
        rfl
      have hk4 : k < (insB B c).length := (List.getElem?_eq_some_iff.1 hk3).1
      have y3 := (hgr _ hb2).2.cell 0
      have z5 := hp5.frozen 0; have y5 := hp5.cell 0
      simp only [List.getElem?_toArray, List.getElem?_cons_zero] at y3 y5
      have hkd : KeepD wr (w5.setCell ⟨p, 0, none⟩ (.slice (some ⟨g3, 0, none⟩) n3 cp3)) := fun b t cs hb t1 t2 => by
        have hbg : b ≠ g := by
          rintro rfl
          have := hb.symm.trans H.out.2.1
          simp at this
          exact t1 this.2
        have hbp : b ≠ p := by
          rintro rfl
          have := hb.symm.trans H.out.1
          simp at this
          exact t2 this.2
        have q3 := hb.below hb3 hb.lt
        have q4 := q3.grown gr2 (by simpa [Value.ownBlock] using hbg)
        have q5 := q4.grown gr3 (by
          intro e
          have e : b = g2 := by simpa [Value.ownBlock] using e
          have hlb := hb.lt
          have hsz := hb3.size
          rcases hat2 with h | h
          · have : g2 = g := by simpa [Value.ownBlock] using h
            omega
          · have : g2 = (w2.alloc (.cells #[.int .i64 c, .int .u64 0, .int .u64 0, .int .u64 0, .int .u64 0, .int .u64 0, .int .u64 0, .int .u64 0, .int .u64 0] 60)).heap.size := by simpa [Value.ownBlock] using h
            omega)
        exact q5.grown (grown_setC w5 p 0 _) (by simpa using hbp)
      have HF := Lib.hid (And.intro hk4 (And.intro hk3 (And.intro hfin (And.intro hbl hkd))))
      clear hkd hnone hin hgr hgs hps hb1 o1 gr1 hb2 hb3 hB3 o1b ot o2 gr2 hat2 o1c hp4 o3 gr3 hat3 hg2b hp5 hbelow5 hfin hbl hk3 hk4 hlk hl2 hn3 hge
      have hk0 : (0 : Int) ≤ (k : Int) := by omega
      have hkn : (k : Int) ≤ (k : Int) := by omega
      have hkc : (k : Int) ≤ (cap : Int) := by omega
      rcases Classical.em (cap = k) with hck | hck
      · rw [if_pos hck] at r1
        subst hck
        go_upto_region 7 with (at_builtin; refine wpList_append_runC rfl _ _ _ rfl _ _ _ rfl rfl r1 ?_; clear r1)
        clear y1
        go_wp2_with (at_builtin; first | (refine wpList_append_runC rfl _ _ _ rfl _ _ _ rfl rfl r2 ?_; clear r2) | (refine wpList_append_runC rfl _ _ _ rfl _ _ _ rfl rfl r3 ?_; clear r3))
        go_ret
        exact ⟨_, rfl, HF.out⟩
      · rw [if_neg hck] at r1
        go_upto_region 7 with (at_builtin; refine wpList_append_runC rfl _ _ _ rfl _ _ _ rfl rfl r1 ?_; clear r1)
        clear y1 hck
        go_wp2_with (at_builtin; first | (refine wpList_append_runC rfl _ _ _ rfl _ _ _ rfl rfl r2 ?_; clear r2) | (refine wpList_append_runC rfl _ _ _ rfl _ _ _ rfl rfl r3 ?_; clear r3))
        go_ret
        exact ⟨k, rfl, HF.out⟩
end Go.Proofs.Ytclhhegfffccgaa
