/-
  The document's row of leaves: a leaf is put. (Printed by wip/mkrfput.py.)
-/
import Derived.Test.YtbnnkkojlclgjaaGreatRfDo
namespace Go.Proofs.YtbnnkkojlclgjaaGreat
set_option linter.unusedVariables false
open Go.RowKit Go.Maps
attribute [local go_sem ↓] Go.wp_at_zero Go.wp_at_succ
attribute [local go_sem] quietR quietAtR quietUponR midAt midUpon plain plainUpon

theorem wpList_append_runW {P : Program} {w w' : World} {ops : Array Oper} {rest : List Oper} {o : Oper} {a : Act} {Q : Exit → Act → World → Prop} (hgd : o.guard = none) (s x : Operand) (t : TypeId)
    (ho : o.op = .call { callee := .builtin .append, args := #[s, x], argTypes := #[t, t] }) (va vx v : Value) (hs : a.eval s = va) (hx : a.eval x = vx)
    (hr : (Builtin.append_ #[t, t] o.type #[va, vx]).run P w = .ok v w') (h : wpList P ops Q rest (a.put o.dst v) w') : wpList P ops Q (o :: rest) a w :=
  wpList_plain hgd fun K hK => by
    unfold Oper.wp execOp
    simp only [ho, resolve, invoke, builtin, Sem.run_bind, Sem.run_pure, Result.andThen_ok, List.map_toArray, List.map_cons, List.map_nil, hs, hx, hr]
    exact hK _ _ h
theorem TurnF.trans {w w1 w2 : World} {p : Nat} {v v1 : Value} {L M : List En} (h1 : RfAt w1 p v1 M) (h2 : ∀ b, v1.ownBlock = some b → v.ownBlock = some b ∨ w.heap.size ≤ b) (h3 : Fr (fun b => b = p) w w1) (h : TurnF w1 p v1 L w2) : TurnF w p v L w2 := by
  obtain ⟨v2, k1, k2, k3⟩ := h
  refine ⟨v2, k1, fun b hb => ?_, h3.trans k3⟩
  rcases k2 b hb with h | h
  · exact h2 b h
  · exact .inr (Nat.le_trans h3.size h)
/-- three appends: what lies ahead of the place, the new one, what lies behind it -/
theorem lf_three (ty1 ty2 ty3 : TypeId) {A B : List En} {e : En} {w : World} {x y : Value} (hA : LfAt w x A) (hB : LfAt w y B) (hl : A.length + B.length < 1000000) :
    ∃ v1 w1, (Builtin.append_ #[27, 27] ty1 #[.slice (some ⟨w.heap.size, 0, none⟩) 0 0, x]).run Tryz.prog (w.alloc (.cells #[] 68)) = .ok v1 w1 ∧
      ∃ a2 c2 w2, (Builtin.append_ #[27, 27] ty2 #[v1, .slice (some ⟨w1.heap.size, 0, none⟩) 1 1]).run Tryz.prog (w1.alloc (.cells #[.int .i64 e.1.2, .int .u64 e.1.1, .int .u64 e.2] 68)) = .ok (.slice a2 (A ++ [e]).length c2) w2 ∧ Below w.heap.size w w2 ∧
        ∃ a3 c3 w3, (Builtin.append_ #[27, 27] ty3 #[.slice a2 (A ++ [e]).length c2, y]).run Tryz.prog w2 = .ok (.slice a3 (A ++ [e] ++ B).length c3) w3 ∧ w3.ownsRow w.heap.size 68 3 (.slice a3 (A ++ [e] ++ B).length c3) (A ++ [e] ++ B).length (lfCells (A ++ [e] ++ B)) ∧ Below w.heap.size w w3 := by
  have hb0 := (Below.refl w.heap.size w).alloc (Nat.le_refl _) (.cells #[] 68)
  obtain ⟨v1, w1, r1, o1, b1⟩ := lf_all ty1 (base := w.heap.size) (hA.later hb0) (World.ownsRow_made (base := w.heap.size) (e := 68) (size := 3) w #[] 0 (Nat.le_refl _) (by decide) rfl) hb0.size
  have hb1 := hb0.trans (b1.mono hb0.size)
  have hb2 := hb1.alloc hb1.size (.cells #[.int .i64 e.1.2, .int .u64 e.1.1, .int .u64 e.2] 68)
  obtain ⟨v2, w2, r2, o2, b2, g2⟩ := lf_app ty2 (base := w.heap.size) (A := A) (B := [e]) (lf_lit (Blk.new w1 68 #[.int .i64 e.1.2, .int .u64 e.1.1, .int .u64 e.2])) (o1.alloc _) hb2.size (by simp; omega)
  have hb3 := hb2.trans b2
  obtain ⟨a2, c2, e2⟩ := owns_sliceE o2
  rw [e2] at r2 o2
  obtain ⟨v3, w3, r3, o3, b3, g3⟩ := lf_app ty3 (base := w.heap.size) (A := A ++ [e]) (B := B) (hB.later hb3) o2 hb3.size (by simp; omega)
  obtain ⟨a3, c3, e3⟩ := owns_sliceE o3
  rw [e3] at r3 o3
  exact ⟨v1, w1, r1, a2, c2, w2, r2, hb3, a3, c3, w3, r3, o3, hb3.trans b3⟩
set_option maxRecDepth 100000 in
set_option maxHeartbeats 8000000 in
theorem rfput_any (p : Nat) (v : Value) (L : List En) (id a b : Int) (w : World) (h : RfAt w p v L) (hinv : InvE L) (hfew : L.length < 900000) :
    Calls Tryz.prog 10 #[.pointer (some ⟨p, 0, none⟩), .int .i64 id, .int .u64 a, .int .u64 b] w fun e w' => e = .returned (.tuple #[]) ∧ TurnF w p v (putI L id a b) w' := by
  have hdr := rfdrop_any p v L id w h hinv
  have hDI := hinv.drop id
  have hnd : ∀ z ∈ dropI L id, z.1.2 ≠ id := fun z hz => (mem_drop.1 hz).2
  have hDl := drop_le L id
  have hput : putI L id a b = insE (dropI L id) ((a, id), b) := rfl
  clear h hinv
  generalize dropI L id = D at hdr hDI hnd hDl hput
  rw [hput]
  clear hput
  have HD := Lib.hid (And.intro hDI hnd)
  have hDf : D.length < 900000 := by omega
  clear hDI hnd hDl hfew
  go_enter Tryz.func10, Tryz.ntmps10
  go_wp2_with fail
  refine hdr.mono ?_
  clear hdr
  rintro e W1 ⟨rfl, v1, h1, h2, h3⟩
  obtain ⟨hl, av, cap, rfl, h4⟩ := h1.lf
  have H := Lib.hid (And.intro h1 (And.intro h2 h3))
  have H4 := Lib.hid h4
  clear h1 h2 h3 h4
  have c0 := H.out.1.blk.cell 0
  simp only [List.getElem?_toArray, List.getElem?_cons_zero, List.getElem?_cons_succ] at c0
  go_wp2_with fail
  go_loopw [8] (fun v8 wr => ∃ k : Nat, v8 = .int .i64 k ∧ k ≤ D.length ∧ wr = W1 ∧ ∀ (j : Nat) x, j < k → D[j]? = some x → lessK (a, id) x.1 = false) (fun v8 _ => (D.length - Go.RowKit.intOf v8).toNat)
  case atStart => exact ⟨0, rfl, Nat.zero_le _, rfl, fun j x hj => by omega⟩
  case round =>
    obtain ⟨k, rfl, hk, hwr, hlo⟩ := hrel
    rw [hwr]
    clear hwr
    have HLO := Lib.hid hlo
    clear hlo
    obtain ⟨tst, htst⟩ : ∃ t : Bool, (match D[k]? with | some x => lessK x.1 (a, id) | none => false) = t := ⟨_, rfl⟩
    have HT := Lib.hid htst
    clear htst
    go_upto_region 2 with fail
    go_cut [55] from 13 to 55 (fun vc wx => vc = .bool tst ∧ wx = W1)
    case first =>
      by_cases hlt : k < D.length
      · obtain ⟨x, hx⟩ : ∃ x, D[k]? = some x := ⟨_, List.getElem?_eq_getElem hlt⟩
        have ht := HT.out
        rw [hx] at ht
        obtain ⟨bb, off, rfl, hbl, hcap, hc⟩ := H4.out.resolve_left (fun h => by rw [h] at hlt; cases hlt)
        obtain ⟨k0, k1, k2⟩ := hc k x hx
        obtain ⟨⟨xa, xi⟩, xb⟩ := x
        (try dsimp only at k0); (try dsimp only at k1)
        have ht : lessK (xa, xi) (a, id) = tst := ht
        have HT2 := Lib.hid ht
        clear ht hc hx
        by_cases h1 : xa < a
        · have ht : tst = true := by rw [← HT2.out]; exact lessK_iff.2 (.inl h1)
          subst ht
          go_wp2_with fail
          go_meet
          exact ⟨rfl, rfl⟩
        · by_cases h2 : xa = a
          · have h3 : (xa == a) = true := by simpa using h2
            by_cases h4 : xi < id
            · have ht : tst = true := by rw [← HT2.out]; exact lessK_iff.2 (.inr ⟨h2, h4⟩)
              subst ht
              clear h2
              go_wp2_with fail
              go_meet
              exact ⟨rfl, rfl⟩
            · have ht : tst = false := by
                rw [← HT2.out]
                cases e9 : lessK (xa, xi) (a, id)
                · rfl
                · have := lessK_iff.1 e9; dsimp only at this; omega
              subst ht
              clear h2
              go_wp2_with fail
              go_meet
              exact ⟨rfl, rfl⟩
          · have h3 : (xa == a) = false := by simpa using h2
            have ht : tst = false := by
              rw [← HT2.out]
              cases e9 : lessK (xa, xi) (a, id)
              · rfl
              · have := lessK_iff.1 e9; dsimp only at this; omega
            subst ht
            clear h2
            go_wp2_with fail
            go_meet
            exact ⟨rfl, rfl⟩
      · have hx : D[k]? = none := List.getElem?_eq_none (by omega)
        have ht := HT.out
        rw [hx] at ht
        have ht : false = tst := ht
        subst ht
        clear hx
        go_wp2_with fail
        go_meet
        exact ⟨rfl, rfl⟩
    case rest =>
      obtain ⟨hvc, hwc⟩ := hcut
      rw [hvc, hwc]
      clear hvc hwc
      have hts := HT.out
      cases tst with
      | true =>
        have hlt : k < D.length := Nat.lt_of_not_le fun h => by
          rw [List.getElem?_eq_none h] at hts
          cases hts
        have hlo2 : ∀ (j : Nat) x, j < k + 1 → D[j]? = some x → lessK (a, id) x.1 = false := fun j x hj hx => by
          by_cases hjk : j = k
          · subst hjk
            rw [hx] at hts
            exact lessK_asym hts
          · exact HLO.out j x (by omega) hx
        have HL2 := Lib.hid hlo2
        clear hts hlo2
        go_wp2_with fail
        go_roundw
        case measure => (simp [Go.RowKit.intOf]; try omega)
        case rel => exact ⟨k + 1, by go_num, by omega, (by first | rfl | trivial), HL2.out⟩
      | false =>
        have hins : insE D ((a, id), b) = D.take k ++ ((a, id), b) :: D.drop k := ins_at (fun j x hj hx => HLO.out j x hj hx) (fun x hx => by
          rw [hx] at hts
          have hts : lessK x.1 (a, id) = false := hts
          cases e9 : lessK (a, id) x.1
          · have := lessK_tri e9 hts
            exact absurd (by rw [← this]) (HD.out.2 x (List.mem_of_getElem? hx))
          · rfl) hk
        have HI := Lib.hid hins
        clear hts hins
        have hkc := lf_cap H.out.1.lf hk
        have htk := lf_take H.out.1.lf hk
        have hdp := lf_drop H.out.1.lf hk
        have hs1 : (0 : Int) ≤ (k : Int) := by omega
        have hs2 : (k : Int) ≤ (D.length : Int) := by omega
        rcases H.out.1.shp with hsh | ⟨g9, n9, c9, hsh, -⟩
        · simp only [Value.slice.injEq] at hsh
          obtain ⟨rfl, hD0, rfl⟩ := hsh
          obtain rfl : D = [] := List.eq_nil_of_length_eq_zero hD0
          obtain rfl : k = 0 := by simpa using hk
          have htk : LfAt W1 (.slice none 0 0) (List.take 0 ([] : List En)) := ⟨by simp, none, 0, rfl, .inl rfl⟩
          have hdp : LfAt W1 (.slice none 0 0) (List.drop 0 ([] : List En)) := ⟨by simp, none, 0, rfl, .inl rfl⟩
          obtain ⟨x1, w1, r1, a2, c2, w2, r2, hbb2, a3, c3, w3, r3, o3, hbb⟩ := lf_three 27 27 27 (e := ((a, id), b)) htk hdp (by rw [List.length_take, List.length_drop]; omega)
          dsimp only at r2
          rw [show (List.take 0 ([] : List En) ++ [((a, id), b)]).length = 1 from rfl] at r2 r3
          obtain ⟨N9, hN9⟩ : ∃ n, (List.take 0 ([] : List En) ++ [((a, id), b)] ++ List.drop 0 ([] : List En)).length = n := ⟨_, rfl⟩
          rw [hN9] at r3 o3
          have HN9 := Lib.hid hN9
          clear hN9
          have hH := And.intro o3 hbb
          have HH := Lib.hid hH
          have hcc := (hbb2.cell (p := ⟨p, 0, none⟩) H.out.1.blk.lt).trans c0
          have c0a := (H.out.1.blk.alloc (.cells #[] 68)).cell 0
          simp only [List.getElem?_toArray, List.getElem?_cons_zero, List.getElem?_cons_succ] at c0a
          have hfin : TurnF W1 p (.slice none ([] : List En).length 0) (insE ([] : List En) ((a, id), b)) (w3.setCell ⟨p, 0, none⟩ (.slice a3 N9 c3)) := by
            have hl9 : N9 ≤ 1000000 := by rw [← HN9.out]; simp only [List.length_append, List.length_take, List.length_drop, List.length_cons, List.length_nil]; omega
            have o4 := o3
            rw [← HN9.out] at o4 hl9
            have hlf := LfAt.of_owns o4 hl9
            refine ⟨_, ⟨(H.out.1.blk.below hbb H.out.1.blk.lt).set_ 0 _, ?_, owns_shape o3⟩, fun b9 hb9 => .inr (owns_ge o3 b9 hb9).1, (Fr.of_below hbb).trans (Fr.set rfl)⟩
            rw [HI.out]
            rw [HN9.out] at hlf
            have hlf : LfAt w3 (.slice a3 N9 c3) (List.take 0 ([] : List En) ++ ((a, id), b) :: List.drop 0 ([] : List En)) := by simpa using hlf
            refine hlf.kept (by simp) fun b9 hb9 _ => Below.heap_setCell _ ⟨p, 0, none⟩ _ b9 ?_
            have := (owns_ge o3 b9 hb9).1
            have := H.out.1.blk.lt
            show b9 ≠ p
            omega
          have HFIN := Lib.hid hfin
          have cc3 := (hbb.cell (p := ⟨p, 0, none⟩) H.out.1.blk.lt).trans c0
          have ff3 := (hbb.frozen (p := ⟨p, 0, none⟩) H.out.1.blk.lt).trans (H.out.1.blk.frozen 0)
          clear htk hdp hH o3 hbb hfin
          go_wp2_with (at_builtin; first | (refine wpList_append_runW rfl _ _ _ rfl _ _ _ rfl rfl r1 ?_; clear r1) | (refine wpList_append_runW rfl _ _ _ rfl _ _ _ rfl rfl r2 ?_; clear r2) | (refine wpList_append_runW rfl _ _ _ rfl _ _ _ rfl rfl r3 ?_; clear r3))
          go_returns
          exact ⟨rfl, TurnF.trans H.out.1 H.out.2.1 H.out.2.2 HFIN.out⟩
        · cases hsh
          rcases Classical.em (cap = k) with hce | hce
          · rw [if_pos hce] at hdp
            have hce2 : (cap = k) = True := eq_true hce
            clear hce
            obtain ⟨x1, w1, r1, a2, c2, w2, r2, hbb2, a3, c3, w3, r3, o3, hbb⟩ := lf_three 27 27 27 (e := ((a, id), b)) htk hdp (by rw [List.length_take, List.length_drop]; omega)
            dsimp only at r2
            rw [show (D.take k ++ [((a, id), b)]).length = k + 1 by rw [List.length_append, List.length_take, List.length_cons, List.length_nil]; omega] at r2 r3
            obtain ⟨N9, hN9⟩ : ∃ n, (D.take k ++ [((a, id), b)] ++ D.drop k).length = n := ⟨_, rfl⟩
            rw [hN9] at r3 o3
            have HN9 := Lib.hid hN9
            clear hN9
            have hH := And.intro o3 hbb
            have HH := Lib.hid hH
            have hcc := (hbb2.cell (p := ⟨p, 0, none⟩) H.out.1.blk.lt).trans c0
            have c0a := (H.out.1.blk.alloc (.cells #[] 68)).cell 0
            simp only [List.getElem?_toArray, List.getElem?_cons_zero, List.getElem?_cons_succ] at c0a
            have hfin : TurnF W1 p (.slice (some ⟨g9, 0, none⟩) D.length cap) (insE D ((a, id), b)) (w3.setCell ⟨p, 0, none⟩ (.slice a3 N9 c3)) := by
              have hl9 : N9 ≤ 1000000 := by rw [← HN9.out]; simp only [List.length_append, List.length_take, List.length_drop, List.length_cons, List.length_nil]; omega
              have o4 := o3
              rw [← HN9.out] at o4 hl9
              have hlf := LfAt.of_owns o4 hl9
              refine ⟨_, ⟨(H.out.1.blk.below hbb H.out.1.blk.lt).set_ 0 _, ?_, owns_shape o3⟩, fun b9 hb9 => .inr (owns_ge o3 b9 hb9).1, (Fr.of_below hbb).trans (Fr.set rfl)⟩
              rw [HI.out]
              rw [HN9.out] at hlf
              have hlf : LfAt w3 (.slice a3 N9 c3) (D.take k ++ ((a, id), b) :: D.drop k) := by simpa using hlf
              refine hlf.kept (by simp) fun b9 hb9 _ => Below.heap_setCell _ ⟨p, 0, none⟩ _ b9 ?_
              have := (owns_ge o3 b9 hb9).1
              have := H.out.1.blk.lt
              show b9 ≠ p
              omega
            have HFIN := Lib.hid hfin
            have cc3 := (hbb.cell (p := ⟨p, 0, none⟩) H.out.1.blk.lt).trans c0
            have ff3 := (hbb.frozen (p := ⟨p, 0, none⟩) H.out.1.blk.lt).trans (H.out.1.blk.frozen 0)
            clear htk hdp hH o3 hbb hfin
            go_wp2_with (at_builtin; first | (refine wpList_append_runW rfl _ _ _ rfl _ _ _ rfl rfl r1 ?_; clear r1) | (refine wpList_append_runW rfl _ _ _ rfl _ _ _ rfl rfl r2 ?_; clear r2) | (refine wpList_append_runW rfl _ _ _ rfl _ _ _ rfl rfl r3 ?_; clear r3))
            go_returns
            exact ⟨rfl, TurnF.trans H.out.1 H.out.2.1 H.out.2.2 HFIN.out⟩
          · rw [if_neg hce] at hdp
            simp only [Option.map_some, Addr.add_lit, Nat.zero_add] at hdp
            obtain ⟨x1, w1, r1, a2, c2, w2, r2, hbb2, a3, c3, w3, r3, o3, hbb⟩ := lf_three 27 27 27 (e := ((a, id), b)) htk hdp (by rw [List.length_take, List.length_drop]; omega)
            dsimp only at r2
            rw [show (D.take k ++ [((a, id), b)]).length = k + 1 by rw [List.length_append, List.length_take, List.length_cons, List.length_nil]; omega] at r2 r3
            obtain ⟨N9, hN9⟩ : ∃ n, (D.take k ++ [((a, id), b)] ++ D.drop k).length = n := ⟨_, rfl⟩
            rw [hN9] at r3 o3
            have HN9 := Lib.hid hN9
            clear hN9
            have hH := And.intro o3 hbb
            have HH := Lib.hid hH
            have hcc := (hbb2.cell (p := ⟨p, 0, none⟩) H.out.1.blk.lt).trans c0
            have c0a := (H.out.1.blk.alloc (.cells #[] 68)).cell 0
            simp only [List.getElem?_toArray, List.getElem?_cons_zero, List.getElem?_cons_succ] at c0a
            have hfin : TurnF W1 p (.slice (some ⟨g9, 0, none⟩) D.length cap) (insE D ((a, id), b)) (w3.setCell ⟨p, 0, none⟩ (.slice a3 N9 c3)) := by
              have hl9 : N9 ≤ 1000000 := by rw [← HN9.out]; simp only [List.length_append, List.length_take, List.length_drop, List.length_cons, List.length_nil]; omega
              have o4 := o3
              rw [← HN9.out] at o4 hl9
              have hlf := LfAt.of_owns o4 hl9
              refine ⟨_, ⟨(H.out.1.blk.below hbb H.out.1.blk.lt).set_ 0 _, ?_, owns_shape o3⟩, fun b9 hb9 => .inr (owns_ge o3 b9 hb9).1, (Fr.of_below hbb).trans (Fr.set rfl)⟩
              rw [HI.out]
              rw [HN9.out] at hlf
              have hlf : LfAt w3 (.slice a3 N9 c3) (D.take k ++ ((a, id), b) :: D.drop k) := by simpa using hlf
              refine hlf.kept (by simp) fun b9 hb9 _ => Below.heap_setCell _ ⟨p, 0, none⟩ _ b9 ?_
              have := (owns_ge o3 b9 hb9).1
              have := H.out.1.blk.lt
              show b9 ≠ p
              omega
            have HFIN := Lib.hid hfin
            have cc3 := (hbb.cell (p := ⟨p, 0, none⟩) H.out.1.blk.lt).trans c0
            have ff3 := (hbb.frozen (p := ⟨p, 0, none⟩) H.out.1.blk.lt).trans (H.out.1.blk.frozen 0)
            clear htk hdp hH o3 hbb hfin
            go_wp2_with (at_builtin; first | (refine wpList_append_runW rfl _ _ _ rfl _ _ _ rfl rfl r1 ?_; clear r1) | (refine wpList_append_runW rfl _ _ _ rfl _ _ _ rfl rfl r2 ?_; clear r2) | (refine wpList_append_runW rfl _ _ _ rfl _ _ _ rfl rfl r3 ?_; clear r3))
            go_returns
            exact ⟨rfl, TurnF.trans H.out.1 H.out.2.1 H.out.2.2 HFIN.out⟩
end Go.Proofs.YtbnnkkojlclgjaaGreat
