/-
  The document's row of leaves: a leaf is dropped, put.
-/
import Derived.Test.YtbnnkkojlclgjaaGreatRfTell
import Derived.Test.YtbnnkkojlclgjaaGreatRegX
namespace Go.Proofs.YtbnnkkojlclgjaaGreat
set_option linter.unusedVariables false
open Go.RowKit Go.Maps
attribute [local go_sem ↓] Go.wp_at_zero Go.wp_at_succ
attribute [local go_sem] quietR quietAtR quietUponR midAt midUpon plain plainUpon
attribute [local irreducible] TStep HStep

theorem owns_laterE {w w' : World} {base sz n : Nat} {e : TypeId} {v : Value} {xs : List Value} (h : w.ownsRow base e sz v n xs) (hb : Below w.heap.size w w') : w'.ownsRow base e sz v n xs := by
  obtain ⟨h1, h2⟩ := h
  refine ⟨h1, ?_⟩
  rcases h2 with h2 | ⟨g, cap, cur, h3, h4, h5, h6⟩
  · exact .inl h2
  · exact .inr ⟨g, cap, cur, h3, h4, (hb.block g (Array.getElem?_eq_some_iff.1 h5).1).trans h5, h6⟩
theorem owns_sliceE {w : World} {base sz n : Nat} {e : TypeId} {v : Value} {xs : List Value} (h : w.ownsRow base e sz v n xs) : ∃ a cap, v = .slice a n cap := by
  rcases h.2 with ⟨rfl, rfl⟩ | ⟨g, c, cur, rfl, _⟩
  · exact ⟨none, 0, rfl⟩
  · exact ⟨_, _, rfl⟩
theorem owns_shape {w : World} {base sz n : Nat} {e : TypeId} {v : Value} {xs : List Value} {p : Addr} {u : Value} (h : w.ownsRow base e sz v n xs) : v = .slice none 0 0 ∨ ∃ g n c, v = .slice (some ⟨g, 0, none⟩) n c ∧ g < (w.setCell p u).heap.size := by
  rcases h.2 with ⟨rfl, rfl⟩ | ⟨g, c, cur, rfl, h1, h2, _⟩
  · exact .inl rfl
  · exact .inr ⟨_, _, _, rfl, by simpa using (Array.getElem?_eq_some_iff.1 h2).1⟩
theorem owns_ge {w : World} {base sz n : Nat} {e : TypeId} {v : Value} {xs : List Value} (h : w.ownsRow base e sz v n xs) : ∀ b, v.ownBlock = some b → base ≤ b ∧ b < w.heap.size := fun b hb => by
  rcases h.2 with ⟨rfl, rfl⟩ | ⟨g, c, cur, rfl, h1, h2, _⟩
  · cases hb
  · cases hb; exact ⟨h1, (Array.getElem?_eq_some_iff.1 h2).1⟩
/-- all of a row, laid behind an empty literal -/
theorem lf_all (ty : TypeId) {L : List En} {w : World} {v : Value} {base g : Nat} (h : LfAt w v L) (hown : w.ownsRow base 68 3 (.slice (some ⟨g, 0, none⟩) 0 0) 0 []) (hb : base ≤ w.heap.size) :
    ∃ v' w', (Builtin.append_ #[27, 27] ty #[.slice (some ⟨g, 0, none⟩) 0 0, v]).run Tryz.prog w = .ok v' w' ∧ w'.ownsRow base 68 3 v' L.length (lfCells L) ∧ Below w.heap.size w w' := by
  obtain ⟨i0, hi0, hz0, hz1, hz2⟩ := info_parts info_leaf
  obtain ⟨a, cap, rfl⟩ : ∃ a cap, v = .slice a L.length cap := by obtain ⟨_, a, cap, e, _⟩ := h; exact ⟨a, cap, e⟩
  by_cases hne : L = []
  · subst hne
    refine ⟨_, _, run_append_nothing w _ _ ty _ i0 Tryz.underlying27 hi0 _ 0 0 (Nat.le_refl _) _ ?_, hown, Below.refl _ _⟩
    cases a with
    | none => exact Src.ofNil w Tryz.underlying27 cap
    | some ad => exact Src.ofSlice w Tryz.underlying27 ad 0 cap [] (by simp) (fun j u hj => by simp at hj) (fun u hu => by simp at hu)
  · obtain ⟨ad, rfl, hcap, hc⟩ := h.cells hne
    have hl0 : 0 < L.length := List.length_pos_iff.2 hne
    have hl := h.1
    obtain ⟨v', w', hr, ho, hg⟩ := run_append_arg_grows (P := Tryz.prog) w 27 ty 68 i0 _ 3 24 Tryz.underlying27 hi0 hz0 hz1 hz2 rfl (by decide) ⟨g, 0, none⟩ 0 0 [] (by simp) (fun j u hj => by simp at hj) ad L.length cap (lfCells L) (lfCells_length L) hc (by omega) (by unfold maxLen; omega) (by omega)
    have ho' : w'.ownsRow base 68 3 v' L.length (lfCells L) := by
      have h0 : w'.ownsRow w.heap.size 68 3 v' L.length (lfCells L) := by simpa using ho
      obtain ⟨h1, h2⟩ := h0
      refine ⟨h1, ?_⟩
      rcases h2 with h2 | ⟨g', c', cur, e, h3, h4⟩
      · exact .inl h2
      · exact .inr ⟨g', c', cur, e, by omega, h4⟩
    refine ⟨v', w', hr, ho', ⟨hg.os, hg.tape, hg.output, hg.size, fun k hk => hg.block k hk (by simp)⟩⟩
theorem midAt_app {P : Program} {o : Oper} {a : Act} {W W' : World} {T : Value → World → Prop} {s x : Operand} {t : TypeId} {va vx v : Value}
    (ho : o.op = .call { callee := .builtin .append, args := #[s, x], argTypes := #[t, t] }) (hs : a.eval s = va) (hx : a.eval x = vx)
    (hr : (Builtin.append_ #[t, t] o.type #[va, vx]).run P W = .ok v W') (hb : Below W.heap.size W W') (hT : T v W') : midAt P o a W T := by
  unfold midAt execOp
  simp only [ho, resolve, invoke, builtin, Sem.run_bind, Sem.run_pure, Result.andThen_ok, List.map_toArray, List.map_cons, List.map_nil, hs, hx, hr]
  exact ⟨hb, hT⟩
theorem hotUpon_app {P : Program} {o : Oper} {a : Act} {w W W' : World} {T : Value → World → Prop} {s x : Operand} {t : TypeId} {va vx v : Value}
    (ho : o.op = .call { callee := .builtin .append, args := #[s, x], argTypes := #[t, t] }) (hs : a.eval s = va) (hx : a.eval x = vx)
    (hr : (Builtin.append_ #[t, t] o.type #[va, vx]).run P W = .ok v W') (hb : Below w.heap.size w W') (hT : T v W') : hotUpon P w W T ((execOp a.eval o).run P W) := by
  unfold execOp
  simp only [ho, resolve, invoke, builtin, Sem.run_bind, Sem.run_pure, Result.andThen_ok, List.map_toArray, List.map_cons, List.map_nil, hs, hx, hr]
  exact ⟨hb, hT⟩

/-- a row turned -/
def TurnF (w : World) (p : Nat) (v : Value) (L : List En) (w' : World) : Prop := ∃ v', RfAt w' p v' L ∧ (∀ b, v'.ownBlock = some b → v.ownBlock = some b ∨ w.heap.size ≤ b) ∧ Fr (fun b => b = p) w w'
/-- an empty row that is new -/
def EmpL (n : Nat) (u : Value) (W : World) : Prop := ∃ g, u = .slice (some ⟨g, 0, none⟩) 0 0 ∧ W.ownsRow n 68 3 (.slice (some ⟨g, 0, none⟩) 0 0) 0 []
def OwnL (n : Nat) (L : List En) (u : Value) (W : World) : Prop := W.ownsRow n 68 3 u L.length (lfCells L)
set_option maxRecDepth 100000 in
set_option maxHeartbeats 8000000 in
theorem rfdrop_any (p : Nat) (v : Value) (L : List En) (id : Int) (w : World) (h : RfAt w p v L) (hinv : InvE L) :
    Calls Tryz.prog 13 #[.pointer (some ⟨p, 0, none⟩), .int .i64 id] w fun e w' => e = .returned (.bool (getIs L id)) ∧ TurnF w p v (dropI L id) w' := by
  obtain ⟨hl, a, cap, rfl, h3⟩ := h.lf
  have c0 := h.blk.cell 0
  simp only [List.getElem?_toArray, List.getElem?_cons_zero, List.getElem?_cons_succ] at c0
  have H := Lib.hid h
  have HINV := Lib.hid hinv
  have H3 := Lib.hid h3
  clear h hinv h3
  go_enter Tryz.func13, Tryz.ntmps13
  go_wp2_with fail
  go_loopw [5] (fun v5 wr => ∃ i : Nat, v5 = .int .i64 i ∧ i ≤ L.length ∧ wr = w ∧ ∀ (j : Nat) x, j < i → L[j]? = some x → x.1.2 ≠ id) (fun v5 _ => (L.length - Go.RowKit.intOf v5).toNat)
  case atStart => exact ⟨0, rfl, Nat.zero_le _, rfl, fun j x hj => by omega⟩
  case round =>
    obtain ⟨i, rfl, hi, hwr, hno⟩ := hrel
    rw [hwr]
    clear hwr
    have HNO := Lib.hid hno
    clear hno
    by_cases hlt : i < L.length
    · obtain ⟨e, he⟩ : ∃ e, L[i]? = some e := ⟨_, List.getElem?_eq_getElem hlt⟩
      have hge := get_at HINV.out he
      by_cases hid : e.1.2 = id
      · obtain ⟨b, off, rfl, hbl, hcap, hc⟩ := H3.out.resolve_left (fun h => by rw [h] at hlt; cases hlt)
        obtain ⟨k0, k1, k2⟩ := hc i e he
        have heq : (e.1.2 == id) = true := by simpa using hid
        have hlist := drop_at HINV.out.ids he
        rw [hid] at hlist hge
        have HG := Lib.hid (And.intro hge.2.2 hlist)
        have hwi : IntKind.i64.wrap ((i : Int) + 1) = ((i + 1 : Nat) : Int) := by rw [IntKind.wrap_i64]; omega
        have hci : i ≤ cap := by omega
        have hci1 : i + 1 ≤ cap := by omega
        have htk := lf_take (k := i) H.out.lf (by omega)
        have hdr := lf_drop (k := i + 1) H.out.lf (by omega)
        have HT := Lib.hid (And.intro htk hdr)
        clear hge hlist hid he hc htk hdr
        go_upto_region 5 with fail
        clear k0 k1 k2 heq
        have o0 := fun e9 => (over_cell (w := w) (e := e9) (o := 0) H.out.blk.lt).trans c0
        have hs1 : (0 : Int) ≤ (i : Int) + 1 := by omega
        have hs2 : (i : Int) + 1 ≤ (L.length : Int) := by omega
        rcases Classical.em (cap = i + 1) with hce | hce
        · have HT := Lib.hid (show LfAt w (.slice (some ⟨b, off, none⟩) i cap) (L.take i) ∧ LfAt w (.slice (some ⟨b, off, none⟩) (L.length - (i + 1)) (cap - (i + 1))) (L.drop (i + 1)) from ⟨HT.out.1, by have := HT.out.2; rwa [if_pos hce] at this⟩)
          have hce2 : (cap = i + 1) = True := eq_true hce
          clear hce
          refine wp_region_hot (w := w) 17 3 [1, 8, 16] [] [(1, EmpL w.heap.size), (8, OwnL w.heap.size (L.take i)), (16, OwnL w.heap.size (L.take i ++ L.drop (i + 1)))] [(1, 8), (8, 16)] [16] [] rfl (by decide) (by decide) (by kernel_rfl) (by kernel_rfl) (by kernel_rfl) (by kernel_rfl) (by kernel_rfl) (fun _ _ _ _ _ h => h) ⟨fun u A C ⟨g, h1, h2⟩ hb => ⟨g, h1, owns_laterE h2 hb⟩, fun u A C h hb => owns_laterE h hb, fun u A C h hb => owns_laterE h hb, trivial⟩ ⟨(fun h => (by cases h)), (fun h => (by cases h)), (fun h => (by cases h)), trivial⟩ ?_
          intro LL hL
          have HL2 := Lib.hid hL
          clear hL
          simp only [List.take_succ_cons, List.take_zero, putL]
          iterate 17 (first | refine wpHead_skip (by decide) ?_ | (refine wpHead_step (by decide) (fun K hK => ?_); go_simp; refine hK _ ?_; clear hK K))
          refine wpHead_nil (HL2.out _ ⟨?_, ?_, ?_, trivial⟩ ?_)
          · intro vs W2 hb2 hf
            clear HL2 o0 hf
            change TStep _ _ _ (Act.put (Act.put (Act.put _ (some 26) (vs 1)) (some 33) (vs 8)) (some 41) (vs 16)) _ _
            refine tstep_yes (by kernel_rfl) ?_
            go_simp
            exact ⟨(Below.refl _ _).alloc (Nat.le_refl _) _, W2.heap.size, rfl, World.ownsRow_made (base := w.heap.size) (e := 68) (size := 3) W2 #[] 0 hb2.size (by decide) rfl⟩
          · intro vs W2 hb2 hf
            have hf := fits_cast (q := EmpL w.heap.size (vs 1) W2 ∧ True) hf (by kernel_rfl)
            clear HL2 o0
            change TStep _ _ _ (Act.put (Act.put (Act.put _ (some 26) (vs 1)) (some 33) (vs 8)) (some 41) (vs 16)) _ _
            refine Exists.elim hf.1 fun g hg => ?_
            rw [hg.1]
            refine tstep_yes (by kernel_rfl) ?_
            have happ := lf_all 27 (base := w.heap.size) (g := g) (HT.out.1.later hb2) hg.2 hb2.size
            refine Exists.elim happ fun v' ha1 => ?_
            refine Exists.elim ha1 fun w' ha2 => ?_
            have hr := ha2.1
            refine midAt_app rfl (by kernel_rfl) (by kernel_rfl) hr ha2.2.2 ?_
            exact ha2.2.1
          · intro vs W2 hb2 hf
            have hf := fits_cast (q := OwnL w.heap.size (L.take i) (vs 8) W2 ∧ True) hf (by kernel_rfl)
            clear HL2 o0
            change HStep _ _ _ _ (Act.put (Act.put (Act.put _ (some 26) (vs 1)) (some 33) (vs 8)) (some 41) (vs 16)) _ _
            have happ := lf_app 27 (base := w.heap.size) (A := L.take i) (HT.out.2.later hb2) hf.1 hb2.size (by rw [List.length_take, List.length_drop]; omega)
            refine Exists.elim happ fun v' ha1 => ?_
            refine Exists.elim ha1 fun w' ha2 => ?_
            refine hstep_yes (by kernel_rfl) ?_
            exact hotUpon_app rfl (by kernel_rfl) (by kernel_rfl) ha2.1 (hb2.trans ha2.2.2.1) ha2.2.1
          · intro vs W2 hb2 hf
            have hf := fits_cast (q := OwnL w.heap.size (L.take i ++ L.drop (i + 1)) (vs 16) W2 ∧ True) hf (by kernel_rfl)
            clear HL2 o0
            change wpList _ _ _ _ (Act.put (Act.put (Act.put _ (some 26) (vs 1)) (some 33) (vs 8)) (some 41) (vs 16)) _
            refine Exists.elim (owns_sliceE hf.1) fun b1 x1 => ?_
            refine Exists.elim x1 fun d1 y1 => ?_
            have hown := hf.1
            rw [y1] at hown ⊢
            have hblk := H.out.blk.below hb2 H.out.blk.lt
            have hlen : (L.take i ++ L.drop (i + 1)).length ≤ 1000000 := by rw [List.length_append, List.length_take, List.length_drop]; omega
            have hlf := LfAt.of_owns hown hlen
            have hfin : TurnF w p (.slice (some ⟨b, off, none⟩) L.length cap) (dropI L id) (W2.setCell ⟨p, 0, none⟩ (.slice b1 (L.take i ++ L.drop (i + 1)).length d1)) := by
              refine ⟨_, ⟨hblk.set_ 0 _, ?_, owns_shape hown⟩, fun b hb => .inr (owns_ge hown b hb).1, (Fr.of_below hb2).trans (Fr.set rfl)⟩
              rw [HG.out.2]
              refine hlf.kept (by simp) fun b hb _ => Below.heap_setCell _ ⟨p, 0, none⟩ _ b ?_
              have := (owns_ge hown b hb).1
              have := H.out.blk.lt
              show b ≠ p
              omega
            have HFIN := Lib.hid hfin
            have c0' := hblk.cell 0; have f0' := hblk.frozen 0
            simp only [List.getElem?_toArray, List.getElem?_cons_zero, List.getElem?_cons_succ] at c0'
            generalize (L.take i ++ L.drop (i + 1)).length = n9 at HFIN ⊢
            clear hf y1 x1 hown hblk hlen hlf hfin hb2
            simp only [List.drop_succ_cons, List.drop_zero, List.take_succ_cons, List.take_zero]
            go_wp2_with fail
            go_ret
            exact ⟨by rw [HG.out.1]; rfl, HFIN.out⟩
        · have HT := Lib.hid (show LfAt w (.slice (some ⟨b, off, none⟩) i cap) (L.take i) ∧ LfAt w (.slice (some ⟨b, off + (i + 1) * 3, none⟩) (L.length - (i + 1)) (cap - (i + 1))) (L.drop (i + 1)) from ⟨HT.out.1, by have := HT.out.2; rw [if_neg hce] at this; simpa [Addr.add_lit] using this⟩)
          refine wp_region_hot (w := w) 17 3 [1, 8, 16] [] [(1, EmpL w.heap.size), (8, OwnL w.heap.size (L.take i)), (16, OwnL w.heap.size (L.take i ++ L.drop (i + 1)))] [(1, 8), (8, 16)] [16] [] rfl (by decide) (by decide) (by kernel_rfl) (by kernel_rfl) (by kernel_rfl) (by kernel_rfl) (by kernel_rfl) (fun _ _ _ _ _ h => h) ⟨fun u A C ⟨g, h1, h2⟩ hb => ⟨g, h1, owns_laterE h2 hb⟩, fun u A C h hb => owns_laterE h hb, fun u A C h hb => owns_laterE h hb, trivial⟩ ⟨(fun h => (by cases h)), (fun h => (by cases h)), (fun h => (by cases h)), trivial⟩ ?_
          intro LL hL
          have HL2 := Lib.hid hL
          clear hL
          simp only [List.take_succ_cons, List.take_zero, putL]
          iterate 17 (first | refine wpHead_skip (by decide) ?_ | (refine wpHead_step (by decide) (fun K hK => ?_); go_simp; refine hK _ ?_; clear hK K))
          refine wpHead_nil (HL2.out _ ⟨?_, ?_, ?_, trivial⟩ ?_)
          · intro vs W2 hb2 hf
            clear HL2 o0 hf
            change TStep _ _ _ (Act.put (Act.put (Act.put _ (some 26) (vs 1)) (some 33) (vs 8)) (some 41) (vs 16)) _ _
            refine tstep_yes (by kernel_rfl) ?_
            go_simp
            exact ⟨(Below.refl _ _).alloc (Nat.le_refl _) _, W2.heap.size, rfl, World.ownsRow_made (base := w.heap.size) (e := 68) (size := 3) W2 #[] 0 hb2.size (by decide) rfl⟩
          · intro vs W2 hb2 hf
            have hf := fits_cast (q := EmpL w.heap.size (vs 1) W2 ∧ True) hf (by kernel_rfl)
            clear HL2 o0
            change TStep _ _ _ (Act.put (Act.put (Act.put _ (some 26) (vs 1)) (some 33) (vs 8)) (some 41) (vs 16)) _ _
            refine Exists.elim hf.1 fun g hg => ?_
            rw [hg.1]
            refine tstep_yes (by kernel_rfl) ?_
            have happ := lf_all 27 (base := w.heap.size) (g := g) (HT.out.1.later hb2) hg.2 hb2.size
            refine Exists.elim happ fun v' ha1 => ?_
            refine Exists.elim ha1 fun w' ha2 => ?_
            have hr := ha2.1
            refine midAt_app rfl (by kernel_rfl) (by kernel_rfl) hr ha2.2.2 ?_
            exact ha2.2.1
          · intro vs W2 hb2 hf
            have hf := fits_cast (q := OwnL w.heap.size (L.take i) (vs 8) W2 ∧ True) hf (by kernel_rfl)
            clear HL2 o0
            change HStep _ _ _ _ (Act.put (Act.put (Act.put _ (some 26) (vs 1)) (some 33) (vs 8)) (some 41) (vs 16)) _ _
            have happ := lf_app 27 (base := w.heap.size) (A := L.take i) (HT.out.2.later hb2) hf.1 hb2.size (by rw [List.length_take, List.length_drop]; omega)
            refine Exists.elim happ fun v' ha1 => ?_
            refine Exists.elim ha1 fun w' ha2 => ?_
            refine hstep_yes (by kernel_rfl) ?_
            exact hotUpon_app rfl (by kernel_rfl) (by kernel_rfl) ha2.1 (hb2.trans ha2.2.2.1) ha2.2.1
          · intro vs W2 hb2 hf
            have hf := fits_cast (q := OwnL w.heap.size (L.take i ++ L.drop (i + 1)) (vs 16) W2 ∧ True) hf (by kernel_rfl)
            clear HL2 o0
            change wpList _ _ _ _ (Act.put (Act.put (Act.put _ (some 26) (vs 1)) (some 33) (vs 8)) (some 41) (vs 16)) _
            refine Exists.elim (owns_sliceE hf.1) fun b1 x1 => ?_
            refine Exists.elim x1 fun d1 y1 => ?_
            have hown := hf.1
            rw [y1] at hown ⊢
            have hblk := H.out.blk.below hb2 H.out.blk.lt
            have hlen : (L.take i ++ L.drop (i + 1)).length ≤ 1000000 := by rw [List.length_append, List.length_take, List.length_drop]; omega
            have hlf := LfAt.of_owns hown hlen
            have hfin : TurnF w p (.slice (some ⟨b, off, none⟩) L.length cap) (dropI L id) (W2.setCell ⟨p, 0, none⟩ (.slice b1 (L.take i ++ L.drop (i + 1)).length d1)) := by
              refine ⟨_, ⟨hblk.set_ 0 _, ?_, owns_shape hown⟩, fun b hb => .inr (owns_ge hown b hb).1, (Fr.of_below hb2).trans (Fr.set rfl)⟩
              rw [HG.out.2]
              refine hlf.kept (by simp) fun b hb _ => Below.heap_setCell _ ⟨p, 0, none⟩ _ b ?_
              have := (owns_ge hown b hb).1
              have := H.out.blk.lt
              show b ≠ p
              omega
            have HFIN := Lib.hid hfin
            have c0' := hblk.cell 0; have f0' := hblk.frozen 0
            simp only [List.getElem?_toArray, List.getElem?_cons_zero, List.getElem?_cons_succ] at c0'
            generalize (L.take i ++ L.drop (i + 1)).length = n9 at HFIN ⊢
            clear hf y1 x1 hown hblk hlen hlf hfin hb2
            simp only [List.drop_succ_cons, List.drop_zero, List.take_succ_cons, List.take_zero]
            go_wp2_with fail
            go_ret
            exact ⟨by rw [HG.out.1]; rfl, HFIN.out⟩
      · have heq : (e.1.2 == id) = false := by simpa using hid
        obtain ⟨b, off, rfl, hbl, hcap, hc⟩ := H3.out.resolve_left (fun h => by rw [h] at hlt; cases hlt)
        obtain ⟨k0, k1, k2⟩ := hc i e he
        have HID := Lib.hid (And.intro hid he)
        clear hge hid hc he
        go_wp2_with fail
        go_roundw
        case measure => (simp [Go.RowKit.intOf]; try omega)
        case rel => exact ⟨i + 1, by go_num, by omega, (by first | rfl | trivial), fun j x hj hx => by
          by_cases hji : j = i
          · subst hji
            rw [HID.out.2] at hx
            cases hx
            exact HID.out.1
          · exact HNO.out j x (by omega) hx⟩
    · have hno2 : ∀ e ∈ L, e.1.2 ≠ id := fun e he => by
        obtain ⟨j, hj, hej⟩ := List.mem_iff_getElem.1 he
        exact HNO.out j e (by omega) (by rw [List.getElem?_eq_getElem hj, hej])
      have HG := Lib.hid (And.intro (get_none hno2).2.2 (dropI_not hno2))
      clear hno2
      go_wp2_with fail
      go_ret
      exact ⟨by rw [HG.out.1]; rfl, _, by rw [HG.out.2]; exact H.out, fun b hb => .inl hb, Fr.refl _ _⟩
end Go.Proofs.YtbnnkkojlclgjaaGreat
