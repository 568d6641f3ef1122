/-
  slices.Concat of two rows of curves; slices.Grow of none.
-/
import Derived.Test.YthmhboagbeibdaaGreatCvApp
import Derived.Maps.AppendAt
namespace Go.Proofs.YthmhboagbeibdaaGreat
set_option linter.unusedVariables false
open Go.RowKit

/-- append at a plain region's operation, its run being known: two types -/
theorem wpList_append_run2 {P : Program} {w w' : World} {ops : Array Oper} {rest : List Oper} {o : Oper} {a : Act} {Q : Exit → Act → World → Prop} (hgd : o.guard = none) (s x : Operand) (t t2 : TypeId)
    (ho : o.op = .call { callee := .builtin .append, args := #[s, x], argTypes := #[t, t2] }) (va vx v : Value) (hs : a.eval s = va) (hx : a.eval x = vx)
    (hr : (Builtin.append_ #[t, t2] o.type #[va, vx]).run P w = .ok v w') (h : wpList P ops Q rest (a.put o.dst v) w') : wpList P ops Q (o :: rest) a w :=
  wpList_plain hgd fun K hK => by
    unfold Oper.wp execOp
    simp only [ho, resolve, invoke, builtin, Sem.run_bind, Sem.run_pure, Result.andThen_ok, List.map_toArray, List.map_cons, List.map_nil, hs, hx, hr]
    exact hK _ _ h

/-- all of a row, laid behind a row of the call's own -/
theorem app_more3 (ty : TypeId) {A B : List Cv} {w : World} {v x : Value} {base : Nat} (h : CvAt w x B) (hown : w.ownsRow base 25 3 v A.length (cvCells A)) (hb : base ≤ w.heap.size) (hl : A.length + B.length ≤ 3000000) :
    ∃ v' w', (Builtin.append_ #[45, 45] ty #[v, x]).run Tryz.prog w = .ok v' w' ∧ w'.ownsRow base 25 3 v' (A ++ B).length (cvCells (A ++ B)) ∧ Below base w w' ∧ w.grownBy w' v.ownBlock ∧ (v'.ownBlock = v.ownBlock ∨ v'.ownBlock = some w.heap.size) := by
  obtain ⟨i0, hi0, hz0, hz1, hz2⟩ := info_parts info_curve
  obtain ⟨a, cap, rfl⟩ : ∃ a cap, x = .slice a B.length cap := by obtain ⟨_, _, a, cap, e, _⟩ := h; exact ⟨a, cap, e⟩
  by_cases hne : B = []
  · subst hne
    have hsrc : Src Tryz.prog i0.size 45 (.slice a ([] : List Cv).length cap) 0 [] w := by
      cases a with
      | none => exact Src.ofNil w Tryz.underlying45 cap
      | some ad => exact Src.ofSlice w Tryz.underlying45 ad 0 cap [] (by simp) (fun j u hj => by simp at hj) (fun u hu => by simp at hu)
    rcases hown.2 with ⟨rfl, h0⟩ | ⟨g, c, cur, rfl, h1, h2, h3, h4⟩
    · refine ⟨_, w, run_append_nothing w _ _ ty _ i0 Tryz.underlying45 hi0 _ 0 0 (Nat.le_refl _) _ hsrc, ?_, Below.refl _ _, ⟨rfl, rfl, rfl, Nat.le_refl _, fun _ _ _ => rfl⟩, .inl rfl⟩
      simpa [h0] using hown
    · refine ⟨_, w, run_append_nothing w _ _ ty _ i0 Tryz.underlying45 hi0 _ A.length c h3 _ hsrc, by simpa using hown, Below.refl _ _, ⟨rfl, rfl, rfl, Nat.le_refl _, fun _ _ _ => rfl⟩, .inl rfl⟩
  · obtain ⟨ad, rfl, hc⟩ := h.cells hne
    obtain ⟨v', w', hr, ho, hg, _, hat⟩ := run_append_own_at (P := Tryz.prog) w base 45 ty 25 i0 _ 3 24 Tryz.underlying45 hi0 hz0 hz1 hz2 rfl (by decide) v A.length (cvCells A) hown ad B.length cap (cvCells B) (cvCells_length B) hc (cvCells_one B) (by unfold maxLen; omega) (by omega) hb
    exact ⟨v', w', hr, by simpa [cvCells_append] using ho, (Below.refl base w).grown hg hb fun k hk => (hown.lt k hk).1, hg, hat⟩

/-- all of a row, laid behind a row of the call's own -/
theorem app_more (ty : TypeId) {A B : List Cv} {w : World} {v x : Value} {base : Nat} (h : CvAt w x B) (hown : w.ownsRow base 25 3 v A.length (cvCells A)) (hb : base ≤ w.heap.size) (hl : A.length + B.length ≤ 3000000) :
    ∃ v' w', (Builtin.append_ #[45, 45] ty #[v, x]).run Tryz.prog w = .ok v' w' ∧ w'.ownsRow base 25 3 v' (A ++ B).length (cvCells (A ++ B)) ∧ Below base w w' ∧ w.grownBy w' v.ownBlock := by
  obtain ⟨v', w', h1, h2, h3, h4, _⟩ := app_more3 ty h hown hb hl
  exact ⟨v', w', h1, h2, h3, h4⟩

/-- append(nil, make([]T, n)...) -/
theorem run_append_zeros (ty : TypeId) (w : World) (n : Nat) (h0 : 0 < n) (hn : n ≤ 1000000) :
    ∃ cap cells, (Builtin.append_ #[45, 3] ty #[.slice none 0 0, .int .i64 n]).run Tryz.prog w = .ok (.slice (some ⟨w.heap.size, 0, none⟩) n cap) (w.drew.alloc (.cells cells 25)) ∧ n ≤ cap ∧ cap ≤ maxLen ∧ cells.size = cap * 3 := by
  obtain ⟨i0, hi0, hz0, hz1, hz2⟩ := info_parts info_curve
  have hge := grownCap_ge w n 0 25
  have hcm := grownCap_le_maxLen w n 0 25 (by unfold maxLen; omega)
  have hfit := growslice_fits (need := n) (old := 0) (bytes := 24) h0 (by omega)
  have h1 : ¬ ((n : Int) < 0) := by omega
  have h2 : IntKind.i64.wrap (n : Int) = n := IntWalk.i64_in _ (by omega)
  have h3 : ¬ (281474976710656 < (n : Int) * 24) := by omega
  have h4 : ¬ (n = 0) := by omega
  have h5 : ¬ (9223372036854775807 < (n : Int)) := by omega
  have h6 : ¬ (281474976710656 < Builtin.nextslicecap n 0 * 24) := by omega
  have hsz : i0.size = 3 := hz1
  refine ⟨grownCap w n 0 25, (Builtin.zeroCells (Value.cells (.agg #[.int .u64 0, .int .u64 0, .int .u64 0])) n) ++ Builtin.zeroCells (Value.cells (.agg #[.int .u64 0, .int .u64 0, .int .u64 0])) (grownCap w n 0 25 - n), ?_, hge, hcm, ?_⟩
  · simp [Builtin.append_, run_underlying Tryz.underlying45, run_underlying Tryz.underlying3, sizeOf, typeInfo, zeroValue, hi0, hz0, hz1, hz2, asInt, asIntOf, h1, h2, h3, h4, h5, h6, Builtin.lenOf, Question.forced, newRow, grownCap, Builtin.firstCells]
    intro h
    omega
  · simp only [Array.size_append, size_zeroCells]
    simp [Value.cells]
    omega

def GrowW (w : World) (e : Ending) (w' : World) : Prop := ∃ v, e = .returned v ∧ w'.ownsRow w.heap.size 25 3 v 0 [] ∧ Below w.heap.size w w'
set_option maxRecDepth 100000 in
theorem grow_any (n : Nat) (w : World) (hn : n ≤ 1000000) :
    Calls Tryz.prog 44 #[.slice none 0 0, .int .i64 n] w (GrowW w) := by
  by_cases h0 : n = 0
  · subst h0
    go_enter Tryz.func44, Tryz.ntmps44
    go_wp2_with fail
    go_ret
    exact ⟨_, rfl, World.ownsRow_nil _ _ _ _, Below.refl _ _⟩
  · obtain ⟨cap, cells, hr, h1, h2, h3⟩ := run_append_zeros 45 w n (by omega) hn
    have hpos : (0 : Int) < (n : Int) := by omega
    have hown : (w.drew.alloc (.cells cells 25)).ownsRow w.heap.size 25 3 (.slice (some ⟨w.heap.size, 0, none⟩) 0 cap) 0 [] :=
      ⟨rfl, .inr ⟨w.heap.size, cap, cells, rfl, Nat.le_refl _, heap_alloc_new _ _, Nat.zero_le _, h2, h3, by simp⟩⟩
    have hb : Below w.heap.size w (w.drew.alloc (.cells cells 25)) := (Below.refl _ w).drew.alloc (by simp) _
    have HO := Lib.hid (And.intro hown hb)
    clear hown hb h2 h3
    go_enter Tryz.func44, Tryz.ntmps44
    go_wp2_with (at_builtin; refine wpList_append_run2 rfl _ _ _ _ rfl _ _ _ rfl rfl hr ?_)
    go_ret
    exact ⟨_, rfl, HO.out.1, HO.out.2⟩

def ConcatW (w : World) (A B : List Cv) (e : Ending) (w' : World) : Prop := ∃ v, e = .returned v ∧ w'.ownsRow w.heap.size 25 3 v (A ++ B).length (cvCells (A ++ B)) ∧ Below w.heap.size w w'
set_option maxRecDepth 100000 in
theorem concat_any (b0 : Nat) (va vb : Value) (A B : List Cv) (w : World) (hA : CvAt w va A) (hB : CvAt w vb B) (h0 : Blk w b0 45 #[va, vb]) (hsum : A.length + B.length ≤ 1000000) :
    Calls Tryz.prog 39 #[.slice (some ⟨b0, 0, none⟩) 2 2] w (ConcatW w A B) := by
  obtain ⟨a1, c1, rfl⟩ : ∃ a cap, va = .slice a A.length cap := by obtain ⟨_, _, a, cap, e, _⟩ := hA; exact ⟨a, cap, e⟩
  obtain ⟨a2, c2, rfl⟩ : ∃ a cap, vb = .slice a B.length cap := by obtain ⟨_, _, a, cap, e, _⟩ := hB; exact ⟨a, cap, e⟩
  have hlA := hA.2.1; have hlB := hB.2.1
  have x0 := h0.cell 0; have x1 := h0.cell 1
  simp only [List.getElem?_toArray, List.getElem?_cons_zero, List.getElem?_cons_succ] at x0 x1
  have HA := Lib.hid (fun W (h : Below w.heap.size w W) => hA.later h); have HB0 := Lib.hid (fun W (h : Below w.heap.size w W) => hB.later h)
  have HX := Lib.hid (fun W (h : Below w.heap.size w W) => And.intro ((h.cell (p := ⟨b0, 0, none⟩) h0.lt).trans x0) ((h.cell (p := ⟨b0, 1, none⟩) h0.lt).trans x1))
  clear hA hB h0
  go_enter Tryz.func39, Tryz.ntmps39
  go_wp2_with fail
  go_loopw [3, 5, 11] (fun v3 v5 v11 W => ∃ (k : Nat) (n : Nat), v11 = .int .i64 k ∧ v3 = .int .i64 n ∧ ((k = 0 ∧ n = 0) ∨ (k = 1 ∧ n = A.length) ∨ (k = 2 ∧ n = A.length + B.length)) ∧ W = w) (fun _ _ v11 _ => (2 - Go.RowKit.intOf v11).toNat)
  case atStart => exact ⟨0, 0, rfl, rfl, .inl ⟨rfl, rfl⟩, rfl⟩
  case round =>
    obtain ⟨k, n, rfl, rfl, hk, rfl⟩ := hrel
    rcases hk with ⟨rfl, rfl⟩ | ⟨rfl, rfl⟩ | ⟨rfl, rfl⟩
    · go_wp2_with fail
      go_roundw
      case measure => (simp [Go.RowKit.intOf]; try omega)
      case rel => exact ⟨1, A.length, by go_num, by go_num, .inr (.inl ⟨rfl, rfl⟩), by first | rfl | trivial⟩
    · go_wp2_with fail
      go_roundw
      case measure => (simp [Go.RowKit.intOf]; try omega)
      case rel => exact ⟨2, A.length + B.length, by go_num, by go_num, .inr (.inr ⟨rfl, rfl⟩), by first | rfl | trivial⟩
    · have hgr : Calls Tryz.prog 44 #[.slice none 0 0, .int .i64 ((A.length : Int) + (B.length : Int))] wr (GrowW wr) := by
        have h := grow_any (A.length + B.length) wr hsum
        simpa using h
      obtain ⟨w1, rfl⟩ : ∃ w', w' = wr := ⟨_, rfl⟩
      go_wp2_with fail
      refine hgr.mono ?_
      clear hgr
      rintro e w2 ⟨v, rfl, hown, hb⟩
      have HO := Lib.hid hown; have HB1 := Lib.hid hb
      clear hown hb
      go_wp2_with fail
      go_loopw [6, 8, 27] (fun v6 v8 v27 W => ∃ (k : Nat) (X : List Cv), v27 = .int .i64 k ∧ ((k = 0 ∧ X = []) ∨ (k = 1 ∧ X = A) ∨ (k = 2 ∧ X = A ++ B)) ∧ W.ownsRow w1.heap.size 25 3 v6 X.length (cvCells X) ∧ Below w1.heap.size w1 W) (fun _ _ v27 _ => (2 - Go.RowKit.intOf v27).toNat)
      case atStart => exact ⟨0, [], rfl, .inl ⟨rfl, rfl⟩, HO.out, HB1.out⟩
      case round =>
        obtain ⟨k, X, rfl, hk, hown, hbw⟩ := hrel
        obtain ⟨y0, y1⟩ := HX.out _ hbw
        rcases hk with ⟨rfl, rfl⟩ | ⟨rfl, rfl⟩ | ⟨rfl, rfl⟩
        · obtain ⟨v', w', hr, ho, hb, hg⟩ := app_more 45 (HA.out _ hbw) hown hbw.size (by first | omega | (simp; omega))
          have HO := Lib.hid (show w'.ownsRow w1.heap.size 25 3 v' (A).length (cvCells (A)) by simpa using ho)
          have HB := Lib.hid (hbw.trans hb)
          clear ho hb hg hown hbw
          go_wp2_with (at_builtin; refine wpList_append_runW rfl _ _ _ rfl _ _ _ rfl rfl hr ?_; clear hr)
          go_roundw
          case measure => (simp [Go.RowKit.intOf]; try omega)
          case rel => exact ⟨1, A, by go_num, by simp, HO.out, HB.out⟩
        · obtain ⟨v', w', hr, ho, hb, hg⟩ := app_more 45 (HB0.out _ hbw) hown hbw.size (by first | omega | (simp; omega))
          have HO := Lib.hid (show w'.ownsRow w1.heap.size 25 3 v' (X ++ B).length (cvCells (X ++ B)) by simpa using ho)
          have HB := Lib.hid (hbw.trans hb)
          clear ho hb hg hown hbw
          go_wp2_with (at_builtin; refine wpList_append_runW rfl _ _ _ rfl _ _ _ rfl rfl hr ?_; clear hr)
          go_roundw
          case measure => (simp [Go.RowKit.intOf]; try omega)
          case rel => exact ⟨2, X ++ B, by go_num, by simp, HO.out, HB.out⟩
        · have HO2 := Lib.hid hown; have HB2 := Lib.hid hbw
          clear hown hbw
          go_wp2_with fail
          go_ret
          exact ⟨_, rfl, HO2.out, HB2.out⟩
end Go.Proofs.YthmhboagbeibdaaGreat
