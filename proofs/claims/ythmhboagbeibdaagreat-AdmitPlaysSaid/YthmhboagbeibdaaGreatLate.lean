/-
  When curves are late first: sums.Late.
-/
import Derived.Test.YthmhboagbeibdaaGreatCorners
import Derived.Test.YthmhboagbeibdaaGreatSumsLate
import Derived.Test.YthmhboagbeibdaaGreatSearch
import Derived.ArgAppend
namespace Go.Proofs.YthmhboagbeibdaaGreat
set_option linter.unusedVariables false
open Go.RowKit

/-- words, readable -/
structure WordsAt (w : World) (v : Value) (ks : List Int) : Prop where
  ex : ∃ g off cap, v = .slice (some ⟨g, off, none⟩) ks.length cap ∧ g < w.heap.size ∧ ∀ (i : Nat) (x : Int), ks[i]? = some x → w.cell? ⟨g, off + i, none⟩ = some (.int .u64 x)
theorem WordsAt.later {w w' : World} {v : Value} {ks : List Int} (h : WordsAt w v ks) (hb : Below w.heap.size w w') : WordsAt w' v ks := by
  obtain ⟨g, off, cap, e, hl, hc⟩ := h.ex
  exact ⟨g, off, cap, e, Nat.lt_of_lt_of_le hl hb.size, fun i x hx => (hb.cell (p := ⟨g, _, none⟩) hl).trans (hc i x hx)⟩
theorem WordsAt.grown {w w' : World} {v : Value} {ks : List Int} {row : Option Nat} (h : WordsAt w v ks) (hg : w.grownBy w' row) (hne : v.ownBlock ≠ row) : WordsAt w' v ks := by
  obtain ⟨g, off, cap, e, hl, hc⟩ := h.ex
  subst e
  exact ⟨g, off, cap, rfl, Nat.lt_of_lt_of_le hl hg.size, fun i x hx => (hg.cell_far ⟨g, off + i, none⟩ hl hne).trans (hc i x hx)⟩

/-- append at a plain region's operation, its run being known -/
theorem wpList_append_runW {P : Program} {w w' : World} {ops : Array Oper} {rest : List Oper} {o : Oper} {a : Act} {Q : Exit → Act → World → Prop} (hgd : o.guard = none) (s x : Operand) (t : TypeId)
    (ho : o.op = .call { callee := .builtin .append, args := #[s, x], argTypes := #[t, t] }) (va vx v : Value) (hs : a.eval s = va) (hx : a.eval x = vx)
    (hr : (Builtin.append_ #[t, t] o.type #[va, vx]).run P w = .ok v w') (h : wpList P ops Q rest (a.put o.dst v) w') : wpList P ops Q (o :: rest) a w :=
  wpList_plain hgd fun K hK => by
    unfold Oper.wp execOp
    simp only [ho, resolve, invoke, builtin, Sem.run_bind, Sem.run_pure, Result.andThen_ok, List.map_toArray, List.map_cons, List.map_nil, hs, hx, hr]
    exact hK _ _ h

/-- one more word behind a row that may begin behind its block's head -/
theorem run_append_word {w : World} {base g off cap : Nat} {cur : Array Value} {ks : List Int} (ty : TypeId) (B : Nat) (x : Int) (hg : w.heap[g]? = some (.cells cur 22 (0, 0))) (hbase : base ≤ g)
    (h3 : ks.length ≤ cap) (h4 : cap ≤ maxLen) (h5 : off + cap ≤ cur.size) (h6 : ∀ (i : Nat) (y : Int), ks[i]? = some y → cur[off + i]? = some (.int .u64 y)) (hB : Blk w B 22 #[.int .u64 x]) (hb : base ≤ w.heap.size) (hl : ks.length < 10000000) :
    ∃ v' w', (Builtin.append_ #[82, 82] ty #[.slice (some ⟨g, off, none⟩) ks.length cap, .slice (some ⟨B, 0, none⟩) 1 1]).run Tryz.prog w = .ok v' w' ∧ WordsAt w' v' (ks ++ [x]) ∧ w.grownBy w' (some g) ∧ ∃ k, v'.ownBlock = some k ∧ base ≤ k := by
  obtain ⟨i0, hi, hz0, hz1, hz2⟩ := info_parts info_u64
  have hnews := World.news_of_block hB
  have hgl : g < w.heap.size := (Array.getElem?_eq_some_iff.1 hg).1
  have hcell : ∀ j, w.cell? ⟨g, j, none⟩ = cur[j]? := fun j => cell_of_row w g j cur _ (0, 0) hg
  by_cases hroom : ks.length < cap
  · have hr := run_append_room_cells (P := Tryz.prog) w 82 ty 22 i0 Tryz.underlying82 hi g off ks.length cap ⟨B, 0, none⟩ 1 1 [.int .u64 x] (by rw [hz1]; rfl) hnews (by simp [Value.oneCell']) (by omega)
      (by
        intro j hj
        have hj : j < 1 := by simpa using hj
        rw [hcell, Array.getElem?_eq_getElem (by rw [hz1]; omega)]; rfl)
      (by intro j hj; simp [World.frozen?, hg])
    refine ⟨_, _, hr, ?_, ?_, g, rfl, hbase⟩
    · rw [hz1]
      refine ⟨g, off, cap, by simp, by simpa [World.setCells] using hgl, fun i y hy => ?_⟩
      have b0 : Blk w g 22 cur := hg
      have b1 := b0.set_ (off + ks.length * 1) (.int .u64 x)
      show (w.setCell ⟨g, off + ks.length * 1, none⟩ (.int .u64 x)).cell? ⟨g, off + i, none⟩ = _
      rw [b1.cell]
      simp only [Array.getElem?_setIfInBounds]
      by_cases hil : i < ks.length
      · rw [List.getElem?_append_left hil] at hy
        rw [if_neg (by omega)]
        exact h6 i y hy
      · rw [List.getElem?_append_right (by omega)] at hy
        obtain rfl : i = ks.length := by
          have := (List.getElem?_eq_some_iff.1 hy).1
          simp at this; omega
        simp at hy
        subst hy
        rw [if_pos (by omega), if_pos (by omega)]
    · rw [hz1]
      exact grown_setW w g _ _
  · obtain ⟨v', w', hr, ho, hg'⟩ := run_append_arg_grows (P := Tryz.prog) w 82 ty 22 i0 _ 1 8 Tryz.underlying82 hi hz0 hz1 hz2 rfl (by decide) ⟨g, off, none⟩ ks.length cap (ks.map (Value.int .u64)) (by simp)
      (by
        intro j u hu
        rw [List.getElem?_map] at hu
        obtain ⟨y, hy, rfl⟩ := Option.map_eq_some_iff.1 hu
        rw [Addr.add_lit, hcell]
        exact h6 j y hy) ⟨B, 0, none⟩ 1 1 [.int .u64 x] rfl hnews (by omega) (by unfold maxLen; omega) (by omega)
    obtain ⟨g2, cap2, e, hge, hlt⟩ := ho.form (by omega)
    subst e
    refine ⟨_, w', hr, ⟨g2, 0, cap2, by simp, hlt, fun i y hy => ?_⟩, ⟨hg'.os, hg'.tape, hg'.output, hg'.size, fun k hk _ => hg'.block k hk (by simp)⟩, g2, rfl, by omega⟩
    have hil : i < (ks ++ [x]).length := (List.getElem?_eq_some_iff.1 hy).1
    rw [Nat.zero_add, ho.cellAt i (by simpa using hil)]
    have : (ks.map (Value.int .u64) ++ [.int .u64 x])[i]? = some (.int .u64 y) := by
      rw [show ks.map (Value.int .u64) ++ [.int .u64 x] = (ks ++ [x]).map (Value.int .u64) by simp, List.getElem?_map, hy]; rfl
    exact this

/-- what the question's closure captures: the curves, the rate, where it goes from -/
structure AskAt (W : World) (v : Value) (f : List Cv) (r fr : Int) (vb rb fb : Nat) : Prop where
  cv : CvAt W v f
  bv : Boxed W vb 45 v
  br : Boxed W rb 22 (.int .u64 r)
  bf : Boxed W fb 22 (.int .u64 fr)
theorem AskAt.later {W W' : World} {v : Value} {f : List Cv} {r fr : Int} {vb rb fb : Nat} (h : AskAt W v f r fr vb rb fb) (hb : Below W.heap.size W W') : AskAt W' v f r fr vb rb fb :=
  ⟨h.cv.later hb, (hb.block vb h.bv.lt).trans h.bv, (hb.block rb h.br.lt).trans h.br, (hb.block fb h.bf.lt).trans h.bf⟩

theorem ask_any (v : Value) (f : List Cv) (r fr : Int) (vb rb fb : Nat) (i : Nat) (w : World) (h : AskAt w v f r fr vb rb fb) (hr : U r) (h0 : 0 ≤ fr) (h1 : fr + i ≤ 9223372036854775807) :
    Calls Tryz.prog 56 (#[.int .i64 i] ++ #[.pointer (some ⟨vb, 0, none⟩), .pointer (some ⟨rb, 0, none⟩), .pointer (some ⟨fb, 0, none⟩)]) w fun e w' => e = .returned (.bool (decide (Lt f r (fr + i)))) ∧ Below w.heap.size w w' := by
  have hs := slate_any v f r (fr + i) w h.cv hr (by unfold U; omega)
  have cv := h.bv.cell; have cr := h.br.cell; have cf := h.bf.cell
  obtain ⟨a, n, cap, rfl⟩ : ∃ a n cap, v = .slice a n cap := by obtain ⟨_, _, a, cap, e, _⟩ := h.cv; exact ⟨a, _, cap, e⟩
  clear h
  go_enter Tryz.func56, Tryz.ntmps56
  go_wp2_with fail
  refine hs.mono ?_
  clear hs
  rintro e w1 ⟨rfl, hb1⟩
  have HB := Lib.hid hb1
  clear hb1
  go_wp2_with fail
  go_ret
  exact ⟨rfl, HB.out⟩
end Go.Proofs.YthmhboagbeibdaaGreat
