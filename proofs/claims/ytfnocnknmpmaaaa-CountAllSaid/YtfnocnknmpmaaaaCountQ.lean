/-
  Rows of packets that are appended to, and cut at their heads.
-/
import Derived.Test.YtfnocnknmpmaaaaCountPlain
import Derived.Deep.AppendLies
import Derived.ArgAppend
namespace Go.Proofs.Ytfnocnknmpmaaaa
set_option linter.unusedVariables false
open Go.RowKit

/-- a packet's cells -/
def pkC (q : CAct) : List Value := [.int .u64 q.i, .int .i64 q.c, .int .i64 q.n, .int .u64 q.t]
def pkL (l : List CAct) : List Value := l.flatMap pkC
theorem pkL_len : ∀ l : List CAct, (pkL l).length = l.length * 4
  | [] => rfl
  | q :: l => by have := pkL_len l; simp [pkL, pkC] at this ⊢; omega
theorem pkL_cons (q : CAct) (l : List CAct) : pkL (q :: l) = pkC q ++ pkL l := rfl
theorem pkL_app (l : List CAct) (q : CAct) : pkL (l ++ [q]) = pkL l ++ pkC q := by simp [pkL]
theorem pkC_one (q : CAct) : ∀ u ∈ pkC q, u.oneCell' = true := by
  intro u hu
  simp only [pkC, List.mem_cons, List.not_mem_nil, or_false] at hu
  rcases hu with rfl | rfl | rfl | rfl <;> rfl

/-- a row in memory of the call's own, which may begin behind its block's head -/
def QAt (w : World) (base : Nat) (v : Value) (l : List CAct) : Prop :=
  (v = .slice none 0 0 ∧ l = []) ∨
  ∃ g off cap cur, v = .slice (some ⟨g, off, none⟩) l.length cap ∧ base ≤ g ∧ w.heap[g]? = some (.cells cur 24 (0, 0)) ∧ l.length ≤ cap ∧ cap ≤ maxLen ∧ off + cap * 4 ≤ cur.size ∧
    ∀ j u, (pkL l)[j]? = some u → cur[off + j]? = some u
theorem QAt.nil (w : World) (base : Nat) : QAt w base (.slice none 0 0) [] := .inl ⟨rfl, rfl⟩
theorem QAt.kept {w w' : World} {base : Nat} {v : Value} {l : List CAct} {row : Option Nat} (h : QAt w base v l) (hg : w.grownBy w' row) (hne : v.ownBlock = none ∨ v.ownBlock ≠ row) : QAt w' base v l := by
  rcases h with h | ⟨g, off, cap, cur, rfl, h1, h2, h3⟩
  · exact .inl h
  · refine .inr ⟨g, off, cap, cur, rfl, h1, ?_, h3⟩
    rw [hg.block g (Array.getElem?_eq_some_iff.1 h2).1 (by simpa [Value.ownBlock] using hne)]
    exact h2
theorem QAt.block {w : World} {base : Nat} {v : Value} {l : List CAct} (h : QAt w base v l) : ∀ k, v.ownBlock = some k → base ≤ k ∧ k < w.heap.size ∧ ∃ cur, w.heap[k]? = some (.cells cur 24 (0, 0)) := by
  intro k hk
  rcases h with ⟨rfl, _⟩ | ⟨g, off, cap, cur, rfl, h1, h2, h3⟩
  · simp [Value.ownBlock] at hk
  · simp [Value.ownBlock] at hk
    subst hk
    exact ⟨h1, (Array.getElem?_eq_some_iff.1 h2).1, cur, h2⟩
theorem QAt.form {w : World} {base : Nat} {v : Value} {l : List CAct} (h : QAt w base v l) : ∃ p c, v = .slice p l.length c := by
  rcases h with ⟨rfl, rfl⟩ | ⟨g, off, cap, cur, rfl, _⟩
  · exact ⟨none, 0, rfl⟩
  · exact ⟨_, _, rfl⟩
theorem QAt.cell {w : World} {g off cap n base : Nat} {l : List CAct} (h : QAt w base (.slice (some ⟨g, off, none⟩) n cap) l) (j : Nat) (u : Value) (hu : (pkL l)[j]? = some u) : w.cell? ⟨g, off + j, none⟩ = some u := by
  rcases h with ⟨h, _⟩ | ⟨g', off', cap', cur, e, h1, h2, h3, h4, h5, h6⟩
  · cases h
  · cases e
    rw [cell_of_row w g (off + j) cur _ (0, 0) h2]
    exact h6 j u hu
theorem QAt.of_owns {w : World} {base : Nat} {v : Value} {l : List CAct} (h : w.ownsRow base 24 4 v l.length (pkL l)) : QAt w base v l := by
  rcases h.2 with ⟨rfl, h0⟩ | ⟨g, cap, cur, rfl, h1, h2, h3, h4, h5, h6⟩
  · exact .inl ⟨rfl, List.eq_nil_of_length_eq_zero h0⟩
  · refine .inr ⟨g, 0, cap, cur, rfl, h1, h2, h3, h4, by omega, fun j u hu => ?_⟩
    have hj : j < l.length * 4 := by rw [← pkL_len]; exact (List.getElem?_eq_some_iff.1 hu).1
    rw [← h6, List.getElem?_take_of_lt hj, Array.getElem?_toList] at hu
    simpa using hu
/-- its first goes -/
theorem QAt.pop {w : World} {base g off n cap : Nat} {q : CAct} {l : List CAct} (h : QAt w base (.slice (some ⟨g, off, none⟩) n cap) (q :: l)) (hc : 1 < cap) : QAt w base (.slice (some ⟨g, off + 4, none⟩) l.length (cap - 1)) l := by
  rcases h with ⟨h, _⟩ | ⟨g', off', cap', cur, e, h1, h2, h3, h4, h5, h6⟩
  · cases h
  · cases e
    simp only [List.length_cons] at h3
    refine .inr ⟨g, off + 4, cap - 1, cur, rfl, h1, h2, by omega, by omega, by omega, fun j u hu => ?_⟩
    have := h6 (4 + j) u (by rw [pkL_cons, List.getElem?_append_right (by simp [pkC])]; simpa [pkC] using hu)
    rw [← this]; congr 1; omega
theorem QAt.pop1 {w : World} {base g off n : Nat} {q : CAct} {l : List CAct} (h : QAt w base (.slice (some ⟨g, off, none⟩) n 1) (q :: l)) : l = [] ∧ QAt w base (.slice (some ⟨g, off, none⟩) 0 0) [] := by
  rcases h with ⟨h, _⟩ | ⟨g', off', cap', cur, e, h1, h2, h3, h4, h5, h6⟩
  · cases h
  · cases e
    simp only [List.length_cons] at h3
    refine ⟨List.eq_nil_of_length_eq_zero (by omega), .inr ⟨g, off, 0, cur, rfl, h1, h2, by simp, by omega, by omega, fun j u hu => by simp [pkL] at hu⟩⟩

theorem grownBy_setC (w : World) (g o : Nat) (u : Value) : w.grownBy (w.setCell ⟨g, o, none⟩ u) (some g) :=
  ⟨rfl, rfl, rfl, by simp [World.setCell], fun k hk hne => Below.heap_setCell w ⟨g, o, none⟩ u k (by rintro rfl; exact hne rfl)⟩
theorem info_packet : (Try.prog.info? 24).map (fun i => (i.zero, i.size, i.bytes)) = some (some (.agg #[.int .u64 0, .int .i64 0, .int .i64 0, .int .u64 0]), 4, 32) := by kernel_rfl

/-- append at a plain region's operation, its run being known -/
theorem wpList_append_run {P : Program} {w w' : World} {ops : Array Oper} {rest : List Oper} {o : Oper} {a : Act} {Q : Exit → Act → World → Prop} (hgd : o.guard = none) (s x : Operand) (t : TypeId)
    (ho : o.op = .call { callee := .builtin .append, args := #[s, x], argTypes := #[t, t] }) (va vx v : Value) (hs : a.eval s = va) (hx : a.eval x = vx)
    (hr : (Builtin.append_ #[t, t] o.type #[va, vx]).run P w = .ok v w') (h : wpList P ops Q rest (a.put o.dst v) w') : wpList P ops Q (o :: rest) a w :=
  wpList_plain hgd fun K hK => by
    unfold Oper.wp execOp
    simp only [ho, resolve, invoke, builtin, Sem.run_bind, Sem.run_pure, Result.andThen_ok, List.map_toArray, List.map_cons, List.map_nil, hs, hx, hr]
    exact hK _ _ h

/-- one more behind it -/
theorem QAt.append {w : World} {base : Nat} {v : Value} {l : List CAct} (h : QAt w base v l) (ty : TypeId) (B : Nat) (q : CAct) (hB : Blk w B 24 (pkC q).toArray) (hb : base ≤ w.heap.size) (hl : l.length < 1000000) :
    ∃ v' w', (Builtin.append_ #[37, 37] ty #[v, .slice (some ⟨B, 0, none⟩) 1 1]).run Try.prog w = .ok v' w' ∧ QAt w' base v' (l ++ [q]) ∧ w.grownBy w' v.ownBlock ∧ (v'.ownBlock = v.ownBlock ∨ ∃ k, v'.ownBlock = some k ∧ w.heap.size ≤ k) := by
  obtain ⟨i0, hi, hz0, hz1, hz2⟩ := info_parts info_packet
  have hnews := World.news_of_block hB
  simp only [List.toList_toArray] at hnews
  rcases h with ⟨rfl, rfl⟩ | ⟨g, off, cap, cur, rfl, h1, h2, h3, h4, h5, h6⟩
  · obtain ⟨g, cap, w', hr, ho, hg, hw, _⟩ := run_append_lies (P := Try.prog) w 37 ty base 24 i0 _ 4 32 Try.underlying37 hi hz0 hz1 hz2 rfl (by decide) (.slice none 0 0) 0 [] (w.ownsRow_nil base _ _) ⟨B, 0, none⟩ 1 1 (pkC q) rfl hnews (pkC_one q) (by decide) (by unfold maxLen; omega) (by omega) hb _ rfl
    refine ⟨_, w', hr, QAt.of_owns (l := [q]) (by simpa [pkL] using ho), hg, ?_⟩
    right
    rcases hw with hw | hw
    · simp [Value.ownBlock] at hw
    · exact ⟨g, rfl, by omega⟩
  · by_cases hroom : l.length < cap
    · have hr := run_append_room_cells (P := Try.prog) w 37 ty 24 i0 Try.underlying37 hi g off l.length cap ⟨B, 0, none⟩ 1 1 (pkC q) (by rw [hz1]; rfl) hnews (pkC_one q) (by omega)
        (by
          intro j hj
          have hj : j < 4 := by simpa [pkC] using hj
          rw [cell_of_row w g _ cur _ (0, 0) h2, Array.getElem?_eq_getElem (by rw [hz1]; omega)]; rfl)
        (by intro j hj; simp [World.frozen?, h2])
      refine ⟨_, _, hr, ?_, ?_, .inl rfl⟩
      · rw [hz1]
        have b0 : Blk w g 24 cur := h2
        have b1 := b0.set_ (off + l.length * 4) (.int .u64 q.i)
        have b2 := b1.set_ (off + l.length * 4 + 1) (.int .i64 q.c)
        have b3 := b2.set_ (off + l.length * 4 + 1 + 1) (.int .i64 q.n)
        have b4 := b3.set_ (off + l.length * 4 + 1 + 1 + 1) (.int .u64 q.t)
        refine .inr ⟨g, off, cap, _, by simp, h1, b4, by simp; omega, h4, by simp; omega, fun j u hu => ?_⟩
        rw [pkL_app] at hu
        have hlen := pkL_len l
        by_cases hj : j < l.length * 4
        · rw [List.getElem?_append_left (by omega)] at hu
          have := h6 j u hu
          simp only [Array.getElem?_setIfInBounds]
          rw [if_neg (by omega), if_neg (by omega), if_neg (by omega), if_neg (by omega)]
          exact this
        · rw [List.getElem?_append_right (by omega), hlen] at hu
          have hj2 : j - l.length * 4 < 4 := by have := (List.getElem?_eq_some_iff.1 hu).1; simpa [pkC] using this
          rcases (by omega : j = l.length * 4 ∨ j = l.length * 4 + 1 ∨ j = l.length * 4 + 2 ∨ j = l.length * 4 + 3) with rfl | rfl | rfl | rfl
          · simp [pkC] at hu; subst hu
            simp only [Array.getElem?_setIfInBounds]
            rw [if_neg (by omega), if_neg (by omega), if_neg (by omega), if_pos trivial, if_pos (by omega)]
          · simp [pkC] at hu; subst hu
            simp only [Array.getElem?_setIfInBounds, Array.size_setIfInBounds]
            rw [if_neg (by omega), if_neg (by omega), if_pos (by omega), if_pos (by omega)]
          · simp [pkC] at hu; subst hu
            simp only [Array.getElem?_setIfInBounds, Array.size_setIfInBounds]
            rw [if_neg (by omega), if_pos (by omega), if_pos (by omega)]
          · simp [pkC] at hu; subst hu
            simp only [Array.getElem?_setIfInBounds, Array.size_setIfInBounds]
            rw [if_pos (by omega), if_pos (by omega)]
      · rw [hz1]
        have hs := fun (w : World) o u => grownBy_setC w g o u
        show w.grownBy ((((w.setCell _ _).setCell _ _).setCell _ _).setCell _ _) (some g)
        exact (((hs _ _ _).trans (hs _ _ _)).trans (hs _ _ _)).trans (hs _ _ _)
    · obtain ⟨v', w', hr, ho, hg⟩ := run_append_arg_grows (P := Try.prog) w 37 ty 24 i0 _ 4 32 Try.underlying37 hi hz0 hz1 hz2 rfl (by decide) ⟨g, off, none⟩ l.length cap (pkL l) (pkL_len l)
        (by
          intro j u hu
          rw [Addr.add_lit, cell_of_row w g _ cur _ (0, 0) h2]
          exact h6 j u hu) ⟨B, 0, none⟩ 1 1 (pkC q) rfl hnews (by omega) (by unfold maxLen; omega) (by omega)
      have ho2 : QAt w' w.heap.size v' (l ++ [q]) := QAt.of_owns (by rw [List.length_append, pkL_app]; exact ho)
      refine ⟨v', w', hr, ?_, ⟨hg.os, hg.tape, hg.output, hg.size, fun k hk _ => hg.block k hk (by simp)⟩, ?_⟩
      · rcases ho2 with ⟨_, h0⟩ | ⟨g2, off2, cap2, cur2, e, a1, a2⟩
        · simp at h0
        · exact .inr ⟨g2, off2, cap2, cur2, e, by omega, a2⟩
      · right
        obtain ⟨g2, cap2, e, hge, hlt⟩ := ho.form (by omega)
        exact ⟨g2, by rw [e]; rfl, hge⟩
end Go.Proofs.Ytfnocnknmpmaaaa
