/-
  A row of leaves and the document's row of the same leaves, side by side.
-/
import Derived.Test.YtbnnkkojlclgjaaGreatEdfSame
import Derived.Test.YtbnnkkojlclgjaaGreatRfPut
namespace Go.Proofs.YtbnnkkojlclgjaaGreat
set_option linter.unusedVariables false
open Go.RowKit Go.Maps

/-- acts played: Put, Drop, Copy -/
def playP1 (L : List En) (q : EAct) : List En := if q.k % 3 = 0 then putI L q.i q.a q.b else if q.k % 3 = 1 then dropI L q.i else L
def playP (z : List EAct) : List En := z.foldl playP1 []
theorem playP_snoc {z : List EAct} {k : Nat} {q : EAct} (h : z[k]? = some q) : playP (z.take (k + 1)) = playP1 (playP (z.take k)) q := by
  unfold playP
  rw [List.take_add_one, h]
  simp [List.foldl_append]
theorem playP_inv (z : List EAct) : InvE (playP z) ∧ (playP z).length ≤ z.length := by
  have : ∀ (z : List EAct) (L : List En), InvE L → InvE (z.foldl playP1 L) ∧ (z.foldl playP1 L).length ≤ L.length + z.length := by
    intro z
    induction z with
    | nil => exact fun L h => ⟨h, by simp⟩
    | cons q z ih =>
      intro L h
      have h1 : InvE (playP1 L q) ∧ (playP1 L q).length ≤ L.length + 1 := by
        unfold playP1
        split
        · exact ⟨h.put _ _ _, put_le L _ _ _⟩
        · split
          · exact ⟨h.drop _, by have := drop_le L q.i; omega⟩
          · exact ⟨h, by omega⟩
      obtain ⟨h2, h3⟩ := ih _ h1.1
      exact ⟨h2, by simp only [List.foldl_cons, List.length_cons]; omega⟩
  obtain ⟨h1, h2⟩ := this z [] InvE.nil
  exact ⟨h1, by unfold playP; simpa using h2⟩
theorem playP_ok {z : List EAct} (h : ∀ q ∈ z, EFit q) : OkE (playP z) := by
  have : ∀ (z : List EAct) (L : List En), OkE L → (∀ q ∈ z, EFit q) → OkE (z.foldl playP1 L) := by
    intro z
    induction z with
    | nil => exact fun L h _ => h
    | cons q z ih =>
      intro L h hz
      refine ih _ ?_ fun x hx => hz x (List.mem_cons_of_mem _ hx)
      obtain ⟨_, h1, h2, h3⟩ := hz q (List.mem_cons_self ..)
      unfold playP1
      split
      · exact h.put h1 h2 h3
      · split
        · exact h.drop _
        · exact h
  exact this z [] OkE.nil h

/-- both rows; K: blocks beside them that stay -/
def PE (w0 w : World) (r : Nat) (M : List En) (p : Nat) (N : List En) (K : Nat → Prop) : Prop :=
  ∃ S v, RowX w r S M ∧ RfAt w p v N ∧ ¬ S p ∧ (∀ b, v.ownBlock = some b → ¬ S b) ∧ (∀ b, S b → w0.heap.size ≤ b) ∧ w0.heap.size ≤ p ∧ Below w0.heap.size w0 w ∧ ∀ b, K b → b < w.heap.size ∧ ¬ S b ∧ b ≠ p ∧ v.ownBlock ≠ some b
section
variable {w0 w w' : World} {r p : Nat} {M N : List En} {K : Nat → Prop}
theorem PE.below (h : PE w0 w r M p N K) : Below w0.heap.size w0 w := by
  obtain ⟨S, v, h1, h2, h3, h4, h5, h6, h7, h8⟩ := h
  exact h7
theorem PE.later (h : PE w0 w r M p N K) (hb : Below w.heap.size w w') : PE w0 w' r M p N K := by
  obtain ⟨S, v, h1, h2, h3, h4, h5, h6, h7, h8⟩ := h
  exact ⟨S, v, h1.later hb, h2.later hb, h3, h4, h5, h6, h7.trans (hb.mono h7.size), fun b hk => ⟨Nat.lt_of_lt_of_le (h8 b hk).1 hb.size, (h8 b hk).2⟩⟩
/-- a block that is new is beside them -/
theorem PE.with {K' : Nat → Prop} (h : PE w0 w r M p N K) (hb : Below w.heap.size w w') (hK : ∀ b, K' b → K b ∨ (w.heap.size ≤ b ∧ b < w'.heap.size)) : PE w0 w' r M p N K' := by
  obtain ⟨S, v, h1, h2, h3, h4, h5, h6, h7, h8⟩ := h
  refine ⟨S, v, h1.later hb, h2.later hb, h3, h4, h5, h6, h7.trans (hb.mono h7.size), fun b hk => ?_⟩
  rcases hK b hk with hk | ⟨hk, hl⟩
  · exact ⟨Nat.lt_of_lt_of_le (h8 b hk).1 hb.size, (h8 b hk).2⟩
  · exact ⟨hl, fun hs => by have := h1.lt b hs; omega, by have := h2.blk.lt; omega, fun e => by have := h2.lt b e; omega⟩
theorem PE.less {K' : Nat → Prop} (h : PE w0 w r M p N K) (hK : ∀ b, K' b → K b) : PE w0 w r M p N K' := by
  obtain ⟨S, v, h1, h2, h3, h4, h5, h6, h7, h8⟩ := h
  exact ⟨S, v, h1, h2, h3, h4, h5, h6, h7, fun b hk => h8 b (hK b hk)⟩
theorem PE.turnE {S : Nat → Prop} {v : Value} {M' : List En} (h1 : RowX w r S M) (h2 : RfAt w p v N) (h3 : ¬ S p) (h4 : ∀ b, v.ownBlock = some b → ¬ S b) (h5 : ∀ b, S b → w0.heap.size ≤ b) (h6 : w0.heap.size ≤ p) (h7 : Below w0.heap.size w0 w) (h8 : ∀ b, K b → b < w.heap.size ∧ ¬ S b ∧ b ≠ p ∧ v.ownBlock ≠ some b) (ht : TurnE w r S M' w') : PE w0 w' r M' p N K ∧ ∀ b, K b → w'.heap[b]? = w.heap[b]? := by
  obtain ⟨S', k1, k2, k3⟩ := ht
  have hs := h7.size
  have hno : ∀ b, b < w.heap.size → ¬ S b → ¬ S' b := fun b hl hn hs' => by
    rcases k2 b hs' with h | h
    · exact hn h
    · omega
  refine ⟨⟨S', v, k1, ⟨h2.blk.fr k3 h3, h2.lf.kept k3.size fun b hb _ => k3.block b (h2.lt b hb) (h4 b hb), h2.shp.imp id fun ⟨g, n, c, e, l⟩ => ⟨g, n, c, e, Nat.lt_of_lt_of_le l k3.size⟩⟩, hno p h2.blk.lt h3, fun b hb => hno b (h2.lt b hb) (h4 b hb), fun b hb => ?_, h6, h7.trans (k3.below h5 hs), fun b hk => ?_⟩, fun b hk => k3.block b (h8 b hk).1 (h8 b hk).2.1⟩
  · rcases k2 b hb with h | h
    · exact h5 b h
    · omega
  · obtain ⟨q1, q2, q3⟩ := h8 b hk
    exact ⟨Nat.lt_of_lt_of_le q1 k3.size, hno b q1 q2, q3⟩
theorem PE.turnF {S : Nat → Prop} {v : Value} {N' : List En} (h1 : RowX w r S M) (h2 : RfAt w p v N) (h3 : ¬ S p) (h4 : ∀ b, v.ownBlock = some b → ¬ S b) (h5 : ∀ b, S b → w0.heap.size ≤ b) (h6 : w0.heap.size ≤ p) (h7 : Below w0.heap.size w0 w) (h8 : ∀ b, K b → b < w.heap.size ∧ ¬ S b ∧ b ≠ p ∧ v.ownBlock ≠ some b) (ht : TurnF w p v N' w') : PE w0 w' r M p N' K ∧ ∀ b, K b → w'.heap[b]? = w.heap[b]? := by
  obtain ⟨v', k1, k2, k3⟩ := ht
  have hs := h7.size
  refine ⟨⟨S, v', h1.fr k3 (fun b hb e => h3 (by rw [← e]; exact hb)), k1, h3, fun b hb hsb => ?_, h5, h6, h7.trans (k3.below (fun b e => by rw [e]; exact h6) hs), fun b hk => ?_⟩, fun b hk => k3.block b (h8 b hk).1 (h8 b hk).2.2.1⟩
  · rcases k2 b hb with h | h
    · exact h4 b h hsb
    · have := h1.lt b hsb; omega
  · obtain ⟨q1, q2, q3, q4⟩ := h8 b hk
    refine ⟨Nat.lt_of_lt_of_le q1 k3.size, q2, q3, fun e => ?_⟩
    rcases k2 b e with h | h
    · exact q4 h
    · omega
theorem PE.put (h : PE w0 w r M p N K) (i a b : Int) (hi : (Lit.int .i64 i).wf = true) (hfew : M.length < 900000) :
    Calls Tryz.prog 27 #[.pointer (some ⟨r, 0, none⟩), .int .i64 i, .int .u64 a, .int .u64 b] w fun e w' => e = .returned (.tuple #[]) ∧ PE w0 w' r (putI M i a b) p N K ∧ ∀ b, K b → w'.heap[b]? = w.heap[b]? := by
  obtain ⟨S, v, h1, h2, h3, h4, h5, h6, h7, h8⟩ := h
  exact (rput_any r S M i a b w h1 hi hfew).mono fun e w' ⟨k1, k2⟩ => ⟨k1, PE.turnE h1 h2 h3 h4 h5 h6 h7 h8 k2⟩
theorem PE.drop (h : PE w0 w r M p N K) (i : Int) (hi : (Lit.int .i64 i).wf = true) (hfew : M.length < 900000) :
    Calls Tryz.prog 26 #[.pointer (some ⟨r, 0, none⟩), .int .i64 i] w fun e w' => e = .returned (.bool (getIs M i)) ∧ PE w0 w' r (dropI M i) p N K ∧ ∀ b, K b → w'.heap[b]? = w.heap[b]? := by
  obtain ⟨S, v, h1, h2, h3, h4, h5, h6, h7, h8⟩ := h
  exact (rdrop_any r S M i w h1 hi hfew).mono fun e w' ⟨k1, k2⟩ => ⟨k1, PE.turnE h1 h2 h3 h4 h5 h6 h7 h8 k2⟩
theorem PE.rput (h : PE w0 w r M p N K) (i a b : Int) (hinv : InvE N) (hfew : N.length < 900000) :
    Calls Tryz.prog 10 #[.pointer (some ⟨p, 0, none⟩), .int .i64 i, .int .u64 a, .int .u64 b] w fun e w' => e = .returned (.tuple #[]) ∧ PE w0 w' r M p (putI N i a b) K ∧ ∀ b, K b → w'.heap[b]? = w.heap[b]? := by
  obtain ⟨S, v, h1, h2, h3, h4, h5, h6, h7, h8⟩ := h
  exact (rfput_any p v N i a b w h2 hinv hfew).mono fun e w' ⟨k1, k2⟩ => ⟨k1, PE.turnF h1 h2 h3 h4 h5 h6 h7 h8 k2⟩
theorem PE.rdrop (h : PE w0 w r M p N K) (i : Int) (hinv : InvE N) :
    Calls Tryz.prog 13 #[.pointer (some ⟨p, 0, none⟩), .int .i64 i] w fun e w' => e = .returned (.bool (getIs N i)) ∧ PE w0 w' r M p (dropI N i) K ∧ ∀ b, K b → w'.heap[b]? = w.heap[b]? := by
  obtain ⟨S, v, h1, h2, h3, h4, h5, h6, h7, h8⟩ := h
  exact (rfdrop_any p v N i w h2 hinv).mono fun e w' ⟨k1, k2⟩ => ⟨k1, PE.turnF h1 h2 h3 h4 h5 h6 h7 h8 k2⟩
theorem PE.same (h : PE w0 w r M p M K) (now id : Int) (hok : OkE M) (hid : (Lit.int .i64 id).wf = true) (hfew : M.length < 900000) :
    Calls Tryz.prog 14 #[.pointer (some ⟨r, 0, none⟩), .pointer (some ⟨p, 0, none⟩), .int .u64 now, .int .i64 id] w fun e w' => e = .returned (.bool true) ∧ Below w.heap.size w w' := by
  obtain ⟨S, v, h1, h2, h3, h4, h5, h6, h7, h8⟩ := h
  exact esame_any r S p v M now id w h1 h2 hok hid hfew
/-- both rows, new -/
theorem PE.start {S : Nat → Prop} (h1 : RowX w r S []) (h2 : ∀ b, S b → w0.heap.size ≤ b) (h3 : Below w0.heap.size w0 w) (hb : Below w.heap.size w w') (hp : Blk w' w.heap.size 29 #[.slice none 0 0]) : PE w0 w' r [] w.heap.size [] fun _ => False := by
  refine ⟨S, .slice none 0 0, h1.later hb, ⟨hp, ⟨by simp, none, 0, rfl, .inl rfl⟩, .inl rfl⟩, fun hs => ?_, (fun b hb => by cases hb), h2, h3.size, h3.trans (hb.mono h3.size), (fun b hb => hb.elim)⟩
  have := h1.lt _ hs; omega
end
end Go.Proofs.YtbnnkkojlclgjaaGreat
