/-
  A row of leaves and the document's row of the same leaves, side by side; acts that put, drop and copy.
-/
import Derived.Test.YtbnnkkojlclgjaaEdfSame
import Derived.Test.YtbnnkkojlclgjaaRfPut
import Derived.Test.YtbnnkkojlclgjaaEdfCopy
namespace Go.Proofs.Ytbnnkkojlclgjaa
set_option linter.unusedVariables false
open Go.RowKit Go.Maps

/-- acts played: Put, Drop, Copy -/
def playP1 (L : List En) (q : EAct) : List En := if q.k % 3 = 0 then putI L q.i q.a q.b else if q.k % 3 = 1 then dropI L q.i else L
def playP (z : List EAct) : List En := z.foldl playP1 []
theorem playP_snoc {z : List EAct} {k : Nat} {q : EAct} (h : z[k]? = some q) : playP (z.take (k + 1)) = playP1 (playP (z.take k)) q := by
  unfold playP
  rw [List.take_add_one, h]
  simp [List.foldl_append]
theorem playP_inv (z : List EAct) : InvE (playP z) ∧ (playP z).length ≤ z.length := by
  have : ∀ (z : List EAct) (L : List En), InvE L → InvE (z.foldl playP1 L) ∧ (z.foldl playP1 L).length ≤ L.length + z.length := by
    intro z
    induction z with
    | nil => exact fun L h => ⟨h, by simp⟩
    | cons q z ih =>
      intro L h
      have h1 : InvE (playP1 L q) ∧ (playP1 L q).length ≤ L.length + 1 := by
        unfold playP1
        split
        · exact ⟨h.put _ _ _, put_le L _ _ _⟩
        · split
          · exact ⟨h.drop _, by have := drop_le L q.i; omega⟩
          · exact ⟨h, by omega⟩
      obtain ⟨h2, h3⟩ := ih _ h1.1
      exact ⟨h2, by simp only [List.foldl_cons, List.length_cons]; omega⟩
  obtain ⟨h1, h2⟩ := this z [] InvE.nil
  exact ⟨h1, by unfold playP; simpa using h2⟩
theorem playP_ok {z : List EAct} (h : ∀ q ∈ z, EFit q) : OkE (playP z) := by
  have : ∀ (z : List EAct) (L : List En), OkE L → (∀ q ∈ z, EFit q) → OkE (z.foldl playP1 L) := by
    intro z
    induction z with
    | nil => exact fun L h _ => h
    | cons q z ih =>
      intro L h hz
      refine ih _ ?_ fun x hx => hz x (List.mem_cons_of_mem _ hx)
      obtain ⟨_, h1, h2, h3⟩ := hz q (List.mem_cons_self ..)
      unfold playP1
      split
      · exact h.put h1 h2 h3
      · split
        · exact h.drop _
        · exact h
  exact this z [] OkE.nil h

/-- both rows; K: blocks beside them that stay -/
def PE (w0 w : World) (r : Nat) (M : List En) (p : Nat) (N : List En) (K : Nat → Prop) : Prop :=
  ∃ S v, RowX w r S M ∧ RfAt w p v N ∧ ¬ S p ∧ (∀ b, v.ownBlock = some b → ¬ S b) ∧ (∀ b, S b → w0.heap.size ≤ b) ∧ w0.heap.size ≤ p ∧ Below w0.heap.size w0 w ∧ ∀ b, K b → b < w.heap.size ∧ ¬ S b ∧ b ≠ p ∧ v.ownBlock ≠ some b
section
variable {w0 w w' : World} {r p : Nat} {M N : List En} {K : Nat → Prop}
theorem PE.below (h : PE w0 w r M p N K) : Below w0.heap.size w0 w := by
  obtain ⟨S, v, h1, h2, h3, h4, h5, h6, h7, h8⟩ := h
  exact h7
theorem PE.later (h : PE w0 w r M p N K) (hb : Below w.heap.size w w') : PE w0 w' r M p N K := by
  obtain ⟨S, v, h1, h2, h3, h4, h5, h6, h7, h8⟩ := h
  exact ⟨S, v, h1.later hb, h2.later hb, h3, h4, h5, h6, h7.trans (hb.mono h7.size), fun b hk => ⟨Nat.lt_of_lt_of_le (h8 b hk).1 hb.size, (h8 b hk).2⟩⟩
/-- a block that is new is beside them -/
theorem PE.with {K' : Nat → Prop} (h : PE w0 w r M p N K) (hb : Below w.heap.size w w') (hK : ∀ b, K' b → K b ∨ (w.heap.size ≤ b ∧ b < w'.heap.size)) : PE w0 w' r M p N K' := by
  obtain ⟨S, v, h1, h2, h3, h4, h5, h6, h7, h8⟩ := h
  refine ⟨S, v, h1.later hb, h2.later hb, h3, h4, h5, h6, h7.trans (hb.mono h7.size), fun b hk => ?_⟩
  rcases hK b hk with hk | ⟨hk, hl⟩
  · exact ⟨Nat.lt_of_lt_of_le (h8 b hk).1 hb.size, (h8 b hk).2⟩
  · exact ⟨hl, fun hs => by have := h1.lt b hs; omega, by have := h2.blk.lt; omega, fun e => by have := h2.lt b e; omega⟩
theorem PE.less {K' : Nat → Prop} (h : PE w0 w r M p N K) (hK : ∀ b, K' b → K b) : PE w0 w r M p N K' := by
  obtain ⟨S, v, h1, h2, h3, h4, h5, h6, h7, h8⟩ := h
  exact ⟨S, v, h1, h2, h3, h4, h5, h6, h7, fun b hk => h8 b (hK b hk)⟩
theorem PE.turnE {S : Nat → Prop} {v : Value} {M' : List En} (h1 : RowX w r S M) (h2 : RfAt w p v N) (h3 : ¬ S p) (h4 : ∀ b, v.ownBlock = some b → ¬ S b) (h5 : ∀ b, S b → w0.heap.size ≤ b) (h6 : w0.heap.size ≤ p) (h7 : Below w0.heap.size w0 w) (h8 : ∀ b, K b → b < w.heap.size ∧ ¬ S b ∧ b ≠ p ∧ v.ownBlock ≠ some b) (ht : TurnE w r S M' w') : PE w0 w' r M' p N K ∧ ∀ b, K b → w'.heap[b]? = w.heap[b]? := by
  obtain ⟨S', k1, k2, k3⟩ := ht
  have hs := h7.size
  have hno : ∀ b, b < w.heap.size → ¬ S b → ¬ S' b := fun b hl hn hs' => by
    rcases k2 b hs' with h | h
    · exact hn h
    · omega
  refine ⟨⟨S', v, k1, ⟨h2.blk.fr k3 h3, h2.lf.kept k3.size fun b hb _ => k3.block b (h2.lt b hb) (h4 b hb), h2.shp.imp id fun ⟨g, n, c, e, l⟩ => ⟨g, n, c, e, Nat.lt_of_lt_of_le l k3.size⟩⟩, hno p h2.blk.lt h3, fun b hb => hno b (h2.lt b hb) (h4 b hb), fun b hb => ?_, h6, h7.trans (k3.below h5 hs), fun b hk => ?_⟩, fun b hk => k3.block b (h8 b hk).1 (h8 b hk).2.1⟩
  · rcases k2 b hb with h | h
    · exact h5 b h
    · omega
  · obtain ⟨q1, q2, q3⟩ := h8 b hk
    exact ⟨Nat.lt_of_lt_of_le q1 k3.size, hno b q1 q2, q3⟩
theorem PE.turnF {S : Nat → Prop} {v : Value} {N' : List En} (h1 : RowX w r S M) (h2 : RfAt w p v N) (h3 : ¬ S p) (h4 : ∀ b, v.ownBlock = some b → ¬ S b) (h5 : ∀ b, S b → w0.heap.size ≤ b) (h6 : w0.heap.size ≤ p) (h7 : Below w0.heap.size w0 w) (h8 : ∀ b, K b → b < w.heap.size ∧ ¬ S b ∧ b ≠ p ∧ v.ownBlock ≠ some b) (ht : TurnF w p v N' w') : PE w0 w' r M p N' K ∧ ∀ b, K b → w'.heap[b]? = w.heap[b]? := by
  obtain ⟨v', k1, k2, k3⟩ := ht
  have hs := h7.size
  refine ⟨⟨S, v', h1.fr k3 (fun b hb e => h3 (by rw [← e]; exact hb)), k1, h3, fun b hb hsb => ?_, h5, h6, h7.trans (k3.below (fun b e => by rw [e]; exact h6) hs), fun b hk => ?_⟩, fun b hk => k3.block b (h8 b hk).1 (h8 b hk).2.2.1⟩
  · rcases k2 b hb with h | h
    · exact h4 b h hsb
    · have := h1.lt b hsb; omega
  · obtain ⟨q1, q2, q3, q4⟩ := h8 b hk
    refine ⟨Nat.lt_of_lt_of_le q1 k3.size, q2, q3, fun e => ?_⟩
    rcases k2 b e with h | h
    · exact q4 h
    · omega
theorem PE.put (h : PE w0 w r M p N K) (i a b : Int) (hi : (Lit.int .i64 i).wf = true) (hfew : M.length < 900000) :
    Calls Try.prog 16 #[.pointer (some ⟨r, 0, none⟩), .int .i64 i, .int .u64 a, .int .u64 b] w fun e w' => e = .returned (.tuple #[]) ∧ PE w0 w' r (putI M i a b) p N K ∧ ∀ b, K b → w'.heap[b]? = w.heap[b]? := by
  obtain ⟨S, v, h1, h2, h3, h4, h5, h6, h7, h8⟩ := h
  exact (rput_any r S M i a b w h1 hi hfew).mono fun e w' ⟨k1, k2⟩ => ⟨k1, PE.turnE h1 h2 h3 h4 h5 h6 h7 h8 k2⟩
theorem PE.drop (h : PE w0 w r M p N K) (i : Int) (hi : (Lit.int .i64 i).wf = true) (hfew : M.length < 900000) :
    Calls Try.prog 17 #[.pointer (some ⟨r, 0, none⟩), .int .i64 i] w fun e w' => e = .returned (.bool (getIs M i)) ∧ PE w0 w' r (dropI M i) p N K ∧ ∀ b, K b → w'.heap[b]? = w.heap[b]? := by
  obtain ⟨S, v, h1, h2, h3, h4, h5, h6, h7, h8⟩ := h
  exact (rdrop_any r S M i w h1 hi hfew).mono fun e w' ⟨k1, k2⟩ => ⟨k1, PE.turnE h1 h2 h3 h4 h5 h6 h7 h8 k2⟩
theorem PE.rput (h : PE w0 w r M p N K) (i a b : Int) (hinv : InvE N) (hfew : N.length < 900000) :
    Calls Try.prog 19 #[.pointer (some ⟨p, 0, none⟩), .int .i64 i, .int .u64 a, .int .u64 b] w fun e w' => e = .returned (.tuple #[]) ∧ PE w0 w' r M p (putI N i a b) K ∧ ∀ b, K b → w'.heap[b]? = w.heap[b]? := by
  obtain ⟨S, v, h1, h2, h3, h4, h5, h6, h7, h8⟩ := h
  exact (rfput_any p v N i a b w h2 hinv hfew).mono fun e w' ⟨k1, k2⟩ => ⟨k1, PE.turnF h1 h2 h3 h4 h5 h6 h7 h8 k2⟩
theorem PE.rdrop (h : PE w0 w r M p N K) (i : Int) (hinv : InvE N) :
    Calls Try.prog 20 #[.pointer (some ⟨p, 0, none⟩), .int .i64 i] w fun e w' => e = .returned (.bool (getIs N i)) ∧ PE w0 w' r M p (dropI N i) K ∧ ∀ b, K b → w'.heap[b]? = w.heap[b]? := by
  obtain ⟨S, v, h1, h2, h3, h4, h5, h6, h7, h8⟩ := h
  exact (rfdrop_any p v N i w h2 hinv).mono fun e w' ⟨k1, k2⟩ => ⟨k1, PE.turnF h1 h2 h3 h4 h5 h6 h7 h8 k2⟩
theorem PE.same (h : PE w0 w r M p M K) (now id : Int) (hok : OkE M) (hid : (Lit.int .i64 id).wf = true) (hfew : M.length < 900000) :
    Calls Try.prog 18 #[.pointer (some ⟨r, 0, none⟩), .pointer (some ⟨p, 0, none⟩), .int .u64 now, .int .i64 id] w fun e w' => e = .returned (.bool true) ∧ Below w.heap.size w w' := by
  obtain ⟨S, v, h1, h2, h3, h4, h5, h6, h7, h8⟩ := h
  exact esame_any r S p v M now id w h1 h2 hok hid hfew
/-- the old row beside the new one and the document's -/
def PC (w0 w : World) (o : Nat) (O : List En) (r : Nat) (M : List En) (p : Nat) (N : List En) (C : Nat) : Prop :=
  ∃ S0, RowX w o S0 O ∧ (∀ b, S0 b → w0.heap.size ≤ b) ∧ ¬ S0 C ∧ PE w0 w r M p N fun b => b = C ∨ S0 b
theorem PE.copy {C : Nat} (h : PE w0 w r M p N fun b => b = C) :
    Calls Try.prog 21 #[.pointer (some ⟨r, 0, none⟩)] w fun e w' => ∃ r', e = .returned (.pointer (some ⟨r', 0, none⟩)) ∧ PC w0 w' r M r' M p N C ∧ Below w.heap.size w w' := by
  obtain ⟨S, v, h1, h2, h3, h4, h5, h6, h7, h8⟩ := h
  refine (rcopyE_any r S M w h1).mono fun e w' ⟨r', S', k1, k2, k3, k4⟩ => ⟨r', k1, ⟨S, h1.later k4, h5, (h8 C rfl).2.1, S', v, k2, h2.later k4, fun hp => ?_, fun b hb hs => ?_, fun b hb => Nat.le_trans h7.size (k3 b hb), h6, h7.trans (k4.mono h7.size), fun b hb => ?_⟩, k4⟩
  · have := k3 p hp; have := h2.blk.lt; omega
  · have := k3 b hs; have := h2.lt b hb; omega
  · rcases hb with rfl | hb
    · obtain ⟨q1, q2, q3, q4⟩ := h8 _ rfl
      exact ⟨Nat.lt_of_lt_of_le q1 k4.size, fun hs => by have := k3 _ hs; omega, q3, q4⟩
    · have hlt := h1.lt b hb
      exact ⟨Nat.lt_of_lt_of_le hlt k4.size, fun hs => by have := k3 b hs; omega, fun e => h3 (by rw [← e]; exact hb), fun e => h4 b e hb⟩
theorem PC.turn {o C : Nat} {O O' : List En} {S0 : Nat → Prop} (h1 : RowX w o S0 O) (h2 : ∀ b, S0 b → w0.heap.size ≤ b) (h3 : ¬ S0 C) (h4 : PE w0 w r M p N fun b => b = C ∨ S0 b) (ht : TurnE w o S0 O' w') : PC w0 w' o O' r M p N C ∧ w'.heap[C]? = w.heap[C]? := by
  obtain ⟨S1, k1, k2, k3⟩ := ht
  obtain ⟨S, v, q1, q2, q3, q4, q5, q6, q7, q8⟩ := h4
  have hs := q7.size
  have hC := q8 C (.inl rfl)
  have hSS : ∀ b, S b → ¬ S0 b := fun b hb h0 => (q8 b (.inr h0)).2.1 hb
  have hp0 : ¬ S0 p := fun h0 => (q8 p (.inr h0)).2.2.1 rfl
  have hv0 : ∀ b, v.ownBlock = some b → ¬ S0 b := fun b hb h0 => (q8 b (.inr h0)).2.2.2 hb
  refine ⟨⟨S1, k1, fun b hb => ?_, fun hb => ?_, S, v, q1.fr k3 hSS, ⟨q2.blk.fr k3 hp0, q2.lf.kept k3.size fun b hb _ => k3.block b (q2.lt b hb) (hv0 b hb), q2.shp.imp id fun ⟨g, n, c, e, l⟩ => ⟨g, n, c, e, Nat.lt_of_lt_of_le l k3.size⟩⟩, q3, q4, q5, q6, q7.trans (k3.below h2 hs), fun b hb => ?_⟩, k3.block C hC.1 h3⟩
  · rcases k2 b hb with h | h
    · exact h2 b h
    · omega
  · rcases k2 C hb with h | h
    · exact h3 h
    · have := hC.1; omega
  · rcases hb with rfl | hb
    · exact ⟨Nat.lt_of_lt_of_le hC.1 k3.size, hC.2⟩
    · rcases k2 b hb with h | h
      · obtain ⟨x1, x2⟩ := q8 b (.inr h)
        exact ⟨Nat.lt_of_lt_of_le x1 k3.size, x2⟩
      · exact ⟨k1.lt b hb, fun hs => by have := q1.lt b hs; omega, by have := q2.blk.lt; omega, fun e => by have := q2.lt b e; omega⟩
theorem PC.put {o C : Nat} {O : List En} (h : PC w0 w o O r M p N C) (i a b : Int) (hi : (Lit.int .i64 i).wf = true) (hfew : O.length < 900000) :
    Calls Try.prog 16 #[.pointer (some ⟨o, 0, none⟩), .int .i64 i, .int .u64 a, .int .u64 b] w fun e w' => e = .returned (.tuple #[]) ∧ PC w0 w' o (putI O i a b) r M p N C ∧ w'.heap[C]? = w.heap[C]? := by
  obtain ⟨S0, h1, h2, h3, h4⟩ := h
  exact (rput_any o S0 O i a b w h1 hi hfew).mono fun e w' ⟨k1, k2⟩ => ⟨k1, PC.turn h1 h2 h3 h4 k2⟩
theorem PC.drop {o C : Nat} {O : List En} (h : PC w0 w o O r M p N C) (i : Int) (hi : (Lit.int .i64 i).wf = true) (hfew : O.length < 900000) :
    Calls Try.prog 17 #[.pointer (some ⟨o, 0, none⟩), .int .i64 i] w fun e w' => e = .returned (.bool (getIs O i)) ∧ PC w0 w' o (dropI O i) r M p N C ∧ w'.heap[C]? = w.heap[C]? := by
  obtain ⟨S0, h1, h2, h3, h4⟩ := h
  exact (rdrop_any o S0 O i w h1 hi hfew).mono fun e w' ⟨k1, k2⟩ => ⟨k1, PC.turn h1 h2 h3 h4 k2⟩
theorem PC.new {o C : Nat} {O : List En} (h : PC w0 w o O r M p N C) : PE w0 w r M p N fun b => b = C := by
  obtain ⟨S0, h1, h2, h3, h4⟩ := h
  exact h4.less fun b hb => .inl hb
/-- both rows, new -/
theorem PE.start {S : Nat → Prop} (h1 : RowX w r S []) (h2 : ∀ b, S b → w0.heap.size ≤ b) (h3 : Below w0.heap.size w0 w) (hb : Below w.heap.size w w') (hp : Blk w' w.heap.size 44 #[.slice none 0 0]) : PE w0 w' r [] w.heap.size [] fun _ => False := by
  refine ⟨S, .slice none 0 0, h1.later hb, ⟨hp, ⟨by simp, none, 0, rfl, .inl rfl⟩, .inl rfl⟩, fun hs => ?_, (fun b hb => by cases hb), h2, h3.size, h3.trans (hb.mono h3.size), (fun b hb => hb.elim)⟩
  have := h1.lt _ hs; omega
end
end Go.Proofs.Ytbnnkkojlclgjaa
