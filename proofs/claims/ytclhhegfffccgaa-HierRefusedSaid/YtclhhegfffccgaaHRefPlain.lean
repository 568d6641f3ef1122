/-
  A tree of classes: what came can go again, what was changed can be changed back; what acts leave as it was.
-/
import Derived.Test.YtclhhegfffccgaaHPlayed
namespace Go.Proofs.Ytclhhegfffccgaa
set_option linter.unusedVariables false
open Go.RowKit Go.Maps

theorem del_put {α : Type} {k : Int} {v : α} : ∀ {M : List (Int × α)}, lookM M k = none → delM (putM M k v) k = M
  | [], _ => by simp [putM, delM]
  | p :: r, hn => by
    have hp : p.1 ≠ k := look_none.1 hn p (.head _)
    have hnr : lookM r k = none := look_none.2 fun q hq => look_none.1 hn q (.tail _ hq)
    unfold putM
    by_cases hlt : k < p.1
    · rw [if_pos hlt]
      show delM ((k, v) :: p :: r) k = p :: r
      have h1 : delM (p :: r) k = p :: r := delM_none k _ fun q hq => look_none.1 hn q hq
      unfold delM at h1 ⊢
      rw [List.filter_cons_of_neg (by simp)]
      exact h1
    · rw [if_neg hlt, if_neg hp]
      have ih := del_put (v := v) hnr
      unfold delM at ih ⊢
      rw [List.filter_cons_of_pos (by simpa using hp), ih]
theorem InvT.no_kids {M : Mp} (h : InvT M) {k : Int} (h0 : k ≠ 0) (hn : lookM M k = none) : kids M k = [] := by
  cases e : kids M k with
  | nil => rfl
  | cons x l =>
    obtain ⟨c', h1, h2⟩ := (mem_kids h.rise).1 (by rw [e]; exact .head _ : x ∈ kids M k)
    rcases (h.ok _ _ h1).up with ⟨h3, _⟩ | ⟨p, hp, _, _⟩
    · omega
    · rw [h2, hn] at hp; cases hp
/-- a class that came: what was answered, what stands there -/
theorem add_ok {M : Mp} {s : Sp} (h : (addM M s).1 = 0) : mayS s = true ∧ M.length < 64 ∧ lookM M s.id = none ∧ (addM M s).2 = putM M s.id (s, depthM M s.pa) := by
  unfold addM at h ⊢
  by_cases h1 : mayS s = false
  · rw [if_pos h1] at h; simp at h
  · rw [if_neg h1] at h ⊢
    by_cases h2 : 64 ≤ M.length
    · rw [if_pos h2] at h; simp at h
    · rw [if_neg h2] at h ⊢
      by_cases h3 : (lookM M s.id).isSome = true
      · rw [if_pos h3] at h; simp at h
      · rw [if_neg h3] at h ⊢
        by_cases h4 : depthM M s.pa = 0
        · rw [if_pos h4] at h; simp at h
        · rw [if_neg h4]
          exact ⟨by simpa using h1, by omega, by simpa using h3, rfl⟩
theorem add_no {M : Mp} {s : Sp} (h : (addM M s).1 ≠ 0) : (addM M s).2 = M := by
  unfold addM at h ⊢
  by_cases h1 : mayS s = false
  · rw [if_pos h1]
  · rw [if_neg h1] at h ⊢
    by_cases h2 : 64 ≤ M.length
    · rw [if_pos h2]
    · rw [if_neg h2] at h ⊢
      by_cases h3 : (lookM M s.id).isSome = true
      · rw [if_pos h3]
      · rw [if_neg h3] at h ⊢
        by_cases h4 : depthM M s.pa = 0
        · rw [if_pos h4]
        · rw [if_neg h4] at h; exact absurd rfl h
theorem add_drop {M : Mp} (hi : InvT M) {s : Sp} (h : (addM M s).1 = 0) : dropM (addM M s).2 s.id = (0, M) := by
  obtain ⟨hm, _, hn, e⟩ := add_ok h
  have hnm := may_named hm
  rw [e]
  unfold dropM
  rw [look_put_same]
  dsimp only
  have hk : kids (putM M s.id (s, depthM M s.pa)) s.id = [] := by
    rw [kids_put_other (fun e2 => hnm.2.2.2.2 e2.symm) hn]
    exact hi.no_kids (by omega) hn
  rw [if_pos hk, del_put hn]
theorem change_cases (M : Mp) (s : Sp) : (lookM M s.id = none ∧ changeM M s = (81, M)) ∨ ∃ c, lookM M s.id = some c ∧ (changeM M s = (130, M) ∨ changeM M s = (0, putM M s.id (withC c.1 s, c.2))) := by
  unfold changeM
  cases e : lookM M s.id with
  | none => exact .inl ⟨rfl, rfl⟩
  | some c =>
    refine .inr ⟨c, rfl, ?_⟩
    dsimp only
    by_cases h : mayS (withC c.1 s) = false
    · rw [if_pos h]; exact .inl rfl
    · rw [if_neg h]; exact .inr rfl
theorem putM_cons {α : Type} (p : Int × α) (r : List (Int × α)) (k : Int) (v : α) : putM (p :: r) k v = if k < p.1 then (k, v) :: p :: r else if p.1 = k then (k, v) :: r else p :: putM r k v := rfl
theorem putM_putM {α : Type} {k : Int} {a b : α} : ∀ (M : List (Int × α)), putM (putM M k a) k b = putM M k b
  | [] => by
    show putM [(k, a)] k b = [(k, b)]
    rw [putM_cons, if_neg (by dsimp only; omega), if_pos rfl]
  | p :: r => by
    rw [putM_cons p r k a, putM_cons p r k b]
    by_cases h1 : k < p.1
    · rw [if_pos h1, if_pos h1, putM_cons, if_neg (by dsimp only; omega), if_pos rfl]
    · rw [if_neg h1, if_neg h1]
      by_cases h2 : p.1 = k
      · rw [if_pos h2, if_pos h2, putM_cons, if_neg (by dsimp only; omega), if_pos rfl]
      · rw [if_neg h2, if_neg h2, putM_cons, if_neg h1, if_neg h2, putM_putM r]
theorem change_back {M : Mp} (hi : InvT M) {s : Sp} {c : Cl} (hl : lookM M s.id = some c) : changeM (putM M s.id (withC c.1 s, c.2)) c.1 = (0, M) := by
  have o := hi.ok _ _ hl
  have e : withC (withC c.1 s) c.1 = c.1 := by
    obtain ⟨⟨x1, x2, x3, x4, x5, x6, x7, x8⟩, d⟩ := c
    rfl
  unfold changeM
  rw [o.id, look_put_same]
  dsimp only
  rw [e, if_neg (by rw [o.may]; simp), putM_putM]
  rw [show putM M s.id (c.1, c.2) = M from put_look hi.rise hl]

/-- a tree, and blocks that it does not own -/
structure TP (w W : World) (base g ma mu : Nat) (M : Mp) (X : Nat → Prop) : Prop where
  tree : ∃ U, TreeX W base g ma mu U M ∧ ∀ b, X b → ¬ own ma mu U b
  lo : w.heap.size ≤ base
  below : Below w.heap.size w W
  old : ∀ b, X b → b < W.heap.size
section
variable {w W W' : World} {base g ma mu : Nat} {M : Mp} {X : Nat → Prop}
theorem TP.ts (h : TP w W base g ma mu M X) : TS w W base g ma mu M := by
  obtain ⟨⟨U, ht, _⟩, hl, hb, _⟩ := h
  exact ⟨⟨U, ht⟩, hl, hb⟩
theorem TS.tp (h : TS w W base g ma mu M) : TP w W base g ma mu M fun b => b < base := by
  obtain ⟨⟨U, ht⟩, hl, hb⟩ := h
  exact ⟨⟨U, ht, fun b hx ho => by have := (ht.owned ho).1; omega⟩, hl, hb, fun b hx => by have := ht.blk.lt; have := ht.gb; omega⟩
/-- what is laid meanwhile is not the tree's -/
theorem TP.later (h : TP w W base g ma mu M X) (hb : Below W.heap.size W W') : TP w W' base g ma mu M fun b => X b ∨ (W.heap.size ≤ b ∧ b < W'.heap.size) := by
  obtain ⟨⟨U, ht, hx⟩, hl, hb0, ho⟩ := h
  refine ⟨⟨U, ht.later hb, fun b hxb hob => ?_⟩, hl, hb0.trans (hb.mono hb0.size), fun b hxb => ?_⟩
  · rcases hxb with h1 | ⟨h1, h2⟩
    · exact hx b h1 hob
    · have := (ht.owned hob).2; omega
  · rcases hxb with h1 | ⟨_, h2⟩
    · exact Nat.lt_of_lt_of_le (ho b h1) hb.size
    · exact h2
theorem TP.act (h : TP w W base g ma mu M X) {U : List (Int × Value)} (ht : TreeX W base g ma mu U M) (hx : ∀ b, X b → ¬ own ma mu U b) {r : Int × Mp} {e : Ending} (ha : ActW W base g ma mu U r e W') :
    e = .returned (.int .i64 r.1) ∧ TP w W' base g ma mu r.2 X ∧ ∀ b, X b → W'.heap[b]? = W.heap[b]? := by
  obtain ⟨U', he, ht', hfr, hown⟩ := ha
  have hbs : base ≤ W.heap.size := Nat.le_trans ht.gb (Nat.le_of_lt ht.blk.lt)
  refine ⟨he, ⟨⟨U', ht', fun b hxb hob => ?_⟩, h.lo, h.below.trans ((hfr.below (fun b hb => (ht.owned hb).1) hbs).mono h.lo), fun b hxb => Nat.lt_of_lt_of_le (h.old b hxb) hfr.size⟩, fun b hxb => hfr.block b (h.old b hxb) (hx b hxb)⟩
  rcases hown b hob with h1 | h1
  · exact hx b hxb h1
  · have := h.old b hxb; omega
theorem TP.add (h : TP w W base g ma mu M X) (s : Sp) (hw : WfSp s) : Calls Try.prog 27 #[.pointer (some ⟨g, 0, none⟩), spV s] W fun e W' => e = .returned (.int .i64 (addM M s).1) ∧ TP w W' base g ma mu (addM M s).2 X ∧ ∀ b, X b → W'.heap[b]? = W.heap[b]? := by
  obtain ⟨U, ht, hx⟩ := h.tree
  exact (tadd_any s base g ma mu U M W hw ht).mono fun e W' ha => h.act ht hx ha
theorem TP.change (h : TP w W base g ma mu M X) (s : Sp) (hw : WfSp s) : Calls Try.prog 29 #[.pointer (some ⟨g, 0, none⟩), spV s] W fun e W' => e = .returned (.int .i64 (changeM M s).1) ∧ TP w W' base g ma mu (changeM M s).2 X ∧ ∀ b, X b → W'.heap[b]? = W.heap[b]? := by
  obtain ⟨U, ht, hx⟩ := h.tree
  exact (tchange_any s base g ma mu U M W hw ht).mono fun e W' ha => h.act ht hx ha
theorem TP.drop (h : TP w W base g ma mu M X) (id : Int) (hid : (Lit.int .i64 id).wf = true) : Calls Try.prog 28 #[.pointer (some ⟨g, 0, none⟩), .int .i64 id] W fun e W' => e = .returned (.int .i64 (dropM M id).1) ∧ TP w W' base g ma mu (dropM M id).2 X ∧ ∀ b, X b → W'.heap[b]? = W.heap[b]? := by
  obtain ⟨U, ht, hx⟩ := h.tree
  exact (tdrop_any id base g ma mu U M W hid ht).mono fun e W' ha => h.act ht hx ha
end
/-- numbers in blocks that an act leaves -/
def IntX (X : Nat → Prop) (w : World) (v : Value) (ks : List Int) : Prop := IntAt w v ks ∧ (ks ≠ [] → ∀ b, v.ownBlock = some b → X b)
theorem IntX.kept {X : Nat → Prop} {W W' : World} {v : Value} {ks : List Int} (h : IntX X W v ks) (hk : ∀ b, X b → W'.heap[b]? = W.heap[b]?) (hs : ∀ b, X b → b < W'.heap.size) : IntX X W' v ks := by
  obtain ⟨⟨hl, a, cap, rfl, h3⟩, hx⟩ := h
  refine ⟨⟨hl, a, cap, rfl, ?_⟩, hx⟩
  rcases h3 with h3 | ⟨b, off, rfl, hb, hc, hcell⟩
  · exact .inl h3
  · by_cases h0 : ks = []
    · exact .inl h0
    · have e := hk b (hx h0 b rfl)
      exact .inr ⟨b, off, rfl, hs b (hx h0 b rfl), hc, fun i k hi => (World.cell?_of_block (a := ⟨b, off + i, none⟩) e).trans (hcell i k hi)⟩
theorem IntX.later {X X' : Nat → Prop} {W W' : World} {v : Value} {ks : List Int} (h : IntX X W v ks) (hb : Below W.heap.size W W') (hX : ∀ b, X b → X' b) : IntX X' W' v ks :=
  ⟨h.1.later hb, fun h0 b e => hX b (h.2 h0 b e)⟩
theorem IntX.of_owns {X : Nat → Prop} {w : World} {base : Nat} {v : Value} {ks : List Int} (h : w.ownsRow base 3 1 v ks.length (ks.map (Value.int .i64))) (hl : ks.length ≤ 1000000) (hX : ∀ b, base ≤ b → b < w.heap.size → X b) : IntX X w v ks :=
  ⟨IntAt.of_owns h hl, fun _ b e => hX b (h.lt b e).1 (h.lt b e).2⟩
end Go.Proofs.Ytclhhegfffccgaa
