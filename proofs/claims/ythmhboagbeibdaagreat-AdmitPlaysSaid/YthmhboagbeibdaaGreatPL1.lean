/- Lemmas of the claim, merged: Rb, RbDo, RbWith, RbPut. No conditions beyond those that each states. -/
import Derived.Test.YthmhboagbeibdaaGreatAdmPut
import Derived.Test.YthmhboagbeibdaaGreatR4Late
/-
  The document's book of curves, in memory; rows of numbers that are appended to.
-/
namespace Go.Proofs.YthmhboagbeibdaaGreat
set_option linter.unusedVariables false
open Go.RowKit
attribute [local go_sem ↓] Go.wp_at_zero Go.wp_at_succ
attribute [local go_sem] quietR quietAtR quietUponR midAt midUpon
attribute [local irreducible] TStep HStep

theorem info_int : (Tryz.prog.info? 3).map (fun i => (i.zero, i.size, i.bytes)) = some (some (.int .i64 0), 1, 8) := by kernel_rfl
/-- numbers in memory -/
def IntAt (w : World) (v : Value) (ks : List Int) : Prop :=
  ks.length ≤ 1000000 ∧ ∃ a cap, v = .slice a ks.length cap ∧ (ks = [] ∨ ∃ b off, a = some ⟨b, off, none⟩ ∧ b < w.heap.size ∧ ks.length ≤ cap ∧ ∀ i k, ks[i]? = some k → w.cell? ⟨b, off + i, none⟩ = some (.int .i64 k))
theorem IntAt.later {w w' : World} {v : Value} {ks : List Int} (h : IntAt w v ks) (hb : Below w.heap.size w w') : IntAt w' v ks := by
  obtain ⟨hl, a, cap, e, h3⟩ := h
  refine ⟨hl, a, cap, e, ?_⟩
  rcases h3 with h3 | ⟨b, off, e2, hbl, hcap, hc⟩
  · exact .inl h3
  · exact .inr ⟨b, off, e2, Nat.lt_of_lt_of_le hbl hb.size, hcap, fun i k hi => (hb.cell (p := ⟨b, off + i, none⟩) hbl).trans (hc i k hi)⟩
theorem IntAt.nil (w : World) : IntAt w (.slice none 0 0) [] := ⟨by simp, none, 0, rfl, .inl rfl⟩
theorem IntAt.of_owns {w : World} {base : Nat} {v : Value} {ks : List Int} (h : w.ownsRow base 3 1 v ks.length (ks.map (Value.int .i64))) (hl : ks.length ≤ 1000000) : IntAt w v ks := by
  rcases h.2 with ⟨rfl, h0⟩ | ⟨g, cap, cur, rfl, h1, h2, h3, h4⟩
  · obtain rfl : ks = [] := List.eq_nil_of_length_eq_zero h0
    exact ⟨hl, none, 0, rfl, .inl rfl⟩
  · refine ⟨hl, _, _, rfl, .inr ⟨g, 0, rfl, (Array.getElem?_eq_some_iff.1 h2).1, h3, fun i k hi => ?_⟩⟩
    rw [Nat.zero_add, h.cellAt i (by have := (List.getElem?_eq_some_iff.1 hi).1; omega), List.getElem?_map, hi]; rfl
theorem int_take {w : World} {a : Option Addr} {cap k : Nat} {l : List Int} (h : IntAt w (.slice a l.length cap) l) (hk : k ≤ l.length) : IntAt w (.slice a k cap) (l.take k) := by
  obtain ⟨h2, a', cap', e, h3⟩ := h
  cases e
  refine ⟨by rw [List.length_take]; omega, _, _, by rw [List.length_take, Nat.min_eq_left hk], ?_⟩
  rcases h3 with h3 | ⟨b, off, rfl, hl, hcap, hc⟩
  · subst h3; exact .inl (by simp)
  · refine .inr ⟨b, off, rfl, hl, by rw [List.length_take]; omega, fun i c hi => ?_⟩
    rw [List.getElem?_take] at hi
    split at hi
    · exact hc i c hi
    · cases hi
theorem int_drop {w : World} {a : Option Addr} {cap k : Nat} {l : List Int} (h : IntAt w (.slice a l.length cap) l) (hk : k ≤ l.length) : IntAt w (.slice (if cap = k then a else Option.map (fun x => x.add k) a) (l.length - k) (cap - k)) (l.drop k) := by
  obtain ⟨h2, a', cap', e, h3⟩ := h
  cases e
  refine ⟨by rw [List.length_drop]; omega, _, _, by rw [List.length_drop], ?_⟩
  rcases h3 with h3 | ⟨b, off, rfl, hl, hcap, hc⟩
  · subst h3; exact .inl (by simp)
  · by_cases hc0 : k = l.length
    · subst hc0; exact .inl (by simp)
    · refine .inr ⟨b, off + k, ?_, hl, by rw [List.length_drop]; omega, fun i c hi => ?_⟩
      · rw [if_neg (by omega)]; simp [Addr.add_lit]
      · rw [List.getElem?_drop] at hi
        rw [Nat.add_assoc]
        exact hc _ c hi
theorem cv_take {w : World} {a : Option Addr} {cap k : Nat} {l : List Cv} (h : CvAt w (.slice a l.length cap) l) (hk : k ≤ l.length) : CvAt w (.slice a k cap) (l.take k) := by
  obtain ⟨h1, h2, a', cap', e, h3⟩ := h
  cases e
  refine ⟨fun c hc => h1 c (List.mem_of_mem_take hc), by rw [List.length_take]; omega, _, _, by rw [List.length_take, Nat.min_eq_left hk], ?_⟩
  rcases h3 with h3 | ⟨b, off, rfl, hl, hcap, hc⟩
  · subst h3; exact .inl (by simp)
  · refine .inr ⟨b, off, rfl, hl, by rw [List.length_take]; omega, fun i c hi => ?_⟩
    rw [List.getElem?_take] at hi
    split at hi
    · exact hc i c hi
    · cases hi
theorem cv_drop {w : World} {a : Option Addr} {cap k : Nat} {l : List Cv} (h : CvAt w (.slice a l.length cap) l) (hk : k ≤ l.length) : CvAt w (.slice (if cap = k then a else Option.map (fun x => x.add (k * 3)) a) (l.length - k) (cap - k)) (l.drop k) := by
  obtain ⟨h1, h2, a', cap', e, h3⟩ := h
  cases e
  refine ⟨fun c hc => h1 c (List.mem_of_mem_drop hc), by rw [List.length_drop]; omega, _, _, by rw [List.length_drop], ?_⟩
  rcases h3 with h3 | ⟨b, off, rfl, hl, hcap, hc⟩
  · subst h3; exact .inl (by simp)
  · by_cases hc0 : k = l.length
    · subst hc0; exact .inl (by simp)
    · refine .inr ⟨b, off + k * 3, ?_, hl, by rw [List.length_drop]; omega, fun i c hi => ?_⟩
      · rw [if_neg (by omega)]; simp [Addr.add_lit]
      · rw [List.getElem?_drop] at hi
        have := hc _ c hi
        rw [show off + k * 3 + i * 3 = off + (k + i) * 3 by omega]
        exact this

theorem int_dropS {w : World} {b off cap k : Nat} {l : List Int} (h : IntAt w (.slice (some ⟨b, off, none⟩) l.length cap) l) (hk : k ≤ l.length) : IntAt w (.slice (if cap = k then some ⟨b, off, none⟩ else some ⟨b, off + k, none⟩) (l.length - k) (cap - k)) (l.drop k) := by
  have := int_drop h hk
  simpa [Addr.add_lit] using this
theorem int_cap {w : World} {a : Option Addr} {cap k : Nat} {l : List Int} (h : IntAt w (.slice a l.length cap) l) (hk : k ≤ l.length) : k ≤ cap := by
  obtain ⟨h2, a', cap', e, h3⟩ := h
  cases e
  rcases h3 with rfl | ⟨_, _, _, _, h4, _⟩
  · simp at hk; omega
  · omega
theorem cv_cap {w : World} {a : Option Addr} {cap k : Nat} {l : List Cv} (h : CvAt w (.slice a l.length cap) l) (hk : k ≤ l.length) : k ≤ cap := by
  obtain ⟨_, h2, a', cap', e, h3⟩ := h
  cases e
  rcases h3 with rfl | ⟨_, _, _, _, h4, _⟩
  · simp at hk; omega
  · omega

/-- all of a row of numbers, laid behind a row of the call's own -/
theorem app_ints (ty : TypeId) {A B : List Int} {w : World} {v x : Value} {base : Nat} (h : IntAt w x B) (hown : w.ownsRow base 3 1 v A.length (A.map (Value.int .i64))) (hb : base ≤ w.heap.size) (hl : A.length + B.length ≤ 3000000) :
    ∃ v' w', (Builtin.append_ #[44, 44] ty #[v, x]).run Tryz.prog w = .ok v' w' ∧ w'.ownsRow base 3 1 v' (A ++ B).length ((A ++ B).map (Value.int .i64)) ∧ Below base w w' ∧ w.grownBy w' v.ownBlock := by
  obtain ⟨i0, hi0, hz0, hz1, hz2⟩ := info_parts info_int
  obtain ⟨hB, a, cap, rfl, h3⟩ := h
  by_cases hne : B = []
  · subst hne
    have hsrc : Src Tryz.prog i0.size 44 (.slice a ([] : List Int).length cap) 0 [] w := by
      cases a with
      | none => exact Src.ofNil w Tryz.underlying44 cap
      | some ad => exact Src.ofSlice w Tryz.underlying44 ad 0 cap [] (by simp) (fun j u hj => by simp at hj) (fun u hu => by simp at hu)
    rcases hown.2 with ⟨rfl, h0⟩ | ⟨g, c, cur, rfl, h1, h2, h3, h4⟩
    · refine ⟨_, w, run_append_nothing w _ _ ty _ i0 Tryz.underlying44 hi0 _ 0 0 (Nat.le_refl _) _ hsrc, ?_, Below.refl _ _, ⟨rfl, rfl, rfl, Nat.le_refl _, fun _ _ _ => rfl⟩⟩
      simpa [h0] using hown
    · refine ⟨_, w, run_append_nothing w _ _ ty _ i0 Tryz.underlying44 hi0 _ A.length c h3 _ hsrc, by simpa using hown, Below.refl _ _, ⟨rfl, rfl, rfl, Nat.le_refl _, fun _ _ _ => rfl⟩⟩
  · rcases h3 with h3 | ⟨b, off, rfl, hbl, hcap, hc⟩
    · exact absurd h3 hne
    · obtain ⟨v', w', hr, ho, hg, _⟩ := run_append_own (P := Tryz.prog) (w := w) base 44 ty 3 i0 _ 1 8 Tryz.underlying44 hi0 hz0 hz1 hz2 rfl (by decide) v A.length _ hown ⟨b, off, none⟩ B.length cap (B.map (Value.int .i64)) (by simp) (fun j u hj => by
        rw [List.getElem?_map] at hj
        cases hk : B[j]? with
        | none => rw [hk] at hj; cases hj
        | some x => rw [hk] at hj; cases hj; simpa [Addr.add_lit] using hc j x hk) (by intro u hu; obtain ⟨x, _, rfl⟩ := List.mem_map.1 hu; rfl) (by unfold maxLen; omega) (by omega) hb
      exact ⟨v', w', hr, by simpa using ho, (Below.refl base w).grown hg hb fun k hk => (hown.lt k hk).1, hg⟩
theorem int_lit {w : World} {B : Nat} {k : Int} (h : Blk w B 3 #[.int .i64 k]) : IntAt w (.slice (some ⟨B, 0, none⟩) 1 1) [k] := by
  refine ⟨by simp, _, _, rfl, .inr ⟨B, 0, rfl, h.lt, by simp, fun i d hi => ?_⟩⟩
  cases i with
  | zero => cases hi; exact h.cell 0
  | succ i => simp at hi

theorem grown_setAt (W : World) (q o : Nat) (v : Value) : W.grownBy (W.setCell ⟨q, o, none⟩ v) (some q) :=
  ⟨rfl, rfl, rfl, by simp [World.setCell], fun k hk hne => Below.heap_setCell W ⟨q, o, none⟩ v k (by show k ≠ q; rintro rfl; exact hne rfl)⟩
/-- the document's book in memory -/
structure RbAt (w : World) (p : Nat) (r : Int) (I : List Int) (V G : List Cv) (vi vl vg : Value) : Prop where
  blk : Blk w p 47 #[.int .u64 r, vi, vl, vg]
  ids : IntAt w vi I
  live : CvAt w vl V
  gh : CvAt w vg G
  same : I.length = V.length
  few : V.length + G.length ≤ 100000
theorem RbAt.later {w w' : World} {p : Nat} {r : Int} {I : List Int} {V G : List Cv} {vi vl vg : Value} (h : RbAt w p r I V G vi vl vg) (hb : Below w.heap.size w w') : RbAt w' p r I V G vi vl vg :=
  ⟨h.blk.below hb h.blk.lt, h.ids.later hb, h.live.later hb, h.gh.later hb, h.same, h.few⟩
end Go.Proofs.YthmhboagbeibdaaGreat
/-
  The document's book of curves: Copy, Kept, with.
-/
namespace Go.Proofs.YthmhboagbeibdaaGreat
set_option linter.unusedVariables false
open Go.RowKit
attribute [local go_sem ↓] Go.wp_at_zero Go.wp_at_succ
attribute [local go_sem] quietR quietAtR quietUponR midAt midUpon
attribute [local irreducible] TStep HStep

theorem app_ints0 (ty : TypeId) {l : List Int} {w : World} {v : Value} {base g : Nat} (h : IntAt w v l) (hown : w.ownsRow base 3 1 (.slice (some ⟨g, 0, none⟩) 0 0) 0 []) (hb : base ≤ w.heap.size) :
    ∃ v' w', (Builtin.append_ #[44, 44] ty #[.slice (some ⟨g, 0, none⟩) 0 0, v]).run Tryz.prog w = .ok v' w' ∧ w'.ownsRow base 3 1 v' l.length (l.map (Value.int .i64)) ∧ Below w.heap.size w w' := by
  obtain ⟨i0, hi0, hz0, hz1, hz2⟩ := info_parts info_int
  obtain ⟨hl, a, cap, rfl, h3⟩ := h
  by_cases hne : l = []
  · subst hne
    refine ⟨_, _, run_append_nothing w _ _ ty _ i0 Tryz.underlying44 hi0 _ 0 0 (Nat.le_refl _) _ ?_, hown, Below.refl _ _⟩
    cases a with
    | none => exact Src.ofNil w Tryz.underlying44 cap
    | some ad => exact Src.ofSlice w Tryz.underlying44 ad 0 cap [] (by simp) (fun j u hj => by simp at hj) (fun u hu => by simp at hu)
  · rcases h3 with h3 | ⟨b, off, rfl, hbl, hcap, hc⟩
    · exact absurd h3 hne
    · have hl0 : 0 < l.length := List.length_pos_iff.2 hne
      obtain ⟨v', w', hr, ho, hg⟩ := run_append_arg_grows (P := Tryz.prog) w 44 ty 3 i0 _ 1 8 Tryz.underlying44 hi0 hz0 hz1 hz2 rfl (by decide) ⟨g, 0, none⟩ 0 0 [] (by simp) (fun j u hj => by simp at hj) ⟨b, off, none⟩ l.length cap (l.map (Value.int .i64)) (by simp) (fun j u hj => by
        rw [List.getElem?_map] at hj
        cases hk : l[j]? with
        | none => rw [hk] at hj; cases hj
        | some x => rw [hk] at hj; cases hj; simpa [Addr.add_lit] using hc j x hk) (by omega) (by unfold maxLen; omega) (by omega)
      exact ⟨v', w', hr, owns_base (by simpa using ho) hb, ⟨hg.os, hg.tape, hg.output, hg.size, fun k hk => hg.block k hk (by simp)⟩⟩

theorem IntAt.grown {w w' : World} {v : Value} {l : List Int} {row : Option Nat} (h : IntAt w v l) (hg : w.grownBy w' row) (hne : ∀ k, v.ownBlock = some k → some k ≠ row) : IntAt w' v l := by
  obtain ⟨h2, a, cap, e, h3⟩ := h
  refine ⟨h2, a, cap, e, ?_⟩
  rcases h3 with h3 | ⟨b, off, e2, hl, hcap, hc⟩
  · exact .inl h3
  · subst e2; subst e
    by_cases hn : l = []
    · exact .inl hn
    · refine .inr ⟨b, off, rfl, Nat.lt_of_lt_of_le hl hg.size, hcap, fun i k hi => ?_⟩
      exact (hg.cell_far ⟨b, off + i, none⟩ hl (hne b rfl)).trans (hc i k hi)
/-- a book handed back -/
def RcW (w : World) (r : Int) (I : List Int) (V G : List Cv) (e : Ending) (w' : World) : Prop :=
  ∃ q vi vl vg, e = .returned (.pointer (some ⟨q, 0, none⟩)) ∧ RbAt w' q r I V G vi vl vg ∧ w.heap.size ≤ q ∧ Below w.heap.size w w' ∧ (∀ b, vg.ownBlock = some b → b < q) ∧ (∀ b, vl.ownBlock = some b → w.heap.size ≤ b) ∧ (∀ b, vg.ownBlock = some b → w.heap.size ≤ b) ∧ (∀ b, vi.ownBlock = some b → w.heap.size ≤ b)
/-- the blocks that the document's rows lie in -/
def DocIn (X : Nat → Prop) (I : List Int) (V G : List Cv) (vi vl vg : Value) : Prop := (I ≠ [] → ∀ b, vi.ownBlock = some b → X b) ∧ (V ≠ [] → ∀ b, vl.ownBlock = some b → X b) ∧ (G ≠ [] → ∀ b, vg.ownBlock = some b → X b)
/-- rows that are the elder ones', or new -/
def FrX (w : World) (I : List Int) (V G : List Cv) (vi vl vg : Value) (I' : List Int) (V' G' : List Cv) (vi' vl' vg' : Value) : Prop := ∀ X : Nat → Prop, DocIn X I V G vi vl vg → (∀ b, w.heap.size ≤ b → X b) → DocIn X I' V' G' vi' vl' vg'
theorem FrX.new {w : World} {I I' : List Int} {V V' G G' : List Cv} {vi vl vg vi' vl' vg' : Value} (h1 : ∀ b, vi'.ownBlock = some b → w.heap.size ≤ b) (h2 : ∀ b, vl'.ownBlock = some b → w.heap.size ≤ b) (h3 : ∀ b, vg'.ownBlock = some b → w.heap.size ≤ b) : FrX w I V G vi vl vg I' V' G' vi' vl' vg' :=
  fun X _ hX => ⟨fun _ b hb => hX b (h1 b hb), fun _ b hb => hX b (h2 b hb), fun _ b hb => hX b (h3 b hb)⟩
theorem FrX.same {w : World} {I I' : List Int} {V V' G G' : List Cv} {vi vl vg : Value} (h1 : I' = I) (h2 : V' = V) (h3 : G' = G) : FrX w I V G vi vl vg I' V' G' vi vl vg := by subst h1; subst h2; subst h3; exact fun X h _ => h

set_option maxRecDepth 100000 in
set_option maxHeartbeats 4000000 in
theorem rcopy_any (p : Nat) (r : Int) (I : List Int) (V G : List Cv) (vi vl vg : Value) (w0 : World) (h : RbAt w0 p r I V G vi vl vg) :
    Calls Tryz.prog 14 #[.pointer (some ⟨p, 0, none⟩)] w0 (RcW w0 r I V G) := by
  obtain ⟨ai, ci, rfl⟩ : ∃ a cap, vi = .slice a I.length cap := by obtain ⟨_, a, cap, e, _⟩ := h.ids; exact ⟨a, cap, e⟩
  obtain ⟨al, cl, rfl⟩ : ∃ a cap, vl = .slice a V.length cap := by obtain ⟨_, _, a, cap, e, _⟩ := h.live; exact ⟨a, cap, e⟩
  obtain ⟨ag, cg, rfl⟩ : ∃ a cap, vg = .slice a G.length cap := by obtain ⟨_, _, a, cap, e, _⟩ := h.gh; exact ⟨a, cap, e⟩
  have HSAME := Lib.hid h.same; have hfew := h.few
  have l0 := h.blk.lt
  have o0 := fun e => (over_cell (w := w0) (e := e) (o := 0) l0).trans (h.blk.cell 0)
  have o1 := fun e => (over_cell (w := w0) (e := e) (o := 1) l0).trans (h.blk.cell 1)
  have o2 := fun e => (over_cell (w := w0) (e := e) (o := 2) l0).trans (h.blk.cell 2)
  have o3 := fun e => (over_cell (w := w0) (e := e) (o := 3) l0).trans (h.blk.cell 3)
  simp only [List.getElem?_toArray, List.getElem?_cons_zero, List.getElem?_cons_succ] at o0 o1 o2 o3
  have H0 := Lib.hid h
  clear h
  go_enter Tryz.func14, Tryz.ntmps14
  go_upto_region 1 with fail
  refine wp_region_midg (w := w0) 22 3 [4, 9, 10, 15, 16, 21] [] [(4, fun u W' => ∃ g, u = .slice (some ⟨g, 0, none⟩) 0 0 ∧ W'.ownsRow w0.heap.size 3 1 u 0 []), (9, fun u W' => W'.ownsRow w0.heap.size 3 1 u (I).length ((I).map (Value.int .i64))), (10, fun u W' => ∃ g, u = .slice (some ⟨g, 0, none⟩) 0 0 ∧ W'.ownsRow w0.heap.size 25 3 u 0 []), (15, fun u W' => W'.ownsRow w0.heap.size 25 3 u (V).length (cvCells (V))), (16, fun u W' => ∃ g, u = .slice (some ⟨g, 0, none⟩) 0 0 ∧ W'.ownsRow w0.heap.size 25 3 u 0 []), (21, fun u W' => W'.ownsRow w0.heap.size 25 3 u (G).length (cvCells (G)))] rfl (by kernel_rfl) (by kernel_rfl) (by kernel_rfl) (by kernel_rfl) (fun _ _ _ _ _ h => h) ⟨fun v W1 W2 ⟨b, h1, h2⟩ hb => ⟨b, h1, owns_later h2 hb⟩, fun v W1 W2 h hb => owns_later h hb, fun v W1 W2 ⟨b, h1, h2⟩ hb => ⟨b, h1, owns_later h2 hb⟩, fun v W1 W2 h hb => owns_later h hb, fun v W1 W2 ⟨b, h1, h2⟩ hb => ⟨b, h1, owns_later h2 hb⟩, fun v W1 W2 h hb => owns_later h hb, trivial⟩ ?_
  intro LL hL
  have HL := Lib.hid hL
  clear hL
  simp only [List.take_succ_cons, List.take_zero, putL]
  iterate 22 (first | refine wpHead_skip (by decide) ?_ | (refine wpHead_step (by decide) (fun K hK => ?_); go_simp; refine hK _ ?_; clear hK K))
  refine wpHead_nil (HL.out _ ⟨?_, ?_, ?_, ?_, ?_, ?_, trivial⟩ ?_)
  · intro vs W2 hb2 hf
    clear HL
    change TStep _ _ _ (Act.put (Act.put (Act.put (Act.put (Act.put (Act.put _ (some 7) (vs 4)) (some 12) (vs 9)) (some 13) (vs 10)) (some 18) (vs 15)) (some 19) (vs 16)) (some 24) (vs 21)) _ _
    refine tstep_yes (by kernel_rfl) ?_
    go_simp
    exact ⟨(Below.refl _ _).alloc (Nat.le_refl _) _, World.ownsRow_made (base := w0.heap.size) (e := 3) (size := 1) W2 #[] 0 hb2.size (by decide) rfl⟩
  · intro vs W2 hb2 hf
    have hf := fits_cast (q := (∃ g, (vs 4) = .slice (some ⟨g, 0, none⟩) 0 0 ∧ W2.ownsRow w0.heap.size 3 1 (vs 4) 0 []) ∧ True) hf (by kernel_rfl)
    clear HL
    refine Exists.elim hf.1 fun B4 hB4 => ?_
    change TStep _ _ _ (Act.put (Act.put (Act.put (Act.put (Act.put (Act.put _ (some 7) (vs 4)) (some 12) (vs 9)) (some 13) (vs 10)) (some 18) (vs 15)) (some 19) (vs 16)) (some 24) (vs 21)) _ _
    have hown := hB4.2
    rw [hB4.1] at hown
    have happ := app_ints0 44 (H0.out.ids.later hb2) hown hb2.size
    refine Exists.elim happ fun v' ha1 => ?_
    refine Exists.elim ha1 fun w' ha2 => ?_
    rw [hB4.1]
    refine tstep_yes (by kernel_rfl) ?_
    exact midAt_app rfl (by kernel_rfl) (by kernel_rfl) ha2.1 ha2.2.2 ha2.2.1
  · intro vs W2 hb2 hf
    clear HL
    change TStep _ _ _ (Act.put (Act.put (Act.put (Act.put (Act.put (Act.put _ (some 7) (vs 4)) (some 12) (vs 9)) (some 13) (vs 10)) (some 18) (vs 15)) (some 19) (vs 16)) (some 24) (vs 21)) _ _
    refine tstep_yes (by kernel_rfl) ?_
    go_simp
    exact ⟨(Below.refl _ _).alloc (Nat.le_refl _) _, World.ownsRow_made (base := w0.heap.size) (e := 25) (size := 3) W2 #[] 0 hb2.size (by decide) rfl⟩
  · intro vs W2 hb2 hf
    have hf := fits_cast (q := (∃ g, (vs 10) = .slice (some ⟨g, 0, none⟩) 0 0 ∧ W2.ownsRow w0.heap.size 25 3 (vs 10) 0 []) ∧ True) hf (by kernel_rfl)
    clear HL
    refine Exists.elim hf.1 fun B10 hB10 => ?_
    change TStep _ _ _ (Act.put (Act.put (Act.put (Act.put (Act.put (Act.put _ (some 7) (vs 4)) (some 12) (vs 9)) (some 13) (vs 10)) (some 18) (vs 15)) (some 19) (vs 16)) (some 24) (vs 21)) _ _
    have hown := hB10.2
    rw [hB10.1] at hown
    have happ := app_all 45 (H0.out.live.later hb2) hown hb2.size
    refine Exists.elim happ fun v' ha1 => ?_
    refine Exists.elim ha1 fun w' ha2 => ?_
    rw [hB10.1]
    refine tstep_yes (by kernel_rfl) ?_
    exact midAt_app rfl (by kernel_rfl) (by kernel_rfl) ha2.1 ha2.2.2 ha2.2.1
  · intro vs W2 hb2 hf
    clear HL
    change TStep _ _ _ (Act.put (Act.put (Act.put (Act.put (Act.put (Act.put _ (some 7) (vs 4)) (some 12) (vs 9)) (some 13) (vs 10)) (some 18) (vs 15)) (some 19) (vs 16)) (some 24) (vs 21)) _ _
    refine tstep_yes (by kernel_rfl) ?_
    go_simp
    exact ⟨(Below.refl _ _).alloc (Nat.le_refl _) _, World.ownsRow_made (base := w0.heap.size) (e := 25) (size := 3) W2 #[] 0 hb2.size (by decide) rfl⟩
  · intro vs W2 hb2 hf
    have hf := fits_cast (q := (∃ g, (vs 16) = .slice (some ⟨g, 0, none⟩) 0 0 ∧ W2.ownsRow w0.heap.size 25 3 (vs 16) 0 []) ∧ True) hf (by kernel_rfl)
    clear HL
    refine Exists.elim hf.1 fun B16 hB16 => ?_
    change TStep _ _ _ (Act.put (Act.put (Act.put (Act.put (Act.put (Act.put _ (some 7) (vs 4)) (some 12) (vs 9)) (some 13) (vs 10)) (some 18) (vs 15)) (some 19) (vs 16)) (some 24) (vs 21)) _ _
    have hown := hB16.2
    rw [hB16.1] at hown
    have happ := app_all 45 (H0.out.gh.later hb2) hown hb2.size
    refine Exists.elim happ fun v' ha1 => ?_
    refine Exists.elim ha1 fun w' ha2 => ?_
    rw [hB16.1]
    refine tstep_yes (by kernel_rfl) ?_
    exact midAt_app rfl (by kernel_rfl) (by kernel_rfl) ha2.1 ha2.2.2 ha2.2.1
  · intro vs W2 hb2 hf
    have hf := fits_cast (q := (∃ g, vs 4 = .slice (some ⟨g, 0, none⟩) 0 0 ∧ W2.ownsRow w0.heap.size 3 1 (vs 4) 0 []) ∧ (W2.ownsRow w0.heap.size 3 1 (vs 9) (I).length ((I).map (Value.int .i64))) ∧ (∃ g, vs 10 = .slice (some ⟨g, 0, none⟩) 0 0 ∧ W2.ownsRow w0.heap.size 25 3 (vs 10) 0 []) ∧ (W2.ownsRow w0.heap.size 25 3 (vs 15) (V).length (cvCells (V))) ∧ (∃ g, vs 16 = .slice (some ⟨g, 0, none⟩) 0 0 ∧ W2.ownsRow w0.heap.size 25 3 (vs 16) 0 []) ∧ (W2.ownsRow w0.heap.size 25 3 (vs 21) (G).length (cvCells (G))) ∧ True) hf (by kernel_rfl)
    clear HL
    change wpList _ _ _ _ (Act.put (Act.put (Act.put (Act.put (Act.put (Act.put _ (some 7) (vs 4)) (some 12) (vs 9)) (some 13) (vs 10)) (some 18) (vs 15)) (some 19) (vs 16)) (some 24) (vs 21)) _
    have hi := IntAt.of_owns hf.2.1 H0.out.ids.1
    have hv := CvAt.of_owns hf.2.2.2.1 H0.out.live.1 H0.out.live.2.1
    have hg := CvAt.of_owns hf.2.2.2.2.2.1 H0.out.gh.1 H0.out.gh.2.1
    refine Exists.elim (owns_slice hf.2.1) fun b1 x1 => ?_
    refine Exists.elim x1 fun d1 y1 => ?_
    refine Exists.elim (owns_slice hf.2.2.2.1) fun b2 x2 => ?_
    refine Exists.elim x2 fun d2 y2 => ?_
    refine Exists.elim (owns_slice hf.2.2.2.2.2.1) fun b3 x3 => ?_
    refine Exists.elim x3 fun d3 y3 => ?_
    have hlt := hf.2.2.2.2.2.1.lt
    rw [y3] at hlt
    have hlv := hf.2.2.2.1.lt
    rw [y2] at hlv
    have hli := hf.2.1.lt
    rw [y1] at hli
    rw [y1] at hi; rw [y2] at hv; rw [y3] at hg
    rw [y1, y2, y3]
    have HI := Lib.hid (And.intro hi (And.intro hv (And.intro hg hb2))); have HLT := Lib.hid (And.intro hlt (And.intro hlv hli))
    clear hf hi hv hg hb2 hlt hlv hli o0 o1 o2 o3 l0 x1 x2 x3 y1 y2 y3
    simp only [List.drop_succ_cons, List.drop_zero, List.take_succ_cons, List.take_zero]
    go_wp2_with fail
    go_ret
    have hbn := (Below.refl W2.heap.size W2).alloc (Nat.le_refl _) (.cells #[.int .u64 r, .slice b1 I.length d1, .slice b2 V.length d2, .slice b3 G.length d3] 47)
    exact ⟨_, _, _, _, rfl, ⟨Blk.new _ _ _, HI.out.1.later hbn, HI.out.2.1.later hbn, HI.out.2.2.1.later hbn, HSAME.out, hfew⟩, HI.out.2.2.2.size, HI.out.2.2.2.trans (hbn.mono HI.out.2.2.2.size), fun b hb => (HLT.out.1 b hb).2, fun b hb => (HLT.out.2.1 b hb).1, fun b hb => (HLT.out.1 b hb).1, fun b hb => (HLT.out.2.2 b hb).1⟩

set_option maxRecDepth 100000 in
set_option maxHeartbeats 4000000 in
theorem rkept_any (p : Nat) (r : Int) (I : List Int) (V G : List Cv) (vi vl vg : Value) (w0 : World) (h : RbAt w0 p r I V G vi vl vg) (hr : U r) :
    Calls Tryz.prog 25 #[.pointer (some ⟨p, 0, none⟩)] w0 fun e w' => e = .returned (.bool (decide (Keep (V ++ G) r))) ∧ Below w0.heap.size w0 w' := by
  obtain ⟨ai, ci, rfl⟩ : ∃ a cap, vi = .slice a I.length cap := by obtain ⟨_, a, cap, e, _⟩ := h.ids; exact ⟨a, cap, e⟩
  obtain ⟨al, cl, rfl⟩ : ∃ a cap, vl = .slice a V.length cap := by obtain ⟨_, _, a, cap, e, _⟩ := h.live; exact ⟨a, cap, e⟩
  obtain ⟨ag, cg, rfl⟩ : ∃ a cap, vg = .slice a G.length cap := by obtain ⟨_, _, a, cap, e, _⟩ := h.gh; exact ⟨a, cap, e⟩
  have HSAME := Lib.hid h.same; have hfew := h.few
  have l0 := h.blk.lt
  have o0 := fun e => (over_cell (w := w0) (e := e) (o := 0) l0).trans (h.blk.cell 0)
  have o2 := fun e => (over_cell (w := w0) (e := e) (o := 2) l0).trans (h.blk.cell 2)
  have o3 := fun e => (over_cell (w := w0) (e := e) (o := 3) l0).trans (h.blk.cell 3)
  simp only [List.getElem?_toArray, List.getElem?_cons_zero, List.getElem?_cons_succ] at o0 o2 o3
  have H0 := Lib.hid h
  clear h
  go_enter Tryz.func25, Tryz.ntmps25
  go_upto_region 1 with fail
  refine wp_region_hot (w := w0) 15 2 [0, 5, 10] [] [(0, fun u W' => ∃ g, u = .slice (some ⟨g, 0, none⟩) 0 0 ∧ W'.ownsRow w0.heap.size 25 3 u 0 []), (5, fun u W' => W'.ownsRow w0.heap.size 25 3 u (V).length (cvCells (V))), (10, fun u W' => W'.ownsRow w0.heap.size 25 3 u (V ++ G).length (cvCells (V ++ G)))] [(0, 5), (5, 10)] [10] [] rfl (by decide) (by decide) (by kernel_rfl) (by kernel_rfl) (by kernel_rfl) (by kernel_rfl) (by kernel_rfl) (fun _ _ _ _ _ h => h) ⟨fun v W1 W2 ⟨b, h1, h2⟩ hb => ⟨b, h1, owns_later h2 hb⟩, fun v W1 W2 h hb => owns_later h hb, fun v W1 W2 h hb => owns_later h hb, trivial⟩ ⟨fun h => by simp at h, fun h => by simp at h, fun h => by simp at h, trivial⟩ ?_
  intro LL hL
  have HL := Lib.hid hL
  clear hL
  simp only [List.take_succ_cons, List.take_zero, putL]
  iterate 15 (first | refine wpHead_skip (by decide) ?_ | (refine wpHead_step (by decide) (fun K hK => ?_); go_simp; refine hK _ ?_; clear hK K))
  refine wpHead_nil (HL.out _ ⟨?_, ?_, ?_, trivial⟩ ?_)
  · intro vs W2 hb2 hf
    clear HL
    change TStep _ _ _ (Act.put (Act.put (Act.put _ (some 3) (vs 0)) (some 8) (vs 5)) (some 13) (vs 10)) _ _
    refine tstep_yes (by kernel_rfl) ?_
    go_simp
    exact ⟨(Below.refl _ _).alloc (Nat.le_refl _) _, World.ownsRow_made (base := w0.heap.size) (e := 25) (size := 3) W2 #[] 0 hb2.size (by decide) rfl⟩
  · intro vs W2 hb2 hf
    have hf := fits_cast (q := (∃ g, (vs 0) = .slice (some ⟨g, 0, none⟩) 0 0 ∧ W2.ownsRow w0.heap.size 25 3 (vs 0) 0 []) ∧ True) hf (by kernel_rfl)
    clear HL
    refine Exists.elim hf.1 fun B0 hB0 => ?_
    change TStep _ _ _ (Act.put (Act.put (Act.put _ (some 3) (vs 0)) (some 8) (vs 5)) (some 13) (vs 10)) _ _
    have hown := hB0.2
    rw [hB0.1] at hown
    have happ := app_all 45 (H0.out.live.later hb2) hown hb2.size
    refine Exists.elim happ fun v' ha1 => ?_
    refine Exists.elim ha1 fun w' ha2 => ?_
    rw [hB0.1]
    refine tstep_yes (by kernel_rfl) ?_
    exact midAt_app rfl (by kernel_rfl) (by kernel_rfl) ha2.1 ha2.2.2 ha2.2.1
  · intro vs W2 hb2 hf
    have hf := fits_cast (q := (W2.ownsRow w0.heap.size 25 3 (vs 5) (V).length (cvCells (V))) ∧ True) hf (by kernel_rfl)
    clear HL
    change HStep _ _ _ _ (Act.put (Act.put (Act.put _ (some 3) (vs 0)) (some 8) (vs 5)) (some 13) (vs 10)) _ _
    have happ := app_more 45 (A := V) (H0.out.gh.later hb2) hf.1 hb2.size (by have h1 := HSAME.out; have h2 := hfew; simp; try omega)
    refine Exists.elim happ fun v' ha1 => ?_
    refine Exists.elim ha1 fun w' ha2 => ?_
    refine hstep_yes (by kernel_rfl) ?_
    exact hotUpon_app rfl (by kernel_rfl) (by kernel_rfl) ha2.1 (hb2.trans ha2.2.2.1) (by simpa using ha2.2.1)
  · intro vs W2 hb2 hf
    have hf := fits_cast (q := (W2.ownsRow w0.heap.size 25 3 (vs 10) (V ++ G).length (cvCells (V ++ G))) ∧ True) hf (by kernel_rfl)
    clear HL
    change wpList _ _ _ _ (Act.put (Act.put (Act.put _ (some 3) (vs 0)) (some 8) (vs 5)) (some 13) (vs 10)) _
    have hu : UU (V ++ G) := fun d hd => by
      rcases List.mem_append.1 hd with hd | hd
      · exact H0.out.live.1 d hd
      · exact H0.out.gh.1 d hd
    have hcv := CvAt.of_owns hf.1 hu (by simp; omega)
    have hk := r4kept_any _ _ r W2 hcv hr
    refine Exists.elim (⟨_, rfl⟩ : ∃ kb, decide (Keep (V ++ G) r) = kb) fun kb hkb => ?_
    rw [hkb] at hk
    have HKB := Lib.hid hkb
    have HB := Lib.hid hb2
    clear hf hu hcv hkb hb2 o0 o2 o3 l0
    simp only [List.drop_succ_cons, List.drop_zero, List.take_succ_cons, List.take_zero]
    go_wp2_with fail
    refine hk.mono ?_
    clear hk
    rintro e w5 ⟨rfl, hb5⟩
    have HB5 := Lib.hid (HB.out.trans (hb5.mono HB.out.size))
    clear hb5
    go_wp2_with fail
    go_ret
    exact ⟨by rw [HKB.out]; rfl, HB5.out⟩
end Go.Proofs.YthmhboagbeibdaaGreat
/-
  The document's book of curves: with.
-/
namespace Go.Proofs.YthmhboagbeibdaaGreat
set_option linter.unusedVariables false
open Go.RowKit
attribute [local go_sem ↓] Go.wp_at_zero Go.wp_at_succ
attribute [local go_sem] quietR quietAtR quietUponR midAt midUpon
attribute [local irreducible] TStep HStep

def RwW (w : World) (r : Int) (I : List Int) (V G : List Cv) (id : Int) (c : Cv) (e : Ending) (w' : World) : Prop :=
  (c = (0, 0, 0) ∧ RcW w r I V G e w') ∨ (c ≠ (0, 0, 0) ∧ ∃ k, k ≤ I.length ∧ (∀ x ∈ I.take k, x < id) ∧ (∀ x, I[k]? = some x → id ≤ x) ∧ RcW w r (I.take k ++ [id] ++ I.drop k) (V.take k ++ [c] ++ V.drop k) G e w')

set_option maxRecDepth 100000 in
set_option maxHeartbeats 4000000 in
theorem rwith_any (F0 L0 R0 id : Int) (p : Nat) (r : Int) (I : List Int) (V G : List Cv) (vi vl vg : Value) (w : World) (hc : U F0 ∧ U L0 ∧ U R0) (h : RbAt w p r I V G vi vl vg) (hfl : V.length + G.length < 100000) :
    Calls Tryz.prog 24 #[.pointer (some ⟨p, 0, none⟩), .int .i64 id, .agg #[.int .u64 F0, .int .u64 L0, .int .u64 R0]] w (RwW w r I V G id (F0, L0, R0)) := by
  have hb0 := (Below.refl w.heap.size w).alloc (Nat.le_refl _) (.cells #[.int .u64 F0, .int .u64 L0, .int .u64 R0] 25)
  have hB0 := Blk.new w 25 #[.int .u64 F0, .int .u64 L0, .int .u64 R0]
  have hcp := rcopy_any p r I V G vi vl vg _ (h.later hb0)
  have H := Lib.hid h; have HB := Lib.hid (And.intro hb0 hB0)
  clear h hb0 hB0
  go_enter Tryz.func24, Tryz.ntmps24
  go_wp2_with fail
  refine hcp.mono ?_
  clear hcp
  rintro e w1 ⟨q, vi1, vl1, vg1, rfl, hq, hqs, hb1, hvg⟩
  have hbw1 := HB.out.1.trans (hb1.mono HB.out.1.size)
  have hB1 := HB.out.2.below hb1 HB.out.2.lt
  have c0 := hB1.cell 0; have c1 := hB1.cell 1; have c2 := hB1.cell 2
  simp only [List.getElem?_toArray, List.getElem?_cons_zero, List.getElem?_cons_succ] at c0 c1 c2
  have HQ := Lib.hid (And.intro hq (And.intro hqs (And.intro hbw1 (And.intro hB1 hvg))))
  clear hq hqs hb1 hbw1 hB1 hvg HB
  by_cases hz : (F0, L0, R0) = ((0, 0, 0) : Cv)
  · simp only [Prod.mk.injEq] at hz
    obtain ⟨rfl, rfl, rfl⟩ := hz
    go_wp2_with fail
    go_ret
    have hbq := HQ.out.1
    exact .inl ⟨rfl, q, vi1, vl1, vg1, rfl, HQ.out.1, by have := HQ.out.2.1; simp at this; omega, HQ.out.2.2.1, HQ.out.2.2.2.2.1, fun b hb => by have := HQ.out.2.2.2.2.2.1 b hb; simp at this; omega, fun b hb => by have := HQ.out.2.2.2.2.2.2.1 b hb; simp at this; omega, fun b hb => by have := HQ.out.2.2.2.2.2.2.2 b hb; simp at this; omega⟩
  · go_upto_region 2 with fail
    go_cut [2, 13] from 11 to 12 (fun _ v wx => v = .bool false ∧ wx = w1)
    case first =>
      go_wp2_with fail
      all_goals first
        | (refine absurd ?_ hz; simp only [Prod.mk.injEq]; refine ⟨?_, ?_, ?_⟩ <;> assumption)
        | (go_meet; exact ⟨rfl, rfl⟩)
    case rest =>
      obtain ⟨rfl, rfl⟩ := hcut
      clear c0 c1 c2
      obtain ⟨w3, rfl⟩ : ∃ w', w' = wc := ⟨_, rfl⟩
      have hp3 := H.out.later HQ.out.2.2.1
      obtain ⟨ai, ci, rfl⟩ : ∃ a cap, vi = .slice a I.length cap := by obtain ⟨_, a, cap, e, _⟩ := hp3.ids; exact ⟨a, cap, e⟩
      obtain ⟨al, cl, rfl⟩ : ∃ a cap, vl = .slice a V.length cap := by obtain ⟨_, _, a, cap, e, _⟩ := hp3.live; exact ⟨a, cap, e⟩
      have hIl : I.length ≤ 100000 := by have h1 := hp3.same; have h2 := hp3.few; omega
      have HSAME := Lib.hid hp3.same; have hfew := hp3.few
      have HP3 := Lib.hid hp3; have HZ := Lib.hid hz
      have y1 := hp3.blk.cell 1
      simp only [List.getElem?_toArray, List.getElem?_cons_zero, List.getElem?_cons_succ] at y1
      clear hp3 hz
      go_wp2_with fail
      go_loopw [8] (fun v8 W => ∃ k : Nat, v8 = .int .i64 k ∧ k ≤ I.length ∧ W = w3 ∧ ∀ x ∈ I.take k, x < id) (fun v8 _ => (I.length - Go.RowKit.intOf v8).toNat)
      case atStart => exact ⟨0, rfl, Nat.zero_le _, rfl, fun x hx => by simp at hx⟩
      case round =>
        obtain ⟨k, rfl, hk, rfl, hlow⟩ := hrel
        have HLOW := Lib.hid hlow
        clear hlow
        by_cases hlt : k < I.length
        · obtain ⟨x, hx⟩ : ∃ x, I[k]? = some x := ⟨_, List.getElem?_eq_getElem hlt⟩
          obtain ⟨b, off, hab, hcx⟩ : ∃ b off, ai = some ⟨b, off, none⟩ ∧ wr.cell? ⟨b, off + k, none⟩ = some (.int .i64 x) := by
            obtain ⟨_, a', cap', e, h3⟩ := HP3.out.ids
            cases e
            rcases h3 with h3 | ⟨b, off, rfl, _, _, hcc⟩
            · rw [h3] at hlt; simp at hlt
            · exact ⟨b, off, rfl, hcc k x hx⟩
          subst hab
          have hT : I.take (k + 1) = I.take k ++ [x] := by rw [List.take_add_one, hx]; rfl
          have HT := Lib.hid hT; have HX := Lib.hid hx
          clear hT hx
          by_cases hxi : x < id
          · go_wp2_with fail
            go_roundw
            case measure => (simp [Go.RowKit.intOf]; try omega)
            case rel =>
              refine ⟨k + 1, by go_num, by omega, by first | rfl | trivial, fun z hz2 => ?_⟩
              rw [HT.out] at hz2
              rcases List.mem_append.1 hz2 with hz2 | hz2
              · exact HLOW.out z hz2
              · simp at hz2; omega
          · have hge : ∀ y, I[k]? = some y → id ≤ y := fun y hy => by rw [HX.out] at hy; cases hy; omega
            have HGE := Lib.hid hge
            clear hge
            go_upto_region 7 with fail
            clear y1
            obtain ⟨w0, rfl⟩ : ∃ w', w' = wr := ⟨_, rfl⟩
            have h0 := HP3.out
            have l0 := h0.blk.lt
            have o1 := fun e => (over_cell (w := w0) (e := e) (o := 1) l0).trans (h0.blk.cell 1)
            simp only [List.getElem?_toArray, List.getElem?_cons_zero, List.getElem?_cons_succ] at o1
            have hkc := int_cap h0.ids hk
            have hkV : k ≤ V.length := by have := HSAME.out; omega
            have hkl := cv_cap h0.live hkV
            have H0 := Lib.hid h0
            clear h0
            refine wp_region_hot (w := w0) 21 1 [1, 8, 10, 11, 18] [] [(1, fun u W' => ∃ g, u = .slice (some ⟨g, 0, none⟩) 0 0 ∧ W'.ownsRow w0.heap.size 3 1 u 0 []), (8, fun u W' => W'.ownsRow w0.heap.size 3 1 u (I.take k).length ((I.take k).map (Value.int .i64))), (10, fun u W' => ∃ B, u = .slice (some ⟨B, 0, none⟩) 1 1 ∧ Blk W' B 3 #[.int .i64 id]), (11, fun u W' => W'.ownsRow w0.heap.size 3 1 u (I.take k ++ [id]).length ((I.take k ++ [id]).map (Value.int .i64))), (18, fun u W' => W'.ownsRow w0.heap.size 3 1 u (I.take k ++ [id] ++ I.drop k).length ((I.take k ++ [id] ++ I.drop k).map (Value.int .i64)))] [(1, 8), (8, 11), (10, 11), (11, 18)] [11, 18] [] rfl (by decide) (by decide) (by kernel_rfl) (by kernel_rfl) (by kernel_rfl) (by kernel_rfl) (by kernel_rfl) (fun _ _ _ _ _ h => h) ⟨fun v W1 W2 ⟨b, h1, h2⟩ hb => ⟨b, h1, owns_later h2 hb⟩, fun v W1 W2 h hb => owns_later h hb, fun v W1 W2 ⟨b, h1, h2⟩ hb => ⟨b, h1, h2.below hb h2.lt⟩, fun v W1 W2 h hb => owns_later h hb, fun v W1 W2 h hb => owns_later h hb, trivial⟩ ⟨fun h => by simp at h, fun h => by simp at h, fun h => by simp at h, fun h => by simp at h, fun h => by simp at h, trivial⟩ ?_
            intro LL hL
            have HL := Lib.hid hL
            clear hL
            simp only [List.take_succ_cons, List.take_zero, putL]
            iterate 21 (first | refine wpHead_skip (by decide) ?_ | (refine wpHead_step (by decide) (fun K hK => ?_); go_simp; refine hK _ ?_; clear hK K))
            refine wpHead_nil (HL.out _ ⟨?_, ?_, ?_, ?_, ?_, trivial⟩ ?_)
            · intro vs W2 hb2 hf
              clear HL
              change TStep _ _ _ (Act.put (Act.put (Act.put (Act.put (Act.put _ (some 36) (vs 1)) (some 43) (vs 8)) (some 45) (vs 10)) (some 46) (vs 11)) (some 53) (vs 18)) _ _
              refine tstep_yes (by kernel_rfl) ?_
              go_simp
              exact ⟨(Below.refl _ _).alloc (Nat.le_refl _) _, World.ownsRow_made (base := w0.heap.size) (e := 3) (size := 1) W2 #[] 0 hb2.size (by decide) rfl⟩
            · intro vs W2 hb2 hf
              have hf := fits_cast (q := (∃ g, (vs 1) = .slice (some ⟨g, 0, none⟩) 0 0 ∧ W2.ownsRow w0.heap.size 3 1 (vs 1) 0 []) ∧ True) hf (by kernel_rfl)
              clear HL
              refine Exists.elim hf.1 fun B1 hB1 => ?_
              change TStep _ _ _ (Act.put (Act.put (Act.put (Act.put (Act.put _ (some 36) (vs 1)) (some 43) (vs 8)) (some 45) (vs 10)) (some 46) (vs 11)) (some 53) (vs 18)) _ _
              have hown := hB1.2
              rw [hB1.1] at hown
              have happ := app_ints0 44 (int_take (H0.out.ids.later hb2) hk) hown hb2.size
              refine Exists.elim happ fun v' ha1 => ?_
              refine Exists.elim ha1 fun w' ha2 => ?_
              rw [hB1.1]
              refine tstep_yes (by kernel_rfl) ?_
              exact midAt_app rfl (by kernel_rfl) (by kernel_rfl) ha2.1 ha2.2.2 ha2.2.1
            · intro vs W2 hb2 hf
              clear HL
              change TStep _ _ _ (Act.put (Act.put (Act.put (Act.put (Act.put _ (some 36) (vs 1)) (some 43) (vs 8)) (some 45) (vs 10)) (some 46) (vs 11)) (some 53) (vs 18)) _ _
              refine tstep_yes (by kernel_rfl) ?_
              go_simp
              exact ⟨(Below.refl _ _).alloc (Nat.le_refl _) _, Blk.new _ _ _⟩
            · intro vs W2 hb2 hf
              have hf := fits_cast (q := (W2.ownsRow w0.heap.size 3 1 (vs 8) (I.take k).length ((I.take k).map (Value.int .i64))) ∧ (∃ B, (vs 10) = .slice (some ⟨B, 0, none⟩) 1 1 ∧ Blk W2 B 3 #[.int .i64 id]) ∧ True) hf (by kernel_rfl)
              clear HL
              refine Exists.elim hf.2.1 fun B10 hB10 => ?_
              change HStep _ _ _ _ (Act.put (Act.put (Act.put (Act.put (Act.put _ (some 36) (vs 1)) (some 43) (vs 8)) (some 45) (vs 10)) (some 46) (vs 11)) (some 53) (vs 18)) _ _
              have happ := app_ints 44 (A := I.take k) (int_lit hB10.2) hf.1 hb2.size (by have h1 := HSAME.out; have h2 := hfew; simp; try omega)
              refine Exists.elim happ fun v' ha1 => ?_
              refine Exists.elim ha1 fun w' ha2 => ?_
              rw [hB10.1]
              refine hstep_yes (by kernel_rfl) ?_
              exact hotUpon_app rfl (by kernel_rfl) (by kernel_rfl) ha2.1 (hb2.trans ha2.2.2.1) (by simpa using ha2.2.1)
            · intro vs W2 hb2 hf
              have hf := fits_cast (q := (W2.ownsRow w0.heap.size 3 1 (vs 11) (I.take k ++ [id]).length ((I.take k ++ [id]).map (Value.int .i64))) ∧ True) hf (by kernel_rfl)
              clear HL
              change HStep _ _ _ _ (Act.put (Act.put (Act.put (Act.put (Act.put _ (some 36) (vs 1)) (some 43) (vs 8)) (some 45) (vs 10)) (some 46) (vs 11)) (some 53) (vs 18)) _ _
              have happ := app_ints 44 (A := I.take k ++ [id]) (int_dropS (H0.out.ids.later hb2) hk) hf.1 hb2.size (by have h1 := HSAME.out; have h2 := hfew; simp; try omega)
              refine Exists.elim happ fun v' ha1 => ?_
              refine Exists.elim ha1 fun w' ha2 => ?_
              refine hstep_yes (by kernel_rfl) ?_
              exact hotUpon_app rfl (by kernel_rfl) (by kernel_rfl) ha2.1 (hb2.trans ha2.2.2.1) (by simpa using ha2.2.1)
            · intro vs W2 hb2 hf
              have hf := fits_cast (q := (W2.ownsRow w0.heap.size 3 1 (vs 18) (I.take k ++ [id] ++ I.drop k).length ((I.take k ++ [id] ++ I.drop k).map (Value.int .i64))) ∧ True) hf (by kernel_rfl)
              clear HL
              change wpList _ _ _ _ (Act.put (Act.put (Act.put (Act.put (Act.put _ (some 36) (vs 1)) (some 43) (vs 8)) (some 45) (vs 10)) (some 46) (vs 11)) (some 53) (vs 18)) _
              refine Exists.elim (owns_slice hf.1) fun b1 x1 => ?_
              refine Exists.elim x1 fun d1 y1 => ?_
              refine Exists.elim (⟨_, rfl⟩ : ∃ n1, (I.take k ++ [id] ++ I.drop k).length = n1) fun n1 hn1 => ?_
              rw [hn1] at y1
              have hi := IntAt.of_owns hf.1 (by have h1 := HSAME.out; simp; omega)
              have hbi := fun b hb => (hf.1.lt b hb).1
              rw [y1] at hi hbi ⊢
              have hq2 := HQ.out.1.blk.below hb2 HQ.out.1.blk.lt
              have hg2 := HQ.out.1.gh.later hb2
              have hw2 := HQ.out.2.2.1.trans (hb2.mono HQ.out.2.2.1.size)
              have hc2 := HQ.out.2.2.2.1.below hb2 HQ.out.2.2.2.1.lt
              have z1 := hq2.frozen 1; have z2 := hq2.cell 1
              have HI := Lib.hid (And.intro hi (And.intro hbi (And.intro hq2 (And.intro hg2 (And.intro hw2 hc2))))); have HB2 := Lib.hid hb2
              clear hf hi hbi hq2 hg2 hw2 hc2 hb2 x1 y1 o1 l0
              simp only [List.drop_succ_cons, List.drop_zero, List.take_succ_cons, List.take_zero]
              go_upto_region 8 with fail
              clear z1 z2
              clear hn1 H0
              have hqw : w.heap.size < q := by have := HQ.out.2.1; simp at this; omega
              have hq0 : q < w0.heap.size := HQ.out.1.blk.lt
              have hw3 := HI.out.2.2.2.2.1.setCell (p := ⟨q, 1, none⟩) (Nat.le_of_lt hqw) (.slice b1 n1 d1)
              have hq3 := HI.out.2.2.1.set_ 1 (.slice b1 n1 d1)
              have hgs := grown_setAt W2 q 1 (.slice b1 n1 d1)
              have hi3 := HI.out.1.grown hgs (fun k e e2 => by cases e2; have := HI.out.2.1 _ e; omega)
              have hg3 := HI.out.2.2.2.1.grown hgs (fun k e e2 => by cases e2; have := HQ.out.2.2.2.2.1 _ e; omega)
              have hc3 := HI.out.2.2.2.2.2.far (p := ⟨q, 1, none⟩) (by show w.heap.size ≠ q; omega) (.slice b1 n1 d1)
              generalize W2.setCell ⟨q, 1, none⟩ (.slice b1 n1 d1) = w5 at hw3 hq3 hi3 hg3 hc3 ⊢
              have HLO5 := Lib.hid hw3.size
              have h8 := H.out.later hw3
              have l5 := h8.blk.lt; have l6 := hc3.lt
              have o2 := fun e => (over_cell (w := w5) (e := e) (o := 2) l5).trans (h8.blk.cell 2)
              have p0 := fun e => (over_cell (w := w5) (e := e) (o := 0) l6).trans (hc3.cell 0)
              have p1 := fun e => (over_cell (w := w5) (e := e) (o := 1) l6).trans (hc3.cell 1)
              have p2 := fun e => (over_cell (w := w5) (e := e) (o := 2) l6).trans (hc3.cell 2)
              simp only [List.getElem?_toArray, List.getElem?_cons_zero, List.getElem?_cons_succ] at o2 p0 p1 p2
              have H8 := Lib.hid h8; have H5 := Lib.hid (And.intro hw3 (And.intro hq3 (And.intro hi3 hg3)))
              have HBI := Lib.hid HI.out.2.1
              clear h8 hw3 hq3 hi3 hg3 hc3 hgs HI HB2 l5 l6
              refine wp_region_hot (w := w5) 21 1 [1, 8, 10, 11, 18] [] [(1, fun u W' => ∃ g, u = .slice (some ⟨g, 0, none⟩) 0 0 ∧ W'.ownsRow w5.heap.size 25 3 u 0 []), (8, fun u W' => W'.ownsRow w5.heap.size 25 3 u (V.take k).length (cvCells (V.take k))), (10, fun u W' => ∃ B, u = .slice (some ⟨B, 0, none⟩) 1 1 ∧ Blk W' B 25 #[.int .u64 F0, .int .u64 L0, .int .u64 R0]), (11, fun u W' => W'.ownsRow w5.heap.size 25 3 u (V.take k ++ [(F0, L0, R0)]).length (cvCells (V.take k ++ [(F0, L0, R0)]))), (18, fun u W' => W'.ownsRow w5.heap.size 25 3 u (V.take k ++ [(F0, L0, R0)] ++ V.drop k).length (cvCells (V.take k ++ [(F0, L0, R0)] ++ V.drop k)))] [(1, 8), (8, 11), (10, 11), (11, 18)] [11, 18] [] rfl (by decide) (by decide) (by kernel_rfl) (by kernel_rfl) (by kernel_rfl) (by kernel_rfl) (by kernel_rfl) (fun _ _ _ _ _ h => h) ⟨fun v W1 W2 ⟨b, h1, h2⟩ hb => ⟨b, h1, owns_later h2 hb⟩, fun v W1 W2 h hb => owns_later h hb, fun v W1 W2 ⟨b, h1, h2⟩ hb => ⟨b, h1, h2.below hb h2.lt⟩, fun v W1 W2 h hb => owns_later h hb, fun v W1 W2 h hb => owns_later h hb, trivial⟩ ⟨fun h => by simp at h, fun h => by simp at h, fun h => by simp at h, fun h => by simp at h, fun h => by simp at h, trivial⟩ ?_
              intro LL hL
              have HL := Lib.hid hL
              clear hL
              simp only [List.take_succ_cons, List.take_zero, putL]
              iterate 21 (first | refine wpHead_skip (by decide) ?_ | (refine wpHead_step (by decide) (fun K hK => ?_); go_simp; refine hK _ ?_; clear hK K))
              refine wpHead_nil (HL.out _ ⟨?_, ?_, ?_, ?_, ?_, trivial⟩ ?_)
              · intro vs W2 hb2 hf
                clear HL
                change TStep _ _ _ (Act.put (Act.put (Act.put (Act.put (Act.put _ (some 57) (vs 1)) (some 64) (vs 8)) (some 66) (vs 10)) (some 67) (vs 11)) (some 74) (vs 18)) _ _
                refine tstep_yes (by kernel_rfl) ?_
                go_simp
                exact ⟨(Below.refl _ _).alloc (Nat.le_refl _) _, World.ownsRow_made (base := w5.heap.size) (e := 25) (size := 3) W2 #[] 0 hb2.size (by decide) rfl⟩
              · intro vs W2 hb2 hf
                have hf := fits_cast (q := (∃ g, (vs 1) = .slice (some ⟨g, 0, none⟩) 0 0 ∧ W2.ownsRow w5.heap.size 25 3 (vs 1) 0 []) ∧ True) hf (by kernel_rfl)
                clear HL
                refine Exists.elim hf.1 fun B1 hB1 => ?_
                change TStep _ _ _ (Act.put (Act.put (Act.put (Act.put (Act.put _ (some 57) (vs 1)) (some 64) (vs 8)) (some 66) (vs 10)) (some 67) (vs 11)) (some 74) (vs 18)) _ _
                have hown := hB1.2
                rw [hB1.1] at hown
                have happ := app_all 45 (cv_take (H8.out.live.later hb2) hkV) hown hb2.size
                refine Exists.elim happ fun v' ha1 => ?_
                refine Exists.elim ha1 fun w' ha2 => ?_
                rw [hB1.1]
                refine tstep_yes (by kernel_rfl) ?_
                exact midAt_app rfl (by kernel_rfl) (by kernel_rfl) ha2.1 ha2.2.2 ha2.2.1
              · intro vs W2 hb2 hf
                clear HL
                change TStep _ _ _ (Act.put (Act.put (Act.put (Act.put (Act.put _ (some 57) (vs 1)) (some 64) (vs 8)) (some 66) (vs 10)) (some 67) (vs 11)) (some 74) (vs 18)) _ _
                refine tstep_yes (by kernel_rfl) ?_
                go_simp
                exact ⟨(Below.refl _ _).alloc (Nat.le_refl _) _, Blk.new _ _ _⟩
              · intro vs W2 hb2 hf
                have hf := fits_cast (q := (W2.ownsRow w5.heap.size 25 3 (vs 8) (V.take k).length (cvCells (V.take k))) ∧ (∃ B, (vs 10) = .slice (some ⟨B, 0, none⟩) 1 1 ∧ Blk W2 B 25 #[.int .u64 F0, .int .u64 L0, .int .u64 R0]) ∧ True) hf (by kernel_rfl)
                clear HL
                refine Exists.elim hf.2.1 fun B10 hB10 => ?_
                change HStep _ _ _ _ (Act.put (Act.put (Act.put (Act.put (Act.put _ (some 57) (vs 1)) (some 64) (vs 8)) (some 66) (vs 10)) (some 67) (vs 11)) (some 74) (vs 18)) _ _
                have happ := app_more 45 (A := V.take k) (cvat_lit (c := (F0, L0, R0)) hB10.2 hc) hf.1 hb2.size (by have h1 := HSAME.out; have h2 := hfew; simp; try omega)
                refine Exists.elim happ fun v' ha1 => ?_
                refine Exists.elim ha1 fun w' ha2 => ?_
                rw [hB10.1]
                refine hstep_yes (by kernel_rfl) ?_
                exact hotUpon_app rfl (by kernel_rfl) (by kernel_rfl) ha2.1 (hb2.trans ha2.2.2.1) (by simpa using ha2.2.1)
              · intro vs W2 hb2 hf
                have hf := fits_cast (q := (W2.ownsRow w5.heap.size 25 3 (vs 11) (V.take k ++ [(F0, L0, R0)]).length (cvCells (V.take k ++ [(F0, L0, R0)]))) ∧ True) hf (by kernel_rfl)
                clear HL
                change HStep _ _ _ _ (Act.put (Act.put (Act.put (Act.put (Act.put _ (some 57) (vs 1)) (some 64) (vs 8)) (some 66) (vs 10)) (some 67) (vs 11)) (some 74) (vs 18)) _ _
                have happ := app_more 45 (A := V.take k ++ [(F0, L0, R0)]) (cv_drop (H8.out.live.later hb2) hkV) hf.1 hb2.size (by have h1 := HSAME.out; have h2 := hfew; simp; try omega)
                refine Exists.elim happ fun v' ha1 => ?_
                refine Exists.elim ha1 fun w' ha2 => ?_
                refine hstep_yes (by kernel_rfl) ?_
                exact hotUpon_app rfl (by kernel_rfl) (by kernel_rfl) ha2.1 (hb2.trans ha2.2.2.1) (by simpa using ha2.2.1)
              · intro vs W2 hb2 hf
                have hf := fits_cast (q := (W2.ownsRow w5.heap.size 25 3 (vs 18) (V.take k ++ [(F0, L0, R0)] ++ V.drop k).length (cvCells (V.take k ++ [(F0, L0, R0)] ++ V.drop k))) ∧ True) hf (by kernel_rfl)
                clear HL
                change wpList _ _ _ _ (Act.put (Act.put (Act.put (Act.put (Act.put _ (some 57) (vs 1)) (some 64) (vs 8)) (some 66) (vs 10)) (some 67) (vs 11)) (some 74) (vs 18)) _
                refine Exists.elim (owns_slice hf.1) fun b2 x2 => ?_
                refine Exists.elim x2 fun d2 y2 => ?_
                refine Exists.elim (⟨_, rfl⟩ : ∃ n2, (V.take k ++ [(F0, L0, R0)] ++ V.drop k).length = n2) fun n2 hn2 => ?_
                have huv : UU (V.take k ++ [(F0, L0, R0)] ++ V.drop k) := fun d hd => by
                  rcases List.mem_append.1 hd with hd | hd
                  · rcases List.mem_append.1 hd with hd | hd
                    · exact H8.out.live.1 d (List.mem_of_mem_take hd)
                    · simp at hd; subst hd; exact hc
                  · exact H8.out.live.1 d (List.mem_of_mem_drop hd)
                have hv := CvAt.of_owns hf.1 huv (by simp; omega)
                have hbv := fun b hb => (hf.1.lt b hb).1
                rw [hn2] at y2
                rw [y2] at hv hbv ⊢
                have hq6 := H5.out.2.1.below hb2 H5.out.2.1.lt
                have hw6 := H5.out.1.trans (hb2.mono H5.out.1.size)
                have hi6 := H5.out.2.2.1.later hb2
                have hg6 := H5.out.2.2.2.later hb2
                have hq5 : q < w5.heap.size := H5.out.2.1.lt
                have z1 := hq6.frozen 2; have z2 := hq6.cell 2
                have HJ := Lib.hid (And.intro hv (And.intro hbv (And.intro hq6 (And.intro hw6 (And.intro hi6 hg6)))))
                clear hf huv hv hbv hq6 hw6 hi6 hg6 hb2 x2 y2 hn2 o2 p0 p1 p2 H8 H5
                have hgs := grown_setAt W2 q 2 (.slice b2 n2 d2)
                have hi7 := HJ.out.2.2.2.2.1.grown hgs (fun k e e2 => by cases e2; have := HBI.out _ e; omega)
                have hv7 := HJ.out.1.grown hgs (fun k e e2 => by cases e2; have := HJ.out.2.1 _ e; omega)
                have hg7 := HJ.out.2.2.2.2.2.grown hgs (fun k e e2 => by cases e2; have := HQ.out.2.2.2.2.1 _ e; omega)
                have hq7 := HJ.out.2.2.1.set_ 2 (.slice b2 n2 d2)
                have hw7 := HJ.out.2.2.2.1.setCell (p := ⟨q, 2, none⟩) (Nat.le_of_lt hqw) (.slice b2 n2 d2)
                have hfin : RwW w r I V G id (F0, L0, R0) (.returned (.pointer (some ⟨q, 0, none⟩))) (W2.setCell ⟨q, 2, none⟩ (.slice b2 n2 d2)) := .inr ⟨HZ.out, k, hk, HLOW.out, HGE.out, q, _, _, _, rfl, ⟨by simpa using hq7, hi7, hv7, hg7, by have := HSAME.out; simp; omega, by simp; omega⟩, Nat.le_of_lt hqw, hw7, HQ.out.2.2.2.2.1, fun b hb => Nat.le_trans HLO5.out (HJ.out.2.1 b hb), fun b hb => by have := HQ.out.2.2.2.2.2.2.1 b hb; simp at this; omega, fun b hb => by have := HBI.out b hb; omega⟩
                have HF := Lib.hid hfin
                clear hgs hi7 hv7 hg7 hq7 hw7 hfin
                simp only [List.drop_succ_cons, List.drop_zero, List.take_succ_cons, List.take_zero]
                go_wp2_with fail
                all_goals go_ret
                all_goals exact HF.out
        · have hge : ∀ y, I[k]? = some y → id ≤ y := fun y hy => absurd (List.getElem?_eq_some_iff.1 hy).1 hlt
          have HGE := Lib.hid hge
          clear hge
          go_upto_region 7 with fail
          clear y1
          obtain ⟨w0, rfl⟩ : ∃ w', w' = wr := ⟨_, rfl⟩
          have h0 := HP3.out
          have l0 := h0.blk.lt
          have o1 := fun e => (over_cell (w := w0) (e := e) (o := 1) l0).trans (h0.blk.cell 1)
          simp only [List.getElem?_toArray, List.getElem?_cons_zero, List.getElem?_cons_succ] at o1
          have hkc := int_cap h0.ids hk
          have hkV : k ≤ V.length := by have := HSAME.out; omega
          have hkl := cv_cap h0.live hkV
          have H0 := Lib.hid h0
          clear h0
          refine wp_region_hot (w := w0) 21 1 [1, 8, 10, 11, 18] [] [(1, fun u W' => ∃ g, u = .slice (some ⟨g, 0, none⟩) 0 0 ∧ W'.ownsRow w0.heap.size 3 1 u 0 []), (8, fun u W' => W'.ownsRow w0.heap.size 3 1 u (I.take k).length ((I.take k).map (Value.int .i64))), (10, fun u W' => ∃ B, u = .slice (some ⟨B, 0, none⟩) 1 1 ∧ Blk W' B 3 #[.int .i64 id]), (11, fun u W' => W'.ownsRow w0.heap.size 3 1 u (I.take k ++ [id]).length ((I.take k ++ [id]).map (Value.int .i64))), (18, fun u W' => W'.ownsRow w0.heap.size 3 1 u (I.take k ++ [id] ++ I.drop k).length ((I.take k ++ [id] ++ I.drop k).map (Value.int .i64)))] [(1, 8), (8, 11), (10, 11), (11, 18)] [11, 18] [] rfl (by decide) (by decide) (by kernel_rfl) (by kernel_rfl) (by kernel_rfl) (by kernel_rfl) (by kernel_rfl) (fun _ _ _ _ _ h => h) ⟨fun v W1 W2 ⟨b, h1, h2⟩ hb => ⟨b, h1, owns_later h2 hb⟩, fun v W1 W2 h hb => owns_later h hb, fun v W1 W2 ⟨b, h1, h2⟩ hb => ⟨b, h1, h2.below hb h2.lt⟩, fun v W1 W2 h hb => owns_later h hb, fun v W1 W2 h hb => owns_later h hb, trivial⟩ ⟨fun h => by simp at h, fun h => by simp at h, fun h => by simp at h, fun h => by simp at h, fun h => by simp at h, trivial⟩ ?_
          intro LL hL
          have HL := Lib.hid hL
          clear hL
          simp only [List.take_succ_cons, List.take_zero, putL]
          iterate 21 (first | refine wpHead_skip (by decide) ?_ | (refine wpHead_step (by decide) (fun K hK => ?_); go_simp; refine hK _ ?_; clear hK K))
          refine wpHead_nil (HL.out _ ⟨?_, ?_, ?_, ?_, ?_, trivial⟩ ?_)
          · intro vs W2 hb2 hf
            clear HL
            change TStep _ _ _ (Act.put (Act.put (Act.put (Act.put (Act.put _ (some 36) (vs 1)) (some 43) (vs 8)) (some 45) (vs 10)) (some 46) (vs 11)) (some 53) (vs 18)) _ _
            refine tstep_yes (by kernel_rfl) ?_
            go_simp
            exact ⟨(Below.refl _ _).alloc (Nat.le_refl _) _, World.ownsRow_made (base := w0.heap.size) (e := 3) (size := 1) W2 #[] 0 hb2.size (by decide) rfl⟩
          · intro vs W2 hb2 hf
            have hf := fits_cast (q := (∃ g, (vs 1) = .slice (some ⟨g, 0, none⟩) 0 0 ∧ W2.ownsRow w0.heap.size 3 1 (vs 1) 0 []) ∧ True) hf (by kernel_rfl)
            clear HL
            refine Exists.elim hf.1 fun B1 hB1 => ?_
            change TStep _ _ _ (Act.put (Act.put (Act.put (Act.put (Act.put _ (some 36) (vs 1)) (some 43) (vs 8)) (some 45) (vs 10)) (some 46) (vs 11)) (some 53) (vs 18)) _ _
            have hown := hB1.2
            rw [hB1.1] at hown
            have happ := app_ints0 44 (int_take (H0.out.ids.later hb2) hk) hown hb2.size
            refine Exists.elim happ fun v' ha1 => ?_
            refine Exists.elim ha1 fun w' ha2 => ?_
            rw [hB1.1]
            refine tstep_yes (by kernel_rfl) ?_
            exact midAt_app rfl (by kernel_rfl) (by kernel_rfl) ha2.1 ha2.2.2 ha2.2.1
          · intro vs W2 hb2 hf
            clear HL
            change TStep _ _ _ (Act.put (Act.put (Act.put (Act.put (Act.put _ (some 36) (vs 1)) (some 43) (vs 8)) (some 45) (vs 10)) (some 46) (vs 11)) (some 53) (vs 18)) _ _
            refine tstep_yes (by kernel_rfl) ?_
            go_simp
            exact ⟨(Below.refl _ _).alloc (Nat.le_refl _) _, Blk.new _ _ _⟩
          · intro vs W2 hb2 hf
            have hf := fits_cast (q := (W2.ownsRow w0.heap.size 3 1 (vs 8) (I.take k).length ((I.take k).map (Value.int .i64))) ∧ (∃ B, (vs 10) = .slice (some ⟨B, 0, none⟩) 1 1 ∧ Blk W2 B 3 #[.int .i64 id]) ∧ True) hf (by kernel_rfl)
            clear HL
            refine Exists.elim hf.2.1 fun B10 hB10 => ?_
            change HStep _ _ _ _ (Act.put (Act.put (Act.put (Act.put (Act.put _ (some 36) (vs 1)) (some 43) (vs 8)) (some 45) (vs 10)) (some 46) (vs 11)) (some 53) (vs 18)) _ _
            have happ := app_ints 44 (A := I.take k) (int_lit hB10.2) hf.1 hb2.size (by have h1 := HSAME.out; have h2 := hfew; simp; try omega)
            refine Exists.elim happ fun v' ha1 => ?_
            refine Exists.elim ha1 fun w' ha2 => ?_
            rw [hB10.1]
            refine hstep_yes (by kernel_rfl) ?_
            exact hotUpon_app rfl (by kernel_rfl) (by kernel_rfl) ha2.1 (hb2.trans ha2.2.2.1) (by simpa using ha2.2.1)
          · intro vs W2 hb2 hf
            have hf := fits_cast (q := (W2.ownsRow w0.heap.size 3 1 (vs 11) (I.take k ++ [id]).length ((I.take k ++ [id]).map (Value.int .i64))) ∧ True) hf (by kernel_rfl)
            clear HL
            change HStep _ _ _ _ (Act.put (Act.put (Act.put (Act.put (Act.put _ (some 36) (vs 1)) (some 43) (vs 8)) (some 45) (vs 10)) (some 46) (vs 11)) (some 53) (vs 18)) _ _
            have happ := app_ints 44 (A := I.take k ++ [id]) (int_drop (H0.out.ids.later hb2) hk) hf.1 hb2.size (by have h1 := HSAME.out; have h2 := hfew; simp; try omega)
            refine Exists.elim happ fun v' ha1 => ?_
            refine Exists.elim ha1 fun w' ha2 => ?_
            refine hstep_yes (by kernel_rfl) ?_
            exact hotUpon_app rfl (by kernel_rfl) (by kernel_rfl) ha2.1 (hb2.trans ha2.2.2.1) (by simpa using ha2.2.1)
          · intro vs W2 hb2 hf
            have hf := fits_cast (q := (W2.ownsRow w0.heap.size 3 1 (vs 18) (I.take k ++ [id] ++ I.drop k).length ((I.take k ++ [id] ++ I.drop k).map (Value.int .i64))) ∧ True) hf (by kernel_rfl)
            clear HL
            change wpList _ _ _ _ (Act.put (Act.put (Act.put (Act.put (Act.put _ (some 36) (vs 1)) (some 43) (vs 8)) (some 45) (vs 10)) (some 46) (vs 11)) (some 53) (vs 18)) _
            refine Exists.elim (owns_slice hf.1) fun b1 x1 => ?_
            refine Exists.elim x1 fun d1 y1 => ?_
            refine Exists.elim (⟨_, rfl⟩ : ∃ n1, (I.take k ++ [id] ++ I.drop k).length = n1) fun n1 hn1 => ?_
            rw [hn1] at y1
            have hi := IntAt.of_owns hf.1 (by have h1 := HSAME.out; simp; omega)
            have hbi := fun b hb => (hf.1.lt b hb).1
            rw [y1] at hi hbi ⊢
            have hq2 := HQ.out.1.blk.below hb2 HQ.out.1.blk.lt
            have hg2 := HQ.out.1.gh.later hb2
            have hw2 := HQ.out.2.2.1.trans (hb2.mono HQ.out.2.2.1.size)
            have hc2 := HQ.out.2.2.2.1.below hb2 HQ.out.2.2.2.1.lt
            have z1 := hq2.frozen 1; have z2 := hq2.cell 1
            have HI := Lib.hid (And.intro hi (And.intro hbi (And.intro hq2 (And.intro hg2 (And.intro hw2 hc2))))); have HB2 := Lib.hid hb2
            clear hf hi hbi hq2 hg2 hw2 hc2 hb2 x1 y1 o1 l0
            simp only [List.drop_succ_cons, List.drop_zero, List.take_succ_cons, List.take_zero]
            go_upto_region 8 with fail
            clear z1 z2
            clear hn1 H0
            have hqw : w.heap.size < q := by have := HQ.out.2.1; simp at this; omega
            have hq0 : q < w0.heap.size := HQ.out.1.blk.lt
            have hw3 := HI.out.2.2.2.2.1.setCell (p := ⟨q, 1, none⟩) (Nat.le_of_lt hqw) (.slice b1 n1 d1)
            have hq3 := HI.out.2.2.1.set_ 1 (.slice b1 n1 d1)
            have hgs := grown_setAt W2 q 1 (.slice b1 n1 d1)
            have hi3 := HI.out.1.grown hgs (fun k e e2 => by cases e2; have := HI.out.2.1 _ e; omega)
            have hg3 := HI.out.2.2.2.1.grown hgs (fun k e e2 => by cases e2; have := HQ.out.2.2.2.2.1 _ e; omega)
            have hc3 := HI.out.2.2.2.2.2.far (p := ⟨q, 1, none⟩) (by show w.heap.size ≠ q; omega) (.slice b1 n1 d1)
            generalize W2.setCell ⟨q, 1, none⟩ (.slice b1 n1 d1) = w5 at hw3 hq3 hi3 hg3 hc3 ⊢
            have HLO5 := Lib.hid hw3.size
            have h8 := H.out.later hw3
            have l5 := h8.blk.lt; have l6 := hc3.lt
            have o2 := fun e => (over_cell (w := w5) (e := e) (o := 2) l5).trans (h8.blk.cell 2)
            have p0 := fun e => (over_cell (w := w5) (e := e) (o := 0) l6).trans (hc3.cell 0)
            have p1 := fun e => (over_cell (w := w5) (e := e) (o := 1) l6).trans (hc3.cell 1)
            have p2 := fun e => (over_cell (w := w5) (e := e) (o := 2) l6).trans (hc3.cell 2)
            simp only [List.getElem?_toArray, List.getElem?_cons_zero, List.getElem?_cons_succ] at o2 p0 p1 p2
            have H8 := Lib.hid h8; have H5 := Lib.hid (And.intro hw3 (And.intro hq3 (And.intro hi3 hg3)))
            have HBI := Lib.hid HI.out.2.1
            clear h8 hw3 hq3 hi3 hg3 hc3 hgs HI HB2 l5 l6
            refine wp_region_hot (w := w5) 21 1 [1, 8, 10, 11, 18] [] [(1, fun u W' => ∃ g, u = .slice (some ⟨g, 0, none⟩) 0 0 ∧ W'.ownsRow w5.heap.size 25 3 u 0 []), (8, fun u W' => W'.ownsRow w5.heap.size 25 3 u (V.take k).length (cvCells (V.take k))), (10, fun u W' => ∃ B, u = .slice (some ⟨B, 0, none⟩) 1 1 ∧ Blk W' B 25 #[.int .u64 F0, .int .u64 L0, .int .u64 R0]), (11, fun u W' => W'.ownsRow w5.heap.size 25 3 u (V.take k ++ [(F0, L0, R0)]).length (cvCells (V.take k ++ [(F0, L0, R0)]))), (18, fun u W' => W'.ownsRow w5.heap.size 25 3 u (V.take k ++ [(F0, L0, R0)] ++ V.drop k).length (cvCells (V.take k ++ [(F0, L0, R0)] ++ V.drop k)))] [(1, 8), (8, 11), (10, 11), (11, 18)] [11, 18] [] rfl (by decide) (by decide) (by kernel_rfl) (by kernel_rfl) (by kernel_rfl) (by kernel_rfl) (by kernel_rfl) (fun _ _ _ _ _ h => h) ⟨fun v W1 W2 ⟨b, h1, h2⟩ hb => ⟨b, h1, owns_later h2 hb⟩, fun v W1 W2 h hb => owns_later h hb, fun v W1 W2 ⟨b, h1, h2⟩ hb => ⟨b, h1, h2.below hb h2.lt⟩, fun v W1 W2 h hb => owns_later h hb, fun v W1 W2 h hb => owns_later h hb, trivial⟩ ⟨fun h => by simp at h, fun h => by simp at h, fun h => by simp at h, fun h => by simp at h, fun h => by simp at h, trivial⟩ ?_
            intro LL hL
            have HL := Lib.hid hL
            clear hL
            simp only [List.take_succ_cons, List.take_zero, putL]
            iterate 21 (first | refine wpHead_skip (by decide) ?_ | (refine wpHead_step (by decide) (fun K hK => ?_); go_simp; refine hK _ ?_; clear hK K))
            refine wpHead_nil (HL.out _ ⟨?_, ?_, ?_, ?_, ?_, trivial⟩ ?_)
            · intro vs W2 hb2 hf
              clear HL
              change TStep _ _ _ (Act.put (Act.put (Act.put (Act.put (Act.put _ (some 57) (vs 1)) (some 64) (vs 8)) (some 66) (vs 10)) (some 67) (vs 11)) (some 74) (vs 18)) _ _
              refine tstep_yes (by kernel_rfl) ?_
              go_simp
              exact ⟨(Below.refl _ _).alloc (Nat.le_refl _) _, World.ownsRow_made (base := w5.heap.size) (e := 25) (size := 3) W2 #[] 0 hb2.size (by decide) rfl⟩
            · intro vs W2 hb2 hf
              have hf := fits_cast (q := (∃ g, (vs 1) = .slice (some ⟨g, 0, none⟩) 0 0 ∧ W2.ownsRow w5.heap.size 25 3 (vs 1) 0 []) ∧ True) hf (by kernel_rfl)
              clear HL
              refine Exists.elim hf.1 fun B1 hB1 => ?_
              change TStep _ _ _ (Act.put (Act.put (Act.put (Act.put (Act.put _ (some 57) (vs 1)) (some 64) (vs 8)) (some 66) (vs 10)) (some 67) (vs 11)) (some 74) (vs 18)) _ _
              have hown := hB1.2
              rw [hB1.1] at hown
              have happ := app_all 45 (cv_take (H8.out.live.later hb2) hkV) hown hb2.size
              refine Exists.elim happ fun v' ha1 => ?_
              refine Exists.elim ha1 fun w' ha2 => ?_
              rw [hB1.1]
              refine tstep_yes (by kernel_rfl) ?_
              exact midAt_app rfl (by kernel_rfl) (by kernel_rfl) ha2.1 ha2.2.2 ha2.2.1
            · intro vs W2 hb2 hf
              clear HL
              change TStep _ _ _ (Act.put (Act.put (Act.put (Act.put (Act.put _ (some 57) (vs 1)) (some 64) (vs 8)) (some 66) (vs 10)) (some 67) (vs 11)) (some 74) (vs 18)) _ _
              refine tstep_yes (by kernel_rfl) ?_
              go_simp
              exact ⟨(Below.refl _ _).alloc (Nat.le_refl _) _, Blk.new _ _ _⟩
            · intro vs W2 hb2 hf
              have hf := fits_cast (q := (W2.ownsRow w5.heap.size 25 3 (vs 8) (V.take k).length (cvCells (V.take k))) ∧ (∃ B, (vs 10) = .slice (some ⟨B, 0, none⟩) 1 1 ∧ Blk W2 B 25 #[.int .u64 F0, .int .u64 L0, .int .u64 R0]) ∧ True) hf (by kernel_rfl)
              clear HL
              refine Exists.elim hf.2.1 fun B10 hB10 => ?_
              change HStep _ _ _ _ (Act.put (Act.put (Act.put (Act.put (Act.put _ (some 57) (vs 1)) (some 64) (vs 8)) (some 66) (vs 10)) (some 67) (vs 11)) (some 74) (vs 18)) _ _
              have happ := app_more 45 (A := V.take k) (cvat_lit (c := (F0, L0, R0)) hB10.2 hc) hf.1 hb2.size (by have h1 := HSAME.out; have h2 := hfew; simp; try omega)
              refine Exists.elim happ fun v' ha1 => ?_
              refine Exists.elim ha1 fun w' ha2 => ?_
              rw [hB10.1]
              refine hstep_yes (by kernel_rfl) ?_
              exact hotUpon_app rfl (by kernel_rfl) (by kernel_rfl) ha2.1 (hb2.trans ha2.2.2.1) (by simpa using ha2.2.1)
            · intro vs W2 hb2 hf
              have hf := fits_cast (q := (W2.ownsRow w5.heap.size 25 3 (vs 11) (V.take k ++ [(F0, L0, R0)]).length (cvCells (V.take k ++ [(F0, L0, R0)]))) ∧ True) hf (by kernel_rfl)
              clear HL
              change HStep _ _ _ _ (Act.put (Act.put (Act.put (Act.put (Act.put _ (some 57) (vs 1)) (some 64) (vs 8)) (some 66) (vs 10)) (some 67) (vs 11)) (some 74) (vs 18)) _ _
              have happ := app_more 45 (A := V.take k ++ [(F0, L0, R0)]) (cv_drop (H8.out.live.later hb2) hkV) hf.1 hb2.size (by have h1 := HSAME.out; have h2 := hfew; simp; try omega)
              refine Exists.elim happ fun v' ha1 => ?_
              refine Exists.elim ha1 fun w' ha2 => ?_
              refine hstep_yes (by kernel_rfl) ?_
              exact hotUpon_app rfl (by kernel_rfl) (by kernel_rfl) ha2.1 (hb2.trans ha2.2.2.1) (by simpa using ha2.2.1)
            · intro vs W2 hb2 hf
              have hf := fits_cast (q := (W2.ownsRow w5.heap.size 25 3 (vs 18) (V.take k ++ [(F0, L0, R0)] ++ V.drop k).length (cvCells (V.take k ++ [(F0, L0, R0)] ++ V.drop k))) ∧ True) hf (by kernel_rfl)
              clear HL
              change wpList _ _ _ _ (Act.put (Act.put (Act.put (Act.put (Act.put _ (some 57) (vs 1)) (some 64) (vs 8)) (some 66) (vs 10)) (some 67) (vs 11)) (some 74) (vs 18)) _
              refine Exists.elim (owns_slice hf.1) fun b2 x2 => ?_
              refine Exists.elim x2 fun d2 y2 => ?_
              refine Exists.elim (⟨_, rfl⟩ : ∃ n2, (V.take k ++ [(F0, L0, R0)] ++ V.drop k).length = n2) fun n2 hn2 => ?_
              have huv : UU (V.take k ++ [(F0, L0, R0)] ++ V.drop k) := fun d hd => by
                rcases List.mem_append.1 hd with hd | hd
                · rcases List.mem_append.1 hd with hd | hd
                  · exact H8.out.live.1 d (List.mem_of_mem_take hd)
                  · simp at hd; subst hd; exact hc
                · exact H8.out.live.1 d (List.mem_of_mem_drop hd)
              have hv := CvAt.of_owns hf.1 huv (by simp; omega)
              have hbv := fun b hb => (hf.1.lt b hb).1
              rw [hn2] at y2
              rw [y2] at hv hbv ⊢
              have hq6 := H5.out.2.1.below hb2 H5.out.2.1.lt
              have hw6 := H5.out.1.trans (hb2.mono H5.out.1.size)
              have hi6 := H5.out.2.2.1.later hb2
              have hg6 := H5.out.2.2.2.later hb2
              have hq5 : q < w5.heap.size := H5.out.2.1.lt
              have z1 := hq6.frozen 2; have z2 := hq6.cell 2
              have HJ := Lib.hid (And.intro hv (And.intro hbv (And.intro hq6 (And.intro hw6 (And.intro hi6 hg6)))))
              clear hf huv hv hbv hq6 hw6 hi6 hg6 hb2 x2 y2 hn2 o2 p0 p1 p2 H8 H5
              have hgs := grown_setAt W2 q 2 (.slice b2 n2 d2)
              have hi7 := HJ.out.2.2.2.2.1.grown hgs (fun k e e2 => by cases e2; have := HBI.out _ e; omega)
              have hv7 := HJ.out.1.grown hgs (fun k e e2 => by cases e2; have := HJ.out.2.1 _ e; omega)
              have hg7 := HJ.out.2.2.2.2.2.grown hgs (fun k e e2 => by cases e2; have := HQ.out.2.2.2.2.1 _ e; omega)
              have hq7 := HJ.out.2.2.1.set_ 2 (.slice b2 n2 d2)
              have hw7 := HJ.out.2.2.2.1.setCell (p := ⟨q, 2, none⟩) (Nat.le_of_lt hqw) (.slice b2 n2 d2)
              have hfin : RwW w r I V G id (F0, L0, R0) (.returned (.pointer (some ⟨q, 0, none⟩))) (W2.setCell ⟨q, 2, none⟩ (.slice b2 n2 d2)) := .inr ⟨HZ.out, k, hk, HLOW.out, HGE.out, q, _, _, _, rfl, ⟨by simpa using hq7, hi7, hv7, hg7, by have := HSAME.out; simp; omega, by simp; omega⟩, Nat.le_of_lt hqw, hw7, HQ.out.2.2.2.2.1, fun b hb => Nat.le_trans HLO5.out (HJ.out.2.1 b hb), fun b hb => by have := HQ.out.2.2.2.2.2.2.1 b hb; simp at this; omega, fun b hb => by have := HBI.out b hb; omega⟩
              have HF := Lib.hid hfin
              clear hgs hi7 hv7 hg7 hq7 hw7 hfin
              simp only [List.drop_succ_cons, List.drop_zero, List.take_succ_cons, List.take_zero]
              go_wp2_with fail
              all_goals go_ret
              all_goals exact HF.out
end Go.Proofs.YthmhboagbeibdaaGreat
/-
  The document's book of curves: New, at, Put, Fits.
-/
namespace Go.Proofs.YthmhboagbeibdaaGreat
set_option linter.unusedVariables false
open Go.RowKit

theorem keep_congr {l k : List Cv} {r : Int} (e : ∀ t, vS l t = vS k t) : Keep l r ↔ Keep k r := by
  unfold Keep Lt; simp only [e]
theorem keep_ins {G A B : List Cv} {c : Cv} {r : Int} : Keep ((A ++ [c] ++ B) ++ G) r ↔ Keep ((G ++ (A ++ B)) ++ [c]) r :=
  keep_congr fun t => by simp only [vS_append]; omega

theorem look_iff {α : Type} {k : Int} {L : List (Int × α)} : (lookM L k).isSome = true ↔ k ∈ L.map (·.1) := by
  constructor
  · intro h
    apply Classical.byContradiction
    intro hn
    rw [look_none.2 fun p hp e => hn (List.mem_map.2 ⟨p, hp, e⟩)] at h
    cases h
  · intro h
    cases hl : lookM L k with
    | some v => rfl
    | none =>
      obtain ⟨p, hp, e⟩ := List.mem_map.1 h
      exact absurd e (look_none.1 hl p hp)
theorem putM_split {α : Type} {id : Int} {c : α} : ∀ {L : List (Int × α)} {k : Nat}, id ∉ L.map (·.1) → k ≤ L.length → (∀ x ∈ (L.map (·.1)).take k, x < id) → (∀ x, (L.map (·.1))[k]? = some x → id ≤ x) → putM L id c = L.take k ++ [(id, c)] ++ L.drop k
  | [], k, _, hk, _, _ => by simp at hk; subst hk; rfl
  | p :: r, k, hn, hk, h1, h2 => by
    have hne : p.1 ≠ id := fun e => hn (by simp [e])
    cases k with
    | zero =>
      have := h2 p.1 (by simp)
      unfold putM
      rw [if_pos (by omega)]
      rfl
    | succ k =>
      have hlt := h1 p.1 (by simp)
      have ih := putM_split (c := c) (L := r) (k := k) (fun h => hn (by simp at h ⊢; exact .inr h)) (by simpa using hk) (fun x hx => h1 x (by rw [List.map_cons, List.take_succ_cons]; exact List.mem_cons_of_mem _ hx)) (fun x hx => h2 x (by simpa using hx))
      unfold putM
      rw [if_neg (by omega), if_neg (by omega), ih]
      rfl

set_option maxRecDepth 100000 in
theorem rat_any (id : Int) (p : Nat) (r : Int) (I : List Int) (V G : List Cv) (vi vl vg : Value) (w : World) (h : RbAt w p r I V G vi vl vg) :
    Calls Tryz.prog 23 #[.pointer (some ⟨p, 0, none⟩), .int .i64 id] w fun e w' => (∃ n : Int, e = .returned (.int .i64 n) ∧ (0 ≤ n ↔ id ∈ I)) ∧ Below w.heap.size w w' := by
  obtain ⟨ai, ci, rfl⟩ : ∃ a cap, vi = .slice a I.length cap := by obtain ⟨_, a, cap, e, _⟩ := h.ids; exact ⟨a, cap, e⟩
  have hIl : I.length ≤ 100000 := by have h1 := h.same; have h2 := h.few; omega
  have y1 := h.blk.cell 1
  simp only [List.getElem?_toArray, List.getElem?_cons_zero, List.getElem?_cons_succ] at y1
  have H := Lib.hid h
  clear h
  go_enter Tryz.func23, Tryz.ntmps23
  go_wp2_with fail
  go_loopw [5] (fun v5 W => ∃ k : Nat, v5 = .int .i64 k ∧ k ≤ I.length ∧ W = w ∧ id ∉ I.take k) (fun v5 _ => (I.length - Go.RowKit.intOf v5).toNat)
  case atStart => exact ⟨0, rfl, Nat.zero_le _, rfl, by simp⟩
  case round =>
    obtain ⟨k, rfl, hk, rfl, hno⟩ := hrel
    have HNO := Lib.hid hno
    clear hno
    by_cases hlt : k < I.length
    · obtain ⟨x, hx⟩ : ∃ x, I[k]? = some x := ⟨_, List.getElem?_eq_getElem hlt⟩
      obtain ⟨b, off, hab, hcx⟩ : ∃ b off, ai = some ⟨b, off, none⟩ ∧ wr.cell? ⟨b, off + k, none⟩ = some (.int .i64 x) := by
        obtain ⟨_, a', cap', e, h3⟩ := H.out.ids
        cases e
        rcases h3 with h3 | ⟨b, off, rfl, _, _, hcc⟩
        · rw [h3] at hlt; simp at hlt
        · exact ⟨b, off, rfl, hcc k x hx⟩
      subst hab
      have hT : I.take (k + 1) = I.take k ++ [x] := by rw [List.take_add_one, hx]; rfl
      have HT := Lib.hid hT; have HX := Lib.hid hx
      clear hT hx
      by_cases hxi : x = id
      · subst hxi
        go_wp2_with fail
        go_ret
        exact ⟨⟨k, rfl, ⟨fun _ => List.mem_of_getElem? HX.out, fun _ => by omega⟩⟩, Below.refl _ _⟩
      · have hxb : (x == id) = false := by simpa using hxi
        go_wp2_with fail
        go_roundw
        case measure => (simp [Go.RowKit.intOf]; try omega)
        case rel =>
          refine ⟨k + 1, by go_num, by omega, by first | rfl | trivial, fun hm => ?_⟩
          rw [HT.out] at hm
          rcases List.mem_append.1 hm with hm | hm
          · exact HNO.out hm
          · simp at hm; exact hxi hm.symm
    · obtain rfl : k = I.length := by omega
      go_wp2_with fail
      go_ret
      refine ⟨⟨-1, rfl, ⟨fun h => by omega, fun h => absurd h (by have := HNO.out; rwa [List.take_length] at this)⟩⟩, Below.refl _ _⟩

def Rput2W (w : World) (r : Int) (L : List (Int × Cv)) (G : List Cv) (vi0 vl0 vg0 : Value) (id : Int) (c : Cv) (e : Ending) (w' : World) : Prop :=
  ∃ p' vi vl vg, e = .returned (.tuple #[.pointer (some ⟨p', 0, none⟩), .int .i64 (putC L G id c r)]) ∧ RbAt w' p' r ((putBk L G id c r).map (·.1)) ((putBk L G id c r).map (·.2)) G vi vl vg ∧ Below w.heap.size w w' ∧ FrX w (L.map (·.1)) (L.map (·.2)) G vi0 vl0 vg0 ((putBk L G id c r).map (·.1)) ((putBk L G id c r).map (·.2)) G vi vl vg

set_option maxRecDepth 100000 in
set_option maxHeartbeats 4000000 in
theorem rput2_any (F0 L0 R0 id : Int) (p : Nat) (r : Int) (L : List (Int × Cv)) (G : List Cv) (vi vl vg : Value) (w : World) (hc : U F0 ∧ U L0 ∧ U R0) (hr : U r) (h : RbAt w p r (L.map (·.1)) (L.map (·.2)) G vi vl vg) (hfl : L.length + G.length < 100000) :
    Calls Tryz.prog 8 #[.pointer (some ⟨p, 0, none⟩), .int .i64 id, .agg #[.int .u64 F0, .int .u64 L0, .int .u64 R0]] w (Rput2W w r L G vi vl vg id (F0, L0, R0)) := by
  have hmay := fun W => rmay_any F0 L0 R0 W hc.2.1.1
  rw [show mayB F0 L0 R0 = okC (F0, L0, R0) from rfl] at hmay
  have hb0 := (Below.refl w.heap.size w).alloc (Nat.le_refl _) (.cells #[.int .u64 F0, .int .u64 L0, .int .u64 R0] 25)
  have hB0 := Blk.new w 25 #[.int .u64 F0, .int .u64 L0, .int .u64 R0]
  have H := Lib.hid h; have HB := Lib.hid (And.intro hb0 hB0); have HM := Lib.hid hmay
  clear h hmay
  go_enter Tryz.func8, Tryz.ntmps8
  clear hb0 hB0
  go_wp2_with fail
  refine (HM.out _).mono ?_
  rintro e w2 ⟨rfl, hb2⟩
  have hbw2 := HB.out.1.trans (hb2.mono HB.out.1.size)
  have hB2 := HB.out.2.below hb2 HB.out.2.lt
  have HB2 := Lib.hid (And.intro hbw2 hB2)
  clear hb2 hbw2 hB2 HB
  cases ok : okC (F0, L0, R0)
  · have HOK := Lib.hid ok
    clear ok
    go_wp2_with fail
    go_ret2
    have e1 : putC L G id (F0, L0, R0) r = 30 := by unfold putC; rw [if_pos HOK.out]
    refine ⟨p, vi, vl, vg, by rw [e1]; rfl, ?_, HB2.out.1, by unfold putBk; rw [e1, if_neg (by simp)]; exact FrX.same rfl rfl rfl⟩
    unfold putBk
    rw [e1, if_neg (by simp)]
    exact H.out.later HB2.out.1
  · have HOK := Lib.hid ok
    clear ok
    have hat := rat_any id p r _ _ _ _ _ _ w2 (H.out.later HB2.out.1)
    go_wp2_with fail
    refine hat.mono ?_
    clear hat
    rintro e w3 ⟨⟨n, rfl, hn⟩, hb3⟩
    have hbw3 := HB2.out.1.trans (hb3.mono HB2.out.1.size)
    have hB3 := HB2.out.2.below hb3 HB2.out.2.lt
    by_cases hn0 : 0 ≤ n
    · have hs : (lookM L id).isSome = true := look_iff.2 (hn.1 hn0)
      have HS := Lib.hid hs; have HB3 := Lib.hid hbw3
      clear hs hb3 hbw3 hB3 hn
      go_wp2_with fail
      go_ret2
      have e1 : putC L G id (F0, L0, R0) r = 80 := by unfold putC; rw [if_neg (by rw [HOK.out]; simp), if_pos HS.out]
      refine ⟨p, vi, vl, vg, by rw [e1]; rfl, ?_, HB3.out, by unfold putBk; rw [e1, if_neg (by simp)]; exact FrX.same rfl rfl rfl⟩
      unfold putBk
      rw [e1, if_neg (by simp)]
      exact H.out.later HB3.out
    · have hmem : id ∉ L.map (·.1) := fun h => hn0 (hn.2 h)
      have hs : ¬ (lookM L id).isSome = true := fun h => hmem (look_iff.1 h)
      have hwi := rwith_any F0 L0 R0 id p r _ _ _ _ _ _ w3 hc (H.out.later hbw3) (by simpa using hfl)
      have c0 := hB3.cell 0; have c1 := hB3.cell 1; have c2 := hB3.cell 2
      simp only [List.getElem?_toArray, List.getElem?_cons_zero, List.getElem?_cons_succ] at c0 c1 c2
      have HS := Lib.hid hs; have HME := Lib.hid hmem; have HB3 := Lib.hid (And.intro hbw3 hB3)
      clear hs hb3 hbw3 hB3 hn hmem
      go_wp2_with fail
      clear c0 c1 c2
      refine hwi.mono ?_
      clear hwi
      rintro e w4 hw4
      by_cases hz : (F0, L0, R0) = ((0, 0, 0) : Cv)
      · rcases hw4 with ⟨_, q, vi1, vl1, vg1, rfl, hq, hqs, hb4, hvg⟩ | ⟨hne, _⟩
        · have HLO := Lib.hid (show (∀ b, vl1.ownBlock = some b → w.heap.size ≤ b) ∧ (∀ b, vg1.ownBlock = some b → w.heap.size ≤ b) ∧ (∀ b, vi1.ownBlock = some b → w.heap.size ≤ b) from ⟨fun b hb => Nat.le_trans HB3.out.1.size (hvg.2.1 b hb), fun b hb => Nat.le_trans HB3.out.1.size (hvg.2.2.1 b hb), fun b hb => Nat.le_trans HB3.out.1.size (hvg.2.2.2 b hb)⟩)
          have hbw4 := HB3.out.1.trans (hb4.mono HB3.out.1.size)
          have hB4 := HB3.out.2.below hb4 HB3.out.2.lt
          have c0 := hB4.cell 0; have c1 := hB4.cell 1; have c2 := hB4.cell 2
          simp only [List.getElem?_toArray, List.getElem?_cons_zero, List.getElem?_cons_succ] at c0 c1 c2
          have HQ := Lib.hid hq; have HB4 := Lib.hid hbw4
          clear hq hqs hb4 hvg hbw4 hB4
          have hz2 := hz
          simp only [Prod.mk.injEq] at hz2
          obtain ⟨rfl, rfl, rfl⟩ := hz2
          go_wp2_with fail
          go_ret2
          have e1 : putC L G id (0, 0, 0) r = 0 := by unfold putC; rw [if_neg (by rw [HOK.out]; simp), if_neg HS.out, if_neg (by unfold askB; simp)]
          refine ⟨q, vi1, vl1, vg1, by rw [e1]; rfl, ?_, HB4.out, FrX.new HLO.out.2.2 HLO.out.1 HLO.out.2.1⟩
          unfold putBk
          rw [if_neg (by simp)]
          exact HQ.out
        · exact absurd hz hne
      · rcases hw4 with ⟨h0, _⟩ | ⟨_, k, hk, hlo, hhi, q, vi1, vl1, vg1, rfl, hq, hqs, hb4, hvg⟩
        · exact absurd h0 hz
        · have HLO := Lib.hid (show (∀ b, vl1.ownBlock = some b → w.heap.size ≤ b) ∧ (∀ b, vg1.ownBlock = some b → w.heap.size ≤ b) ∧ (∀ b, vi1.ownBlock = some b → w.heap.size ≤ b) from ⟨fun b hb => Nat.le_trans HB3.out.1.size (hvg.2.1 b hb), fun b hb => Nat.le_trans HB3.out.1.size (hvg.2.2.1 b hb), fun b hb => Nat.le_trans HB3.out.1.size (hvg.2.2.2 b hb)⟩)
          have hbw4 := HB3.out.1.trans (hb4.mono HB3.out.1.size)
          have hB4 := HB3.out.2.below hb4 HB3.out.2.lt
          have c0 := hB4.cell 0; have c1 := hB4.cell 1; have c2 := hB4.cell 2
          simp only [List.getElem?_toArray, List.getElem?_cons_zero, List.getElem?_cons_succ] at c0 c1 c2
          have hsp := putM_split (c := (F0, L0, R0)) HME.out (by simpa using hk) hlo hhi
          have hi : (L.map (·.1)).take k ++ [id] ++ (L.map (·.1)).drop k = (putM L id (F0, L0, R0)).map (·.1) := by rw [hsp]; simp [List.map_take, List.map_drop]
          have hv : (L.map (·.2)).take k ++ [(F0, L0, R0)] ++ (L.map (·.2)).drop k = (putM L id (F0, L0, R0)).map (·.2) := by rw [hsp]; simp [List.map_take, List.map_drop]
          have hkeep : decide (Keep ((putM L id (F0, L0, R0)).map (·.2) ++ G) r) = askB (G ++ L.map (·.2)) (F0, L0, R0) r := by
            unfold askB
            rw [decide_eq_false hz, Bool.false_or, ← hv]
            have hcat : (L.map (·.2)).take k ++ (L.map (·.2)).drop k = L.map (·.2) := List.take_append_drop _ _
            rw [Bool.eq_iff_iff, decide_eq_true_eq, decide_eq_true_eq, keep_ins, hcat]
          rw [hi, hv] at hq
          have hkp := rkept_any q r _ _ _ _ _ _ w4 hq hr
          rw [hkeep] at hkp
          have HQ := Lib.hid hq; have HB4 := Lib.hid hbw4; have HZ := Lib.hid hz
          clear hq hqs hb4 hvg hbw4 hB4 hsp hi hv hkeep hlo hhi hk
          have E1 := Lib.hid (show putC L G id (F0, L0, R0) r = if askB (G ++ L.map (·.2)) (F0, L0, R0) r = false then 170 else 0 by unfold putC; rw [if_neg (by rw [HOK.out]; simp), if_neg HS.out])
          obtain ⟨kb, hkb⟩ : ∃ kb, askB (G ++ L.map (·.2)) (F0, L0, R0) r = kb := ⟨_, rfl⟩
          rw [hkb] at hkp
          have HKB := Lib.hid hkb
          clear hkb
          go_upto_region 6 with fail
          go_cut [2, 9, 20, 29] from 22 to 28 (fun _ _ _ v wx => v = .bool (!kb) ∧ Below w4.heap.size w4 wx)
          case first =>
            go_wp2_with fail
            all_goals first
              | (refine absurd ?_ hz; simp only [Prod.mk.injEq]; refine ⟨?_, ?_, ?_⟩ <;> assumption)
              | (refine hkp.mono ?_; rintro e w5 ⟨rfl, hb5⟩; have HB5 := Lib.hid hb5; clear hb5; go_wp2_with fail; go_meet; exact ⟨by cases kb <;> rfl, HB5.out⟩)
          case rest =>
            obtain ⟨rfl, hb5⟩ := hcut
            have HB5 := Lib.hid (HB4.out.trans (hb5.mono HB4.out.size)); have HQ5 := Lib.hid (HQ.out.later hb5)
            clear hb5 c0 c1 c2 hkp
            cases kb
            · go_wp2_with fail
              go_ret2
              have e1 : putC L G id (F0, L0, R0) r = 170 := by rw [E1.out, HKB.out]; rfl
              refine ⟨p, vi, vl, vg, by rw [e1]; rfl, ?_, HB5.out, by unfold putBk; rw [e1, if_neg (by simp)]; exact FrX.same rfl rfl rfl⟩
              unfold putBk
              rw [e1, if_neg (by simp)]
              exact H.out.later HB5.out
            · go_wp2_with fail
              go_ret2
              have e1 : putC L G id (F0, L0, R0) r = 0 := by rw [E1.out, HKB.out]; rfl
              refine ⟨q, vi1, vl1, vg1, by rw [e1]; rfl, ?_, HB5.out, FrX.new HLO.out.2.2 HLO.out.1 HLO.out.2.1⟩
              unfold putBk
              rw [if_pos ⟨e1, HZ.out⟩]
              exact HQ5.out

def RputW (w : World) (r : Int) (L : List (Int × Cv)) (G : List Cv) (id : Int) (c : Cv) (e : Ending) (w' : World) : Prop :=
  ∃ p' vi vl vg, e = .returned (.tuple #[.pointer (some ⟨p', 0, none⟩), .int .i64 (putC L G id c r)]) ∧ RbAt w' p' r ((putBk L G id c r).map (·.1)) ((putBk L G id c r).map (·.2)) G vi vl vg ∧ Below w.heap.size w w'
theorem rput_any (F0 L0 R0 id : Int) (p : Nat) (r : Int) (L : List (Int × Cv)) (G : List Cv) (vi vl vg : Value) (w : World) (hc : U F0 ∧ U L0 ∧ U R0) (hr : U r) (h : RbAt w p r (L.map (·.1)) (L.map (·.2)) G vi vl vg) (hfl : L.length + G.length < 100000) :
    Calls Tryz.prog 8 #[.pointer (some ⟨p, 0, none⟩), .int .i64 id, .agg #[.int .u64 F0, .int .u64 L0, .int .u64 R0]] w (RputW w r L G id (F0, L0, R0)) :=
  (rput2_any F0 L0 R0 id p r L G vi vl vg w hc hr h hfl).mono fun e w' ⟨p', a, b, c, h1, h2, h3, _⟩ => ⟨p', a, b, c, h1, h2, h3⟩

set_option maxRecDepth 100000 in
set_option maxHeartbeats 4000000 in
theorem rfits_any (F0 L0 R0 : Int) (p : Nat) (r : Int) (I : List Int) (V G : List Cv) (vi vl vg : Value) (w : World) (hc : U F0 ∧ U L0 ∧ U R0) (hr : U r) (h : RbAt w p r I V G vi vl vg) (hfl : V.length + G.length < 100000) :
    Calls Tryz.prog 35 #[.pointer (some ⟨p, 0, none⟩), .agg #[.int .u64 F0, .int .u64 L0, .int .u64 R0]] w (FitsW w (G ++ V) (F0, L0, R0) r) := by
  have hmay := fun W => rmay_any F0 L0 R0 W hc.2.1.1
  rw [show mayB F0 L0 R0 = okC (F0, L0, R0) from rfl] at hmay
  have hb0 := (Below.refl w.heap.size w).alloc (Nat.le_refl _) (.cells #[.int .u64 F0, .int .u64 L0, .int .u64 R0] 25)
  have hB0 := Blk.new w 25 #[.int .u64 F0, .int .u64 L0, .int .u64 R0]
  have H := Lib.hid h; have HB := Lib.hid (And.intro hb0 hB0); have HM := Lib.hid hmay
  clear h hmay hb0 hB0
  go_enter Tryz.func35, Tryz.ntmps35
  go_wp2_with fail
  refine (HM.out _).mono ?_
  rintro e w2 ⟨rfl, hb2⟩
  have hbw2 := HB.out.1.trans (hb2.mono HB.out.1.size)
  have hB2 := HB.out.2.below hb2 HB.out.2.lt
  have HB2 := Lib.hid hbw2
  cases ok : okC (F0, L0, R0)
  · have HOK := Lib.hid ok
    clear ok hb2 hbw2 hB2 HB
    go_wp2_with fail
    go_ret
    exact ⟨by unfold fitsB; rw [HOK.out]; rfl, HB2.out⟩
  · have HOK := Lib.hid ok
    have c0 := hB2.cell 0; have c1 := hB2.cell 1; have c2 := hB2.cell 2
    simp only [List.getElem?_toArray, List.getElem?_cons_zero, List.getElem?_cons_succ] at c0 c1 c2
    have hwi := rwith_any F0 L0 R0 (-1) p r _ _ _ _ _ _ w2 hc (H.out.later hbw2) hfl
    by_cases hz : (F0, L0, R0) = ((0, 0, 0) : Cv)
    · simp only [Prod.mk.injEq] at hz
      obtain ⟨rfl, rfl, rfl⟩ := hz
      clear ok hb2 hbw2 hB2 HB hwi
      go_wp2_with fail
      go_ret
      exact ⟨by unfold fitsB askB; rw [HOK.out]; rfl, HB2.out⟩
    · have HZ := Lib.hid hz
      clear ok hb2 hbw2 hB2 HB
      obtain ⟨kb, hkb⟩ : ∃ kb, askB (G ++ V) (F0, L0, R0) r = kb := ⟨_, rfl⟩
      have HKB := Lib.hid hkb
      clear hkb
      have hw : Calls Tryz.prog 24 #[.pointer (some ⟨p, 0, none⟩), .int .i64 (-1), .agg #[.int .u64 F0, .int .u64 L0, .int .u64 R0]] w2 (fun e w4 => ∃ q, e = .returned (.pointer (some ⟨q, 0, none⟩)) ∧ Calls Tryz.prog 25 #[.pointer (some ⟨q, 0, none⟩)] w4 (fun e w' => e = .returned (.bool kb) ∧ Below w4.heap.size w4 w') ∧ Below w.heap.size w w4) := hwi.mono fun e w4 hw4 => by
        rcases hw4 with ⟨h0, _⟩ | ⟨_, k, hk, hlo, hhi, q, vi1, vl1, vg1, he, hq, hqs, hb4, hvg⟩
        · exact absurd h0 hz
        · have hkp := rkept_any q r _ _ _ _ _ _ w4 hq hr
          have hkeep : decide (Keep ((V.take k ++ [(F0, L0, R0)] ++ V.drop k) ++ G) r) = kb := by
            rw [← HKB.out]
            unfold askB
            rw [decide_eq_false hz, Bool.false_or]
            have hcat : V.take k ++ V.drop k = V := List.take_append_drop _ _
            rw [Bool.eq_iff_iff, decide_eq_true_eq, decide_eq_true_eq, keep_ins, hcat]
          rw [hkeep] at hkp
          exact ⟨q, he, hkp, HB2.out.trans (hb4.mono HB2.out.size)⟩
      have hres : ∀ w', Below w.heap.size w w' → FitsW w (G ++ V) (F0, L0, R0) r (.returned (.bool kb)) w' := fun w' hb => ⟨by unfold fitsB; rw [HOK.out, HKB.out]; rfl, hb⟩
      have HRES := Lib.hid hres
      clear hwi hres
      go_wp2_with fail
      all_goals first
        | (refine absurd ?_ hz; simp only [Prod.mk.injEq]; refine ⟨?_, ?_, ?_⟩ <;> assumption)
        | (simp only [‹F0 = 0›, ‹L0 = 0›] at hw
           refine hw.mono ?_
           clear hw
           rintro e w4 ⟨q, rfl, hkp, hb4⟩
           have HB4 := Lib.hid hb4
           clear hb4 c0 c1 c2
           go_wp2_with fail
           refine hkp.mono ?_
           clear hkp
           rintro e w5 ⟨rfl, hb5⟩
           have HB5 := Lib.hid (HB4.out.trans (hb5.mono HB4.out.size))
           clear hb5
           go_wp2_with fail
           go_ret
           exact HRES.out _ HB5.out)
        | (simp only [‹F0 = 0›] at hw
           refine hw.mono ?_
           clear hw
           rintro e w4 ⟨q, rfl, hkp, hb4⟩
           have HB4 := Lib.hid hb4
           clear hb4 c0 c1 c2
           go_wp2_with fail
           refine hkp.mono ?_
           clear hkp
           rintro e w5 ⟨rfl, hb5⟩
           have HB5 := Lib.hid (HB4.out.trans (hb5.mono HB4.out.size))
           clear hb5
           go_wp2_with fail
           go_ret
           exact HRES.out _ HB5.out)
        | (refine hw.mono ?_
           clear hw
           rintro e w4 ⟨q, rfl, hkp, hb4⟩
           have HB4 := Lib.hid hb4
           clear hb4 c0 c1 c2
           go_wp2_with fail
           refine hkp.mono ?_
           clear hkp
           rintro e w5 ⟨rfl, hb5⟩
           have HB5 := Lib.hid (HB4.out.trans (hb5.mono HB4.out.size))
           clear hb5
           go_wp2_with fail
           go_ret
           exact HRES.out _ HB5.out)
end Go.Proofs.YthmhboagbeibdaaGreat
