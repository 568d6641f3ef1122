/-
  The document's book of curves, in memory; rows of numbers that are appended to.
-/
import Derived.Test.YthmhboagbeibdaaAdmPut
import Derived.Test.YthmhboagbeibdaaR4Late
namespace Go.Proofs.Ythmhboagbeibdaa
set_option linter.unusedVariables false
open Go.RowKit
attribute [local go_sem ↓] Go.wp_at_zero Go.wp_at_succ
attribute [local go_sem] quietR quietAtR quietUponR midAt midUpon
attribute [local irreducible] TStep HStep

theorem info_int : (Try.prog.info? 3).map (fun i => (i.zero, i.size, i.bytes)) = some (some (.int .i64 0), 1, 8) := by kernel_rfl
/-- numbers in memory -/
def IntAt (w : World) (v : Value) (ks : List Int) : Prop :=
  ks.length ≤ 1000000 ∧ ∃ a cap, v = .slice a ks.length cap ∧ (ks = [] ∨ ∃ b off, a = some ⟨b, off, none⟩ ∧ b < w.heap.size ∧ ks.length ≤ cap ∧ ∀ i k, ks[i]? = some k → w.cell? ⟨b, off + i, none⟩ = some (.int .i64 k))
theorem IntAt.later {w w' : World} {v : Value} {ks : List Int} (h : IntAt w v ks) (hb : Below w.heap.size w w') : IntAt w' v ks := by
  obtain ⟨hl, a, cap, e, h3⟩ := h
  refine ⟨hl, a, cap, e, ?_⟩
  rcases h3 with h3 | ⟨b, off, e2, hbl, hcap, hc⟩
  · exact .inl h3
  · exact .inr ⟨b, off, e2, Nat.lt_of_lt_of_le hbl hb.size, hcap, fun i k hi => (hb.cell (p := ⟨b, off + i, none⟩) hbl).trans (hc i k hi)⟩
theorem IntAt.nil (w : World) : IntAt w (.slice none 0 0) [] := ⟨by simp, none, 0, rfl, .inl rfl⟩
theorem IntAt.of_owns {w : World} {base : Nat} {v : Value} {ks : List Int} (h : w.ownsRow base 3 1 v ks.length (ks.map (Value.int .i64))) (hl : ks.length ≤ 1000000) : IntAt w v ks := by
  rcases h.2 with ⟨rfl, h0⟩ | ⟨g, cap, cur, rfl, h1, h2, h3, h4⟩
  · obtain rfl : ks = [] := List.eq_nil_of_length_eq_zero h0
    exact ⟨hl, none, 0, rfl, .inl rfl⟩
  · refine ⟨hl, _, _, rfl, .inr ⟨g, 0, rfl, (Array.getElem?_eq_some_iff.1 h2).1, h3, fun i k hi => ?_⟩⟩
    rw [Nat.zero_add, h.cellAt i (by have := (List.getElem?_eq_some_iff.1 hi).1; omega), List.getElem?_map, hi]; rfl
theorem int_take {w : World} {a : Option Addr} {cap k : Nat} {l : List Int} (h : IntAt w (.slice a l.length cap) l) (hk : k ≤ l.length) : IntAt w (.slice a k cap) (l.take k) := by
  obtain ⟨h2, a', cap', e, h3⟩ := h
  cases e
  refine ⟨by rw [List.length_take]; omega, _, _, by rw [List.length_take, Nat.min_eq_left hk], ?_⟩
  rcases h3 with h3 | ⟨b, off, rfl, hl, hcap, hc⟩
  · subst h3; exact .inl (by simp)
  · refine .inr ⟨b, off, rfl, hl, by rw [List.length_take]; omega, fun i c hi => ?_⟩
    rw [List.getElem?_take] at hi
    split at hi
    · exact hc i c hi
    · cases hi
theorem int_drop {w : World} {a : Option Addr} {cap k : Nat} {l : List Int} (h : IntAt w (.slice a l.length cap) l) (hk : k ≤ l.length) : IntAt w (.slice (if cap = k then a else Option.map (fun x => x.add k) a) (l.length - k) (cap - k)) (l.drop k) := by
  obtain ⟨h2, a', cap', e, h3⟩ := h
  cases e
  refine ⟨by rw [List.length_drop]; omega, _, _, by rw [List.length_drop], ?_⟩
  rcases h3 with h3 | ⟨b, off, rfl, hl, hcap, hc⟩
  · subst h3; exact .inl (by simp)
  · by_cases hc0 : k = l.length
    · subst hc0; exact .inl (by simp)
    · refine .inr ⟨b, off + k, ?_, hl, by rw [List.length_drop]; omega, fun i c hi => ?_⟩
      · rw [if_neg (by omega)]; simp [Addr.add_lit]
      · rw [List.getElem?_drop] at hi
        rw [Nat.add_assoc]
        exact hc _ c hi
theorem cv_take {w : World} {a : Option Addr} {cap k : Nat} {l : List Cv} (h : CvAt w (.slice a l.length cap) l) (hk : k ≤ l.length) : CvAt w (.slice a k cap) (l.take k) := by
  obtain ⟨h1, h2, a', cap', e, h3⟩ := h
  cases e
  refine ⟨fun c hc => h1 c (List.mem_of_mem_take hc), by rw [List.length_take]; omega, _, _, by rw [List.length_take, Nat.min_eq_left hk], ?_⟩
  rcases h3 with h3 | ⟨b, off, rfl, hl, hcap, hc⟩
  · subst h3; exact .inl (by simp)
  · refine .inr ⟨b, off, rfl, hl, by rw [List.length_take]; omega, fun i c hi => ?_⟩
    rw [List.getElem?_take] at hi
    split at hi
    · exact hc i c hi
    · cases hi
theorem cv_drop {w : World} {a : Option Addr} {cap k : Nat} {l : List Cv} (h : CvAt w (.slice a l.length cap) l) (hk : k ≤ l.length) : CvAt w (.slice (if cap = k then a else Option.map (fun x => x.add (k * 3)) a) (l.length - k) (cap - k)) (l.drop k) := by
  obtain ⟨h1, h2, a', cap', e, h3⟩ := h
  cases e
  refine ⟨fun c hc => h1 c (List.mem_of_mem_drop hc), by rw [List.length_drop]; omega, _, _, by rw [List.length_drop], ?_⟩
  rcases h3 with h3 | ⟨b, off, rfl, hl, hcap, hc⟩
  · subst h3; exact .inl (by simp)
  · by_cases hc0 : k = l.length
    · subst hc0; exact .inl (by simp)
    · refine .inr ⟨b, off + k * 3, ?_, hl, by rw [List.length_drop]; omega, fun i c hi => ?_⟩
      · rw [if_neg (by omega)]; simp [Addr.add_lit]
      · rw [List.getElem?_drop] at hi
        have := hc _ c hi
        rw [show off + k * 3 + i * 3 = off + (k + i) * 3 by omega]
        exact this

theorem int_dropS {w : World} {b off cap k : Nat} {l : List Int} (h : IntAt w (.slice (some ⟨b, off, none⟩) l.length cap) l) (hk : k ≤ l.length) : IntAt w (.slice (if cap = k then some ⟨b, off, none⟩ else some ⟨b, off + k, none⟩) (l.length - k) (cap - k)) (l.drop k) := by
  have := int_drop h hk
  simpa [Addr.add_lit] using this
theorem int_cap {w : World} {a : Option Addr} {cap k : Nat} {l : List Int} (h : IntAt w (.slice a l.length cap) l) (hk : k ≤ l.length) : k ≤ cap := by
  obtain ⟨h2, a', cap', e, h3⟩ := h
  cases e
  rcases h3 with rfl | ⟨_, _, _, _, h4, _⟩
  · simp at hk; omega
  · omega
theorem cv_cap {w : World} {a : Option Addr} {cap k : Nat} {l : List Cv} (h : CvAt w (.slice a l.length cap) l) (hk : k ≤ l.length) : k ≤ cap := by
  obtain ⟨_, h2, a', cap', e, h3⟩ := h
  cases e
  rcases h3 with rfl | ⟨_, _, _, _, h4, _⟩
  · simp at hk; omega
  · omega

/-- all of a row of numbers, laid behind a row of the call's own -/
theorem app_ints (ty : TypeId) {A B : List Int} {w : World} {v x : Value} {base : Nat} (h : IntAt w x B) (hown : w.ownsRow base 3 1 v A.length (A.map (Value.int .i64))) (hb : base ≤ w.heap.size) (hl : A.length + B.length ≤ 3000000) :
    ∃ v' w', (Builtin.append_ #[59, 59] ty #[v, x]).run Try.prog w = .ok v' w' ∧ w'.ownsRow base 3 1 v' (A ++ B).length ((A ++ B).map (Value.int .i64)) ∧ Below base w w' ∧ w.grownBy w' v.ownBlock := by
  obtain ⟨i0, hi0, hz0, hz1, hz2⟩ := info_parts info_int
  obtain ⟨hB, a, cap, rfl, h3⟩ := h
  by_cases hne : B = []
  · subst hne
    have hsrc : Src Try.prog i0.size 59 (.slice a ([] : List Int).length cap) 0 [] w := by
      cases a with
      | none => exact Src.ofNil w Try.underlying59 cap
      | some ad => exact Src.ofSlice w Try.underlying59 ad 0 cap [] (by simp) (fun j u hj => by simp at hj) (fun u hu => by simp at hu)
    rcases hown.2 with ⟨rfl, h0⟩ | ⟨g, c, cur, rfl, h1, h2, h3, h4⟩
    · refine ⟨_, w, run_append_nothing w _ _ ty _ i0 Try.underlying59 hi0 _ 0 0 (Nat.le_refl _) _ hsrc, ?_, Below.refl _ _, ⟨rfl, rfl, rfl, Nat.le_refl _, fun _ _ _ => rfl⟩⟩
      simpa [h0] using hown
    · refine ⟨_, w, run_append_nothing w _ _ ty _ i0 Try.underlying59 hi0 _ A.length c h3 _ hsrc, by simpa using hown, Below.refl _ _, ⟨rfl, rfl, rfl, Nat.le_refl _, fun _ _ _ => rfl⟩⟩
  · rcases h3 with h3 | ⟨b, off, rfl, hbl, hcap, hc⟩
    · exact absurd h3 hne
    · obtain ⟨v', w', hr, ho, hg, _⟩ := run_append_own (P := Try.prog) (w := w) base 59 ty 3 i0 _ 1 8 Try.underlying59 hi0 hz0 hz1 hz2 rfl (by decide) v A.length _ hown ⟨b, off, none⟩ B.length cap (B.map (Value.int .i64)) (by simp) (fun j u hj => by
        rw [List.getElem?_map] at hj
        cases hk : B[j]? with
        | none => rw [hk] at hj; cases hj
        | some x => rw [hk] at hj; cases hj; simpa [Addr.add_lit] using hc j x hk) (by intro u hu; obtain ⟨x, _, rfl⟩ := List.mem_map.1 hu; rfl) (by unfold maxLen; omega) (by omega) hb
      exact ⟨v', w', hr, by simpa using ho, (Below.refl base w).grown hg hb fun k hk => (hown.lt k hk).1, hg⟩
theorem int_lit {w : World} {B : Nat} {k : Int} (h : Blk w B 3 #[.int .i64 k]) : IntAt w (.slice (some ⟨B, 0, none⟩) 1 1) [k] := by
  refine ⟨by simp, _, _, rfl, .inr ⟨B, 0, rfl, h.lt, by simp, fun i d hi => ?_⟩⟩
  cases i with
  | zero => cases hi; exact h.cell 0
  | succ i => simp at hi

theorem grown_setAt (W : World) (q o : Nat) (v : Value) : W.grownBy (W.setCell ⟨q, o, none⟩ v) (some q) :=
  ⟨rfl, rfl, rfl, by simp [World.setCell], fun k hk hne => Below.heap_setCell W ⟨q, o, none⟩ v k (by show k ≠ q; rintro rfl; exact hne rfl)⟩
/-- the document's book in memory -/
structure RbAt (w : World) (p : Nat) (r : Int) (I : List Int) (V G : List Cv) (vi vl vg : Value) : Prop where
  blk : Blk w p 61 #[.int .u64 r, vi, vl, vg]
  ids : IntAt w vi I
  live : CvAt w vl V
  gh : CvAt w vg G
  same : I.length = V.length
  few : V.length + G.length ≤ 100000
theorem RbAt.later {w w' : World} {p : Nat} {r : Int} {I : List Int} {V G : List Cv} {vi vl vg : Value} (h : RbAt w p r I V G vi vl vg) (hb : Below w.heap.size w w') : RbAt w' p r I V G vi vl vg :=
  ⟨h.blk.below hb h.blk.lt, h.ids.later hb, h.live.later hb, h.gh.later hb, h.same, h.few⟩
end Go.Proofs.Ythmhboagbeibdaa
