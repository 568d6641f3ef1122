/-
  Curves that came in as rows; rows of curves that are appended to.
-/
import Derived.Test.YthmhboagbeibdaaGreatKept
import Derived.Test.YthmhboagbeibdaaGreatStrs
import Derived.ArgAppend
import Derived.Deep.Upon
import Derived.Deep.QuietTactic
import Derived.BigQuiet
import Derived.Deep.DrawnRows
namespace Go.Proofs.YthmhboagbeibdaaGreat
set_option linter.unusedVariables false
open Go.RowKit

theorem u64_wf {n : Int} (h : (Lit.int .u64 n).wf = true) : U n := by
  simp [Lit.wf, IntKind.min, IntKind.max, IntKind.signed, IntKind.bits] at h
  exact ⟨h.1, by omega⟩
/-- curves that came in -/
theorem cvs_of {w : World} {a : Option Addr} {len cap : Nat} {z : List (List Value)} (h : IsRows [some .u64, some .u64, some .u64] w a len cap z) (hle : len ≤ 1000000) :
    ∃ l : List Cv, l.length = len ∧ CvAt w (.slice a len cap) l := by
  obtain ⟨h1, h2, h3, h4, h5⟩ := h
  obtain ⟨l, hl, hr⟩ := list_of (fun i (q : Cv) => z[i]? = some [.int .u64 q.1, .int .u64 q.2.1, .int .u64 q.2.2] ∧ U q.1 ∧ U q.2.1 ∧ U q.2.2) len (fun i hi => by
    have hz : z[i]? = some (z[i]'(by omega)) := List.getElem?_eq_getElem (by omega)
    have hk := h4 _ (List.getElem_mem (l := z) (n := i) (by omega))
    generalize z[i]'(by omega) = row at hz hk
    match row, hk with
    | [v0, v1, v2], ⟨⟨n0, e0, w0⟩, ⟨n1, e1, w1⟩, ⟨n2, e2, w2⟩, _⟩ =>
      subst e0; subst e1; subst e2
      exact ⟨(n0, n1, n2), hz, u64_wf w0, u64_wf w1, u64_wf w2⟩)
  subst hl
  refine ⟨l, rfl, fun q hq => ?_, hle, a, cap, rfl, ?_⟩
  · obtain ⟨i, hi, rfl⟩ := List.mem_iff_getElem.1 hq
    exact (hr i _ (List.getElem?_eq_getElem hi)).2
  · rcases h5 with h5 | ⟨b, off, e, hb, hc⟩
    · exact .inl (List.eq_nil_of_length_eq_zero h5)
    · refine .inr ⟨b, off, e, hb, h1, fun i q hq => ?_⟩
      have hz := (hr i q hq).1
      have k0 := hc i _ hz 0 _ rfl; have k1 := hc i _ hz 1 _ rfl; have k2 := hc i _ hz 2 _ rfl
      simp only [List.length_cons, List.length_nil, Nat.zero_add, Nat.reduceAdd] at k0 k1 k2
      exact ⟨k0, by rw [← k1, Nat.add_assoc], by rw [← k2, Nat.add_assoc]⟩

theorem CvAt.cells {w : World} {a : Option Addr} {cap : Nat} {l : List Cv} (h : CvAt w (.slice a l.length cap) l) (hne : l ≠ []) : ∃ ad, a = some ad ∧ ∀ j u, (cvCells l)[j]? = some u → w.cell? (ad.add j) = some u := by
  obtain ⟨_, _, a', cap', e, h3⟩ := h
  cases e
  rcases h3 with h3 | ⟨b, off, rfl, hl, hcap, hc⟩
  · exact absurd h3 hne
  · refine ⟨_, rfl, cvCells_all fun i c hi => ?_⟩
    obtain ⟨c0, c1, c2⟩ := hc i c hi
    simp only [Addr.add_lit]
    exact ⟨c0, c1, c2⟩

/-- all of a row, laid behind an empty literal -/
theorem app_all (ty : TypeId) {l : List Cv} {w : World} {v : Value} {base g : Nat} (h : CvAt w v l) (hown : w.ownsRow base 25 3 (.slice (some ⟨g, 0, none⟩) 0 0) 0 []) (hb : base ≤ w.heap.size) :
    ∃ v' w', (Builtin.append_ #[45, 45] ty #[.slice (some ⟨g, 0, none⟩) 0 0, v]).run Tryz.prog w = .ok v' w' ∧ w'.ownsRow base 25 3 v' l.length (cvCells l) ∧ Below w.heap.size w w' := by
  obtain ⟨i0, hi0, hz0, hz1, hz2⟩ := info_parts info_curve
  obtain ⟨a, cap, rfl⟩ : ∃ a cap, v = .slice a l.length cap := by obtain ⟨_, _, a, cap, e, _⟩ := h; exact ⟨a, cap, e⟩
  by_cases hne : l = []
  · subst hne
    refine ⟨_, _, run_append_nothing w _ _ ty _ i0 Tryz.underlying45 hi0 _ 0 0 (Nat.le_refl _) _ ?_, hown, Below.refl _ _⟩
    cases a with
    | none => exact Src.ofNil w Tryz.underlying45 cap
    | some ad => exact Src.ofSlice w Tryz.underlying45 ad 0 cap [] (by simp) (fun j u hj => by simp at hj) (fun u hu => by simp at hu)
  · obtain ⟨ad, rfl, hc⟩ := h.cells hne
    have hl0 : 0 < l.length := List.length_pos_iff.2 hne
    have hl := h.2.1
    obtain ⟨v', w', hr, ho, hg⟩ := run_append_arg_grows (P := Tryz.prog) w 45 ty 25 i0 _ 3 24 Tryz.underlying45 hi0 hz0 hz1 hz2 rfl (by decide) ⟨g, 0, none⟩ 0 0 [] (by simp) (fun j u hj => by simp at hj) ad l.length cap (cvCells l) (cvCells_length l) hc (by omega) (by unfold maxLen; omega) (by omega)
    have ho' : w'.ownsRow base 25 3 v' l.length (cvCells l) := by
      have h0 : w'.ownsRow w.heap.size 25 3 v' l.length (cvCells l) := by simpa using ho
      obtain ⟨h1, h2⟩ := h0
      refine ⟨h1, ?_⟩
      rcases h2 with h2 | ⟨g', c', cur, e, h3, h4⟩
      · exact .inl h2
      · exact .inr ⟨g', c', cur, e, by omega, h4⟩
    refine ⟨v', w', hr, ho', ⟨hg.os, hg.tape, hg.output, hg.size, fun k hk => hg.block k hk (by simp)⟩⟩
/-- one more behind it -/
theorem app_one (ty : TypeId) {l : List Cv} {w : World} {v : Value} {base B : Nat} {c : Cv} (hu : UU (l ++ [c])) (hown : w.ownsRow base 25 3 v l.length (cvCells l)) (hb : base ≤ w.heap.size) (hl : l.length < 1000000)
    (hB : Blk w B 25 #[.int .u64 c.1, .int .u64 c.2.1, .int .u64 c.2.2]) :
    ∃ v' w', (Builtin.append_ #[45, 45] ty #[v, .slice (some ⟨B, 0, none⟩) 1 1]).run Tryz.prog w = .ok v' w' ∧ CvAt w' v' (l ++ [c]) ∧ Below base w w' := by
  obtain ⟨i0, hi0, hz0, hz1, hz2⟩ := info_parts info_curve
  obtain ⟨g, cap, w', hr, ho, hg, _, hlt⟩ := run_append_lies (P := Tryz.prog) w 45 ty base 25 i0 _ 3 24 Tryz.underlying45 hi0 hz0 hz1 hz2 rfl (by decide) v l.length _ hown ⟨B, 0, none⟩ 1 1 [.int .u64 c.1, .int .u64 c.2.1, .int .u64 c.2.2] rfl (World.news_of_block hB) (by simp [Value.oneCell']) (by decide) (by unfold maxLen; omega) (by omega) hb _ rfl
  refine ⟨_, w', hr, CvAt.of_owns (base := base) (by simpa [cvCells_append, cvCells, cvC] using ho) hu (by simp; omega), ?_⟩
  exact (Below.refl base w).grown hg hb fun k hk => (hown.lt k hk).1
theorem app_two (ty ty' : TypeId) {l : List Cv} {w : World} {v : Value} {c : Cv} (h : CvAt w v l) (hu : U c.1 ∧ U c.2.1 ∧ U c.2.2) (hl : l.length < 1000000) :
    ∃ v1 w1, (Builtin.append_ #[45, 45] ty #[.slice (some ⟨w.heap.size, 0, none⟩) 0 0, v]).run Tryz.prog (w.alloc (.cells #[] 25)) = .ok v1 w1 ∧
      ∃ v2 w2, (Builtin.append_ #[45, 45] ty' #[v1, .slice (some ⟨w1.heap.size, 0, none⟩) 1 1]).run Tryz.prog (w1.alloc (.cells #[.int .u64 c.1, .int .u64 c.2.1, .int .u64 c.2.2] 25)) = .ok v2 w2 ∧
        CvAt w2 v2 (l ++ [c]) ∧ Below w.heap.size w w2 := by
  have hb0 := (Below.refl w.heap.size w).alloc (Nat.le_refl _) (.cells #[] 25)
  obtain ⟨v1, w1, r1, o1, b1⟩ := app_all ty (h.later hb0) (World.ownsRow_made (base := w.heap.size) (e := 25) (size := 3) w #[] 0 (Nat.le_refl _) (by decide) rfl) hb0.size
  have hb1 := hb0.trans (b1.mono hb0.size)
  have hb2 := hb1.alloc hb1.size (.cells #[.int .u64 c.1, .int .u64 c.2.1, .int .u64 c.2.2] 25)
  have huu : UU (l ++ [c]) := fun d hd => by
    rcases List.mem_append.1 hd with hd | hd
    · exact h.1 d hd
    · simp at hd; subst hd; exact hu
  obtain ⟨v2, w2, r2, o2, b2⟩ := app_one ty' (c := c) huu (o1.alloc _) hb2.size hl (Blk.new w1 _ _)
  exact ⟨v1, w1, r1, v2, w2, r2, o2, hb2.trans b2⟩

end Go.Proofs.YthmhboagbeibdaaGreat
