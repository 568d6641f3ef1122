/-
  Law 4: with a straight curve of what is spare they can be kept: the walk of SumsRoom.
-/
import Derived.Test.YtkeffkfjgblicaaSumsAwake
import Derived.Test.YtkeffkfjgblicaaStrs
import Derived.ArgAppend
import Derived.Deep.Upon
namespace Go.Proofs.Ytkeffkfjgblicaa
set_option linter.unusedVariables false
open Go.RowKit

theorem u64_wf {n : Int} (h : (Lit.int .u64 n).wf = true) : U n := by
  simp [Lit.wf, IntKind.min, IntKind.max, IntKind.signed, IntKind.bits] at h
  exact ⟨h.1, by omega⟩
/-- curves that came in -/
theorem cvs_of {w : World} {a : Option Addr} {len cap : Nat} {z : List (List Value)} (h : IsRows [some .u64, some .u64, some .u64] w a len cap z) (hle : len ≤ 1000000) :
    ∃ l : List Cv, l.length = len ∧ CvAt w (.slice a len cap) l := by
  obtain ⟨h1, h2, h3, h4, h5⟩ := h
  obtain ⟨l, hl, hr⟩ := list_of (fun i (q : Cv) => z[i]? = some [.int .u64 q.1, .int .u64 q.2.1, .int .u64 q.2.2] ∧ U q.1 ∧ U q.2.1 ∧ U q.2.2) len (fun i hi => by
    have hz : z[i]? = some (z[i]'(by omega)) := List.getElem?_eq_getElem (by omega)
    have hk := h4 _ (List.getElem_mem (l := z) (n := i) (by omega))
    generalize z[i]'(by omega) = row at hz hk
    match row, hk with
    | [v0, v1, v2], ⟨⟨n0, e0, w0⟩, ⟨n1, e1, w1⟩, ⟨n2, e2, w2⟩, _⟩ =>
      subst e0; subst e1; subst e2
      exact ⟨(n0, n1, n2), hz, u64_wf w0, u64_wf w1, u64_wf w2⟩)
  subst hl
  refine ⟨l, rfl, fun q hq => ?_, hle, a, cap, rfl, ?_⟩
  · obtain ⟨i, hi, rfl⟩ := List.mem_iff_getElem.1 hq
    exact (hr i _ (List.getElem?_eq_getElem hi)).2
  · rcases h5 with h5 | ⟨b, off, e, hb, hc⟩
    · exact .inl (List.eq_nil_of_length_eq_zero h5)
    · refine .inr ⟨b, off, e, hb, h1, fun i q hq => ?_⟩
      have hz := (hr i q hq).1
      have k0 := hc i _ hz 0 _ rfl; have k1 := hc i _ hz 1 _ rfl; have k2 := hc i _ hz 2 _ rfl
      simp only [List.length_cons, List.length_nil, Nat.zero_add, Nat.reduceAdd] at k0 k1 k2
      exact ⟨k0, by rw [← k1, Nat.add_assoc], by rw [← k2, Nat.add_assoc]⟩

theorem CvAt.cells {w : World} {a : Option Addr} {cap : Nat} {l : List Cv} (h : CvAt w (.slice a l.length cap) l) (hne : l ≠ []) : ∃ ad, a = some ad ∧ ∀ j u, (cvCells l)[j]? = some u → w.cell? (ad.add j) = some u := by
  obtain ⟨_, _, a', cap', e, h3⟩ := h
  cases e
  rcases h3 with h3 | ⟨b, off, rfl, hl, hcap, hc⟩
  · exact absurd h3 hne
  · refine ⟨_, rfl, cvCells_all fun i c hi => ?_⟩
    obtain ⟨c0, c1, c2⟩ := hc i c hi
    simp only [Addr.add_lit]
    exact ⟨c0, c1, c2⟩

/-- all of a row, laid behind an empty literal -/
theorem app_all (ty : TypeId) {l : List Cv} {w : World} {v : Value} {base g : Nat} (h : CvAt w v l) (hown : w.ownsRow base 31 3 (.slice (some ⟨g, 0, none⟩) 0 0) 0 []) (hb : base ≤ w.heap.size) :
    ∃ v' w', (Builtin.append_ #[22, 22] ty #[.slice (some ⟨g, 0, none⟩) 0 0, v]).run Try.prog w = .ok v' w' ∧ w'.ownsRow base 31 3 v' l.length (cvCells l) ∧ Below w.heap.size w w' := by
  obtain ⟨i0, hi0, hz0, hz1, hz2⟩ := info_parts info_curve
  obtain ⟨a, cap, rfl⟩ : ∃ a cap, v = .slice a l.length cap := by obtain ⟨_, _, a, cap, e, _⟩ := h; exact ⟨a, cap, e⟩
  by_cases hne : l = []
  · subst hne
    refine ⟨_, _, run_append_nothing w _ _ ty _ i0 Try.underlying22 hi0 _ 0 0 (Nat.le_refl _) _ ?_, hown, Below.refl _ _⟩
    cases a with
    | none => exact Src.ofNil w Try.underlying22 cap
    | some ad => exact Src.ofSlice w Try.underlying22 ad 0 cap [] (by simp) (fun j u hj => by simp at hj) (fun u hu => by simp at hu)
  · obtain ⟨ad, rfl, hc⟩ := h.cells hne
    have hl0 : 0 < l.length := List.length_pos_iff.2 hne
    have hl := h.2.1
    obtain ⟨v', w', hr, ho, hg⟩ := run_append_arg_grows (P := Try.prog) w 22 ty 31 i0 _ 3 24 Try.underlying22 hi0 hz0 hz1 hz2 rfl (by decide) ⟨g, 0, none⟩ 0 0 [] (by simp) (fun j u hj => by simp at hj) ad l.length cap (cvCells l) (cvCells_length l) hc (by omega) (by unfold maxLen; omega) (by omega)
    have ho' : w'.ownsRow base 31 3 v' l.length (cvCells l) := by
      have h0 : w'.ownsRow w.heap.size 31 3 v' l.length (cvCells l) := by simpa using ho
      obtain ⟨h1, h2⟩ := h0
      refine ⟨h1, ?_⟩
      rcases h2 with h2 | ⟨g', c', cur, e, h3, h4⟩
      · exact .inl h2
      · exact .inr ⟨g', c', cur, e, by omega, h4⟩
    refine ⟨v', w', hr, ho', ⟨hg.os, hg.tape, hg.output, hg.size, fun k hk => hg.block k hk (by simp)⟩⟩
/-- one more behind it -/
theorem app_one (ty : TypeId) {l : List Cv} {w : World} {v : Value} {base B : Nat} {c : Cv} (hu : UU (l ++ [c])) (hown : w.ownsRow base 31 3 v l.length (cvCells l)) (hb : base ≤ w.heap.size) (hl : l.length < 1000000)
    (hB : Blk w B 31 #[.int .u64 c.1, .int .u64 c.2.1, .int .u64 c.2.2]) :
    ∃ v' w', (Builtin.append_ #[22, 22] ty #[v, .slice (some ⟨B, 0, none⟩) 1 1]).run Try.prog w = .ok v' w' ∧ CvAt w' v' (l ++ [c]) ∧ Below base w w' := by
  obtain ⟨i0, hi0, hz0, hz1, hz2⟩ := info_parts info_curve
  obtain ⟨g, cap, w', hr, ho, hg, _, hlt⟩ := run_append_lies (P := Try.prog) w 22 ty base 31 i0 _ 3 24 Try.underlying22 hi0 hz0 hz1 hz2 rfl (by decide) v l.length _ hown ⟨B, 0, none⟩ 1 1 [.int .u64 c.1, .int .u64 c.2.1, .int .u64 c.2.2] rfl (World.news_of_block hB) (by simp [Value.oneCell']) (by decide) (by unfold maxLen; omega) (by omega) hb _ rfl
  refine ⟨_, w', hr, CvAt.of_owns (base := base) (by simpa [cvCells_append, cvCells, cvC] using ho) hu (by simp; omega), ?_⟩
  exact (Below.refl base w).grown hg hb fun k hk => (hown.lt k hk).1
theorem app_two (ty ty' : TypeId) {l : List Cv} {w : World} {v : Value} {c : Cv} (h : CvAt w v l) (hu : U c.1 ∧ U c.2.1 ∧ U c.2.2) (hl : l.length < 1000000) :
    ∃ v1 w1, (Builtin.append_ #[22, 22] ty #[.slice (some ⟨w.heap.size, 0, none⟩) 0 0, v]).run Try.prog (w.alloc (.cells #[] 31)) = .ok v1 w1 ∧
      ∃ v2 w2, (Builtin.append_ #[22, 22] ty' #[v1, .slice (some ⟨w1.heap.size, 0, none⟩) 1 1]).run Try.prog (w1.alloc (.cells #[.int .u64 c.1, .int .u64 c.2.1, .int .u64 c.2.2] 31)) = .ok v2 w2 ∧
        CvAt w2 v2 (l ++ [c]) ∧ Below w.heap.size w w2 := by
  have hb0 := (Below.refl w.heap.size w).alloc (Nat.le_refl _) (.cells #[] 31)
  obtain ⟨v1, w1, r1, o1, b1⟩ := app_all ty (h.later hb0) (World.ownsRow_made (base := w.heap.size) (e := 31) (size := 3) w #[] 0 (Nat.le_refl _) (by decide) rfl) hb0.size
  have hb1 := hb0.trans (b1.mono hb0.size)
  have hb2 := hb1.alloc hb1.size (.cells #[.int .u64 c.1, .int .u64 c.2.1, .int .u64 c.2.2] 31)
  have huu : UU (l ++ [c]) := fun d hd => by
    rcases List.mem_append.1 hd with hd | hd
    · exact h.1 d hd
    · simp at hd; subst hd; exact hu
  obtain ⟨v2, w2, r2, o2, b2⟩ := app_one ty' (c := c) huu (o1.alloc _) hb2.size hl (Blk.new w1 _ _)
  exact ⟨v1, w1, r1, v2, w2, r2, o2, hb2.trans b2⟩

set_option maxRecDepth 100000 in
set_option maxHeartbeats 4000000 in
theorem room_walk (a : Option Addr) (len cap : Nat) (zs : List (List Value)) (r : Int) (w : World) (hz : IsRows [some .u64, some .u64, some .u64] w a len cap zs) (hr : U r) :
    Calls Try.prog 9 #[.slice a len cap, .int .u64 r] w fun e w' => e = .returned (.bool true) ∧ Below w.heap.size w w' := by
  have hlm : len ≤ 9223372036854775807 := by have := hz.1; have := hz.2.1; unfold maxLen at this; omega
  by_cases h8 : len ≤ 8
  · obtain ⟨l, rfl, hcv⟩ := cvs_of hz (by omega)
    have H := Lib.hid hcv
    clear hcv hz hlm
    go_enter Try.func9, Try.ntmps9
    go_wp2_with fail
    refine (awake_any w).mono ?_
    rintro e w1 ⟨rfl, hb1⟩
    have hsp := spare_any _ l r w1 (H.out.later hb1) hr (by omega)
    have HB1 := Lib.hid hb1
    clear hb1
    go_wp2_with fail
    refine hsp.mono ?_
    clear hsp
    rintro e w2 ⟨hc, hb2⟩
    have hbw2 := HB1.out.trans (hb2.mono HB1.out.size)
    have hk := kept_any _ l r w2 (H.out.later hbw2) hr
    rcases hc with ⟨n, rfl, hK, hI⟩ | ⟨rfl, hK⟩
    · rw [decide_eq_true hK] at hk
      have n0 := hI.n0; have n1 := hI.n1
      have wn : IntKind.u64.wrap (n + 1) = n + 1 := IntWalk.u64_in _ (by omega)
      have HI := Lib.hid hI; have HB2 := Lib.hid hbw2
      clear hb2 hbw2 hK hI HB1
      go_wp2_with fail
      refine hk.mono ?_
      clear hk
      rintro e w3 ⟨rfl, hb3⟩
      have hbw3 := HB2.out.trans (hb3.mono HB2.out.size)
      obtain ⟨v1, w4, r1, v2, w5, r2, hcv2, hb5⟩ := app_two 22 22 (c := (0, 0, n)) (H.out.later hbw3) ⟨⟨by simp, by simp⟩, ⟨by simp, by simp⟩, ⟨by simp; omega, by simp; omega⟩⟩ (by omega)
      have hbw5 := hbw3.trans (hb5.mono hbw3.size)
      obtain ⟨v3, w6, r3, v4, w7, r4, hcv4, hb7⟩ := app_two 22 22 (c := (0, 0, n + 1)) (H.out.later hbw5) ⟨⟨by simp, by simp⟩, ⟨by simp, by simp⟩, ⟨by simp; omega, by simp; omega⟩⟩ (by omega)
      have hbw7 := hbw5.trans (hb7.mono hbw5.size)
      have hk2 := kept_any _ _ r w7 (hcv2.later hb7) hr
      rw [decide_eq_true HI.out.keep] at hk2
      have HB7 := Lib.hid hbw7; have HCV4 := Lib.hid hcv4
      clear hb3 hbw3 hcv2 hb5 hbw5 hcv4 hb7 hbw7 HB2
      go_wp2_with (at_builtin; first | (refine wpList_append_runW rfl _ _ _ rfl _ _ _ rfl rfl r1 ?_; clear r1) | (refine wpList_append_runW rfl _ _ _ rfl _ _ _ rfl rfl r2 ?_; clear r2) | (refine wpList_append_runW rfl _ _ _ rfl _ _ _ rfl rfl r3 ?_; clear r3) | (refine wpList_append_runW rfl _ _ _ rfl _ _ _ rfl rfl r4 ?_; clear r4))
      refine hk2.mono ?_
      clear hk2
      rintro e w8 ⟨rfl, hb8⟩
      have hbw8 := HB7.out.trans (hb8.mono HB7.out.size)
      by_cases hn : n = 1048576
      · subst hn
        have HB8 := Lib.hid hbw8
        clear hb8 hbw8
        go_wp2_with fail
        go_ret
        exact ⟨rfl, HB8.out⟩
      · have hk3 := kept_any _ _ r w8 (HCV4.out.later hb8) hr
        rw [decide_eq_false (HI.out.most.resolve_left hn)] at hk3
        have HB8 := Lib.hid hbw8
        clear hb8 hbw8
        go_wp2_with fail
        refine hk3.mono ?_
        clear hk3
        rintro e w9 ⟨rfl, hb9⟩
        have HB9 := Lib.hid (HB8.out.trans (hb9.mono HB8.out.size))
        clear hb9
        go_wp2_with fail
        go_ret
        exact ⟨rfl, HB9.out⟩
    · rw [decide_eq_false hK] at hk
      have HB2 := Lib.hid hbw2
      clear hb2 hbw2 hK HB1
      go_wp2_with fail
      refine hk.mono ?_
      clear hk
      rintro e w3 ⟨rfl, hb3⟩
      have HB3 := Lib.hid (HB2.out.trans (hb3.mono HB2.out.size))
      clear hb3
      go_wp2_with fail
      go_ret
      exact ⟨rfl, HB3.out⟩
  · clear hz
    go_enter Try.func9, Try.ntmps9
    go_wp2_with fail
    refine (awake_any w).mono ?_
    rintro e w1 ⟨rfl, hb1⟩
    have HB1 := Lib.hid hb1
    clear hb1
    go_wp2_with fail
    go_ret
    exact ⟨rfl, HB1.out⟩
end Go.Proofs.Ytkeffkfjgblicaa
