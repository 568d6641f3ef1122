/-
  Curves in memory; which of them may be: sums.may.
-/
import Derived.Test.YtclhhegfffccgaaGreatSumsPlain
import Derived.Test.YtclhhegfffccgaaGreatLayS
import Derived.Test.YtclhhegfffccgaaGreatRegM
import Derived.Lib.SliceRun
import Derived.Lib.SmallJoins
import Derived.Maps.AppendAt
import Derived.Deep.AppendLies
namespace Go.Proofs.YtclhhegfffccgaaGreat
set_option linter.unusedVariables false
open Go.RowKit

/-- a curve's cells; its value -/
def cvC (c : Cv) : List Value := [.int .u64 c.1, .int .u64 c.2.1, .int .u64 c.2.2]
def cvV (c : Cv) : Value := .agg #[.int .u64 c.1, .int .u64 c.2.1, .int .u64 c.2.2]
def cvCells (l : List Cv) : List Value := l.flatMap cvC
theorem cvCells_cons (c : Cv) (l : List Cv) : cvCells (c :: l) = .int .u64 c.1 :: .int .u64 c.2.1 :: .int .u64 c.2.2 :: cvCells l := rfl
theorem cvCells_length (l : List Cv) : (cvCells l).length = l.length * 3 := by
  induction l with
  | nil => rfl
  | cons c l ih => rw [cvCells_cons]; simp only [List.length_cons, ih]; omega
theorem cvCells_get : ∀ (l : List Cv) (i : Nat) (c : Cv), l[i]? = some c →
    (cvCells l)[i * 3]? = some (.int .u64 c.1) ∧ (cvCells l)[i * 3 + 1]? = some (.int .u64 c.2.1) ∧ (cvCells l)[i * 3 + 2]? = some (.int .u64 c.2.2)
  | [], i, c, h => by simp at h
  | d :: l, 0, c, h => by
    simp at h; subst h
    rw [cvCells_cons]
    exact ⟨rfl, rfl, rfl⟩
  | d :: l, i + 1, c, h => by
    have := cvCells_get l i c (by simpa using h)
    rw [cvCells_cons, show (i + 1) * 3 = i * 3 + 1 + 1 + 1 by omega]
    simpa using this
theorem cvCells_set : ∀ (l : List Cv) (i : Nat) (c : Cv), i < l.length →
    (((cvCells l).set (i * 3) (.int .u64 c.1)).set (i * 3 + 1) (.int .u64 c.2.1)).set (i * 3 + 2) (.int .u64 c.2.2) = cvCells (l.set i c)
  | [], i, c, h => by simp at h
  | d :: l, 0, c, h => by rw [cvCells_cons]; rfl
  | d :: l, i + 1, c, h => by
    have := cvCells_set l i c (by simpa using h)
    rw [List.set_cons_succ, cvCells_cons, cvCells_cons, show (i + 1) * 3 = i * 3 + 1 + 1 + 1 by omega]
    simpa using this
theorem cvCells_one (l : List Cv) : ∀ u ∈ cvCells l, u.oneCell' = true := by
  intro u hu
  obtain ⟨c, _, h⟩ := List.mem_flatMap.1 hu
  simp only [cvC, List.mem_cons, List.not_mem_nil, or_false] at h
  rcases h with rfl | rfl | rfl <;> rfl

def UU (l : List Cv) : Prop := ∀ c ∈ l, U c.1 ∧ U c.2.1 ∧ U c.2.2
theorem UU.nn {l : List Cv} (h : UU l) : NN l := fun c hc => ⟨(h c hc).1.1, (h c hc).2.1.1, (h c hc).2.2.1⟩
/-- curves, readable -/
def CvAt (w : World) (v : Value) (l : List Cv) : Prop :=
  UU l ∧ l.length ≤ 1000000 ∧ ∃ a cap, v = .slice a l.length cap ∧ (l = [] ∨ ∃ b off, a = some ⟨b, off, none⟩ ∧ b < w.heap.size ∧ l.length ≤ cap ∧ ∀ i c, l[i]? = some c →
    w.cell? ⟨b, off + i * 3, none⟩ = some (.int .u64 c.1) ∧ w.cell? ⟨b, off + i * 3 + 1, none⟩ = some (.int .u64 c.2.1) ∧ w.cell? ⟨b, off + i * 3 + 2, none⟩ = some (.int .u64 c.2.2))
theorem CvAt.later {w w' : World} {v : Value} {l : List Cv} (h : CvAt w v l) (hb : Below w.heap.size w w') : CvAt w' v l := by
  obtain ⟨h1, h2, a, cap, e, h3⟩ := h
  refine ⟨h1, h2, a, cap, e, ?_⟩
  rcases h3 with h3 | ⟨b, off, e, hl, hcap, hc⟩
  · exact .inl h3
  · refine .inr ⟨b, off, e, Nat.lt_of_lt_of_le hl hb.size, hcap, fun i q hq => ?_⟩
    obtain ⟨c0, c1, c2⟩ := hc i q hq
    exact ⟨(hb.cell (p := ⟨b, _, none⟩) hl).trans c0, (hb.cell (p := ⟨b, _, none⟩) hl).trans c1, (hb.cell (p := ⟨b, _, none⟩) hl).trans c2⟩
theorem CvAt.grown {w w' : World} {v : Value} {l : List Cv} {row : Option Nat} (h : CvAt w v l) (hg : w.grownBy w' row) (hne : ∀ k, v.ownBlock = some k → some k ≠ row) : CvAt w' v l := by
  obtain ⟨h1, h2, a, cap, e, h3⟩ := h
  refine ⟨h1, h2, a, cap, e, ?_⟩
  rcases h3 with h3 | ⟨b, off, e2, hl, hcap, hc⟩
  · exact .inl h3
  · subst e2; subst e
    refine .inr ⟨b, off, rfl, Nat.lt_of_lt_of_le hl hg.size, hcap, fun i q hq => ?_⟩
    obtain ⟨c0, c1, c2⟩ := hc i q hq
    have hb := hne b rfl
    exact ⟨(hg.cell_far ⟨b, _, none⟩ hl hb).trans c0, (hg.cell_far ⟨b, _, none⟩ hl hb).trans c1, (hg.cell_far ⟨b, _, none⟩ hl hb).trans c2⟩
theorem CvAt.of_row {w : World} {base g cap : Nat} {l : List Cv} (h : w.ownsRow base 34 3 (.slice (some ⟨g, 0, none⟩) l.length cap) l.length (cvCells l)) (hu : UU l) (hl : l.length ≤ 1000000) : CvAt w (.slice (some ⟨g, 0, none⟩) l.length cap) l := by
  have hlt := (h.lt g rfl).2
  have hcap : l.length ≤ cap := by
    rcases h.2 with ⟨h', _⟩ | ⟨g', cap', cur, h', _, _, hn, _⟩
    · simp at h'
    · simp only [Value.slice.injEq, Option.some.injEq, Addr.mk.injEq, and_true, true_and] at h'
      obtain ⟨_, rfl⟩ := h'
      exact hn
  refine ⟨hu, hl, _, _, rfl, .inr ⟨g, 0, rfl, hlt, hcap, fun i c hc => ?_⟩⟩
  have hi : i < l.length := (List.getElem?_eq_some_iff.1 hc).1
  obtain ⟨c0, c1, c2⟩ := cvCells_get l i c hc
  rw [Nat.zero_add]
  exact ⟨(h.cellAt _ (by omega)).trans c0, (h.cellAt _ (by omega)).trans c1, (h.cellAt _ (by omega)).trans c2⟩

theorem ent_may1 : ∀ args w, (callFunc 108 args).run Tryz.prog w = .ok (.enter 108 args) w := enters_of Tryz.func108 (by kernel_rfl) rfl

theorem may1_any (c : Cv) (w : World) (h : 0 ≤ c.2.1) :
    Calls Tryz.prog 108 #[cvV c] w fun e w' => e = .returned (.bool (!okC c)) ∧ Below w.heap.size w w' := by
  obtain ⟨F, L, R⟩ := c
  unfold cvV okC
  dsimp only at h ⊢
  go_enter Tryz.func108, Tryz.ntmps108
  go_wp2_with fail
  refine (may_any F L R _ h).mono ?_
  rintro e w1 ⟨rfl, hb1⟩
  have hb := ((Below.refl w.heap.size w).alloc (Nat.le_refl _) (.cells #[.int .u64 F, .int .u64 L, .int .u64 R] 34)).trans (hb1.mono (by simp))
  have HB := Lib.hid hb
  clear hb hb1
  cases hm : mayB F L R <;>
  · go_wp2_with fail
    go_ret
    exact ⟨by rw [hm]; rfl, HB.out⟩

/-- how many come first that may be -/
def oks (l : List Cv) : Nat := (l.takeWhile okC).length
theorem idx_any (a : Option Addr) (cap : Nat) (l : List Cv) (w : World) (h : CvAt w (.slice a l.length cap) l) :
    Calls Tryz.prog 114 #[.slice a l.length cap, .func (.func 108) #[] #[]] w fun e w' =>
      ∃ z, e = .returned (.int .i64 z) ∧ ((z = -1 ∧ ∀ c ∈ l, okC c = true) ∨ ∃ (k : Nat) (c : Cv), z = k ∧ l[k]? = some c ∧ okC c = false ∧ ∀ c ∈ l.take k, okC c = true) ∧ Below w.heap.size w w' := by
  have hl2 := h.2.1
  have eg := ent_may1
  have H := Lib.hid h
  clear h
  go_enter Tryz.func114, Tryz.ntmps114
  go_wp2_with fail
  go_loopw [8] (fun iv W => ∃ k : Nat, k ≤ l.length ∧ iv = .int .i64 k ∧ Below w.heap.size w W ∧ ∀ c ∈ l.take k, okC c = true) (fun iv _ => l.length - (intOf iv).toNat)
  case atStart => exact ⟨0, by omega, rfl, by go_grown, by simp⟩
  case round =>
    obtain ⟨k, hk, rfl, hb, hA⟩ := hrel
    have HA := Lib.hid hA
    have HB := Lib.hid hb
    clear hA
    by_cases hlt : k < l.length
    · obtain ⟨c, hc⟩ : ∃ c, l[k]? = some c := ⟨_, List.getElem?_eq_getElem (by omega)⟩
      obtain ⟨hu, _, a', cap', e', h0 | ⟨b, off, e2, hbl, _, hcells⟩⟩ := H.out.later hb
      · rw [h0] at hlt; simp at hlt
      · simp only [Value.slice.injEq, true_and] at e'
        obtain ⟨rfl, rfl⟩ := e'
        subst e2
        obtain ⟨c0, c1, c2⟩ := hcells k c hc
        have hL := (hu c (List.mem_of_getElem? hc)).2.1.1
        have HC := Lib.hid hc
        clear hcells hu hbl hb hc
        have hcall := may1_any c wr hL
        unfold cvV at hcall
        obtain ⟨ob, hob⟩ : ∃ ob, okC c = ob := ⟨_, rfl⟩
        have HO := Lib.hid hob
        rw [hob] at hcall
        clear hob
        obtain ⟨F, L, R⟩ := c
        dsimp only at c0 c1 c2 hcall hL
        cases ob
        · go_wp2_with (go_at_fn 108; refine hcall.mono ?_; rintro e w' ⟨rfl, hb'⟩)
          go_ret
          exact ⟨_, rfl, .inr ⟨k, _, rfl, HC.out, HO.out, HA.out⟩, HB.out.trans (hb'.mono HB.out.size)⟩
        · go_wp2_with (go_at_fn 108; refine hcall.mono ?_; rintro e w' ⟨rfl, hb'⟩)
          go_roundw
          case measure => simp [intOf]; omega
          case rel =>
            refine ⟨k + 1, by omega, by go_num, HB.out.trans (hb'.mono HB.out.size), fun x hx => ?_⟩
            rw [List.take_add_one, HC.out] at hx
            rcases List.mem_append.1 hx with hx | hx
            · exact HA.out x hx
            · simp at hx; rw [hx]; exact HO.out
    · obtain rfl : k = l.length := by omega
      clear hb
      go_wp2_with fail
      go_ret
      exact ⟨_, rfl, .inl ⟨rfl, fun c hc => HA.out c (by rw [List.take_length]; exact hc)⟩, HB.out⟩

theorem grown_none {w w' : World} (h : Below w.heap.size w w') : w.grownBy w' none := ⟨h.os, h.tape, h.output, h.size, fun k hk _ => h.block k hk⟩
theorem grown_setC (w : World) (g o : Nat) (u : Value) : w.grownBy (w.setCell ⟨g, o, none⟩ u) (some g) :=
  ⟨rfl, rfl, rfl, by simp, fun k _ hk => heap_setCell_other w ⟨g, o, none⟩ k u (fun e => hk (by simp [e]))⟩
theorem setCells_grown (b : Nat) : ∀ (vs : List Value) (w : World) (o : Nat), w.grownBy (w.setCells b o vs) (some b)
  | [], w, o => World.grownBy.refl w _
  | v :: vs, w, o => by
    rw [World.setCells]
    exact (grown_setC w b o v).trans (setCells_grown b vs (w.setCell ⟨b, o, none⟩ v) (o + 1))

/-- clear(s) on curves -/
theorem run_clear_cv (w : World) (ty : TypeId) (b o n c : Nat) (hn : 0 < n) (hc : ∀ j, j < n * 3 → (w.cell? ⟨b, o + j, none⟩).isSome = true) (hf : ∀ j, j < n * 3 → w.frozen? ⟨b, o + j, none⟩ = false) :
    (Builtin.clear_ #[109] ty #[.slice (some ⟨b, o, none⟩) n c]).run Tryz.prog w = .ok (.tuple #[]) (w.setCells b o (List.replicate (n * 3) (.int .u64 0))) := by
  have hzc : (Builtin.zeroCells #[.int .u64 0, .int .u64 0, .int .u64 0] n).toList = List.replicate (n * 3) (.int .u64 0) := by
    apply List.ext_getElem
    · simp [Builtin.zeroCells]
    · intro i h1 h2
      have : i % 3 < 3 := Nat.mod_lt _ (by omega)
      simp [Builtin.zeroCells]
      rcases (show i % 3 = 0 ∨ i % 3 = 1 ∨ i % 3 = 2 by omega) with e | e | e <;> rw [e] <;> rfl
  have hst := run_storeCells_cells (P := Tryz.prog) b o (List.replicate (n * 3) (.int .u64 0)) 0 w (by simpa using hc) (by simpa using hf) (by intro v hv'; rw [List.eq_of_mem_replicate hv']; rfl)
  simp only [Nat.add_zero] at hst
  obtain ⟨m, rfl⟩ : ∃ m, n = m + 1 := ⟨n - 1, by omega⟩
  simp [Builtin.clear_, run_underlying Tryz.underlying109, Tryz.zeroValue34, Value.cells, hzc, hst]

/-- between two rounds of slices.DeleteFunc -/
structure DelAt (wr : World) (base g cap : Nat) (l : List Cv) (j i : Nat) (r : List Cv) : Prop where
  row : wr.ownsRow base 34 3 (.slice (some ⟨g, 0, none⟩) l.length cap) l.length (cvCells r)
  len : r.length = l.length
  lt : i < j
  kept : r.take i = (l.take j).filter okC
  rest : ∀ m, j ≤ m → r[m]? = l[m]?
theorem DelAt.later {wr wr' : World} {base g cap j i : Nat} {l r : List Cv} (h : DelAt wr base g cap l j i r) (hb : Below wr.heap.size wr wr') : DelAt wr' base g cap l j i r :=
  ⟨h.row.kept (grown_none hb) (.inr (by simp [Value.ownBlock])), h.len, h.lt, h.kept, h.rest⟩
theorem DelAt.skip {wr : World} {base g cap j i : Nat} {l r : List Cv} {c : Cv} (h : DelAt wr base g cap l j i r) (hc : l[j]? = some c) (ho : okC c = false) : DelAt wr base g cap l (j + 1) i r :=
  ⟨h.row, h.len, by have := h.lt; omega, by rw [h.kept, List.take_add_one, hc, List.filter_append]; simp [ho], fun m hm => h.rest m (by omega)⟩
theorem DelAt.keep {wr wr' : World} {base g cap j i : Nat} {l r : List Cv} {c : Cv} (h : DelAt wr base g cap l j i r) (hc : l[j]? = some c) (ho : okC c = true)
    (hrow : wr'.ownsRow base 34 3 (.slice (some ⟨g, 0, none⟩) l.length cap) l.length (cvCells (r.set i c))) : DelAt wr' base g cap l (j + 1) (i + 1) (r.set i c) := by
  have hj : j < l.length := (List.getElem?_eq_some_iff.1 hc).1
  have hi := h.lt
  have hr := h.len
  refine ⟨hrow, by rw [List.length_set]; exact h.len, by omega, ?_, fun m hm => ?_⟩
  · rw [List.take_add_one, List.getElem?_set, if_pos rfl, if_pos (by omega), List.take_set_of_le (by omega), h.kept, List.take_add_one, hc, List.filter_append]
    simp [ho]
  · rw [List.getElem?_set, if_neg (by omega)]
    exact h.rest m (by omega)

set_option maxHeartbeats 2000000 in
theorem del_any (base g cap : Nat) (l : List Cv) (w : World) (hr : w.ownsRow base 34 3 (.slice (some ⟨g, 0, none⟩) l.length cap) l.length (cvCells l)) (hu : UU l) (hl : l.length ≤ 1000000) :
    Calls Tryz.prog 106 #[.slice (some ⟨g, 0, none⟩) l.length cap, .func (.func 108) #[] #[]] w fun e w' =>
      ∃ v, e = .returned v ∧ (CvAt w' v (l.filter okC) ∧ ∀ k, v.ownBlock = some k → base ≤ k) ∧ Below base w w' := by
  have eg := ent_may1
  have hbg : base ≤ g ∧ g < w.heap.size := hr.lt g rfl
  have HR := Lib.hid hr
  have HU := Lib.hid hu
  clear hr hu
  have hix := idx_any (some ⟨g, 0, none⟩) cap l w (CvAt.of_row HR.out HU.out hl)
  go_enter Tryz.func106, Tryz.ntmps106
  go_wp2_with fail
  refine hix.mono ?_
  clear hix
  rintro e w1 ⟨z, rfl, hcase, hb1⟩
  have hb1' := hb1.mono (show base ≤ w.heap.size by omega)
  have hR1 := HR.out.kept (grown_none hb1) (.inr (by simp [Value.ownBlock]))
  rcases hcase with ⟨rfl, hall⟩ | ⟨k, c, rfl, hc, ho, hall⟩
  · have hf : l.filter okC = l := List.filter_eq_self.2 hall
    have HF := Lib.hid hf
    have HA := Lib.hid hR1
    clear hall hf hR1
    go_wp2_with fail
    go_ret
    refine ⟨.slice (some ⟨g, 0, none⟩) l.length cap, rfl, ⟨?_, fun k e => by cases e; exact hbg.1⟩, hb1'⟩
    rw [HF.out]
    exact CvAt.of_row HA.out HU.out hl
  · have hk : k < l.length := (List.getElem?_eq_some_iff.1 hc).1
    have hD : DelAt w1 base g cap l (k + 1) k l := ⟨hR1, rfl, by omega, by rw [List.take_add_one, hc, List.filter_append, List.filter_eq_self.2 hall]; simp [ho], fun m _ => rfl⟩
    have HD := Lib.hid hD
    have HB := Lib.hid hb1'
    clear hR1 hall hc ho hD hb1 hb1'
    go_wp2_with fail
    go_loopw [5, 6] (fun iv jv W => ∃ i j r, j ≤ l.length ∧ iv = .int .i64 (i : Nat) ∧ jv = .int .i64 (j : Nat) ∧ DelAt W base g cap l j i r ∧ Below base w W) (fun _ jv _ => l.length - (intOf jv).toNat)
    case atStart => exact ⟨k, k + 1, l, by omega, rfl, by go_num, HD.out, HB.out⟩
    case round =>
      obtain ⟨i, j, r, hj, rfl, rfl, hD, hb⟩ := hrel
      have hij := hD.lt
      have hrl := hD.len
      have HD2 := Lib.hid hD
      have HB2 := Lib.hid hb
      by_cases hlt : j < l.length
      · obtain ⟨c, hc⟩ : ∃ c, l[j]? = some c := ⟨_, List.getElem?_eq_getElem (by omega)⟩
        obtain ⟨c0, c1, c2⟩ := cvCells_get r j c ((hD.rest j (Nat.le_refl _)).trans hc)
        rw [← hD.row.cellAt _ (by omega)] at c0 c1 c2
        have hL := (HU.out c (List.mem_of_getElem? hc)).2.1.1
        have HC := Lib.hid hc
        clear hD hb hc
        obtain ⟨F, L, R⟩ := c
        dsimp only at c0 c1 c2 hL
        have hcall := may1_any (F, L, R) (wr.alloc (.cells #[.int .u64 F, .int .u64 L, .int .u64 R] 34)) hL
        unfold cvV at hcall
        dsimp only at hcall
        obtain ⟨ob, hob⟩ : ∃ ob, okC (F, L, R) = ob := ⟨_, rfl⟩
        have HO := Lib.hid hob
        rw [hob] at hcall
        clear hob
        go_wp2_with fail
        go_at_fn 108
        refine hcall.mono ?_
        rintro e w2 ⟨rfl, hb2⟩
        have hbw := ((Below.refl wr.heap.size wr).alloc (Nat.le_refl _) (.cells #[.int .u64 F, .int .u64 L, .int .u64 R] 34)).trans (hb2.mono (by simp))
        have hv := (Blk.new wr 34 #[.int .u64 F, .int .u64 L, .int .u64 R]).below hb2 (by simp)
        have hD2 := HD2.out.later hbw
        have HB3 := Lib.hid (HB2.out.trans (hbw.mono (HB2.out.size |> fun h => by have := HD2.out.row.lt g rfl; omega)))
        have v0 := hv.cell 0; have v1 := hv.cell 1; have v2 := hv.cell 2
        obtain ⟨d, hd⟩ : ∃ d, r[i]? = some d := ⟨_, List.getElem?_eq_getElem (by omega)⟩
        obtain ⟨e0, e1, e2⟩ := cvCells_get r i d hd
        rw [← hD2.row.cellAt _ (by omega)] at e0 e1 e2
        have f0 := hD2.row.frozenAt (i * 3); have f1 := hD2.row.frozenAt (i * 3 + 1); have f2 := hD2.row.frozenAt (i * 3 + 2)
        have HD3 := Lib.hid hD2
        clear hcall hb2 hbw hv hD2 hd c0 c1 c2
        cases ob
        · go_wp2_with fail
          go_roundw
          case measure => simp [intOf]; omega
          case rel => (repeat apply Exists.intro); exact ⟨⟨i, j + 1, r, by omega, rfl, by go_num, HD3.out.skip HC.out HO.out, HB3.out⟩, rfl⟩
        · go_wp2_with fail
          go_roundw
          case measure => simp [intOf]; omega
          case rel =>
            have s1 := HD3.out.row.stored (i * 3) (.int .u64 F)
            have s2 := s1.1.stored (i * 3 + 1) (.int .u64 L)
            have s3 := s2.1.stored (i * 3 + 2) (.int .u64 R)
            have hset := cvCells_set r i (F, L, R) (by omega)
            dsimp only at hset
            have hg := (s1.2.trans s2.2).trans s3.2
            (repeat apply Exists.intro)
            exact ⟨⟨i + 1, j + 1, r.set i (F, L, R), by omega, by go_num, by go_num, HD3.out.keep HC.out HO.out (by rw [← hset]; exact s3.1), HB3.out.grown hg (by have := HB3.out.size; omega) (fun k e => by cases e; exact hbg.1)⟩, rfl⟩
      · obtain rfl : j = l.length := by omega
        have hcap : l.length ≤ cap := by
          rcases hD.row.2 with ⟨h', _⟩ | ⟨g', cap', cur, h', _, _, hn, _⟩
          · simp at h'
          · simp only [Value.slice.injEq, Option.some.injEq, Addr.mk.injEq, and_true, true_and] at h'
            obtain ⟨_, rfl⟩ := h'
            exact hn
        have hcl : ∀ ty, (Builtin.clear_ #[109] ty #[.slice (some ⟨g, i * 3, none⟩) (l.length - i) (cap - i)]).run Tryz.prog wr = .ok (.tuple #[]) (wr.setCells g (i * 3) (List.replicate ((l.length - i) * 3) (.int .u64 0))) := fun ty =>
          run_clear_cv wr ty g (i * 3) (l.length - i) (cap - i) (by omega) (fun m hm => by rw [hD.row.cellAt _ (by omega), List.getElem?_eq_getElem (by rw [cvCells_length]; omega)]; rfl) (fun m hm => hD.row.frozenAt _)
        have hilz : (i : Int) ≤ (l.length : Int) := by omega
        clear hD hb
        go_wp2_with fail
        go_ret
        have hk := HD2.out.kept
        rw [List.take_length] at hk
        have hkl : (l.filter okC).length = i := by rw [← hk, List.length_take]; omega
        refine ⟨.slice (some ⟨g, 0, none⟩) i cap, rfl, ⟨⟨fun c hc => HU.out c (List.mem_filter.1 hc).1, by have := List.length_filter_le okC l; omega, _, cap, by rw [hkl], .inr ⟨g, 0, rfl, ?_, by omega, fun m c hm => ?_⟩⟩, fun k e => by cases e; exact hbg.1⟩, ?_⟩
        · have := (setCells_grown g (List.replicate ((l.length - i) * 3) (.int .u64 0)) wr (i * 3)).size
          have := HD2.out.row.lt g rfl
          omega
        · have hmi : m < i := by rw [← hkl]; exact (List.getElem?_eq_some_iff.1 hm).1
          rw [← hk, List.getElem?_take, if_pos hmi] at hm
          obtain ⟨c0, c1, c2⟩ := cvCells_get r m c hm
          rw [← HD2.out.row.cellAt _ (by omega)] at c0 c1 c2
          rw [Nat.zero_add]
          refine ⟨?_, ?_, ?_⟩ <;> rw [World.cell?_setCells_out _ _ _ _ _ (fun _ _ => .inl (by simp only; omega))] <;> assumption
        · exact HB2.out.grown (setCells_grown _ _ _ _) (by have := HB2.out.size; omega) (fun k e => by cases e; exact hbg.1)

theorem info_curve : (Tryz.prog.info? 34).map (fun i => (i.zero, i.size, i.bytes)) = some (some (.agg #[.int .u64 0, .int .u64 0, .int .u64 0]), 3, 24) := by kernel_rfl

theorem cvCells_all {l : List Cv} {p : Nat → Value → Prop} (h : ∀ i c, l[i]? = some c → p (i * 3) (.int .u64 c.1) ∧ p (i * 3 + 1) (.int .u64 c.2.1) ∧ p (i * 3 + 2) (.int .u64 c.2.2)) : ∀ j u, (cvCells l)[j]? = some u → p j u := by
  intro j u hj
  have hlt : j < (cvCells l).length := (List.getElem?_eq_some_iff.1 hj).1
  rw [cvCells_length] at hlt
  obtain ⟨c, hc⟩ : ∃ c, l[j / 3]? = some c := ⟨_, List.getElem?_eq_getElem (by omega)⟩
  obtain ⟨g0, g1, g2⟩ := cvCells_get l _ c hc
  obtain ⟨p0, p1, p2⟩ := h _ c hc
  rcases (show j = j / 3 * 3 ∨ j = j / 3 * 3 + 1 ∨ j = j / 3 * 3 + 2 by omega) with e | e | e
  · rw [← e] at g0 p0; rw [hj] at g0; cases g0; exact p0
  · rw [← e] at g1 p1; rw [hj] at g1; cases g1; exact p1
  · rw [← e] at g2 p2; rw [hj] at g2; cases g2; exact p2

set_option maxRecDepth 100000 in
theorem clone_any (a : Option Addr) (cap : Nat) (l : List Cv) (w : World) (h : CvAt w (.slice a l.length cap) l) :
    Calls Tryz.prog 107 #[.slice a l.length cap] w fun e w' =>
      ∃ v, e = .returned v ∧ Below w.heap.size w w' ∧ ((v = .slice none 0 0 ∧ l = []) ∨ ∃ g c, v = .slice (some ⟨g, 0, none⟩) l.length c ∧ w'.ownsRow w.heap.size 34 3 v l.length (cvCells l)) := by
  have hl2 := h.2.1
  have q : ∀ (w : World) (a : Option Addr) (n c n' c' : Nat), (binOp .eql 109 (.slice a n c) (.slice none n' c')).run Tryz.prog w = .ok (.bool a.isNone) w := fun w a n c n' c' => Lib.run_eql_slice_nil w _ _ a n c n' c' Tryz.underlying109
  have uq : ∀ w, Sem.run Tryz.prog (underlying 109) w = .ok (TypeDesc.slice 34) w := run_underlying Tryz.underlying109
  cases a with
  | none =>
    have hl : l = [] := by
      obtain ⟨_, _, a', cap', e, h0 | ⟨b, off, rfl, _⟩⟩ := h
      · exact h0
      · simp at e
    clear h
    have HL := Lib.hid hl
    clear hl
    go_enter Tryz.func107, Tryz.ntmps107
    go_wp2_with fail
    go_ret
    exact ⟨_, rfl, Below.refl _ w, .inl ⟨rfl, HL.out⟩⟩
  | some a =>
    have hA : ∀ j u, (cvCells l)[j]? = some u → w.cell? (a.add j) = some u ∧ a.block < w.heap.size := by
      obtain ⟨_, _, a', cap', e, h0 | ⟨b, off, rfl, hb, _, hc⟩⟩ := h
      · subst h0; intro j u hj; simp [cvCells] at hj
      · simp only [Value.slice.injEq, Option.some.injEq] at e
        obtain ⟨rfl, _⟩ := e
        refine cvCells_all fun i c hi => ?_
        obtain ⟨c0, c1, c2⟩ := hc i c hi
        rw [Addr.add_lit, Addr.add_lit, Addr.add_lit]
        exact ⟨⟨c0, hb⟩, ⟨c1, hb⟩, ⟨c2, hb⟩⟩
    have HA := Lib.hid hA
    clear hA h
    obtain ⟨i0, hi0, hz0, hz1, hz2⟩ := info_parts info_curve
    go_enter Tryz.func107, Tryz.ntmps107
    go_wp2_with (at_builtin; refine wpList_append_own _ rfl _ _ 109 rfl w.heap.size 34 i0 (.agg #[.int .u64 0, .int .u64 0, .int .u64 0]) 3 24 Tryz.underlying109 hi0 hz0 hz1 hz2 rfl (by decide) _ _ _ rfl (World.ownsRow_made w #[] 0 (Nat.le_refl _) (Nat.zero_le _) (by simp)) a l.length cap (cvCells l) rfl (cvCells_length l) (fun j u hj => Lib.cell?_alloc_some _ (HA.out j u hj).1) (cvCells_one l) (by unfold maxLen; omega) (by omega) (by simp) ?_; intro v' w1 hown hgrow hnil)
    go_ret
    have hown' : w1.ownsRow w.heap.size 34 3 v' l.length (cvCells l) := by simpa using hown
    refine ⟨v', rfl, ((Below.refl _ w).alloc (Nat.le_refl _) _).grown hgrow (by simp) (by intro k hk; cases hk; exact Nat.le_refl _), .inr ?_⟩
    rcases hown'.2 with ⟨e, _⟩ | ⟨g, c, cur, e, _⟩
    · exact absurd (hnil.1 e).1 (by intro h; cases h)
    · exact ⟨g, c, e, hown'⟩

theorem del_nil (w : World) : Calls Tryz.prog 106 #[.slice none 0 0, .func (.func 108) #[] #[]] w fun e w' => e = .returned (.slice none 0 0) ∧ Below w.heap.size w w' := by
  have hix := idx_any none 0 [] w ⟨fun c hc => by simp at hc, by simp, none, 0, rfl, .inl rfl⟩
  go_enter Tryz.func106, Tryz.ntmps106
  go_wp2_with fail
  refine hix.mono ?_
  clear hix
  rintro e w1 ⟨z, rfl, ⟨rfl, _⟩ | ⟨k, c, _, hc, _⟩, hb1⟩
  · have HB := Lib.hid hb1
    clear hb1
    go_wp2_with fail
    go_ret
    exact ⟨rfl, HB.out⟩
  · simp at hc

theorem smay_any (v : Value) (l : List Cv) (w : World) (h : CvAt w v l) :
    Calls Tryz.prog 99 #[v] w fun e w' => ∃ v', e = .returned v' ∧ (CvAt w' v' (l.filter okC) ∧ ∀ k, v'.ownBlock = some k → w.heap.size ≤ k) ∧ Below w.heap.size w w' := by
  obtain ⟨hu, hl, a, cap, rfl, hc⟩ := h
  have h : CvAt w (.slice a l.length cap) l := ⟨hu, hl, a, cap, rfl, hc⟩
  have HU := Lib.hid hu
  have hcl := clone_any a cap l w h
  clear hc h hu
  go_enter Tryz.func99, Tryz.ntmps99
  go_wp2_with fail
  refine hcl.mono ?_
  clear hcl
  rintro e w1 ⟨v1, rfl, hb1, ⟨rfl, hl0⟩ | ⟨g, c, rfl, hr⟩⟩
  · subst hl0
    have hd := del_nil w1
    have HB := Lib.hid hb1
    clear hb1
    go_wp2_with fail
    refine hd.mono ?_
    clear hd
    rintro e w2 ⟨rfl, hb2⟩
    have HB2 := Lib.hid (HB.out.trans (hb2.mono HB.out.size))
    clear hb2
    go_wp2_with fail
    go_ret
    exact ⟨.slice none 0 0, rfl, ⟨⟨fun c hc => by simp at hc, by simp, none, 0, rfl, .inl rfl⟩, fun k e => by cases e⟩, HB2.out⟩
  · have hd := del_any w.heap.size g c l w1 hr HU.out hl
    have HB := Lib.hid hb1
    clear hr hb1
    go_wp2_with fail
    refine hd.mono ?_
    clear hd
    rintro e w2 ⟨v2, rfl, hc2, hb2⟩
    have HC := Lib.hid hc2
    have HB2 := Lib.hid (HB.out.trans hb2)
    clear hc2 hb2
    go_wp2_with fail
    go_ret
    exact ⟨_, rfl, HC.out, HB2.out⟩

end Go.Proofs.YtclhhegfffccgaaGreat
