/- Lemmas of the claim, merged: HTwo, HWhat. No conditions beyond those that each states. -/
import Derived.Test.YtclhhegfffccgaaGreatWH2
import Derived.Test.YtclhhegfffccgaaGreatRegN
import Derived.BigQuiet
import Derived.Deep.CutRange
import Derived.Deep.DeepCutAuto
/-
  Two trees of classes side by side, beside a third one that nobody changes: what one act changes of one of them leaves the others.
-/
namespace Go.Proofs.YtclhhegfffccgaaGreat
set_option linter.unusedVariables false
open Go.RowKit Go.Maps

theorem owns_heap {w w' : World} {base sz n : Nat} {e : TypeId} {v : Value} {xs : List Value} (h : w.ownsRow base e sz v n xs) (hs : w.heap.size ≤ w'.heap.size) (hk : ∀ b, v.ownBlock = some b → w'.heap[b]? = w.heap[b]?) : w'.ownsRow base e sz v n xs := by
  refine ⟨h.1, ?_⟩
  rcases h.2 with h2 | ⟨g, c, cur, rfl, h1, h2, h3⟩
  · exact .inl h2
  · exact .inr ⟨g, c, cur, rfl, h1, (hk g rfl).trans h2, h3⟩
section
variable {W W' : World} {base base' g ma mu : Nat} {U : List (Int × Value)} {M : Mp} {S : Nat → Prop}
/-- what is told of the parts of a tree -/
theorem TreeX.kind (h : TreeX W base g ma mu U M) {x : Nat} (hx : own ma mu U x) {t : TypeId} {cs : Array Value} (ht : 3 ≠ t) : ¬ Blk W x t cs := by
  intro hB
  rcases hx with rfl | rfl | ⟨k, hk⟩
  · exact blk_map hB h.all rfl
  · exact blk_map hB h.und rfl
  · exact row_blk (h.rows k) hB ht hk
theorem TreeX.frK (h : TreeX W base g ma mu U M) (hf : Fr S W W') (hn : ∀ x, own ma mu U x → ¬ S x) (hg : ¬ S g) : TreeX W' base g ma mu U M :=
  ⟨(hf.block g h.blk.lt hg).trans h.blk, h.all.heap (hf.block ma h.all.lt (hn ma (.inl rfl))), h.und.heap (hf.block mu h.und.lt (hn mu (.inr (.inl rfl)))),
    fun k => owns_heap (h.rows k) hf.size fun b hb => hf.block b ((h.rows k).lt b hb).2 (hn b (.inr (.inr ⟨k, hb⟩))), h.apart, h.gb, h.ab, h.ub, h.ne, h.keys, h.inv⟩
theorem TreeX.lower (h : TreeX W base g ma mu U M) (hb : base' ≤ base) : TreeX W base' g ma mu U M :=
  ⟨h.blk, h.all, h.und, fun k => owns_baseH (h.rows k) hb, h.apart, Nat.le_trans hb h.gb, Nat.le_trans hb h.ab, Nat.le_trans hb h.ub, h.ne, h.keys, h.inv⟩
end
/-- blocks that neither tree owns -/
def Out (W : World) (ama amu : Nat) (UA : List (Int × Value)) (bma bmu : Nat) (UB : List (Int × Value)) (x : Nat) : Prop := x < W.heap.size ∧ ¬ own ama amu UA x ∧ ¬ own bma bmu UB x
structure AB (w0 W : World) (ag ama amu : Nat) (A : Mp) (bg bma bmu : Nat) (B : Mp) (rs : List (Value × List Int)) : Prop where
  below : Below w0.heap.size w0 W
  ex : ∃ UA UB, TreeX W w0.heap.size ag ama amu UA A ∧ TreeX W w0.heap.size bg bma bmu UB B ∧ (∀ x, own ama amu UA x → ¬ own bma bmu UB x) ∧ ∀ r ∈ rs, IntX (Out W ama amu UA bma bmu UB) W r.1 r.2
section
variable {w0 W W' : World} {ag ama amu bg bma bmu : Nat} {A B : Mp} {rs : List (Value × List Int)}
theorem AB.later (h : AB w0 W ag ama amu A bg bma bmu B rs) (hb : Below W.heap.size W W') : AB w0 W' ag ama amu A bg bma bmu B rs := by
  obtain ⟨hb0, UA, UB, ha, hbt, hx, hr⟩ := h
  exact ⟨hb0.trans (hb.mono hb0.size), UA, UB, ha.later hb, hbt.later hb, hx, fun r hm => (hr r hm).later hb fun b hb2 => ⟨Nat.lt_of_lt_of_le hb2.1 hb.size, hb2.2⟩⟩
/-- a row that was laid just now -/
theorem AB.row (h : AB w0 W ag ama amu A bg bma bmu B rs) {v : Value} {l : List Int} (hb : Below W.heap.size W W') (ho : W'.ownsRow W.heap.size 3 1 v l.length (l.map (Value.int .i64))) (hl : l.length ≤ 1000000) : AB w0 W' ag ama amu A bg bma bmu B ((v, l) :: rs) := by
  obtain ⟨hb0, UA, UB, ha, hbt, hx, hr⟩ := h
  refine ⟨hb0.trans (hb.mono hb0.size), UA, UB, ha.later hb, hbt.later hb, hx, fun r hm => ?_⟩
  rcases List.mem_cons.1 hm with rfl | hm
  · exact ⟨IntAt.of_owns ho hl, fun _ b e => ⟨(ho.lt b e).2, fun ho2 => by have := (ho.lt b e).1; have := (ha.owned ho2).2; omega, fun ho2 => by have := (ho.lt b e).1; have := (hbt.owned ho2).2; omega⟩⟩
  · exact (hr r hm).later hb fun b hb2 => ⟨Nat.lt_of_lt_of_le hb2.1 hb.size, hb2.2⟩
theorem AB.less (h : AB w0 W ag ama amu A bg bma bmu B rs) {rs' : List (Value × List Int)} (hs : ∀ r ∈ rs', r ∈ rs) : AB w0 W ag ama amu A bg bma bmu B rs' := by
  obtain ⟨hb0, UA, UB, ha, hbt, hx, hr⟩ := h
  exact ⟨hb0, UA, UB, ha, hbt, hx, fun r hm => hr r (hs r hm)⟩
theorem AB.swap (h : AB w0 W ag ama amu A bg bma bmu B rs) : AB w0 W bg bma bmu B ag ama amu A rs := by
  obtain ⟨hb0, UA, UB, ha, hbt, hx, hr⟩ := h
  exact ⟨hb0, UB, UA, hbt, ha, fun x h1 h2 => hx x h2 h1, fun r hm => (hr r hm).later (Below.refl _ _) fun b hb => ⟨hb.1, hb.2.2, hb.2.1⟩⟩
theorem AB.int (h : AB w0 W ag ama amu A bg bma bmu B rs) {v : Value} {l : List Int} (hm : (v, l) ∈ rs) : IntAt W v l := by
  obtain ⟨_, UA, UB, _, _, _, hr⟩ := h
  exact (hr _ hm).1
theorem AB.tsA (h : AB w0 W ag ama amu A bg bma bmu B rs) : TS w0 W w0.heap.size ag ama amu A := by
  obtain ⟨hb0, UA, UB, ha, hbt, hx, hr⟩ := h
  exact ⟨⟨UA, ha⟩, Nat.le_refl _, hb0⟩
theorem AB.tsB (h : AB w0 W ag ama amu A bg bma bmu B rs) : TS w0 W w0.heap.size bg bma bmu B := h.swap.tsA
/-- specs' boxes stay -/
def KeepS (W W' : World) : Prop := ∀ b cs, Blk W b 36 cs → Blk W' b 36 cs
theorem AB.act (h : AB w0 W ag ama amu A bg bma bmu B rs) {UA UB : List (Int × Value)} (ha : TreeX W w0.heap.size ag ama amu UA A) (hbt : TreeX W w0.heap.size bg bma bmu UB B) (hx : ∀ x, own ama amu UA x → ¬ own bma bmu UB x) (hr : ∀ r ∈ rs, IntX (Out W ama amu UA bma bmu UB) W r.1 r.2)
    {r : Int × Mp} {e : Ending} (hact : ActW W w0.heap.size ag ama amu UA r e W') : e = .returned (.int .i64 r.1) ∧ AB w0 W' ag ama amu r.2 bg bma bmu B rs ∧ KeepS W W' := by
  obtain ⟨UA', he, ha', hfr, hown⟩ := hact
  refine ⟨he, ⟨h.below.trans (hfr.below (fun b hb => (ha.owned hb).1) h.below.size), UA', UB, ha', hbt.frK hfr (fun x h1 h2 => hx x h2 h1) (fun h2 => ha.kind h2 (by decide) hbt.blk), fun x h1 h2 => ?_, fun q hq => ?_⟩, fun b cs hB => (hfr.block b hB.lt fun ho => ha.kind ho (by decide) hB).trans hB⟩
  · rcases hown x h1 with h1 | h1
    · exact hx x h1 h2
    · have := (hbt.owned h2).2; omega
  · have hq := hr q hq
    have hk := hq.kept (W' := W') (fun b hb => hfr.block b hb.1 hb.2.1) (fun b hb => Nat.lt_of_lt_of_le hb.1 hfr.size)
    exact hk.later (Below.refl _ _) fun b hb => ⟨Nat.lt_of_lt_of_le hb.1 hfr.size, fun ho => by
      rcases hown b ho with ho | ho
      · exact hb.2.1 ho
      · have := hb.1; omega, hb.2.2⟩
theorem AB.addA (h : AB w0 W ag ama amu A bg bma bmu B rs) (s : Sp) (hw : WfSp s) : Calls Tryz.prog 8 #[.pointer (some ⟨ag, 0, none⟩), spV s] W fun e W' => e = .returned (.int .i64 (addM A s).1) ∧ AB w0 W' ag ama amu (addM A s).2 bg bma bmu B rs ∧ KeepS W W' := by
  obtain ⟨UA, UB, ha, hbt, hx, hr⟩ := h.ex
  exact (tadd_any s w0.heap.size ag ama amu UA A W hw ha).mono fun e W' hact => h.act ha hbt hx hr hact
theorem AB.addB (h : AB w0 W ag ama amu A bg bma bmu B rs) (s : Sp) (hw : WfSp s) : Calls Tryz.prog 8 #[.pointer (some ⟨bg, 0, none⟩), spV s] W fun e W' => e = .returned (.int .i64 (addM B s).1) ∧ AB w0 W' ag ama amu A bg bma bmu (addM B s).2 rs ∧ KeepS W W' :=
  (h.swap.addA s hw).mono fun e W' ⟨h1, h2, h3⟩ => ⟨h1, h2.swap, h3⟩
theorem TS.leaves {w W : World} {base g ma mu : Nat} {M : Mp} (h : TS w W base g ma mu M) (id : Int) (hid : (Lit.int .i64 id).wf = true) : Calls Tryz.prog 22 #[.pointer (some ⟨g, 0, none⟩), .int .i64 id] W (IdsW W (leavesM M id)) := by
  obtain ⟨U, ht⟩ := h.tree
  exact tleaves_any 9 id base g ma mu U M W hid ht (by omega)
/-- two new trees -/
theorem AB.new {w1 w2 : World} (h1 : TS w0 w1 w0.heap.size ag ama amu []) (h2 : TS w1 w2 w1.heap.size bg bma bmu []) : AB w0 w2 ag ama amu [] bg bma bmu [] [] := by
  obtain ⟨⟨UA, ha⟩, _, hb1⟩ := h1
  obtain ⟨⟨UB, hbt⟩, _, hb2⟩ := h2
  refine ⟨hb1.trans (hb2.mono hb1.size), UA, UB, ha.later hb2, hbt.lower hb1.size, fun x h3 h4 => ?_, fun r hm => by cases hm⟩
  have := (ha.owned h3).2
  have := (hbt.owned h4).1
  omega
end
/-- the path, step by step -/
theorem InvT.path_next {M : Mp} (h : InvT M) : ∀ (n : Nat) {k : Int}, dep M k ≤ n → ∀ (q : Nat) (x : Int), (pathM M k)[q]? = some x → ∃ c, lookM M x = some c ∧ (c.1.pa = 0 ∨ (pathM M k)[q + 1]? = some c.1.pa)
  | n, k, hn, q, x, hx => by
    cases e : lookM M k with
    | none => rw [h.path_no e] at hx; simp at hx
    | some ck =>
      rw [h.path_step e] at hx ⊢
      have hd := h.kid_dep e rfl
      obtain ⟨n', rfl⟩ : ∃ n', n = n' + 1 := ⟨n - 1, by omega⟩
      cases q with
      | zero =>
        have : k = x := by simpa using hx
        subst this
        refine ⟨ck, e, ?_⟩
        rcases (h.ok _ _ e).up with ⟨h0, _⟩ | ⟨p, hp, _⟩
        · exact .inl h0
        · right; rw [h.path_step hp]; rfl
      | succ q =>
        obtain ⟨c, hc, h2⟩ := h.path_next n' (k := ck.1.pa) (by omega) q x (by simpa using hx)
        exact ⟨c, hc, h2.imp id fun h => by simpa using h⟩
theorem InvT.path_deplen {M : Mp} (h : InvT M) {k : Int} {c : Cl} (e : lookM M k = some c) : (pathM M k).length = dep M k ∧ 1 ≤ dep M k := by
  have o := h.ok _ _ e
  have h1 := h.pathF_len 8 e (by have := o.d8; omega)
  have := o.d1
  unfold pathM dep
  rw [e]
  simp only [Option.map_some, Option.getD_some]
  omega
end Go.Proofs.YtclhhegfffccgaaGreat
/-
  A tree of classes: classes that all came, in whatever order in which parents come first, make the same tree. (Printed by wip/mkhwhat.py.)
-/
namespace Go.Proofs.YtclhhegfffccgaaGreat
set_option linter.unusedVariables false
open Go.RowKit Go.Maps
attribute [local go_sem ↓] Go.wp_at_zero Go.wp_at_succ
attribute [local go_sem] quietR quietAtR quietUponR midAt midUpon
attribute [local irreducible] TStep

theorem sp_neW (s : Sp) (W : World) : (binOp .neq 36 (.agg #[.int .i64 s.id, .int .i64 s.pa, .bool s.lf, .int .u64 s.r.1, .int .u64 s.r.2.1, .int .u64 s.r.2.2, .int .u64 s.s.1, .int .u64 s.s.2.1, .int .u64 s.s.2.2, .int .u64 s.u.1, .int .u64 s.u.2.1, .int .u64 s.u.2.2, .int .i64 s.pk, .int .i64 s.by_]) (.agg #[.int .i64 s.id, .int .i64 s.pa, .bool s.lf, .int .u64 s.r.1, .int .u64 s.r.2.1, .int .u64 s.r.2.2, .int .u64 s.s.1, .int .u64 s.s.2.1, .int .u64 s.s.2.2, .int .u64 s.u.1, .int .u64 s.u.2.1, .int .u64 s.u.2.2, .int .i64 s.pk, .int .i64 s.by_])).run Tryz.prog W = .ok (.bool false) W := by go_simp
/-- level by level: those of lesser depths, and of this one those behind a place -/
def LA (w2 W : World) (ag ama amu bg bma bmu : Nat) (M : Mp) (vi : Value) (ks : List Int) (d : Nat) (i : Int) : Prop :=
  ∃ A, AB w2 W ag ama amu A bg bma bmu [] [(vi, ks)] ∧ SubT A M ∧ ∀ (j : Nat) k, ks[j]? = some k → ((lookM A k).isSome = true ↔ dep M k < d ∨ (dep M k = d ∧ i < j))
/-- path by path -/
def LB (w2 W : World) (ag ama amu bg bma bmu : Nat) (M : Mp) (vi : Value) (ks : List Int) (i : Nat) : Prop :=
  ∃ B, AB w2 W ag ama amu M bg bma bmu B [(vi, ks)] ∧ SubT B M ∧ ∀ (j : Nat) k, j < i → ks[j]? = some k → ∃ c, lookM B k = some c
def LC (w2 W : World) (ag ama amu bg bma bmu : Nat) (M : Mp) (vi : Value) (ks : List Int) (i : Nat) (vp : Value) (ps : List Int) (q : Int) : Prop :=
  ∃ B, AB w2 W ag ama amu M bg bma bmu B [(vp, ps), (vi, ks)] ∧ SubT B M ∧ (∀ (j : Nat) k, j < i → ks[j]? = some k → ∃ c, lookM B k = some c) ∧ ∀ (j : Nat) x, q < j → ps[j]? = some x → ∃ c, lookM B x = some c
section
variable {w2 W W' : World} {ag ama amu bg bma bmu : Nat} {M : Mp} {vi vp : Value} {ks ps : List Int}
theorem keys_in {M : Mp} (hI : InvT M) (hk : M.map (·.1) = ks) {j : Nat} {k : Int} (h : ks[j]? = some k) : ∃ c, lookM M k = some c := by
  rw [← hk, List.getElem?_map] at h
  cases e : M[j]? with
  | none => rw [e] at h; cases h
  | some q =>
    rw [e] at h
    have : q.1 = k := by simpa using h
    subst this
    exact ⟨q.2, look_of_mem hI.rise (List.mem_of_getElem? e)⟩
theorem in_keys {M : Mp} (hk : M.map (·.1) = ks) {k : Int} {c : Cl} (h : lookM M k = some c) : ∃ j : Nat, ks[j]? = some k := by
  have hm := mem_of_look h
  obtain ⟨j, hj⟩ := List.getElem?_of_mem hm
  exact ⟨j, by rw [← hk, List.getElem?_map, hj]; rfl⟩
theorem keys_inj {M : Mp} (hI : InvT M) (hk : M.map (·.1) = ks) {i j : Nat} {k : Int} (h : ks[i]? = some k) (h2 : ks[j]? = some k) : i = j := by
  have hp : ks.Pairwise (· < ·) := by rw [← hk]; exact List.pairwise_map.2 hI.rise
  obtain ⟨hi, e1⟩ := List.getElem?_eq_some_iff.1 h
  obtain ⟨hj, e2⟩ := List.getElem?_eq_some_iff.1 h2
  rcases Nat.lt_trichotomy i j with hl | hl | hl
  · have := List.pairwise_iff_getElem.1 hp i j hi hj hl; omega
  · exact hl
  · have := List.pairwise_iff_getElem.1 hp j i hj hi hl; omega
theorem LA.start (hI : InvT M) (hk : M.map (·.1) = ks) (h : AB w2 W ag ama amu [] bg bma bmu [] [(vi, ks)]) : LA w2 W ag ama amu bg bma bmu M vi ks 1 ((ks.length : Int) - 1) := by
  refine ⟨[], h, sub_nil M, fun j k hj => ⟨fun h => by simp [lookM] at h, fun h2 => ?_⟩⟩
  obtain ⟨c, hc⟩ := keys_in hI hk hj
  have := (hI.path_deplen hc).2
  have := (List.getElem?_eq_some_iff.1 hj).1
  omega
theorem LA.next {d : Nat} {i : Int} (hI : InvT M) (hk : M.map (·.1) = ks) (hi : i = -1) (h : LA w2 W ag ama amu bg bma bmu M vi ks d i) : LA w2 W ag ama amu bg bma bmu M vi ks (d + 1) ((ks.length : Int) - 1) := by
  obtain ⟨A, h1, h2, h3⟩ := h
  refine ⟨A, h1, h2, fun j k hj => ?_⟩
  have := (List.getElem?_eq_some_iff.1 hj).1
  rw [h3 j k hj]
  omega
theorem LA.skip {d i : Nat} {k : Int} (hk : ks[i]? = some k) (hI : InvT M) (hks : M.map (·.1) = ks) (hd : dep M k ≠ d) (h : LA w2 W ag ama amu bg bma bmu M vi ks d (i : Int)) (hb : Below W.heap.size W W') : LA w2 W' ag ama amu bg bma bmu M vi ks d ((i : Int) - 1) := by
  obtain ⟨A, h1, h2, h3⟩ := h
  refine ⟨A, h1.later hb, h2, fun j k' hj => ?_⟩
  rw [h3 j k' hj]
  by_cases e : j = i
  · subst e
    rw [hk] at hj
    cases hj
    omega
  · omega
/-- what comes next can come -/
theorem LA.can {d i : Nat} {k : Int} {A : Mp} {c : Cl} (hI : InvT M) (hks : M.map (·.1) = ks) (hk : ks[i]? = some k) (hc : lookM M k = some c) (hd : dep M k = d) (h2 : SubT A M) (h3 : ∀ (j : Nat) k, ks[j]? = some k → ((lookM A k).isSome = true ↔ dep M k < d ∨ (dep M k = d ∧ (i : Int) < j))) :
    (addM A c.1).1 = 0 ∧ SubT (addM A c.1).2 M ∧ ∀ (j : Nat) k, ks[j]? = some k → ((lookM (addM A c.1).2 k).isSome = true ↔ dep M k < d ∨ (dep M k = d ∧ (i : Int) - 1 < j)) := by
  have hn : lookM A k = none := by
    cases e : lookM A k with
    | none => rfl
    | some a => have := (h3 i k hk).1 (by rw [e]; rfl); omega
  have hp : c.1.pa = 0 ∨ ∃ p, lookM A c.1.pa = some p := by
    rcases (hI.ok _ _ hc).up with ⟨h0, _⟩ | ⟨p, hp, _⟩
    · exact .inl h0
    · right
      obtain ⟨j, hj⟩ := in_keys hks hp
      have hdd := hI.kid_dep hc rfl
      have := (h3 j _ hj).2 (.inl (by omega))
      exact Option.isSome_iff_exists.1 this
  obtain ⟨r1, r2, r3⟩ := h2.add hI hc hn hp
  refine ⟨r1, r2, fun j k' hj => ?_⟩
  rw [r3]
  by_cases e : k' = k
  · subst e
    rw [if_pos rfl]
    have := keys_inj hI hks hk hj
    subst this
    simp only [Option.isSome_some, true_iff]
    omega
  · rw [if_neg e, h3 j k' hj]
    have : j ≠ i := by rintro rfl; rw [hk] at hj; cases hj; exact e rfl
    omega
theorem LA.whole {d : Nat} {i : Int} (hI : InvT M) (hk : M.map (·.1) = ks) (hd : 9 ≤ d) (h : LA w2 W ag ama amu bg bma bmu M vi ks d i) : LB w2 W ag ama amu bg bma bmu M vi ks 0 := by
  obtain ⟨A, h1, h2, h3⟩ := h
  have : A = M := h2.whole hI fun k c hc => by
    obtain ⟨j, hj⟩ := in_keys hk hc
    exact Option.isSome_iff_exists.1 ((h3 j k hj).2 (.inl (by have := hI.dep_le k; omega)))
  subst this
  exact ⟨[], h1, sub_nil A, fun j k h => by omega⟩
theorem LC.can {i q : Nat} {k x : Int} {B : Mp} {c : Cl} (hI : InvT M) (hps : pathM M k = ps) (hx : ps[q]? = some x) (hc : lookM M x = some c) (h2 : SubT B M) (hn : lookM B x = none) (h3 : ∀ (j : Nat) k, j < i → ks[j]? = some k → ∃ c, lookM B k = some c) (h4 : ∀ (j : Nat) x, (q : Int) < j → ps[j]? = some x → ∃ c, lookM B x = some c) :
    (addM B c.1).1 = 0 ∧ SubT (addM B c.1).2 M ∧ (∀ (j : Nat) k, j < i → ks[j]? = some k → ∃ d, lookM (addM B c.1).2 k = some d) ∧ ∀ (j : Nat) y, (q : Int) - 1 < j → ps[j]? = some y → ∃ d, lookM (addM B c.1).2 y = some d := by
  have hp : c.1.pa = 0 ∨ ∃ p, lookM B c.1.pa = some p := by
    obtain ⟨c', hc', h5⟩ := hI.path_next _ (Nat.le_refl _) q x (by rw [hps]; exact hx)
    rw [hc] at hc'
    cases hc'
    rcases h5 with h5 | h5
    · exact .inl h5
    · exact .inr (h4 (q + 1) _ (by omega) (by rw [← hps]; exact h5))
  obtain ⟨r1, r2, r3⟩ := h2.add hI hc hn hp
  have more : ∀ y, (∃ d, lookM B y = some d) → ∃ d, lookM (addM B c.1).2 y = some d := fun y hy => by
    rw [r3]
    by_cases e : y = x
    · rw [if_pos e]; exact ⟨_, rfl⟩
    · rw [if_neg e]; exact hy
  refine ⟨r1, r2, fun j k hj hk => more k (h3 j k hj hk), fun j y hj hy => ?_⟩
  by_cases e : j = q
  · subst e
    rw [hx] at hy
    cases hy
    rw [r3, if_pos rfl]; exact ⟨_, rfl⟩
  · exact more y (h4 j y (by omega) hy)
theorem LC.had {q : Nat} {x : Int} {B : Mp} {cb : Cl} (hx : ps[q]? = some x) (hB : lookM B x = some cb) (h4 : ∀ (j : Nat) x, (q : Int) < j → ps[j]? = some x → ∃ c, lookM B x = some c) : ∀ (j : Nat) y, (q : Int) - 1 < j → ps[j]? = some y → ∃ d, lookM B y = some d := fun j y hj hy => by
  by_cases e : j = q
  · subst e; rw [hx] at hy; cases hy; exact ⟨cb, hB⟩
  · exact h4 j y (by omega) hy
theorem LC.done {i : Nat} {k : Int} {q : Int} (hq : q = -1) (hI : InvT M) (hk : ks[i]? = some k) {c : Cl} (hc : lookM M k = some c) (hps : pathM M k = ps) (h : LC w2 W ag ama amu bg bma bmu M vi ks i vp ps q) : LB w2 W ag ama amu bg bma bmu M vi ks (i + 1) := by
  obtain ⟨B, h1, h2, h3, h4⟩ := h
  refine ⟨B, h1.less fun r hr => by simp at hr ⊢; exact .inr hr, h2, fun j k' hj hk' => ?_⟩
  by_cases e : j = i
  · subst e
    rw [hk] at hk'
    cases hk'
    exact h4 0 k (by omega) (by rw [← hps, hI.path_step hc]; rfl)
  · exact h3 j k' (by omega) hk'
theorem LB.whole {i : Nat} (hI : InvT M) (hk : M.map (·.1) = ks) (hi : ks.length ≤ i) (h : LB w2 W ag ama amu bg bma bmu M vi ks i) : AB w2 W ag ama amu M bg bma bmu M [(vi, ks)] := by
  obtain ⟨B, h1, h2, h3⟩ := h
  have : B = M := h2.whole hI fun k c hc => by
    obtain ⟨j, hj⟩ := in_keys hk hc
    exact h3 j k (by have := (List.getElem?_eq_some_iff.1 hj).1; omega) hj
  subst this
  exact h1
end

set_option maxRecDepth 100000 in
set_option maxHeartbeats 8000000 in
/-- the law -/
theorem hierWhatever_any (a0 : Option Addr) (len cap : Nat) (z : List HAct) (w : World) (hl : len ≤ 9223372036854775807) (hz : HActsAt w a0 len z) :
    Calls Tryz.prog 4 #[.slice a0 len cap] w fun e w' => e = .returned (.bool true) ∧ Below w.heap.size w w' := by
  have HZ := Lib.hid hz
  have hzl : z.length = len := hz.1
  clear hz
  go_enter Tryz.func4, Tryz.ntmps4
  go_wp2_with fail
  refine (hawake_any w).mono ?_
  rintro e w1 ⟨rfl, hb1⟩
  have HB1 := Lib.hid hb1
  clear hb1
  go_wp2_with fail
  refine (hlong_any a0 len cap w1 hl).mono ?_
  rintro e w1' ⟨rfl, rfl⟩
  by_cases hlong : 150 < len
  · have hd : decide (150 < len) = true := decide_eq_true hlong
    rw [hd]
    clear hd
    go_wp2_with fail
    go_ret
    exact ⟨rfl, HB1.out⟩
  · have hd : decide (150 < len) = false := decide_eq_false hlong
    rw [hd]
    clear hd
    subst hzl
    have hpl := hplayed_any a0 cap z w1 (HZ.out.below HB1.out) (by omega)
    go_wp2_with fail
    refine hpl.mono ?_
    clear hpl
    rintro e w2 ⟨g, ma, mu, rfl, hT⟩
    generalize playH z = M at hT
    have hTw : TS w w2 w1.heap.size g ma mu M := ⟨hT.tree, HB1.out.size, HB1.out.trans (hT.below.mono HB1.out.size)⟩
    have HT := Lib.hid hTw
    have HI := Lib.hid hTw.inv
    clear hT hTw
    generalize w1.heap.size = base at HT
    have hn1 := tnewS w2
    go_wp2_with fail
    refine hn1.mono ?_
    clear hn1
    rintro e w3 ⟨ag, ama, amu, rfl, hA⟩
    have hn2 := tnewS w3
    have HA := Lib.hid hA
    clear hA
    go_wp2_with fail
    refine hn2.mono ?_
    clear hn2
    rintro e w4 ⟨bg, bma, bmu, rfl, hBt⟩
    have hab := AB.new HA.out hBt
    clear hBt
    obtain ⟨ks, hks⟩ : ∃ ks, M.map (·.1) = ks := ⟨_, rfl⟩
    obtain ⟨n, hn⟩ : ∃ n, ks.length = n := ⟨_, rfl⟩
    have hn64 : n ≤ 64 := by rw [← hn, ← hks, List.length_map]; exact HI.out.few
    have ha := (HT.out.later hab.below).ids
    rw [hks] at ha
    have HK := Lib.hid (And.intro hks hn)
    have H4 := Lib.hid hab
    clear hks hn hab HA
    go_wp2_with fail
    refine ha.mono ?_
    clear ha
    rintro e w5 ⟨vi, rfl, ho, hb⟩
    have hr5 := H4.out.row hb ho (by rw [HK.out.2]; omega)
    obtain ⟨ai, ci, rfl⟩ := (hr5.int (.head _)).form
    rw [HK.out.2] at hr5 ⊢
    have H5 := Lib.hid (LA.start HI.out HK.out.1 hr5)
    clear ho hb hr5 H4
    go_wp2_with fail
    go_loopw [7] (fun v7 W => ∃ d : Nat, v7 = .int .i64 d ∧ 1 ≤ d ∧ d ≤ 9 ∧ LA w2 W ag ama amu bg bma bmu M (.slice ai n ci) ks d ((n : Int) - 1)) (fun v7 _ => (9 - Go.RowKit.intOf v7).toNat)
    case atStart => exact ⟨1, rfl, by omega, by omega, by have := H5.out; rw [HK.out.2] at this; exact this⟩
    case round =>
      obtain ⟨d, rfl, hd1, hd9, hLA⟩ := hrel
      by_cases hdlt : d ≤ 8
      · have HLA := Lib.hid hLA
        clear hLA H5
        obtain ⟨wo, rfl⟩ : ∃ wo : World, wo = wr := ⟨_, rfl⟩
        have hn0 : (0 : Int) ≤ (n : Int) := by omega
        have h8d : decide ((d : Int) ≤ 8) = true := by simp; omega
        go_wp2_with fail
        go_loopw [8] (fun v8 W => ∃ i : Int, v8 = .int .i64 i ∧ -1 ≤ i ∧ i < n ∧ LA w2 W ag ama amu bg bma bmu M (.slice ai n ci) ks d i) (fun v8 _ => (Go.RowKit.intOf v8 + 1).toNat)
        case atStart => exact ⟨_, rfl, by omega, by omega, HLA.out⟩
        case round =>
          obtain ⟨i, rfl, hi1, hi2, hLA⟩ := hrel
          by_cases hi0 : 0 ≤ i
          · as_aux_lemma =>
              obtain ⟨j, rfl⟩ : ∃ j : Nat, i = j := ⟨i.toNat, by omega⟩
              have hjn : j < n := by omega
              obtain ⟨k, hk⟩ : ∃ k, ks[j]? = some k := ⟨_, List.getElem?_eq_getElem (by rw [HK.out.2]; exact hjn)⟩
              obtain ⟨c, hc⟩ := keys_in HI.out HK.out.1 hk
              obtain ⟨A, hab, hsub, hin⟩ := hLA
              have hint := hab.int (.head _)
              obtain ⟨bi, oi, rfl⟩ := hint.some_ hk
              have hcx := (hint.cell hk).2.2
              have hnc := (hint.cell hk).2.1
              have hok := HI.out.ok k c hc
              have hkw : (Lit.int .i64 k).wf = true := by rw [← hok.id]; exact hok.wf.1.1
              have hga := (HT.out.later hab.below).get k hkw
              unfold GetW getS at hga
              rw [hc] at hga
              have HC := Lib.hid (And.intro hk (And.intro hc (And.intro hsub (And.intro hin hok.wf))))
              have HAB := Lib.hid hab
              obtain ⟨s, hs⟩ : ∃ s, c.1 = s := ⟨_, rfl⟩
              dsimp only [Option.getD, Option.isSome] at hga
              rw [hs] at hga
              unfold spV spC at hga
              have HS := Lib.hid hs
              have hpl := HI.out.path_deplen hc
              obtain ⟨m, hm⟩ : ∃ m, (pathM M k).length = m := ⟨_, rfl⟩
              rw [hm] at hpl
              have hm8 : m ≤ 8 := by have := HI.out.dep_le k; omega
              have HM := Lib.hid (And.intro hm hpl.1)
              clear hk hc hsub hin hok hab hs hpl hm hint hi1 hi2
              go_wp2_with fail
              refine hga.mono ?_
              clear hga hcx
              rintro e W1 ⟨rfl, hb1⟩
              have hbx := (Below.refl W1.heap.size W1).alloc (Nat.le_refl _) (.cells #[.int .i64 s.id, .int .i64 s.pa, .bool s.lf, .int .u64 s.r.1, .int .u64 s.r.2.1, .int .u64 s.r.2.2, .int .u64 s.s.1, .int .u64 s.s.2.1, .int .u64 s.s.2.2, .int .u64 s.u.1, .int .u64 s.u.2.1, .int .u64 s.u.2.2, .int .i64 s.pk, .int .i64 s.by_] 36)
              have hBx := Blk.new W1 36 #[.int .i64 s.id, .int .i64 s.pa, .bool s.lf, .int .u64 s.r.1, .int .u64 s.r.2.1, .int .u64 s.r.2.2, .int .u64 s.s.1, .int .u64 s.s.2.1, .int .u64 s.s.2.2, .int .u64 s.u.1, .int .u64 s.u.2.1, .int .u64 s.u.2.2, .int .i64 s.pk, .int .i64 s.by_]
              have H1 := Lib.hid (And.intro ((HAB.out.later hb1).later hbx) hBx)
              have HB0 := Lib.hid (hb1.trans (hbx.mono hb1.size))
              clear hb1 hbx hBx HAB
              obtain ⟨bs, hbs⟩ : ∃ b, b = W1.heap.size := ⟨_, rfl⟩
              rw [← hbs] at H1
              go_upto_region 17 with fail
              rw [← hbs]
              generalize W1.alloc (.cells #[.int .i64 s.id, .int .i64 s.pa, .bool s.lf, .int .u64 s.r.1, .int .u64 s.r.2.1, .int .u64 s.r.2.2, .int .u64 s.s.1, .int .u64 s.s.2.1, .int .u64 s.s.2.2, .int .u64 s.u.1, .int .u64 s.u.2.1, .int .u64 s.u.2.2, .int .i64 s.pk, .int .i64 s.by_] 36) = W2 at H1 HB0 ⊢
              clear hbs
              have hint := H1.out.1.int (.head _)
              have hcx := (hint.cell HC.out.1).2.2
              have hpa := (HT.out.later H1.out.1.below).path k hkw
              clear hint
              go_wp2_with fail
              refine hpa.mono ?_
              clear hpa hcx
              rintro e W3 ⟨vp, rfl, hop, hb3⟩
              have hip := IntAt.of_owns hop (by rw [HM.out.1]; omega)
              obtain ⟨ap, cp, rfl⟩ := hip.form
              rw [HM.out.1]
              have H3 := Lib.hid (And.intro (H1.out.1.later hb3) (H1.out.2.below hb3 H1.out.2.lt))
              have HB3 := Lib.hid (HB0.out.trans (hb3.mono HB0.out.size))
              clear hop hb3 hip H1 HB0
              have q0 := H3.out.2.cell 0; have q1 := H3.out.2.cell 1; have q2 := H3.out.2.cell 2; have q3 := H3.out.2.cell 3; have q4 := H3.out.2.cell 4; have q5 := H3.out.2.cell 5; have q6 := H3.out.2.cell 6; have q7 := H3.out.2.cell 7; have q8 := H3.out.2.cell 8; have q9 := H3.out.2.cell 9; have q10 := H3.out.2.cell 10; have q11 := H3.out.2.cell 11; have q12 := H3.out.2.cell 12; have q13 := H3.out.2.cell 13
              simp only [List.getElem?_toArray, List.getElem?_cons_zero, List.getElem?_cons_succ] at q0 q1 q2 q3 q4 q5 q6 q7 q8 q9 q10 q11 q12 q13
              by_cases hdd : dep M k = d
              · have he : ((m : Int) == (d : Int)) = true := by have := HM.out.2; simp; omega
                obtain ⟨r1, r2, r3⟩ := LA.can HI.out HK.out.1 HC.out.1 HC.out.2.1 hdd HC.out.2.2.1 HC.out.2.2.2.1
                have hadd := H3.out.1.addA s (by rw [← HS.out]; exact HC.out.2.2.2.2)
                rw [HS.out] at r1 r2 r3
                rw [r1] at hadd
                unfold spV spC at hadd
                have HR := Lib.hid (And.intro r2 r3)
                clear r1 r2 r3 hdd
                go_wp2_with fail
                refine hadd.mono ?_
                clear hadd q0 q1 q2 q3 q4 q5 q6 q7 q8 q9 q10 q11 q12 q13
                rintro e W4 ⟨rfl, hab4, _⟩
                have H4 := Lib.hid (⟨_, hab4, HR.out.1, HR.out.2⟩ : LA w2 W4 ag ama amu bg bma bmu M (.slice (some ⟨bi, oi, none⟩) n ci) ks d ((j : Int) - 1))
                clear hab4
                go_wp2_with fail
                go_roundw
                case measure => (simp [Go.RowKit.intOf]; try omega)
                case rel => exact ⟨(j : Int) - 1, rfl, by omega, by omega, H4.out⟩
              · have he : ((m : Int) == (d : Int)) = false := by have := HM.out.2; simp; omega
                have H4 := Lib.hid (LA.skip HC.out.1 HI.out HK.out.1 hdd ⟨A, H3.out.1, HC.out.2.2.1, HC.out.2.2.2.1⟩ (Below.refl _ _))
                clear hdd
                go_wp2_with fail
                go_roundw
                case measure => (simp [Go.RowKit.intOf]; try omega)
                case rel => exact ⟨(j : Int) - 1, rfl, by omega, by omega, H4.out⟩
          · have hi : i = -1 := by omega
            have hL := LA.next HI.out HK.out.1 hi hLA
            rw [HK.out.2] at hL
            have HL2 := Lib.hid hL
            clear hL hLA hi HLA
            go_wp2_with fail
            go_roundw
            case measure => (simp [Go.RowKit.intOf]; try omega)
            case rel => exact ⟨d + 1, by go_num, by omega, by omega, HL2.out⟩
      · have hLB := LA.whole HI.out HK.out.1 (by omega) hLA
        have H6 := Lib.hid hLB
        clear hLA hLB H5
        have hn0 : (0 : Int) ≤ (n : Int) := by omega
        go_wp2_with fail
        go_loopw [11] (fun v11 W => ∃ i : Nat, v11 = .int .i64 i ∧ i ≤ n ∧ LB w2 W ag ama amu bg bma bmu M (.slice ai n ci) ks i) (fun v11 _ => (n - Go.RowKit.intOf v11).toNat)
        case atStart => exact ⟨0, rfl, by omega, H6.out⟩
        case round =>
          clear H6
          obtain ⟨i, rfl, hin, hLB⟩ := hrel
          by_cases hlt : i < n
          · obtain ⟨wo, rfl⟩ : ∃ wo : World, wo = wr := ⟨_, rfl⟩
            obtain ⟨k, hk⟩ : ∃ k, ks[i]? = some k := ⟨_, List.getElem?_eq_getElem (by rw [HK.out.2]; exact hlt)⟩
            obtain ⟨c, hc⟩ := keys_in HI.out HK.out.1 hk
            obtain ⟨B, hab, hsub, hin2⟩ := hLB
            have hint := hab.int (.head _)
            obtain ⟨bi, oi, rfl⟩ := hint.some_ hk
            have hcx := (hint.cell hk).2.2
            have hnc := (hint.cell hk).2.1
            have hok := HI.out.ok k c hc
            have hkw : (Lit.int .i64 k).wf = true := by rw [← hok.id]; exact hok.wf.1.1
            have hpa := (HT.out.later hab.below).path k hkw
            obtain ⟨ps, hps⟩ : ∃ ps, pathM M k = ps := ⟨_, rfl⟩
            obtain ⟨m, hm⟩ : ∃ m, ps.length = m := ⟨_, rfl⟩
            have hpl := HI.out.path_deplen hc
            rw [hps, hm] at hpl
            have hm8 : m ≤ 8 := by have := HI.out.dep_le k; omega
            rw [hps] at hpa
            have HC := Lib.hid (And.intro hk (And.intro hc (And.intro hsub (And.intro hin2 (And.intro hps hm)))))
            have HAB := Lib.hid hab
            clear hk hc hsub hin2 hok hab hpl hps hm hint
            go_wp2_with fail
            refine hpa.mono ?_
            clear hpa hcx
            rintro e W3 ⟨vp, rfl, hop, hb3⟩
            have hr3 := HAB.out.row hb3 hop (by rw [HC.out.2.2.2.2.2]; omega)
            obtain ⟨ap, cp, rfl⟩ := (hr3.int (.head _)).form
            rw [HC.out.2.2.2.2.2] at hr3 ⊢
            have H3 := Lib.hid (⟨B, hr3, HC.out.2.2.1, HC.out.2.2.2.1, fun j x hj hx => by have := (List.getElem?_eq_some_iff.1 hx).1; have := HC.out.2.2.2.2.2; omega⟩ : LC w2 W3 ag ama amu bg bma bmu M (.slice (some ⟨bi, oi, none⟩) n ci) ks i (.slice ap m cp) ps ((m : Int) - 1))
            clear hop hb3 hr3 HAB
            have hm0 : (0 : Int) ≤ (m : Int) := by omega
            go_wp2_with fail
            go_loopw [13] (fun v13 W => ∃ q : Int, v13 = .int .i64 q ∧ -1 ≤ q ∧ q < m ∧ LC w2 W ag ama amu bg bma bmu M (.slice (some ⟨bi, oi, none⟩) n ci) ks i (.slice ap m cp) ps q) (fun v13 _ => (Go.RowKit.intOf v13 + 1).toNat)
            case atStart => exact ⟨_, rfl, by omega, by omega, H3.out⟩
            case round =>
              clear H3
              obtain ⟨q, rfl, hq1, hq2, hLC⟩ := hrel
              by_cases hq0 : 0 ≤ q
              · as_aux_lemma =>
                  obtain ⟨y, rfl⟩ : ∃ y : Nat, q = y := ⟨q.toNat, by omega⟩
                  have hym : y < m := by omega
                  obtain ⟨x, hx⟩ : ∃ x, ps[y]? = some x := ⟨_, List.getElem?_eq_getElem (by rw [HC.out.2.2.2.2.2]; exact hym)⟩
                  obtain ⟨cx, hcx, _⟩ := HI.out.path_next _ (Nat.le_refl _) y x (by rw [HC.out.2.2.2.2.1]; exact hx)
                  obtain ⟨B2, hab, hsub, hin2, hin3⟩ := hLC
                  have hint := hab.int (.head _)
                  obtain ⟨bp, op, rfl⟩ := hint.some_ hx
                  have hcc := (hint.cell hx).2.2
                  have hpc := (hint.cell hx).2.1
                  have hok := HI.out.ok x cx hcx
                  have hxw : (Lit.int .i64 x).wf = true := by rw [← hok.id]; exact hok.wf.1.1
                  have hga := (HT.out.later hab.below).get x hxw
                  unfold GetW getS at hga
                  rw [hcx] at hga
                  have HX := Lib.hid (And.intro hx (And.intro hcx (And.intro hsub (And.intro hin2 (And.intro hin3 hok.wf)))))
                  have HAB := Lib.hid hab
                  obtain ⟨s, hs⟩ : ∃ s, cx.1 = s := ⟨_, rfl⟩
                  dsimp only [Option.getD, Option.isSome] at hga
                  rw [hs] at hga
                  unfold spV spC at hga
                  have HS := Lib.hid hs
                  clear hx hcx hsub hin2 hin3 hok hab hs hint hq1 hq2
                  go_wp2_with fail
                  refine hga.mono ?_
                  clear hga hcc
                  rintro e W1 ⟨rfl, hb1⟩
                  have hbx := (Below.refl W1.heap.size W1).alloc (Nat.le_refl _) (.cells #[.int .i64 s.id, .int .i64 s.pa, .bool s.lf, .int .u64 s.r.1, .int .u64 s.r.2.1, .int .u64 s.r.2.2, .int .u64 s.s.1, .int .u64 s.s.2.1, .int .u64 s.s.2.2, .int .u64 s.u.1, .int .u64 s.u.2.1, .int .u64 s.u.2.2, .int .i64 s.pk, .int .i64 s.by_] 36)
                  have hBx := Blk.new W1 36 #[.int .i64 s.id, .int .i64 s.pa, .bool s.lf, .int .u64 s.r.1, .int .u64 s.r.2.1, .int .u64 s.r.2.2, .int .u64 s.s.1, .int .u64 s.s.2.1, .int .u64 s.s.2.2, .int .u64 s.u.1, .int .u64 s.u.2.1, .int .u64 s.u.2.2, .int .i64 s.pk, .int .i64 s.by_]
                  have H1 := Lib.hid (And.intro ((HAB.out.later hb1).later hbx) hBx)
                  clear hb1 hbx hBx HAB
                  obtain ⟨bs, hbs⟩ : ∃ b, b = W1.heap.size := ⟨_, rfl⟩
                  rw [← hbs] at H1
                  go_upto_region 27 with fail
                  rw [← hbs]
                  generalize W1.alloc (.cells #[.int .i64 s.id, .int .i64 s.pa, .bool s.lf, .int .u64 s.r.1, .int .u64 s.r.2.1, .int .u64 s.r.2.2, .int .u64 s.s.1, .int .u64 s.s.2.1, .int .u64 s.s.2.2, .int .u64 s.u.1, .int .u64 s.u.2.1, .int .u64 s.u.2.2, .int .i64 s.pk, .int .i64 s.by_] 36) = W2 at H1 ⊢
                  clear hbs
                  have hint := H1.out.1.int (.head _)
                  have hcc := (hint.cell HX.out.1).2.2
                  have hgb := H1.out.1.tsB.get x hxw
                  unfold GetW getS at hgb
                  clear hint
                  cases hBx : lookM B2 x with
                  | some cb =>
                    rw [hBx] at hgb
                    obtain ⟨s2, hs2⟩ : ∃ s, cb.1 = s := ⟨_, rfl⟩
                    dsimp only [Option.getD, Option.isSome] at hgb
                    rw [hs2] at hgb
                    unfold spV spC at hgb
                    have HBX := Lib.hid hBx
                    clear hBx hs2
                    go_wp2_with fail
                    refine hgb.mono ?_
                    clear hgb hcc
                    rintro e W3 ⟨rfl, hb3⟩
                    have hbx := (Below.refl W3.heap.size W3).alloc (Nat.le_refl _) (.cells #[.int .i64 s2.id, .int .i64 s2.pa, .bool s2.lf, .int .u64 s2.r.1, .int .u64 s2.r.2.1, .int .u64 s2.r.2.2, .int .u64 s2.s.1, .int .u64 s2.s.2.1, .int .u64 s2.s.2.2, .int .u64 s2.u.1, .int .u64 s2.u.2.1, .int .u64 s2.u.2.2, .int .i64 s2.pk, .int .i64 s2.by_] 36)
                    have H4 := Lib.hid (⟨B2, ((H1.out.1.later hb3).later hbx), HX.out.2.2.1, HX.out.2.2.2.1, LC.had HX.out.1 HBX.out HX.out.2.2.2.2.1⟩ : LC w2 _ ag ama amu bg bma bmu M (.slice (some ⟨bi, oi, none⟩) n ci) ks i (.slice (some ⟨bp, op, none⟩) m cp) ps ((y : Int) - 1))
                    clear hb3 hbx
                    go_wp2_with fail
                    go_roundw
                    case measure => (simp [Go.RowKit.intOf]; try omega)
                    case rel => exact ⟨(y : Int) - 1, rfl, by omega, by omega, H4.out⟩
                  | none =>
                    rw [hBx] at hgb
                    unfold cl0 sp0 spV spC at hgb
                    dsimp only [Option.getD, Option.isSome] at hgb
                    have HBX := Lib.hid hBx
                    clear hBx
                    go_wp2_with fail
                    refine hgb.mono ?_
                    clear hgb hcc
                    rintro e W3 ⟨rfl, hb3⟩
                    have hbx := (Below.refl W3.heap.size W3).alloc (Nat.le_refl _) (.cells #[.int .i64 0, .int .i64 0, .bool false, .int .u64 0, .int .u64 0, .int .u64 0, .int .u64 0, .int .u64 0, .int .u64 0, .int .u64 0, .int .u64 0, .int .u64 0, .int .i64 0, .int .i64 0] 36)
                    have H4 := Lib.hid (And.intro ((H1.out.1.later hb3).later hbx) ((H1.out.2.below hb3 H1.out.2.lt).below hbx (Nat.lt_of_lt_of_le H1.out.2.lt hb3.size)))
                    clear hb3 hbx H1
                    go_upto_region 28 with fail
                    generalize W3.alloc (.cells #[.int .i64 0, .int .i64 0, .bool false, .int .u64 0, .int .u64 0, .int .u64 0, .int .u64 0, .int .u64 0, .int .u64 0, .int .u64 0, .int .u64 0, .int .u64 0, .int .i64 0, .int .i64 0] 36) = W4 at H4 ⊢
                    obtain ⟨r1, r2, r3, r4⟩ := LC.can HI.out HC.out.2.2.2.2.1 HX.out.1 HX.out.2.1 HX.out.2.2.1 HBX.out HX.out.2.2.2.1 HX.out.2.2.2.2.1
                    have hadd := H4.out.1.addB s (by rw [← HS.out]; exact HX.out.2.2.2.2.2)
                    rw [HS.out] at r1 r2 r3 r4
                    rw [r1] at hadd
                    unfold spV spC at hadd
                    have HR := Lib.hid (And.intro r2 (And.intro r3 r4))
                    clear r1 r2 r3 r4
                    have q0 := H4.out.2.cell 0; have q1 := H4.out.2.cell 1; have q2 := H4.out.2.cell 2; have q3 := H4.out.2.cell 3; have q4 := H4.out.2.cell 4; have q5 := H4.out.2.cell 5; have q6 := H4.out.2.cell 6; have q7 := H4.out.2.cell 7; have q8 := H4.out.2.cell 8; have q9 := H4.out.2.cell 9; have q10 := H4.out.2.cell 10; have q11 := H4.out.2.cell 11; have q12 := H4.out.2.cell 12; have q13 := H4.out.2.cell 13
                    simp only [List.getElem?_toArray, List.getElem?_cons_zero, List.getElem?_cons_succ] at q0 q1 q2 q3 q4 q5 q6 q7 q8 q9 q10 q11 q12 q13
                    go_wp2_with fail
                    refine hadd.mono ?_
                    clear hadd q0 q1 q2 q3 q4 q5 q6 q7 q8 q9 q10 q11 q12 q13
                    rintro e W5 ⟨rfl, hab5, _⟩
                    have H5 := Lib.hid (⟨_, hab5, HR.out.1, HR.out.2.1, HR.out.2.2⟩ : LC w2 W5 ag ama amu bg bma bmu M (.slice (some ⟨bi, oi, none⟩) n ci) ks i (.slice (some ⟨bp, op, none⟩) m cp) ps ((y : Int) - 1))
                    clear hab5
                    go_wp2_with fail
                    go_roundw
                    case measure => (simp [Go.RowKit.intOf]; try omega)
                    case rel => exact ⟨(y : Int) - 1, rfl, by omega, by omega, H5.out⟩
              · have hq : q = -1 := by omega
                have H7 := Lib.hid (LC.done hq HI.out HC.out.1 HC.out.2.1 HC.out.2.2.2.2.1 hLC)
                clear hLC hq
                go_wp2_with fail
                go_roundw
                case measure => (simp [Go.RowKit.intOf]; try omega)
                case rel => exact ⟨i + 1, by go_num, by omega, H7.out⟩
          · obtain rfl : i = n := by omega
            have hW := LB.whole HI.out HK.out.1 (by rw [HK.out.2]; exact Nat.le_refl _) hLB
            have H8 := Lib.hid hW
            clear hLB hW
            go_wp2_with fail
            go_loopw [18] (fun v18 W => ∃ j : Nat, v18 = .int .i64 j ∧ j ≤ i ∧ AB w2 W ag ama amu M bg bma bmu M [(.slice ai i ci, ks)]) (fun v18 _ => (i - Go.RowKit.intOf v18).toNat)
            case atStart => exact ⟨0, rfl, by omega, H8.out⟩
            case round =>
              clear H8
              obtain ⟨j, rfl, hji, hab⟩ := hrel
              by_cases hlt : j < i
              · obtain ⟨k, hk⟩ : ∃ k, ks[j]? = some k := ⟨_, List.getElem?_eq_getElem (by rw [HK.out.2]; exact hlt)⟩
                obtain ⟨c, hc⟩ := keys_in HI.out HK.out.1 hk
                have hint := hab.int (.head _)
                obtain ⟨bi, oi, rfl⟩ := hint.some_ hk
                have hcx := (hint.cell hk).2.2
                have hnc := (hint.cell hk).2.1
                have hok := HI.out.ok k c hc
                have hkw : (Lit.int .i64 k).wf = true := by rw [← hok.id]; exact hok.wf.1.1
                have hget : ∀ (w W : World) (base g ma mu : Nat), TS w W base g ma mu M → Calls Tryz.prog 18 #[.pointer (some ⟨g, 0, none⟩), .int .i64 k] W (GetW W M k) := fun _ _ _ _ _ _ h => h.get k hkw
                have hgs : getS M k = c.1 ∧ (lookM M k).isSome = true := by unfold getS; rw [hc]; exact ⟨rfl, rfl⟩
                obtain ⟨s, hs⟩ : ∃ s, c.1 = s := ⟨_, rfl⟩
                rw [hs] at hgs
                unfold GetW at hget
                rw [hgs.1, hgs.2] at hget
                unfold spV spC at hget
                have h1 := kids_len M k; have h2 := leaves_len M k; have h3 := HI.out.few
                have HKK := Lib.hid (And.intro hk (And.intro hc (And.intro hkw (And.intro (show (kids M k).length ≤ 1000000 by omega) (show (leavesM M k).length ≤ 1000000 by omega)))))
                have HG := Lib.hid hget
                have HAB := Lib.hid hab
                clear hk hc hok hab hs hint hget hgs h1 h2 h3
                have hga := HG.out _ _ _ _ _ _ (HT.out.later HAB.out.below)
                go_wp2_with fail
                refine hga.mono ?_
                clear hga hcx
                rintro e Wa ⟨rfl, hba⟩
                have hbx := (Below.refl Wa.heap.size Wa).alloc (Nat.le_refl _) (.cells #[.int .i64 s.id, .int .i64 s.pa, .bool s.lf, .int .u64 s.r.1, .int .u64 s.r.2.1, .int .u64 s.r.2.2, .int .u64 s.s.1, .int .u64 s.s.2.1, .int .u64 s.s.2.2, .int .u64 s.u.1, .int .u64 s.u.2.1, .int .u64 s.u.2.2, .int .i64 s.pk, .int .i64 s.by_] 36)
                have hBx := Blk.new Wa 36 #[.int .i64 s.id, .int .i64 s.pa, .bool s.lf, .int .u64 s.r.1, .int .u64 s.r.2.1, .int .u64 s.r.2.2, .int .u64 s.s.1, .int .u64 s.s.2.1, .int .u64 s.s.2.2, .int .u64 s.u.1, .int .u64 s.u.2.1, .int .u64 s.u.2.2, .int .i64 s.pk, .int .i64 s.by_]
                have HNa := Lib.hid (And.intro ((HAB.out.later hba).later hbx) (And.intro hBx trivial))
                clear hba hbx hBx HAB
                obtain ⟨ba, hbs⟩ : ∃ b, b = Wa.heap.size := ⟨_, rfl⟩
                rw [← hbs] at HNa
                go_upto_region 34 with fail
                rw [← hbs]
                generalize Wa.alloc (.cells #[.int .i64 s.id, .int .i64 s.pa, .bool s.lf, .int .u64 s.r.1, .int .u64 s.r.2.1, .int .u64 s.r.2.2, .int .u64 s.s.1, .int .u64 s.s.2.1, .int .u64 s.s.2.2, .int .u64 s.u.1, .int .u64 s.u.2.1, .int .u64 s.u.2.2, .int .i64 s.pk, .int .i64 s.by_] 36) = Xa at HNa ⊢
                clear hbs
                have hga := HG.out _ _ _ _ _ _ (HNa.out.1.tsA)
                have hint := HNa.out.1.int (.head _)
                have hcx := (hint.cell HKK.out.1).2.2
                clear hint
                go_wp2_with fail
                refine hga.mono ?_
                clear hga hcx
                rintro e Wb ⟨rfl, hbb⟩
                have hbx := (Below.refl Wb.heap.size Wb).alloc (Nat.le_refl _) (.cells #[.int .i64 s.id, .int .i64 s.pa, .bool s.lf, .int .u64 s.r.1, .int .u64 s.r.2.1, .int .u64 s.r.2.2, .int .u64 s.s.1, .int .u64 s.s.2.1, .int .u64 s.s.2.2, .int .u64 s.u.1, .int .u64 s.u.2.1, .int .u64 s.u.2.2, .int .i64 s.pk, .int .i64 s.by_] 36)
                have hBx := Blk.new Wb 36 #[.int .i64 s.id, .int .i64 s.pa, .bool s.lf, .int .u64 s.r.1, .int .u64 s.r.2.1, .int .u64 s.r.2.2, .int .u64 s.s.1, .int .u64 s.s.2.1, .int .u64 s.s.2.2, .int .u64 s.u.1, .int .u64 s.u.2.1, .int .u64 s.u.2.2, .int .i64 s.pk, .int .i64 s.by_]
                have HNb := Lib.hid (And.intro ((HNa.out.1.later hbb).later hbx) (And.intro hBx (And.intro ((HNa.out.2.1.below hbb HNa.out.2.1.lt).below hbx (Nat.lt_of_lt_of_le HNa.out.2.1.lt hbb.size)) trivial)))
                clear hbb hbx hBx HNa
                obtain ⟨bb, hbs⟩ : ∃ b, b = Wb.heap.size := ⟨_, rfl⟩
                rw [← hbs] at HNb
                go_upto_region 35 with fail
                rw [← hbs]
                generalize Wb.alloc (.cells #[.int .i64 s.id, .int .i64 s.pa, .bool s.lf, .int .u64 s.r.1, .int .u64 s.r.2.1, .int .u64 s.r.2.2, .int .u64 s.s.1, .int .u64 s.s.2.1, .int .u64 s.s.2.2, .int .u64 s.u.1, .int .u64 s.u.2.1, .int .u64 s.u.2.2, .int .i64 s.pk, .int .i64 s.by_] 36) = Xb at HNb ⊢
                clear hbs
                have hga := HG.out _ _ _ _ _ _ (HNb.out.1.tsB)
                have hint := HNb.out.1.int (.head _)
                have hcx := (hint.cell HKK.out.1).2.2
                clear hint
                go_wp2_with fail
                refine hga.mono ?_
                clear hga hcx
                rintro e Wc ⟨rfl, hbc⟩
                have hbx := (Below.refl Wc.heap.size Wc).alloc (Nat.le_refl _) (.cells #[.int .i64 s.id, .int .i64 s.pa, .bool s.lf, .int .u64 s.r.1, .int .u64 s.r.2.1, .int .u64 s.r.2.2, .int .u64 s.s.1, .int .u64 s.s.2.1, .int .u64 s.s.2.2, .int .u64 s.u.1, .int .u64 s.u.2.1, .int .u64 s.u.2.2, .int .i64 s.pk, .int .i64 s.by_] 36)
                have hBx := Blk.new Wc 36 #[.int .i64 s.id, .int .i64 s.pa, .bool s.lf, .int .u64 s.r.1, .int .u64 s.r.2.1, .int .u64 s.r.2.2, .int .u64 s.s.1, .int .u64 s.s.2.1, .int .u64 s.s.2.2, .int .u64 s.u.1, .int .u64 s.u.2.1, .int .u64 s.u.2.2, .int .i64 s.pk, .int .i64 s.by_]
                have HNc := Lib.hid (And.intro ((HNb.out.1.later hbc).later hbx) (And.intro hBx (And.intro ((HNb.out.2.1.below hbc HNb.out.2.1.lt).below hbx (Nat.lt_of_lt_of_le HNb.out.2.1.lt hbc.size)) ((HNb.out.2.2.1.below hbc HNb.out.2.2.1.lt).below hbx (Nat.lt_of_lt_of_le HNb.out.2.2.1.lt hbc.size)))))
                clear hbc hbx hBx HNb
                obtain ⟨bc, hbs⟩ : ∃ b, b = Wc.heap.size := ⟨_, rfl⟩
                rw [← hbs] at HNc
                go_upto_region 36 with fail
                rw [← hbs]
                generalize Wc.alloc (.cells #[.int .i64 s.id, .int .i64 s.pa, .bool s.lf, .int .u64 s.r.1, .int .u64 s.r.2.1, .int .u64 s.r.2.2, .int .u64 s.s.1, .int .u64 s.s.2.1, .int .u64 s.s.2.2, .int .u64 s.u.1, .int .u64 s.u.2.1, .int .u64 s.u.2.2, .int .i64 s.pk, .int .i64 s.by_] 36) = Xc at HNc ⊢
                clear hbs
                have HR := Lib.hid HNc.out
                clear HNc
                have loa := HR.out.2.2.2.lt
                have oa0 := fun e => (over_cell (w := Xc) (e := e) (o := 0) loa).trans (HR.out.2.2.2.cell 0); have oa1 := fun e => (over_cell (w := Xc) (e := e) (o := 1) loa).trans (HR.out.2.2.2.cell 1); have oa2 := fun e => (over_cell (w := Xc) (e := e) (o := 2) loa).trans (HR.out.2.2.2.cell 2); have oa3 := fun e => (over_cell (w := Xc) (e := e) (o := 3) loa).trans (HR.out.2.2.2.cell 3); have oa4 := fun e => (over_cell (w := Xc) (e := e) (o := 4) loa).trans (HR.out.2.2.2.cell 4); have oa5 := fun e => (over_cell (w := Xc) (e := e) (o := 5) loa).trans (HR.out.2.2.2.cell 5); have oa6 := fun e => (over_cell (w := Xc) (e := e) (o := 6) loa).trans (HR.out.2.2.2.cell 6); have oa7 := fun e => (over_cell (w := Xc) (e := e) (o := 7) loa).trans (HR.out.2.2.2.cell 7); have oa8 := fun e => (over_cell (w := Xc) (e := e) (o := 8) loa).trans (HR.out.2.2.2.cell 8); have oa9 := fun e => (over_cell (w := Xc) (e := e) (o := 9) loa).trans (HR.out.2.2.2.cell 9); have oa10 := fun e => (over_cell (w := Xc) (e := e) (o := 10) loa).trans (HR.out.2.2.2.cell 10); have oa11 := fun e => (over_cell (w := Xc) (e := e) (o := 11) loa).trans (HR.out.2.2.2.cell 11); have oa12 := fun e => (over_cell (w := Xc) (e := e) (o := 12) loa).trans (HR.out.2.2.2.cell 12); have oa13 := fun e => (over_cell (w := Xc) (e := e) (o := 13) loa).trans (HR.out.2.2.2.cell 13)
                have lob := HR.out.2.2.1.lt
                have ob0 := fun e => (over_cell (w := Xc) (e := e) (o := 0) lob).trans (HR.out.2.2.1.cell 0); have ob1 := fun e => (over_cell (w := Xc) (e := e) (o := 1) lob).trans (HR.out.2.2.1.cell 1); have ob2 := fun e => (over_cell (w := Xc) (e := e) (o := 2) lob).trans (HR.out.2.2.1.cell 2); have ob3 := fun e => (over_cell (w := Xc) (e := e) (o := 3) lob).trans (HR.out.2.2.1.cell 3); have ob4 := fun e => (over_cell (w := Xc) (e := e) (o := 4) lob).trans (HR.out.2.2.1.cell 4); have ob5 := fun e => (over_cell (w := Xc) (e := e) (o := 5) lob).trans (HR.out.2.2.1.cell 5); have ob6 := fun e => (over_cell (w := Xc) (e := e) (o := 6) lob).trans (HR.out.2.2.1.cell 6); have ob7 := fun e => (over_cell (w := Xc) (e := e) (o := 7) lob).trans (HR.out.2.2.1.cell 7); have ob8 := fun e => (over_cell (w := Xc) (e := e) (o := 8) lob).trans (HR.out.2.2.1.cell 8); have ob9 := fun e => (over_cell (w := Xc) (e := e) (o := 9) lob).trans (HR.out.2.2.1.cell 9); have ob10 := fun e => (over_cell (w := Xc) (e := e) (o := 10) lob).trans (HR.out.2.2.1.cell 10); have ob11 := fun e => (over_cell (w := Xc) (e := e) (o := 11) lob).trans (HR.out.2.2.1.cell 11); have ob12 := fun e => (over_cell (w := Xc) (e := e) (o := 12) lob).trans (HR.out.2.2.1.cell 12); have ob13 := fun e => (over_cell (w := Xc) (e := e) (o := 13) lob).trans (HR.out.2.2.1.cell 13)
                have loc := HR.out.2.1.lt
                have oc0 := fun e => (over_cell (w := Xc) (e := e) (o := 0) loc).trans (HR.out.2.1.cell 0); have oc1 := fun e => (over_cell (w := Xc) (e := e) (o := 1) loc).trans (HR.out.2.1.cell 1); have oc2 := fun e => (over_cell (w := Xc) (e := e) (o := 2) loc).trans (HR.out.2.1.cell 2); have oc3 := fun e => (over_cell (w := Xc) (e := e) (o := 3) loc).trans (HR.out.2.1.cell 3); have oc4 := fun e => (over_cell (w := Xc) (e := e) (o := 4) loc).trans (HR.out.2.1.cell 4); have oc5 := fun e => (over_cell (w := Xc) (e := e) (o := 5) loc).trans (HR.out.2.1.cell 5); have oc6 := fun e => (over_cell (w := Xc) (e := e) (o := 6) loc).trans (HR.out.2.1.cell 6); have oc7 := fun e => (over_cell (w := Xc) (e := e) (o := 7) loc).trans (HR.out.2.1.cell 7); have oc8 := fun e => (over_cell (w := Xc) (e := e) (o := 8) loc).trans (HR.out.2.1.cell 8); have oc9 := fun e => (over_cell (w := Xc) (e := e) (o := 9) loc).trans (HR.out.2.1.cell 9); have oc10 := fun e => (over_cell (w := Xc) (e := e) (o := 10) loc).trans (HR.out.2.1.cell 10); have oc11 := fun e => (over_cell (w := Xc) (e := e) (o := 11) loc).trans (HR.out.2.1.cell 11); have oc12 := fun e => (over_cell (w := Xc) (e := e) (o := 12) loc).trans (HR.out.2.1.cell 12); have oc13 := fun e => (over_cell (w := Xc) (e := e) (o := 13) loc).trans (HR.out.2.1.cell 13)
                simp only [List.getElem?_toArray, List.getElem?_cons_zero, List.getElem?_cons_succ] at oa0 oa1 oa2 oa3 oa4 oa5 oa6 oa7 oa8 oa9 oa10 oa11 oa12 oa13 ob0 ob1 ob2 ob3 ob4 ob5 ob6 ob7 ob8 ob9 ob10 ob11 ob12 ob13 oc0 oc1 oc2 oc3 oc4 oc5 oc6 oc7 oc8 oc9 oc10 oc11 oc12 oc13
                have hint := HR.out.1.int (.head _)
                have li := (hint.cell HKK.out.1).1
                have oi0 := fun e => (over_cell (w := Xc) (e := e) (o := oi + j) li).trans (hint.cell HKK.out.1).2.2
                clear hint
                have hseq := sp_neW s
                have hi0 : (0 : Int) ≤ (j : Int) := by omega
                go_cut [205] from 158 to 205 (fun v205 wx => v205 = .bool false ∧ AB w2 wx ag ama amu M bg bma bmu M [(.slice (some ⟨bi, oi, none⟩) i ci, ks)])
                case first =>
                  refine wp_region_told (w := Xc) 47 1 [32, 46] [22, 28, 29, 30, 31, 32, 33, 34, 35, 36, 37, 38, 39, 40, 41, 42, 43, 44, 45, 46] [⟨22, 180, [], fun u W' => IntAt W' u (kids M k)⟩, ⟨28, 186, [], fun u W' => IntAt W' u (kids M k)⟩, ⟨29, 187, [22, 28], fun u W' => u = .bool true⟩, ⟨30, 188, [29], fun u W' => u = .bool false⟩, ⟨31, 189, [30], fun u W' => u = .bool false⟩, ⟨32, 190, [31], fun u W' => u = .bool false⟩, ⟨33, 191, [32], fun u W' => u = .pointer (some ⟨bg, 0, none⟩)⟩, ⟨34, 192, [32], fun u W' => u = .slice (some ⟨bi, oi, none⟩) i ci⟩, ⟨35, 193, [32], fun u W' => u = .int .i64 (j : Int)⟩, ⟨36, 194, [32, 34, 35], fun u W' => u = .pointer (some ⟨bi, oi + j, none⟩)⟩, ⟨37, 195, [32, 36], fun u W' => u = .int .i64 k⟩, ⟨38, 196, [32, 33, 37], fun u W' => IntAt W' u (leavesM M k)⟩, ⟨39, 197, [32], fun u W' => u = .pointer (some ⟨g, 0, none⟩)⟩, ⟨40, 198, [32], fun u W' => u = .slice (some ⟨bi, oi, none⟩) i ci⟩, ⟨41, 199, [32], fun u W' => u = .int .i64 (j : Int)⟩, ⟨42, 200, [32, 40, 41], fun u W' => u = .pointer (some ⟨bi, oi + j, none⟩)⟩, ⟨43, 201, [32, 42], fun u W' => u = .int .i64 k⟩, ⟨44, 202, [32, 39, 43], fun u W' => IntAt W' u (leavesM M k)⟩, ⟨45, 203, [32, 38, 44], fun u W' => u = .bool true⟩, ⟨46, 204, [32, 45], fun u W' => u = .bool false⟩] rfl [] (by kernel_rfl) (by kernel_rfl) (by kernel_rfl) (by kernel_rfl) (by kernel_rfl) (by kernel_rfl) (by kernel_rfl) (fun _ _ _ _ _ h => h) ⟨fun v W1 W2 h hb => h.later hb, fun v W1 W2 h hb => h.later hb, fun v W1 W2 h hb => h, fun v W1 W2 h hb => h, fun v W1 W2 h hb => h, fun v W1 W2 h hb => h, fun v W1 W2 h hb => h, fun v W1 W2 h hb => h, fun v W1 W2 h hb => h, fun v W1 W2 h hb => h, fun v W1 W2 h hb => h, fun v W1 W2 h hb => h.later hb, fun v W1 W2 h hb => h, fun v W1 W2 h hb => h, fun v W1 W2 h hb => h, fun v W1 W2 h hb => h, fun v W1 W2 h hb => h, fun v W1 W2 h hb => h.later hb, fun v W1 W2 h hb => h, fun v W1 W2 h hb => h, trivial⟩ ?_
                  intro LL hL
                  have HL := Lib.hid hL
                  clear hL
                  simp only [List.take_succ_cons, List.take_zero, putL]
                  iterate 47 (first | refine wpHead_skip (by decide) ?_ | (refine wpHead_step (by decide) (fun K hK => ?_); go_simp; first | (refine hK _ ?_; clear hK K)))
                  refine wpHead_nil (HL.out _ ?_ ?_)
                  · skip
                    iterate 22 refine midsW_skip rfl ?_
                    refine midsW_step ⟨22, 180, [], fun u W' => IntAt W' u (kids M k)⟩ rfl ?_ ?_
                    · intro vs W hb hf
                      clear hf HL oa0 oa1 oa2 oa3 oa4 oa5 oa6 oa7 oa8 oa9 oa10 oa11 oa12 oa13 ob0 ob1 ob2 ob3 ob4 ob5 ob6 ob7 ob8 ob9 ob10 ob11 ob12 ob13 oc0 oc1 oc2 oc3 oc4 oc5 oc6 oc7 oc8 oc9 oc10 oc11 oc12 oc13 loa lob loc oi0 li hseq
                      change TStep _ _ _ (Act.put (Act.put (Act.put (Act.put (Act.put (Act.put (Act.put (Act.put (Act.put (Act.put (Act.put (Act.put (Act.put (Act.put (Act.put (Act.put (Act.put (Act.put (Act.put (Act.put _ (some 180) (vs 22)) (some 186) (vs 28)) (some 187) (vs 29)) (some 188) (vs 30)) (some 189) (vs 31)) (some 190) (vs 32)) (some 191) (vs 33)) (some 192) (vs 34)) (some 193) (vs 35)) (some 194) (vs 36)) (some 195) (vs 37)) (some 196) (vs 38)) (some 197) (vs 39)) (some 198) (vs 40)) (some 199) (vs 41)) (some 200) (vs 42)) (some 201) (vs 43)) (some 202) (vs 44)) (some 203) (vs 45)) (some 204) (vs 46)) _ _
                      refine tstep_yes (by kernel_rfl) ?_
                      have HBW := Lib.hid hb
                      clear hb
                      go_simp
                      exact ((HR.out.1.later HBW.out).tsA.under k HKK.out.2.2.1).mono fun e w2 ⟨v, he, ho, hb2⟩ => ⟨v, he, hb2, IntAt.of_owns ho HKK.out.2.2.2.1⟩
                    iterate 5 refine midsW_skip rfl ?_
                    refine midsW_step ⟨28, 186, [], fun u W' => IntAt W' u (kids M k)⟩ rfl ?_ ?_
                    · intro vs W hb hf
                      clear hf HL oa0 oa1 oa2 oa3 oa4 oa5 oa6 oa7 oa8 oa9 oa10 oa11 oa12 oa13 ob0 ob1 ob2 ob3 ob4 ob5 ob6 ob7 ob8 ob9 ob10 ob11 ob12 ob13 oc0 oc1 oc2 oc3 oc4 oc5 oc6 oc7 oc8 oc9 oc10 oc11 oc12 oc13 loa lob loc oi0 li hseq
                      change TStep _ _ _ (Act.put (Act.put (Act.put (Act.put (Act.put (Act.put (Act.put (Act.put (Act.put (Act.put (Act.put (Act.put (Act.put (Act.put (Act.put (Act.put (Act.put (Act.put (Act.put (Act.put _ (some 180) (vs 22)) (some 186) (vs 28)) (some 187) (vs 29)) (some 188) (vs 30)) (some 189) (vs 31)) (some 190) (vs 32)) (some 191) (vs 33)) (some 192) (vs 34)) (some 193) (vs 35)) (some 194) (vs 36)) (some 195) (vs 37)) (some 196) (vs 38)) (some 197) (vs 39)) (some 198) (vs 40)) (some 199) (vs 41)) (some 200) (vs 42)) (some 201) (vs 43)) (some 202) (vs 44)) (some 203) (vs 45)) (some 204) (vs 46)) _ _
                      refine tstep_yes (by kernel_rfl) ?_
                      have HBW := Lib.hid hb
                      clear hb
                      go_simp
                      exact ((HT.out.later (HR.out.1.later HBW.out).below).under k HKK.out.2.2.1).mono fun e w2 ⟨v, he, ho, hb2⟩ => ⟨v, he, hb2, IntAt.of_owns ho HKK.out.2.2.2.1⟩
                    refine midsW_step ⟨29, 187, [22, 28], fun u W' => u = .bool true⟩ rfl ?_ ?_
                    · intro vs W hb hf
                      obtain ⟨f22, f28, _⟩ := hf
                      clear HL oa0 oa1 oa2 oa3 oa4 oa5 oa6 oa7 oa8 oa9 oa10 oa11 oa12 oa13 ob0 ob1 ob2 ob3 ob4 ob5 ob6 ob7 ob8 ob9 ob10 ob11 ob12 ob13 oc0 oc1 oc2 oc3 oc4 oc5 oc6 oc7 oc8 oc9 oc10 oc11 oc12 oc13 loa lob loc oi0 li hseq
                      change TStep _ _ _ (Act.put (Act.put (Act.put (Act.put (Act.put (Act.put (Act.put (Act.put (Act.put (Act.put (Act.put (Act.put (Act.put (Act.put (Act.put (Act.put (Act.put (Act.put (Act.put (Act.put _ (some 180) (vs 22)) (some 186) (vs 28)) (some 187) (vs 29)) (some 188) (vs 30)) (some 189) (vs 31)) (some 190) (vs 32)) (some 191) (vs 33)) (some 192) (vs 34)) (some 193) (vs 35)) (some 194) (vs 36)) (some 195) (vs 37)) (some 196) (vs 38)) (some 197) (vs 39)) (some 198) (vs 40)) (some 199) (vs 41)) (some 200) (vs 42)) (some 201) (vs 43)) (some 202) (vs 44)) (some 203) (vs 45)) (some 204) (vs 46)) _ _
                      refine tstep_yes (by kernel_rfl) ?_
                      have HBW := Lib.hid hb
                      clear hb
                      go_simp
                      exact (same16_any _ _ (kids M k) _ f22 f28).mono fun e w2 h => ⟨h.1, h.2⟩
                    refine midsW_step ⟨30, 188, [29], fun u W' => u = .bool false⟩ rfl ?_ ?_
                    · intro vs W hb hf
                      obtain ⟨f29, _⟩ := hf
                      clear HL oa0 oa1 oa2 oa3 oa4 oa5 oa6 oa7 oa8 oa9 oa10 oa11 oa12 oa13 ob0 ob1 ob2 ob3 ob4 ob5 ob6 ob7 ob8 ob9 ob10 ob11 ob12 ob13 oc0 oc1 oc2 oc3 oc4 oc5 oc6 oc7 oc8 oc9 oc10 oc11 oc12 oc13 loa lob loc oi0 li hseq
                      change TStep _ _ _ (Act.put (Act.put (Act.put (Act.put (Act.put (Act.put (Act.put (Act.put (Act.put (Act.put (Act.put (Act.put (Act.put (Act.put (Act.put (Act.put (Act.put (Act.put (Act.put (Act.put _ (some 180) (vs 22)) (some 186) (vs 28)) (some 187) (vs 29)) (some 188) (vs 30)) (some 189) (vs 31)) (some 190) (vs 32)) (some 191) (vs 33)) (some 192) (vs 34)) (some 193) (vs 35)) (some 194) (vs 36)) (some 195) (vs 37)) (some 196) (vs 38)) (some 197) (vs 39)) (some 198) (vs 40)) (some 199) (vs 41)) (some 200) (vs 42)) (some 201) (vs 43)) (some 202) (vs 44)) (some 203) (vs 45)) (some 204) (vs 46)) _ _
                      rw [f29]
                      clear f29
                      refine tstep_yes (by kernel_rfl) ?_
                      have HBW := Lib.hid hb
                      clear hb
                      go_simp
                      exact Below.refl _ _
                    refine midsW_step ⟨31, 189, [30], fun u W' => u = .bool false⟩ rfl ?_ ?_
                    · intro vs W hb hf
                      obtain ⟨f30, _⟩ := hf
                      clear HL oa0 oa1 oa2 oa3 oa4 oa5 oa6 oa7 oa8 oa9 oa10 oa11 oa12 oa13 ob0 ob1 ob2 ob3 ob4 ob5 ob6 ob7 ob8 ob9 ob10 ob11 ob12 ob13 oc0 oc1 oc2 oc3 oc4 oc5 oc6 oc7 oc8 oc9 oc10 oc11 oc12 oc13 loa lob loc oi0 li hseq
                      change TStep _ _ _ (Act.put (Act.put (Act.put (Act.put (Act.put (Act.put (Act.put (Act.put (Act.put (Act.put (Act.put (Act.put (Act.put (Act.put (Act.put (Act.put (Act.put (Act.put (Act.put (Act.put _ (some 180) (vs 22)) (some 186) (vs 28)) (some 187) (vs 29)) (some 188) (vs 30)) (some 189) (vs 31)) (some 190) (vs 32)) (some 191) (vs 33)) (some 192) (vs 34)) (some 193) (vs 35)) (some 194) (vs 36)) (some 195) (vs 37)) (some 196) (vs 38)) (some 197) (vs 39)) (some 198) (vs 40)) (some 199) (vs 41)) (some 200) (vs 42)) (some 201) (vs 43)) (some 202) (vs 44)) (some 203) (vs 45)) (some 204) (vs 46)) _ _
                      rw [f30]
                      clear f30
                      refine tstep_yes (by kernel_rfl) ?_
                      have HBW := Lib.hid hb
                      clear hb
                      go_simp
                      exact Below.refl _ _
                    refine midsW_step ⟨32, 190, [31], fun u W' => u = .bool false⟩ rfl ?_ ?_
                    · intro vs W hb hf
                      obtain ⟨f31, _⟩ := hf
                      clear HL oa0 oa1 oa2 oa3 oa4 oa5 oa6 oa7 oa8 oa9 oa10 oa11 oa12 oa13 ob0 ob1 ob2 ob3 ob4 ob5 ob6 ob7 ob8 ob9 ob10 ob11 ob12 ob13 oc0 oc1 oc2 oc3 oc4 oc5 oc6 oc7 oc8 oc9 oc10 oc11 oc12 oc13 loa lob loc oi0 li hseq
                      change TStep _ _ _ (Act.put (Act.put (Act.put (Act.put (Act.put (Act.put (Act.put (Act.put (Act.put (Act.put (Act.put (Act.put (Act.put (Act.put (Act.put (Act.put (Act.put (Act.put (Act.put (Act.put _ (some 180) (vs 22)) (some 186) (vs 28)) (some 187) (vs 29)) (some 188) (vs 30)) (some 189) (vs 31)) (some 190) (vs 32)) (some 191) (vs 33)) (some 192) (vs 34)) (some 193) (vs 35)) (some 194) (vs 36)) (some 195) (vs 37)) (some 196) (vs 38)) (some 197) (vs 39)) (some 198) (vs 40)) (some 199) (vs 41)) (some 200) (vs 42)) (some 201) (vs 43)) (some 202) (vs 44)) (some 203) (vs 45)) (some 204) (vs 46)) _ _
                      rw [f31]
                      clear f31
                      refine tstep_yes (by kernel_rfl) ?_
                      have HBW := Lib.hid hb
                      clear hb
                      go_simp
                      exact Below.refl _ _
                    refine midsW_step ⟨33, 191, [32], fun u W' => u = .pointer (some ⟨bg, 0, none⟩)⟩ rfl ?_ ?_
                    · intro vs W hb hf
                      obtain ⟨f32, _⟩ := hf
                      clear HL oa0 oa1 oa2 oa3 oa4 oa5 oa6 oa7 oa8 oa9 oa10 oa11 oa12 oa13 ob0 ob1 ob2 ob3 ob4 ob5 ob6 ob7 ob8 ob9 ob10 ob11 ob12 ob13 oc0 oc1 oc2 oc3 oc4 oc5 oc6 oc7 oc8 oc9 oc10 oc11 oc12 oc13 loa lob loc oi0 li hseq
                      change TStep _ _ _ (Act.put (Act.put (Act.put (Act.put (Act.put (Act.put (Act.put (Act.put (Act.put (Act.put (Act.put (Act.put (Act.put (Act.put (Act.put (Act.put (Act.put (Act.put (Act.put (Act.put _ (some 180) (vs 22)) (some 186) (vs 28)) (some 187) (vs 29)) (some 188) (vs 30)) (some 189) (vs 31)) (some 190) (vs 32)) (some 191) (vs 33)) (some 192) (vs 34)) (some 193) (vs 35)) (some 194) (vs 36)) (some 195) (vs 37)) (some 196) (vs 38)) (some 197) (vs 39)) (some 198) (vs 40)) (some 199) (vs 41)) (some 200) (vs 42)) (some 201) (vs 43)) (some 202) (vs 44)) (some 203) (vs 45)) (some 204) (vs 46)) _ _
                      rw [f32]
                      clear f32
                      refine tstep_yes (by kernel_rfl) ?_
                      have HBW := Lib.hid hb
                      clear hb
                      go_simp
                      exact Below.refl _ _
                    refine midsW_step ⟨34, 192, [32], fun u W' => u = .slice (some ⟨bi, oi, none⟩) i ci⟩ rfl ?_ ?_
                    · intro vs W hb hf
                      obtain ⟨f32, _⟩ := hf
                      clear HL oa0 oa1 oa2 oa3 oa4 oa5 oa6 oa7 oa8 oa9 oa10 oa11 oa12 oa13 ob0 ob1 ob2 ob3 ob4 ob5 ob6 ob7 ob8 ob9 ob10 ob11 ob12 ob13 oc0 oc1 oc2 oc3 oc4 oc5 oc6 oc7 oc8 oc9 oc10 oc11 oc12 oc13 loa lob loc oi0 li hseq
                      change TStep _ _ _ (Act.put (Act.put (Act.put (Act.put (Act.put (Act.put (Act.put (Act.put (Act.put (Act.put (Act.put (Act.put (Act.put (Act.put (Act.put (Act.put (Act.put (Act.put (Act.put (Act.put _ (some 180) (vs 22)) (some 186) (vs 28)) (some 187) (vs 29)) (some 188) (vs 30)) (some 189) (vs 31)) (some 190) (vs 32)) (some 191) (vs 33)) (some 192) (vs 34)) (some 193) (vs 35)) (some 194) (vs 36)) (some 195) (vs 37)) (some 196) (vs 38)) (some 197) (vs 39)) (some 198) (vs 40)) (some 199) (vs 41)) (some 200) (vs 42)) (some 201) (vs 43)) (some 202) (vs 44)) (some 203) (vs 45)) (some 204) (vs 46)) _ _
                      rw [f32]
                      clear f32
                      refine tstep_yes (by kernel_rfl) ?_
                      have HBW := Lib.hid hb
                      clear hb
                      go_simp
                      exact Below.refl _ _
                    refine midsW_step ⟨35, 193, [32], fun u W' => u = .int .i64 (j : Int)⟩ rfl ?_ ?_
                    · intro vs W hb hf
                      obtain ⟨f32, _⟩ := hf
                      clear HL oa0 oa1 oa2 oa3 oa4 oa5 oa6 oa7 oa8 oa9 oa10 oa11 oa12 oa13 ob0 ob1 ob2 ob3 ob4 ob5 ob6 ob7 ob8 ob9 ob10 ob11 ob12 ob13 oc0 oc1 oc2 oc3 oc4 oc5 oc6 oc7 oc8 oc9 oc10 oc11 oc12 oc13 loa lob loc oi0 li hseq
                      change TStep _ _ _ (Act.put (Act.put (Act.put (Act.put (Act.put (Act.put (Act.put (Act.put (Act.put (Act.put (Act.put (Act.put (Act.put (Act.put (Act.put (Act.put (Act.put (Act.put (Act.put (Act.put _ (some 180) (vs 22)) (some 186) (vs 28)) (some 187) (vs 29)) (some 188) (vs 30)) (some 189) (vs 31)) (some 190) (vs 32)) (some 191) (vs 33)) (some 192) (vs 34)) (some 193) (vs 35)) (some 194) (vs 36)) (some 195) (vs 37)) (some 196) (vs 38)) (some 197) (vs 39)) (some 198) (vs 40)) (some 199) (vs 41)) (some 200) (vs 42)) (some 201) (vs 43)) (some 202) (vs 44)) (some 203) (vs 45)) (some 204) (vs 46)) _ _
                      rw [f32]
                      clear f32
                      refine tstep_yes (by kernel_rfl) ?_
                      have HBW := Lib.hid hb
                      clear hb
                      go_simp
                      exact Below.refl _ _
                    refine midsW_step ⟨36, 194, [32, 34, 35], fun u W' => u = .pointer (some ⟨bi, oi + j, none⟩)⟩ rfl ?_ ?_
                    · intro vs W hb hf
                      obtain ⟨f32, f34, f35, _⟩ := hf
                      clear HL oa0 oa1 oa2 oa3 oa4 oa5 oa6 oa7 oa8 oa9 oa10 oa11 oa12 oa13 ob0 ob1 ob2 ob3 ob4 ob5 ob6 ob7 ob8 ob9 ob10 ob11 ob12 ob13 oc0 oc1 oc2 oc3 oc4 oc5 oc6 oc7 oc8 oc9 oc10 oc11 oc12 oc13 loa lob loc oi0 li hseq
                      change TStep _ _ _ (Act.put (Act.put (Act.put (Act.put (Act.put (Act.put (Act.put (Act.put (Act.put (Act.put (Act.put (Act.put (Act.put (Act.put (Act.put (Act.put (Act.put (Act.put (Act.put (Act.put _ (some 180) (vs 22)) (some 186) (vs 28)) (some 187) (vs 29)) (some 188) (vs 30)) (some 189) (vs 31)) (some 190) (vs 32)) (some 191) (vs 33)) (some 192) (vs 34)) (some 193) (vs 35)) (some 194) (vs 36)) (some 195) (vs 37)) (some 196) (vs 38)) (some 197) (vs 39)) (some 198) (vs 40)) (some 199) (vs 41)) (some 200) (vs 42)) (some 201) (vs 43)) (some 202) (vs 44)) (some 203) (vs 45)) (some 204) (vs 46)) _ _
                      rw [f32, f34, f35]
                      clear f32 f34 f35
                      refine tstep_yes (by kernel_rfl) ?_
                      have HBW := Lib.hid hb
                      clear hb
                      go_simp
                      exact Below.refl _ _
                    refine midsW_step ⟨37, 195, [32, 36], fun u W' => u = .int .i64 k⟩ rfl ?_ ?_
                    · intro vs W hb hf
                      obtain ⟨f32, f36, _⟩ := hf
                      clear HL oa0 oa1 oa2 oa3 oa4 oa5 oa6 oa7 oa8 oa9 oa10 oa11 oa12 oa13 ob0 ob1 ob2 ob3 ob4 ob5 ob6 ob7 ob8 ob9 ob10 ob11 ob12 ob13 oc0 oc1 oc2 oc3 oc4 oc5 oc6 oc7 oc8 oc9 oc10 oc11 oc12 oc13 loa lob loc oi0 li hseq
                      change TStep _ _ _ (Act.put (Act.put (Act.put (Act.put (Act.put (Act.put (Act.put (Act.put (Act.put (Act.put (Act.put (Act.put (Act.put (Act.put (Act.put (Act.put (Act.put (Act.put (Act.put (Act.put _ (some 180) (vs 22)) (some 186) (vs 28)) (some 187) (vs 29)) (some 188) (vs 30)) (some 189) (vs 31)) (some 190) (vs 32)) (some 191) (vs 33)) (some 192) (vs 34)) (some 193) (vs 35)) (some 194) (vs 36)) (some 195) (vs 37)) (some 196) (vs 38)) (some 197) (vs 39)) (some 198) (vs 40)) (some 199) (vs 41)) (some 200) (vs 42)) (some 201) (vs 43)) (some 202) (vs 44)) (some 203) (vs 45)) (some 204) (vs 46)) _ _
                      rw [f32, f36]
                      clear f32 f36
                      refine tstep_yes (by kernel_rfl) ?_
                      have hcx := ((HR.out.1.later hb).int (.head _)).cell HKK.out.1
                      have hcy := hcx.2.2
                      clear hcx
                      have HBW := Lib.hid hb
                      clear hb
                      go_simp
                      exact Below.refl _ _
                    refine midsW_step ⟨38, 196, [32, 33, 37], fun u W' => IntAt W' u (leavesM M k)⟩ rfl ?_ ?_
                    · intro vs W hb hf
                      obtain ⟨f32, f33, f37, _⟩ := hf
                      clear HL oa0 oa1 oa2 oa3 oa4 oa5 oa6 oa7 oa8 oa9 oa10 oa11 oa12 oa13 ob0 ob1 ob2 ob3 ob4 ob5 ob6 ob7 ob8 ob9 ob10 ob11 ob12 ob13 oc0 oc1 oc2 oc3 oc4 oc5 oc6 oc7 oc8 oc9 oc10 oc11 oc12 oc13 loa lob loc oi0 li hseq
                      change TStep _ _ _ (Act.put (Act.put (Act.put (Act.put (Act.put (Act.put (Act.put (Act.put (Act.put (Act.put (Act.put (Act.put (Act.put (Act.put (Act.put (Act.put (Act.put (Act.put (Act.put (Act.put _ (some 180) (vs 22)) (some 186) (vs 28)) (some 187) (vs 29)) (some 188) (vs 30)) (some 189) (vs 31)) (some 190) (vs 32)) (some 191) (vs 33)) (some 192) (vs 34)) (some 193) (vs 35)) (some 194) (vs 36)) (some 195) (vs 37)) (some 196) (vs 38)) (some 197) (vs 39)) (some 198) (vs 40)) (some 199) (vs 41)) (some 200) (vs 42)) (some 201) (vs 43)) (some 202) (vs 44)) (some 203) (vs 45)) (some 204) (vs 46)) _ _
                      rw [f32, f33, f37]
                      clear f32 f33 f37
                      refine tstep_yes (by kernel_rfl) ?_
                      have HBW := Lib.hid hb
                      clear hb
                      go_simp
                      exact ((HR.out.1.later HBW.out).tsB.leaves k HKK.out.2.2.1).mono fun e w2 ⟨v, he, ho, hb2⟩ => ⟨v, he, hb2, IntAt.of_owns ho HKK.out.2.2.2.2⟩
                    refine midsW_step ⟨39, 197, [32], fun u W' => u = .pointer (some ⟨g, 0, none⟩)⟩ rfl ?_ ?_
                    · intro vs W hb hf
                      obtain ⟨f32, _⟩ := hf
                      clear HL oa0 oa1 oa2 oa3 oa4 oa5 oa6 oa7 oa8 oa9 oa10 oa11 oa12 oa13 ob0 ob1 ob2 ob3 ob4 ob5 ob6 ob7 ob8 ob9 ob10 ob11 ob12 ob13 oc0 oc1 oc2 oc3 oc4 oc5 oc6 oc7 oc8 oc9 oc10 oc11 oc12 oc13 loa lob loc oi0 li hseq
                      change TStep _ _ _ (Act.put (Act.put (Act.put (Act.put (Act.put (Act.put (Act.put (Act.put (Act.put (Act.put (Act.put (Act.put (Act.put (Act.put (Act.put (Act.put (Act.put (Act.put (Act.put (Act.put _ (some 180) (vs 22)) (some 186) (vs 28)) (some 187) (vs 29)) (some 188) (vs 30)) (some 189) (vs 31)) (some 190) (vs 32)) (some 191) (vs 33)) (some 192) (vs 34)) (some 193) (vs 35)) (some 194) (vs 36)) (some 195) (vs 37)) (some 196) (vs 38)) (some 197) (vs 39)) (some 198) (vs 40)) (some 199) (vs 41)) (some 200) (vs 42)) (some 201) (vs 43)) (some 202) (vs 44)) (some 203) (vs 45)) (some 204) (vs 46)) _ _
                      rw [f32]
                      clear f32
                      refine tstep_yes (by kernel_rfl) ?_
                      have HBW := Lib.hid hb
                      clear hb
                      go_simp
                      exact Below.refl _ _
                    refine midsW_step ⟨40, 198, [32], fun u W' => u = .slice (some ⟨bi, oi, none⟩) i ci⟩ rfl ?_ ?_
                    · intro vs W hb hf
                      obtain ⟨f32, _⟩ := hf
                      clear HL oa0 oa1 oa2 oa3 oa4 oa5 oa6 oa7 oa8 oa9 oa10 oa11 oa12 oa13 ob0 ob1 ob2 ob3 ob4 ob5 ob6 ob7 ob8 ob9 ob10 ob11 ob12 ob13 oc0 oc1 oc2 oc3 oc4 oc5 oc6 oc7 oc8 oc9 oc10 oc11 oc12 oc13 loa lob loc oi0 li hseq
                      change TStep _ _ _ (Act.put (Act.put (Act.put (Act.put (Act.put (Act.put (Act.put (Act.put (Act.put (Act.put (Act.put (Act.put (Act.put (Act.put (Act.put (Act.put (Act.put (Act.put (Act.put (Act.put _ (some 180) (vs 22)) (some 186) (vs 28)) (some 187) (vs 29)) (some 188) (vs 30)) (some 189) (vs 31)) (some 190) (vs 32)) (some 191) (vs 33)) (some 192) (vs 34)) (some 193) (vs 35)) (some 194) (vs 36)) (some 195) (vs 37)) (some 196) (vs 38)) (some 197) (vs 39)) (some 198) (vs 40)) (some 199) (vs 41)) (some 200) (vs 42)) (some 201) (vs 43)) (some 202) (vs 44)) (some 203) (vs 45)) (some 204) (vs 46)) _ _
                      rw [f32]
                      clear f32
                      refine tstep_yes (by kernel_rfl) ?_
                      have HBW := Lib.hid hb
                      clear hb
                      go_simp
                      exact Below.refl _ _
                    refine midsW_step ⟨41, 199, [32], fun u W' => u = .int .i64 (j : Int)⟩ rfl ?_ ?_
                    · intro vs W hb hf
                      obtain ⟨f32, _⟩ := hf
                      clear HL oa0 oa1 oa2 oa3 oa4 oa5 oa6 oa7 oa8 oa9 oa10 oa11 oa12 oa13 ob0 ob1 ob2 ob3 ob4 ob5 ob6 ob7 ob8 ob9 ob10 ob11 ob12 ob13 oc0 oc1 oc2 oc3 oc4 oc5 oc6 oc7 oc8 oc9 oc10 oc11 oc12 oc13 loa lob loc oi0 li hseq
                      change TStep _ _ _ (Act.put (Act.put (Act.put (Act.put (Act.put (Act.put (Act.put (Act.put (Act.put (Act.put (Act.put (Act.put (Act.put (Act.put (Act.put (Act.put (Act.put (Act.put (Act.put (Act.put _ (some 180) (vs 22)) (some 186) (vs 28)) (some 187) (vs 29)) (some 188) (vs 30)) (some 189) (vs 31)) (some 190) (vs 32)) (some 191) (vs 33)) (some 192) (vs 34)) (some 193) (vs 35)) (some 194) (vs 36)) (some 195) (vs 37)) (some 196) (vs 38)) (some 197) (vs 39)) (some 198) (vs 40)) (some 199) (vs 41)) (some 200) (vs 42)) (some 201) (vs 43)) (some 202) (vs 44)) (some 203) (vs 45)) (some 204) (vs 46)) _ _
                      rw [f32]
                      clear f32
                      refine tstep_yes (by kernel_rfl) ?_
                      have HBW := Lib.hid hb
                      clear hb
                      go_simp
                      exact Below.refl _ _
                    refine midsW_step ⟨42, 200, [32, 40, 41], fun u W' => u = .pointer (some ⟨bi, oi + j, none⟩)⟩ rfl ?_ ?_
                    · intro vs W hb hf
                      obtain ⟨f32, f40, f41, _⟩ := hf
                      clear HL oa0 oa1 oa2 oa3 oa4 oa5 oa6 oa7 oa8 oa9 oa10 oa11 oa12 oa13 ob0 ob1 ob2 ob3 ob4 ob5 ob6 ob7 ob8 ob9 ob10 ob11 ob12 ob13 oc0 oc1 oc2 oc3 oc4 oc5 oc6 oc7 oc8 oc9 oc10 oc11 oc12 oc13 loa lob loc oi0 li hseq
                      change TStep _ _ _ (Act.put (Act.put (Act.put (Act.put (Act.put (Act.put (Act.put (Act.put (Act.put (Act.put (Act.put (Act.put (Act.put (Act.put (Act.put (Act.put (Act.put (Act.put (Act.put (Act.put _ (some 180) (vs 22)) (some 186) (vs 28)) (some 187) (vs 29)) (some 188) (vs 30)) (some 189) (vs 31)) (some 190) (vs 32)) (some 191) (vs 33)) (some 192) (vs 34)) (some 193) (vs 35)) (some 194) (vs 36)) (some 195) (vs 37)) (some 196) (vs 38)) (some 197) (vs 39)) (some 198) (vs 40)) (some 199) (vs 41)) (some 200) (vs 42)) (some 201) (vs 43)) (some 202) (vs 44)) (some 203) (vs 45)) (some 204) (vs 46)) _ _
                      rw [f32, f40, f41]
                      clear f32 f40 f41
                      refine tstep_yes (by kernel_rfl) ?_
                      have HBW := Lib.hid hb
                      clear hb
                      go_simp
                      exact Below.refl _ _
                    refine midsW_step ⟨43, 201, [32, 42], fun u W' => u = .int .i64 k⟩ rfl ?_ ?_
                    · intro vs W hb hf
                      obtain ⟨f32, f42, _⟩ := hf
                      clear HL oa0 oa1 oa2 oa3 oa4 oa5 oa6 oa7 oa8 oa9 oa10 oa11 oa12 oa13 ob0 ob1 ob2 ob3 ob4 ob5 ob6 ob7 ob8 ob9 ob10 ob11 ob12 ob13 oc0 oc1 oc2 oc3 oc4 oc5 oc6 oc7 oc8 oc9 oc10 oc11 oc12 oc13 loa lob loc oi0 li hseq
                      change TStep _ _ _ (Act.put (Act.put (Act.put (Act.put (Act.put (Act.put (Act.put (Act.put (Act.put (Act.put (Act.put (Act.put (Act.put (Act.put (Act.put (Act.put (Act.put (Act.put (Act.put (Act.put _ (some 180) (vs 22)) (some 186) (vs 28)) (some 187) (vs 29)) (some 188) (vs 30)) (some 189) (vs 31)) (some 190) (vs 32)) (some 191) (vs 33)) (some 192) (vs 34)) (some 193) (vs 35)) (some 194) (vs 36)) (some 195) (vs 37)) (some 196) (vs 38)) (some 197) (vs 39)) (some 198) (vs 40)) (some 199) (vs 41)) (some 200) (vs 42)) (some 201) (vs 43)) (some 202) (vs 44)) (some 203) (vs 45)) (some 204) (vs 46)) _ _
                      rw [f32, f42]
                      clear f32 f42
                      refine tstep_yes (by kernel_rfl) ?_
                      have hcx := ((HR.out.1.later hb).int (.head _)).cell HKK.out.1
                      have hcy := hcx.2.2
                      clear hcx
                      have HBW := Lib.hid hb
                      clear hb
                      go_simp
                      exact Below.refl _ _
                    refine midsW_step ⟨44, 202, [32, 39, 43], fun u W' => IntAt W' u (leavesM M k)⟩ rfl ?_ ?_
                    · intro vs W hb hf
                      obtain ⟨f32, f39, f43, _⟩ := hf
                      clear HL oa0 oa1 oa2 oa3 oa4 oa5 oa6 oa7 oa8 oa9 oa10 oa11 oa12 oa13 ob0 ob1 ob2 ob3 ob4 ob5 ob6 ob7 ob8 ob9 ob10 ob11 ob12 ob13 oc0 oc1 oc2 oc3 oc4 oc5 oc6 oc7 oc8 oc9 oc10 oc11 oc12 oc13 loa lob loc oi0 li hseq
                      change TStep _ _ _ (Act.put (Act.put (Act.put (Act.put (Act.put (Act.put (Act.put (Act.put (Act.put (Act.put (Act.put (Act.put (Act.put (Act.put (Act.put (Act.put (Act.put (Act.put (Act.put (Act.put _ (some 180) (vs 22)) (some 186) (vs 28)) (some 187) (vs 29)) (some 188) (vs 30)) (some 189) (vs 31)) (some 190) (vs 32)) (some 191) (vs 33)) (some 192) (vs 34)) (some 193) (vs 35)) (some 194) (vs 36)) (some 195) (vs 37)) (some 196) (vs 38)) (some 197) (vs 39)) (some 198) (vs 40)) (some 199) (vs 41)) (some 200) (vs 42)) (some 201) (vs 43)) (some 202) (vs 44)) (some 203) (vs 45)) (some 204) (vs 46)) _ _
                      rw [f32, f39, f43]
                      clear f32 f39 f43
                      refine tstep_yes (by kernel_rfl) ?_
                      have HBW := Lib.hid hb
                      clear hb
                      go_simp
                      exact ((HT.out.later (HR.out.1.later HBW.out).below).leaves k HKK.out.2.2.1).mono fun e w2 ⟨v, he, ho, hb2⟩ => ⟨v, he, hb2, IntAt.of_owns ho HKK.out.2.2.2.2⟩
                    refine midsW_step ⟨45, 203, [32, 38, 44], fun u W' => u = .bool true⟩ rfl ?_ ?_
                    · intro vs W hb hf
                      obtain ⟨f32, f38, f44, _⟩ := hf
                      clear HL oa0 oa1 oa2 oa3 oa4 oa5 oa6 oa7 oa8 oa9 oa10 oa11 oa12 oa13 ob0 ob1 ob2 ob3 ob4 ob5 ob6 ob7 ob8 ob9 ob10 ob11 ob12 ob13 oc0 oc1 oc2 oc3 oc4 oc5 oc6 oc7 oc8 oc9 oc10 oc11 oc12 oc13 loa lob loc oi0 li hseq
                      change TStep _ _ _ (Act.put (Act.put (Act.put (Act.put (Act.put (Act.put (Act.put (Act.put (Act.put (Act.put (Act.put (Act.put (Act.put (Act.put (Act.put (Act.put (Act.put (Act.put (Act.put (Act.put _ (some 180) (vs 22)) (some 186) (vs 28)) (some 187) (vs 29)) (some 188) (vs 30)) (some 189) (vs 31)) (some 190) (vs 32)) (some 191) (vs 33)) (some 192) (vs 34)) (some 193) (vs 35)) (some 194) (vs 36)) (some 195) (vs 37)) (some 196) (vs 38)) (some 197) (vs 39)) (some 198) (vs 40)) (some 199) (vs 41)) (some 200) (vs 42)) (some 201) (vs 43)) (some 202) (vs 44)) (some 203) (vs 45)) (some 204) (vs 46)) _ _
                      rw [f32]
                      clear f32
                      refine tstep_yes (by kernel_rfl) ?_
                      have HBW := Lib.hid hb
                      clear hb
                      go_simp
                      exact (same16_any _ _ (leavesM M k) _ f38 f44).mono fun e w2 h => ⟨h.1, h.2⟩
                    refine midsW_step ⟨46, 204, [32, 45], fun u W' => u = .bool false⟩ rfl ?_ ?_
                    · intro vs W hb hf
                      obtain ⟨f32, f45, _⟩ := hf
                      clear HL oa0 oa1 oa2 oa3 oa4 oa5 oa6 oa7 oa8 oa9 oa10 oa11 oa12 oa13 ob0 ob1 ob2 ob3 ob4 ob5 ob6 ob7 ob8 ob9 ob10 ob11 ob12 ob13 oc0 oc1 oc2 oc3 oc4 oc5 oc6 oc7 oc8 oc9 oc10 oc11 oc12 oc13 loa lob loc oi0 li hseq
                      change TStep _ _ _ (Act.put (Act.put (Act.put (Act.put (Act.put (Act.put (Act.put (Act.put (Act.put (Act.put (Act.put (Act.put (Act.put (Act.put (Act.put (Act.put (Act.put (Act.put (Act.put (Act.put _ (some 180) (vs 22)) (some 186) (vs 28)) (some 187) (vs 29)) (some 188) (vs 30)) (some 189) (vs 31)) (some 190) (vs 32)) (some 191) (vs 33)) (some 192) (vs 34)) (some 193) (vs 35)) (some 194) (vs 36)) (some 195) (vs 37)) (some 196) (vs 38)) (some 197) (vs 39)) (some 198) (vs 40)) (some 199) (vs 41)) (some 200) (vs 42)) (some 201) (vs 43)) (some 202) (vs 44)) (some 203) (vs 45)) (some 204) (vs 46)) _ _
                      rw [f32, f45]
                      clear f32 f45
                      refine tstep_yes (by kernel_rfl) ?_
                      have HBW := Lib.hid hb
                      clear hb
                      go_simp
                      exact Below.refl _ _
                    exact midsW_nil
                  · intro vs W hb hf
                    obtain ⟨f32, f46, _⟩ := hf
                    clear HL oa0 oa1 oa2 oa3 oa4 oa5 oa6 oa7 oa8 oa9 oa10 oa11 oa12 oa13 ob0 ob1 ob2 ob3 ob4 ob5 ob6 ob7 ob8 ob9 ob10 ob11 ob12 ob13 oc0 oc1 oc2 oc3 oc4 oc5 oc6 oc7 oc8 oc9 oc10 oc11 oc12 oc13 loa lob loc oi0 li hseq
                    change wpList _ _ _ _ (Act.put (Act.put (Act.put (Act.put (Act.put (Act.put (Act.put (Act.put (Act.put (Act.put (Act.put (Act.put (Act.put (Act.put (Act.put (Act.put (Act.put (Act.put (Act.put (Act.put _ (some 180) (vs 22)) (some 186) (vs 28)) (some 187) (vs 29)) (some 188) (vs 30)) (some 189) (vs 31)) (some 190) (vs 32)) (some 191) (vs 33)) (some 192) (vs 34)) (some 193) (vs 35)) (some 194) (vs 36)) (some 195) (vs 37)) (some 196) (vs 38)) (some 197) (vs 39)) (some 198) (vs 40)) (some 199) (vs 41)) (some 200) (vs 42)) (some 201) (vs 43)) (some 202) (vs 44)) (some 203) (vs 45)) (some 204) (vs 46)) _
                    rw [f32, f46]
                    clear f32 f46
                    simp only [List.drop_succ_cons, List.drop_zero, List.take_succ_cons, List.take_zero]
                    have H9 := Lib.hid (HR.out.1.later hb)
                    clear hb HR
                    go_wp2_with fail
                    go_meet
                    exact ⟨rfl, H9.out⟩
                case rest =>
                  obtain ⟨rfl, hrt⟩ := hcut
                  obtain ⟨W9, rfl⟩ : ∃ W, W = wc := ⟨_, rfl⟩
                  have H9 := Lib.hid hrt
                  clear hrt HR oa0 oa1 oa2 oa3 oa4 oa5 oa6 oa7 oa8 oa9 oa10 oa11 oa12 oa13 ob0 ob1 ob2 ob3 ob4 ob5 ob6 ob7 ob8 ob9 ob10 ob11 ob12 ob13 oc0 oc1 oc2 oc3 oc4 oc5 oc6 oc7 oc8 oc9 oc10 oc11 oc12 oc13 loa lob loc oi0 li hseq
                  go_wp2_with fail
                  go_roundw
                  case measure => (simp [Go.RowKit.intOf]; try omega)
                  case rel => exact ⟨j + 1, by go_num, by omega, H9.out⟩
              · have HE := Lib.hid hab
                clear hab
                have hla := HE.out.tsA.len
                go_wp2_with fail
                refine hla.mono ?_
                clear hla
                rintro e W1 ⟨rfl, hb1⟩
                have H1 := Lib.hid (HE.out.later hb1)
                clear hb1 HE
                have hlt := (HT.out.later H1.out.below).len
                go_wp2_with fail
                refine hlt.mono ?_
                clear hlt
                rintro e W2 ⟨rfl, hb2⟩
                have H2 := Lib.hid (H1.out.later hb2)
                clear hb2 H1
                have hlb := H2.out.tsB.len
                go_wp2_with fail
                refine hlb.mono ?_
                clear hlb
                rintro e W3 ⟨rfl, hb3⟩
                have H3 := Lib.hid (H2.out.later hb3)
                clear hb3 H2
                have hlt := (HT.out.later H3.out.below).len
                go_wp2_with fail
                refine hlt.mono ?_
                clear hlt
                rintro e W4 ⟨rfl, hb4⟩
                have H4 := Lib.hid (H3.out.later hb4)
                clear hb4 H3
                go_wp2_with fail
                go_ret
                exact ⟨by simp, HT.out.below.trans (H4.out.below.mono HT.out.below.size)⟩
end Go.Proofs.YtclhhegfffccgaaGreat
