/-
  The book of curves, its ghosts a row of its own: Drop.
-/
import Derived.Test.YthmhboagbeibdaaAdmTell
namespace Go.Proofs.Ythmhboagbeibdaa
set_option linter.unusedVariables false
open Go.RowKit Go.Maps Go.Sort
attribute [local go_sem ↓] Go.wp_at_zero Go.wp_at_succ
attribute [local go_sem] quietR quietAtR quietUponR midAt midUpon
attribute [local irreducible] TStep HStep

/-- a world's beginning: what no call of the book's changes -/
def cutW (w : World) (B : Nat) : World := { w with heap := w.heap.extract 0 B }
theorem cutW_size {w : World} {B : Nat} (h : B ≤ w.heap.size) : (cutW w B).heap.size = B := by simp [cutW]; omega
theorem below_cut {w W : World} {B : Nat} (hB : B ≤ w.heap.size) (h : Below B w W) : Below (cutW w B).heap.size (cutW w B) W := by
  rw [cutW_size hB]
  refine ⟨h.os, h.tape, h.output, ?_, fun k hk => ?_⟩
  · rw [cutW_size hB]; exact Nat.le_trans hB h.size
  · rw [h.block k hk]
    simp [cutW, Array.getElem?_extract]
    omega
theorem cut_below {w W : World} {B : Nat} (hB : B ≤ w.heap.size) (hs : w.heap.size ≤ W.heap.size) (h : Below (cutW w B).heap.size (cutW w B) W) : Below B w W := by
  rw [cutW_size hB] at h
  refine ⟨h.os, h.tape, h.output, hs, fun k hk => ?_⟩
  rw [h.block k hk]
  simp [cutW, Array.getElem?_extract]
  omega

/-- a book whose ghosts are a row of its own -/
structure BkO (w : World) (base g m : Nat) (r : Int) (L : List (Int × Cv)) (G : List Cv) (vg : Value) : Prop where
  bk : BkAt w g m r L G vg
  own : w.ownsRow base 25 3 vg G.length (cvCells G)
  gb : base ≤ g
  mb : base ≤ m
theorem BkO.later {w w' : World} {base g m : Nat} {r : Int} {L : List (Int × Cv)} {G : List Cv} {vg : Value} (h : BkO w base g m r L G vg) (hb : Below w.heap.size w w') : BkO w' base g m r L G vg :=
  ⟨h.bk.later hb, owns_later h.own hb, h.gb, h.mb⟩
theorem BkO.base_le {w : World} {base g m : Nat} {r : Int} {L : List (Int × Cv)} {G : List Cv} {vg : Value} (h : BkO w base g m r L G vg) : base ≤ w.heap.size := by
  have h1 := h.gb; have h2 := h.bk.blk.lt; omega
theorem own_map {w : World} {base m n sz : Nat} {e : TypeId} {v : Value} {xs : List Value} {M : List (Int × Value)} (h : w.ownsRow base e sz v n xs) (hM : MapI Try.prog 3 w m M) : v.ownBlock = none ∨ v.ownBlock ≠ some m := by
  rcases h.2 with ⟨rfl, _⟩ | ⟨g, c, cur, rfl, _, h3, _⟩
  · exact .inl rfl
  · refine .inr fun he => ?_
    simp [Value.ownBlock] at he
    subst he
    obtain ⟨es, clock, h1, _⟩ := hM
    rw [h3] at h1; cases h1
theorem own_blk {w : World} {base g n sz : Nat} {e t : TypeId} {v : Value} {xs : List Value} {cs : Array Value} (h : w.ownsRow base e sz v n xs) (hB : Blk w g t cs) (hne : e ≠ t) : v.ownBlock = none ∨ v.ownBlock ≠ some g := by
  rcases h.2 with ⟨rfl, _⟩ | ⟨g', c, cur, rfl, _, h3, _⟩
  · exact .inl rfl
  · refine .inr fun he => ?_
    simp [Value.ownBlock] at he
    subst he
    unfold Blk at hB
    rw [h3] at hB
    cases hB
    exact hne rfl

/-- what no call of the book's changes: all blocks but its own -/
def Spare (w w' : World) (g m : Nat) (vg : Value) : Prop := w.heap.size ≤ w'.heap.size ∧ ∀ k, k < w.heap.size → k ≠ g → k ≠ m → vg.ownBlock ≠ some k → w'.heap[k]? = w.heap[k]?
theorem Spare.refl (w : World) (g m : Nat) (vg : Value) : Spare w w g m vg := ⟨Nat.le_refl _, fun _ _ _ _ _ => rfl⟩
theorem Spare.trans {a b c : World} {g m : Nat} {vg : Value} (h : Spare a b g m vg) (k : Spare b c g m vg) : Spare a c g m vg := ⟨Nat.le_trans h.1 k.1, fun i hi h1 h2 h3 => (k.2 i (Nat.lt_of_lt_of_le hi h.1) h1 h2 h3).trans (h.2 i hi h1 h2 h3)⟩
theorem Spare.below {w w' : World} (g m : Nat) (vg : Value) (h : Below w.heap.size w w') : Spare w w' g m vg := ⟨h.size, fun i hi _ _ _ => h.block i hi⟩
theorem Spare.atG {w w' : World} (g m : Nat) (vg : Value) (h : w.grownBy w' (some g)) : Spare w w' g m vg := ⟨h.size, fun i hi h1 _ _ => h.block i hi (by simpa using h1)⟩
theorem Spare.atM {w w' : World} (g m : Nat) (vg : Value) (h : w.grownBy w' (some m)) : Spare w w' g m vg := ⟨h.size, fun i hi _ h1 _ => h.block i hi (by simpa using h1)⟩
theorem Spare.atV {w w' : World} (g m : Nat) (vg : Value) (h : w.grownBy w' vg.ownBlock) : Spare w w' g m vg := ⟨h.size, fun i hi _ _ h1 => h.block i hi (fun e => h1 e.symm)⟩
theorem Spare.blk {w w' : World} {g m b : Nat} {vg : Value} {t : TypeId} {cs : Array Value} (h : Spare w w' g m vg) (hB : Blk w b t cs) (h1 : b ≠ g) (h2 : b ≠ m) (h3 : vg.ownBlock ≠ some b) : Blk w' b t cs := (h.2 b hB.lt h1 h2 h3).trans hB

def DropW (w : World) (base g m : Nat) (r : Int) (L : List (Int × Cv)) (G : List Cv) (vg : Value) (id : Int) (keep : Bool) (e : Ending) (w' : World) : Prop :=
  e = .returned (.bool (lookM L id).isSome) ∧ (∃ vg', BkO w' base g m r (delM L id) (if keep then G ++ (lookM L id).toList else G) vg') ∧ Below base w w' ∧ Spare w w' g m vg ∧ (keep = false → BkO w' base g m r (delM L id) G vg)

theorem look_u {L : List (Int × Cv)} {id : Int} {c : Cv} (hu : UU (L.map (·.2))) (h : lookM L id = some c) : U c.1 ∧ U c.2.1 ∧ U c.2.2 := by
  have hm : ∀ {M : List (Int × Cv)}, lookM M id = some c → ∃ p ∈ M, p.2 = c := by
    intro M
    induction M with
    | nil => intro h; cases h
    | cons p r ih =>
      intro h
      unfold lookM at h
      split at h
      · cases h; exact ⟨p, by simp, rfl⟩
      · obtain ⟨q, hq, e⟩ := ih h; exact ⟨q, by simp [hq], e⟩
  obtain ⟨p, hp, rfl⟩ := hm h
  exact hu _ (List.mem_map.2 ⟨p, hp, rfl⟩)
/-- behind the ghosts' append -/
structure Mid7 (W w1 : World) (base g m : Nat) (r : Int) (L : List (Int × Cv)) (G : List Cv) (vg u : Value) : Prop where
  blk : Blk W g 58 #[.int .u64 r, .map (some m), vg]
  map : MapI Try.prog 3 W m (mapV cvV L)
  own : W.ownsRow base 25 3 u G.length (cvCells G)
  sp : Spare w1 W g m vg
theorem Mid7.later {W W' w1 : World} {base g m : Nat} {r : Int} {L : List (Int × Cv)} {G : List Cv} {vg u : Value} (h : Mid7 W w1 base g m r L G vg u) (hb : Below W.heap.size W W') : Mid7 W' w1 base g m r L G vg u :=
  ⟨h.blk.below hb h.blk.lt, h.map.kept (grown_none hb) (by simp), owns_later h.own hb, h.sp.trans (Spare.below g m vg hb)⟩

/-- the map behind the ghosts: what is dropped -/
theorem BkO.drop {w : World} {base g m : Nat} {r : Int} {L : List (Int × Cv)} {G : List Cv} {vg : Value} (h : BkO w base g m r L G vg) (id : Int) (hid : (Lit.int .i64 id).wf = true) :
    ∃ w', (Builtin.delete_ #[56, 3] 0 #[.map (some m), .int .i64 id]).run Try.prog w = .ok (.tuple #[]) w' ∧ BkO w' base g m r (delM L id) G vg ∧ Below base w w' ∧ w.grownBy w' (some m) := by
  obtain ⟨w', hr, hM, ht⟩ := h.bk.map.drop (k := id) (E := 25) (T := 56) Try.underlying3 Try.underlying56 hid 0
  rw [del_map] at hM
  refine ⟨w', hr, ⟨⟨h.bk.blk.grown ht.grown (by simp [h.bk.ne]), hM, cv_turned h.bk.gh ht, fun d hd => ?_, fun p hp => h.bk.wf p (List.mem_filter.1 hp).1, by have := del_length id L; have := h.bk.few; omega, h.bk.rate⟩, h.own.kept ht.grown (own_map h.own h.bk.map), h.gb, h.mb⟩, (Below.refl base w).grown ht.grown h.base_le (fun k e => by cases e; exact h.mb), ht.grown⟩
  obtain ⟨p, hp, rfl⟩ := List.mem_map.1 hd
  exact h.bk.u _ (List.mem_map.2 ⟨p, (List.mem_filter.1 hp).1, rfl⟩)

set_option maxRecDepth 100000 in
set_option maxHeartbeats 4000000 in
theorem drop_any (id : Int) (keep : Bool) (base g m : Nat) (r : Int) (L : List (Int × Cv)) (G : List Cv) (vg : Value) (w : World) (hid : (Lit.int .i64 id).wf = true) (h : BkO w base g m r L G vg) (hfew : L.length + G.length < 100000) :
    Calls Try.prog 19 #[.pointer (some ⟨g, 0, none⟩), .int .i64 id, .bool keep] w (DropW w base g m r L G vg id keep) := by
  obtain ⟨ag, cg, rfl⟩ : ∃ a cap, vg = .slice a G.length cap := by obtain ⟨_, _, a, cap, e, _⟩ := h.bk.gh; exact ⟨a, cap, e⟩
  have hn := bnone_no g r w (h.bk.blk.cell 0) h.bk.rate.1
  have hlook := h.bk.map.look_ok (k := id) (E := 25) (T := 56) (z := cvV (0, 0, 0)) Try.underlying3 Try.underlying56 (by exact Try.zeroValue25 _) hid
  have hval : (lookM (mapV cvV L) id).getD (cvV (0, 0, 0)) = cvV ((lookM L id).getD (0, 0, 0)) := by rw [look_map]; cases lookM L id <;> rfl
  have hsm : (lookM (mapV cvV L) id).isSome = (lookM L id).isSome := by rw [look_map]; cases lookM L id <;> rfl
  rw [hval, hsm] at hlook
  have y1 := h.bk.blk.cell 1
  simp only [List.getElem?_toArray, List.getElem?_cons_zero, List.getElem?_cons_succ] at y1
  have H := Lib.hid h
  clear h hval hsm
  cases hl : lookM L id with
  | none =>
    rw [hl] at hlook
    simp only [Option.getD_none, Option.isSome_none, cvV] at hlook
    have HL := Lib.hid hl
    clear hl
    have hb1 := (Below.refl w.heap.size w).alloc (Nat.le_refl _) (.cells #[.int .u64 0, .int .u64 0, .int .u64 0] 25)
    obtain ⟨w', hr, hbo, hbb, hgr⟩ := (H.out.later hb1).drop id hid
    have HF := Lib.hid (And.intro hbo (And.intro ((hb1.mono H.out.base_le).trans hbb) ((Spare.below g m (.slice ag G.length cg) hb1).trans (Spare.atM g m _ hgr))))
    have y2 := (H.out.later hb1).bk.blk.cell 1
    simp only [List.getElem?_toArray, List.getElem?_cons_zero, List.getElem?_cons_succ] at y2
    clear hbo hbb hb1 hgr
    go_enter Try.func19, Try.ntmps19
    go_wp2_with (go_at_call 29; refine hn.mono ?_; rintro e w1 ⟨rfl, rfl⟩)
    go_ret
    have e1 : delM L id = L := delM_none id L (look_none.1 HL.out)
    exact ⟨by rw [HL.out]; rfl, ⟨_, by rw [HL.out]; cases keep <;> simpa using HF.out.1⟩, HF.out.2.1, HF.out.2.2, fun _ => HF.out.1⟩
  | some c =>
    obtain ⟨CF, CL, CR⟩ := c
    rw [hl] at hlook
    simp only [Option.getD_some, Option.isSome_some, cvV] at hlook
    have huc : U CF ∧ U CL ∧ U CR := by
      have hs : (lookM L id).isSome = true := by rw [hl]; rfl
      exact look_u H.out.bk.u hl
    have HL := Lib.hid hl
    clear hl
    have hb1 := (Below.refl w.heap.size w).alloc (Nat.le_refl _) (.cells #[.int .u64 CF, .int .u64 CL, .int .u64 CR] 25)
    have h1 := H.out.later hb1
    have y2 := h1.bk.blk.cell 1
    simp only [List.getElem?_toArray, List.getElem?_cons_zero, List.getElem?_cons_succ] at y2
    cases keep
    · obtain ⟨w', hr, hbo, hbb, hgr⟩ := h1.drop id hid
      have HF := Lib.hid (And.intro hbo (And.intro ((hb1.mono H.out.base_le).trans hbb) ((Spare.below g m (.slice ag G.length cg) hb1).trans (Spare.atM g m _ hgr))))
      clear hbo hbb hb1 h1 hgr
      go_enter Try.func19, Try.ntmps19
      go_wp2_with (go_at_call 29; refine hn.mono ?_; rintro e w1 ⟨rfl, rfl⟩)
      go_ret
      exact ⟨by rw [HL.out]; rfl, ⟨_, by simpa using HF.out.1⟩, HF.out.2.1, HF.out.2.2, fun _ => HF.out.1⟩
    · have hBx := Blk.new w 25 #[.int .u64 CF, .int .u64 CL, .int .u64 CR]
      have H1 := Lib.hid (And.intro h1 (And.intro hBx hb1))
      clear h1 hBx hb1
      go_enter Try.func19, Try.ntmps19
      go_upto_region 5 with (go_at_call 29; refine hn.mono ?_; rintro e w1 ⟨rfl, rfl⟩)
      generalize w.alloc (.cells #[.int .u64 CF, .int .u64 CL, .int .u64 CR] 25) = w1 at H1 y2 ⊢
      clear y1 y2 hlook hn
      have hbl : base ≤ w1.heap.size := H1.out.1.base_le
      refine wp_region_hot0 (w := cutW w1 base) (ws := w1) 10 1 [4, 5, 6, 7] [] [(4, fun u W' => u = .slice ag G.length cg), (5, fun u W' => u = .agg #[.int .u64 CF, .int .u64 CL, .int .u64 CR]), (6, fun u W' => ∃ B, u = .slice (some ⟨B, 0, none⟩) 1 1 ∧ Blk W' B 25 #[.int .u64 CF, .int .u64 CL, .int .u64 CR]), (7, fun u W' => Mid7 W' w1 base g m r L (G ++ [(CF, CL, CR)]) (.slice ag G.length cg) u)] [(6, 7)] [7] [4, 5] rfl (by decide) (by decide) (below_cut hbl (Below.refl _ _)) (J := fun W => BkO W base g m r L G (.slice ag G.length cg) ∧ Blk W w.heap.size 25 #[.int .u64 CF, .int .u64 CL, .int .u64 CR] ∧ Spare w1 W g m (.slice ag G.length cg)) (jend := 7) ⟨H1.out.1, H1.out.2.1, Spare.refl _ _ _ _⟩ (fun W W' h hb => ⟨h.1.later hb, h.2.1.below hb h.2.1.lt, h.2.2.trans (Spare.below g m _ hb)⟩) (.inr (by kernel_rfl)) (by kernel_rfl) (by kernel_rfl) (by kernel_rfl) (by kernel_rfl) (by kernel_rfl) (fun _ _ _ _ _ h => h) ⟨fun v W1 W2 h hb => h, fun v W1 W2 h hb => h, fun v W1 W2 ⟨b, h1, h2⟩ hb => ⟨b, h1, h2.below hb h2.lt⟩, fun v W1 W2 h hb => h.later hb, trivial⟩ ⟨fun _ v W1 W2 h => h, fun _ v W1 W2 h => h, fun h => by simp at h, fun h => by simp at h, trivial⟩ ?_
      intro LL hL
      have HL2 := Lib.hid hL
      clear hL
      simp only [List.take_succ_cons, List.take_zero, putL]
      iterate 10 (first | refine wpHead_skip (by decide) ?_ | (refine wpHead_step (by decide) (fun K hK => ?_); go_simp; refine hK _ ?_; clear hK K))
      refine wpHead_nil (HL2.out _ ⟨?_, ?_, ?_, ?_, trivial⟩ ?_)
      · intro vs W2 hb2 hf hj
        clear HL2 hf
        have hjj := hj (.inr ⟨by decide, by kernel_rfl⟩)
        have x2 := hjj.1.bk.blk.cell 2
        simp only [List.getElem?_toArray, List.getElem?_cons_zero, List.getElem?_cons_succ] at x2
        clear hj hjj
        change TStep _ _ _ (Act.put (Act.put (Act.put (Act.put _ (some 28) (vs 4)) (some 29) (vs 5)) (some 30) (vs 6)) (some 31) (vs 7)) _ _
        refine tstep_yes (by kernel_rfl) ?_
        go_simp
        exact Below.refl _ _
      · intro vs W2 hb2 hf hj
        clear HL2 hf
        have hjj := hj (.inr ⟨by decide, by kernel_rfl⟩)
        have x0 := hjj.2.1.cell 0; have x1 := hjj.2.1.cell 1; have x2 := hjj.2.1.cell 2
        simp only [List.getElem?_toArray, List.getElem?_cons_zero, List.getElem?_cons_succ] at x0 x1 x2
        clear hj hjj
        change TStep _ _ _ (Act.put (Act.put (Act.put (Act.put _ (some 28) (vs 4)) (some 29) (vs 5)) (some 30) (vs 6)) (some 31) (vs 7)) _ _
        refine tstep_yes (by kernel_rfl) ?_
        go_simp
        exact Below.refl _ _
      · intro vs W2 hb2 hf _
        have hf := fits_cast (q := (vs 5 = .agg #[.int .u64 CF, .int .u64 CL, .int .u64 CR]) ∧ True) hf (by kernel_rfl)
        clear HL2
        change TStep _ _ _ (Act.put (Act.put (Act.put (Act.put _ (some 28) (vs 4)) (some 29) (vs 5)) (some 30) (vs 6)) (some 31) (vs 7)) _ _
        rw [hf.1]
        refine tstep_yes (by kernel_rfl) ?_
        go_simp
        exact ⟨(Below.refl _ _).alloc (Nat.le_refl _) _, Blk.new _ _ _⟩
      · intro vs W2 hb2 hf hj
        have hf := fits_cast (q := (vs 4 = .slice ag G.length cg) ∧ (∃ B, vs 6 = .slice (some ⟨B, 0, none⟩) 1 1 ∧ Blk W2 B 25 #[.int .u64 CF, .int .u64 CL, .int .u64 CR]) ∧ True) hf (by kernel_rfl)
        clear HL2
        have hjj := hj (.inl rfl)
        refine Exists.elim hf.2.1 fun B hB => ?_
        change HStep _ _ _ _ (Act.put (Act.put (Act.put (Act.put _ (some 28) (vs 4)) (some 29) (vs 5)) (some 30) (vs 6)) (some 31) (vs 7)) _ _
        rw [hf.1, hB.1]
        have happ := app_more 23 (A := G) (cvat_lit (c := (CF, CL, CR)) hB.2 huc) hjj.1.own hjj.1.base_le (by simp only [List.length_cons, List.length_nil]; omega)
        refine Exists.elim happ fun v' ha1 => ?_
        refine Exists.elim ha1 fun w' ha2 => ?_
        refine hstep_yes (by kernel_rfl) ?_
        exact hotUpon_app rfl (by kernel_rfl) (by kernel_rfl) ha2.1 (hb2.trans (by rw [cutW_size hbl]; exact ha2.2.2.1)) ⟨hjj.1.bk.blk.grown ha2.2.2.2 (by rcases own_blk hjj.1.own hjj.1.bk.blk (by decide) with h | h; (rw [h]; simp); exact fun e => h e.symm), hjj.1.bk.map.kept ha2.2.2.2 (by rcases own_map hjj.1.own hjj.1.bk.map with h | h; (rw [h]; simp); exact fun e => h e.symm), ha2.2.1, hjj.2.2.trans (Spare.atV g m _ ha2.2.2.2)⟩
      · intro vs W2 hb2 hf
        have hf := fits_cast (q := (vs 4 = .slice ag G.length cg) ∧ (vs 5 = .agg #[.int .u64 CF, .int .u64 CL, .int .u64 CR]) ∧ (Mid7 W2 w1 base g m r L (G ++ [(CF, CL, CR)]) (.slice ag G.length cg) (vs 7)) ∧ True) hf (by kernel_rfl)
        clear HL2
        change wpList _ _ _ _ (Act.put (Act.put (Act.put (Act.put _ (some 28) (vs 4)) (some 29) (vs 5)) (some 30) (vs 6)) (some 31) (vs 7)) _
        have h7 := hf.2.2.1
        refine Exists.elim (owns_slice h7.own) fun b1 x1 => ?_
        refine Exists.elim x1 fun d1 y1 => ?_
        refine Exists.elim (⟨_, rfl⟩ : ∃ n1, (G ++ [(CF, CL, CR)]).length = n1) fun n1 hn1 => ?_
        rw [hn1] at y1
        have hu : UU (G ++ [(CF, CL, CR)]) := fun d hd => by
          rcases List.mem_append.1 hd with hd | hd
          · exact H1.out.1.bk.gh.1 d hd
          · simp at hd; subst hd; exact huc
        have hg := grown_at W2 g 2 (.slice b1 n1 d1)
        rw [y1] at h7
        have hbk : BkO (W2.setCell ⟨g, 2, none⟩ (.slice b1 n1 d1)) base g m r L (G ++ [(CF, CL, CR)]) (.slice b1 n1 d1) :=
          have hown := h7.own.kept hg (own_blk h7.own h7.blk (by decide))
          ⟨⟨by simpa using h7.blk.set_ 2 (.slice b1 n1 d1), h7.map.kept hg (by simpa using (Ne.symm H1.out.1.bk.ne)), CvAt.of_owns hown hu (by simp; omega), H1.out.1.bk.u, H1.out.1.bk.wf, by simp; omega, H1.out.1.bk.rate⟩, hown, H1.out.1.gb, H1.out.1.mb⟩
        have hbb3 : Below base w1 (W2.setCell ⟨g, 2, none⟩ (.slice b1 n1 d1)) := (cut_below hbl h7.sp.1 hb2).setCell (p := ⟨g, 2, none⟩) H1.out.1.gb _
        have z1 := h7.blk.frozen 2; have z2 := h7.blk.cell 2
        refine Exists.elim (hbk.drop id hid) fun w' hx => ?_
        have hr := hx.1; have hbo := hx.2.1; have hbb := hx.2.2.1
        have hspa := ((Spare.below g m (.slice ag G.length cg) H1.out.2.2).trans h7.sp).trans ((Spare.atG g m _ hg).trans (Spare.atM g m _ hx.2.2.2))
        have y3 := hbk.bk.blk.cell 1
        have HF := Lib.hid (And.intro hbo (And.intro ((H1.out.2.2.mono H.out.base_le).trans (hbb3.trans hbb)) hspa))
        rw [hf.1, hf.2.1, y1]
        clear hf h7 x1 y1 hn1 hu hg hbk hbb3 hbo hbb hb2 hx hspa
        simp only [List.getElem?_toArray, List.getElem?_cons_zero, List.getElem?_cons_succ] at y3
        simp only [List.drop_succ_cons, List.drop_zero, List.take_succ_cons, List.take_zero]
        go_wp2_with fail
        go_ret
        exact ⟨by rw [HL.out]; rfl, ⟨_, by rw [HL.out]; simpa using HF.out.1⟩, HF.out.2.1, HF.out.2.2, fun h => by cases h⟩
end Go.Proofs.Ythmhboagbeibdaa
