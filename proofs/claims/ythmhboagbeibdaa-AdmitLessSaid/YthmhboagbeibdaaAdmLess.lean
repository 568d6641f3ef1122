/-
  The law: if a curve is admitted, one with slopes that aren't greater is; with a greater rate it is, too; a swap without a ghost is told what a drop and a put would be.
-/
import Derived.Test.YthmhboagbeibdaaAdmAgainP
namespace Go.Proofs.Ythmhboagbeibdaa
set_option linter.unusedVariables false
open Go.RowKit Go.Maps Go.Sort
attribute [local go_sem ↓] Go.wp_at_zero Go.wp_at_succ
attribute [local go_sem] quietR quietAtR quietUponR midAt midUpon
attribute [local irreducible] TStep HStep

theorem keep_rate {l : List Cv} {r r' : Int} (hr : r ≤ r') (h : Keep l r) : Keep l r' := fun t t0 t1 => by
  have h1 := h t t0 t1
  have := Int.mul_le_mul_of_nonneg_right hr t0
  unfold Lt at *
  omega
theorem ask_keep {l : List Cv} {c : Cv} {r : Int} : askB l c r = true ↔ (c = (0, 0, 0) ∨ Keep (l ++ [c]) r) := by
  unfold askB
  simp
theorem ask_rate {l : List Cv} {c : Cv} {r r' : Int} (hr : r ≤ r') (h : askB l c r = true) : askB l c r' = true :=
  ask_keep.2 ((ask_keep.1 h).imp id (keep_rate hr))
theorem fits_rate {l : List Cv} {c : Cv} {r r' : Int} (hr : r ≤ r') (h : fitsB l c r = true) : fitsB l c r' = true := by
  unfold fitsB at *
  rw [Bool.and_eq_true] at *
  exact ⟨h.1, ask_rate hr h.2⟩
/-- the curve with lesser slopes -/
def lessC (F L R n : Int) : Cv := (if 0 < L then F - min F n else F, L, R - min R n)
theorem less_u {F L R n : Int} (hF : U F) (hL : U L) (hR : U R) (hn : 0 ≤ n) : U (lessC F L R n).1 ∧ U (lessC F L R n).2.1 ∧ U (lessC F L R n).2.2 := by
  unfold lessC
  dsimp only
  unfold U at *
  refine ⟨?_, hL, by omega⟩
  split <;> omega
theorem vC_less {F L R n t : Int} (hF : U F) (hL : U L) (hR : U R) (hn : 0 ≤ n) (ht : 0 ≤ t) : vC (lessC F L R n) t ≤ vC (F, L, R) t := by
  have h1 : (lessC F L R n).1 ≤ F := by unfold lessC; dsimp only; have := hF.1; split <;> omega
  have h2 : (lessC F L R n).2.2 ≤ R := by unfold lessC; dsimp only; have := hR.1; omega
  have h3 : (lessC F L R n).2.1 = L := rfl
  show (lessC F L R n).1 * min t (lessC F L R n).2.1 + (lessC F L R n).2.2 * (t - min t (lessC F L R n).2.1) ≤ F * min t L + R * (t - min t L)
  rw [h3]
  have a := Int.mul_le_mul_of_nonneg_right h1 (show 0 ≤ min t L by have := hL.1; omega)
  have b := Int.mul_le_mul_of_nonneg_right h2 (show 0 ≤ t - min t L by omega)
  omega
theorem fits_less {l : List Cv} {F L R n r : Int} (hF : U F) (hL : U L) (hR : U R) (hn : 0 ≤ n) (h : fitsB l (F, L, R) r = true) (ho : okC (lessC F L R n) = true) : fitsB l (lessC F L R n) r = true := by
  unfold fitsB at *
  rw [Bool.and_eq_true] at *
  refine ⟨ho, ask_keep.2 ?_⟩
  rcases ask_keep.1 h.2 with hz | hk
  · left
    cases hz
    unfold lessC
    simp
    omega
  · right
    refine hk.le fun t ht => ?_
    have hv := vC_less hF hL hR hn ht
    simp only [vS_append, vS, ho, h.1, if_true]
    omega

/-- curves put at 0, 1, .. -/
def numL (C : List Cv) (i : Nat) : List (Int × Cv) := (C.take i).mapIdx fun k c => ((k : Int), c)
theorem numL_len {C : List Cv} {i : Nat} (h : i ≤ C.length) : (numL C i).length = i := by simp [numL]; omega
theorem numL_two (C : List Cv) (i : Nat) : (numL C i).map (·.2) = C.take i := by
  unfold numL
  apply List.ext_getElem?
  intro k
  rw [List.getElem?_map, List.getElem?_mapIdx]
  cases (C.take i)[k]? <;> rfl
theorem numL_mem {C : List Cv} {i : Nat} {p : Int × Cv} (h : p ∈ numL C i) : p.1 < i := by
  unfold numL at h
  obtain ⟨k, hk, e⟩ := List.mem_iff_getElem.1 h
  rw [List.getElem_mapIdx] at e
  subst e
  have : k < (C.take i).length := by simpa using hk
  rw [List.length_take] at this
  simp; omega
theorem numL_look {C : List Cv} {i : Nat} : lookM (numL C i) (i : Int) = none := look_none.2 fun p hp => by have := numL_mem hp; omega
theorem put_end {α : Type} {k : Int} {v : α} : ∀ {M : List (Int × α)}, (∀ p ∈ M, p.1 < k) → putM M k v = M ++ [(k, v)]
  | [], _ => rfl
  | p :: r, h => by
    have hp := h p (.head _)
    have ih := put_end (v := v) fun q hq => h q (.tail _ hq)
    unfold putM
    rw [if_neg (by omega), if_neg (by omega), ih]
    rfl
theorem numL_succ {C : List Cv} {i : Nat} {c : Cv} (h : C[i]? = some c) : putM (numL C i) i c = numL C (i + 1) := by
  rw [put_end fun p hp => numL_mem hp]
  have hl : i < C.length := (List.getElem?_eq_some_iff.1 h).1
  unfold numL
  rw [List.take_add_one, h]
  simp [List.mapIdx_append, Nat.min_eq_left (Nat.le_of_lt hl)]

/-- what was there beside what stands from B on -/
structure AgB (w W : World) (g m bc : Nat) (r : Int) (L : List (Int × Cv)) (G : List Cv) (F L0 R0 : Int) (base B : Nat) : Prop where
  at_ : AgAt w W base g m bc r L G F L0 R0
  low : ∃ vg, BkO W base g m r L G vg ∧ (∀ k, vg.ownBlock = some k → k < B)
  g1 : g < B
  m1 : m < B
  b1 : bc < B
  hw : w.heap.size ≤ B
theorem map_lt {w : World} {base g m : Nat} {r : Int} {L : List (Int × Cv)} {G : List Cv} {vg : Value} (h : BkO w base g m r L G vg) : m < w.heap.size := h.bk.map.lt
theorem BkO.below {B base g m : Nat} {w w' : World} {r : Int} {L : List (Int × Cv)} {G : List Cv} {vg : Value} (h : BkO w base g m r L G vg) (hb : Below B w w') (hg : g < B) (hm : m < B) (hv : ∀ k, vg.ownBlock = some k → k < B) : BkO w' base g m r L G vg := by
  have hown : w'.ownsRow base 25 3 vg G.length (cvCells G) := by
    refine ⟨h.own.1, ?_⟩
    rcases h.own.2 with h2 | ⟨g', c', cur, e, h3, h4, h5⟩
    · exact .inl h2
    · exact .inr ⟨g', c', cur, e, h3, (hb.block g' (hv g' (by rw [e]; rfl))).trans h4, h5⟩
  exact ⟨⟨h.bk.blk.below hb hg, h.bk.map.heap (hb.block m hm), CvAt.of_owns hown h.bk.gh.1 (by have := h.bk.few; omega), h.bk.u, h.bk.wf, h.bk.few, h.bk.rate⟩, hown, h.gb, h.mb⟩
theorem AgAt.toB {w W : World} {base g m bc : Nat} {r : Int} {L : List (Int × Cv)} {G : List Cv} {F L0 R0 : Int} (h : AgAt w W base g m bc r L G F L0 R0) : AgB w W g m bc r L G F L0 R0 base W.heap.size := by
  obtain ⟨vg, hb⟩ := h.bk
  exact ⟨h, ⟨vg, hb, fun k hk => (hb.own.lt k hk).2⟩, hb.bk.blk.lt, map_lt hb, h.box.lt, h.below.size⟩
theorem AgB.low_ {w W W' : World} {base B g m bc : Nat} {r : Int} {L : List (Int × Cv)} {G : List Cv} {F L0 R0 : Int} (h : AgB w W g m bc r L G F L0 R0 base B) (hb : Below B W W') : AgB w W' g m bc r L G F L0 R0 base B := by
  obtain ⟨vg, h1, h2⟩ := h.low
  have h1' := h1.below hb h.g1 h.m1 h2
  exact ⟨⟨⟨vg, h1'⟩, h.at_.box.below hb h.b1, h.at_.below.trans (hb.mono h.hw), h.at_.lo, h.at_.hb⟩, ⟨vg, h1', h2⟩, h.g1, h.m1, h.b1, h.hw⟩
theorem fits_of {w W : World} {base g m bc : Nat} {r : Int} {L : List (Int × Cv)} {G : List Cv} {F L0 R0 : Int} {b : Bool} (h : AgAt w W base g m bc r L G F L0 R0) {x y z : Int} (hu : U x ∧ U y ∧ U z) (hv : fitsB (G ++ L.map (·.2)) (x, y, z) r = b) : Calls Try.prog 11 #[.pointer (some ⟨g, 0, none⟩), .agg #[.int .u64 x, .int .u64 y, .int .u64 z]] W (fun e W' => e = .returned (.bool b) ∧ Below W.heap.size W W') := by
  obtain ⟨vg, hb⟩ := h.bk
  subst hv
  exact fits_any x y z g m r L G vg W hu hb.bk
theorem may_of (W : World) (x y z : Int) {b : Bool} (hy : 0 ≤ y) (hv : okC (x, y, z) = b) : Calls Try.prog 18 #[.agg #[.int .u64 x, .int .u64 y, .int .u64 z]] W (fun e W' => e = .returned (.bool b) ∧ Below W.heap.size W W') := by
  subst hv
  exact may_any x y z W hy
theorem BkO.up {base g m : Nat} {w w' : World} {r : Int} {L : List (Int × Cv)} {G : List Cv} {vg : Value} (h : BkO w base g m r L G vg) (hb : ∀ k, base ≤ k → k < w.heap.size → w'.heap[k]? = w.heap[k]?) : BkO w' base g m r L G vg := by
  have hown : w'.ownsRow base 25 3 vg G.length (cvCells G) := by
    refine ⟨h.own.1, ?_⟩
    rcases h.own.2 with h2 | ⟨g', c', cur, e, h3, h4, h5⟩
    · exact .inl h2
    · exact .inr ⟨g', c', cur, e, h3, (hb g' h3 (Array.getElem?_eq_some_iff.1 h4).1).trans h4, h5⟩
  exact ⟨⟨(hb g h.gb h.bk.blk.lt).trans h.bk.blk, h.bk.map.heap (hb m h.mb (map_lt h)), CvAt.of_owns hown h.bk.gh.1 (by have := h.bk.few; omega), h.bk.u, h.bk.wf, h.bk.few, h.bk.rate⟩, hown, h.gb, h.mb⟩
theorem swap_put (L : List (Int × Cv)) (G : List Cv) (id : Int) (c : Cv) (r : Int) :
    swapC L G id c false r = putC (delM L id) G id c r ∧ swapG L G id c false r = G ∧ (putC (delM L id) G id c r = 0 → swapL L G id c false r = putBk (delM L id) G id c r) := by
  have hl := look_del_same id L
  have e1 : swapC L G id c false r = putC (delM L id) G id c r := by
    unfold swapC putC
    rw [liveBut_del, hl]
    simp [swapM]
  refine ⟨e1, ?_, fun h0 => ?_⟩
  · unfold swapG
    split <;> simp [swapM]
  · unfold swapL putBk
    rw [e1, h0]
    by_cases hz : c = (0, 0, 0) <;> simp [hz]
/-- two copies, a curve in a box -/
structure TwoC (w W : World) (bc B1 B2 g1 m1 g2 m2 : Nat) (r : Int) (L1 L2 : List (Int × Cv)) (G1 G2 : List Cv) (v1 v2 : Value) (F L0 R0 : Int) : Prop where
  box : Blk W bc 25 #[.int .u64 F, .int .u64 L0, .int .u64 R0]
  x : BkO W B1 g1 m1 r L1 G1 v1
  y : BkO W B2 g2 m2 r L2 G2 v2
  below : Below w.heap.size w W
  hw : w.heap.size ≤ B1
  lo : bc < B1
  xg : g1 < B2
  xm : m1 < B2
  xv : ∀ k, v1.ownBlock = some k → k < B2
  hB : B1 ≤ B2
variable {w W W' : World} {bc B1 B2 g1 m1 g2 m2 : Nat} {r : Int} {L1 L2 L' : List (Int × Cv)} {G1 G2 G' : List Cv} {v1 v2 v' : Value} {F L0 R0 : Int}
theorem TwoC.later (h : TwoC w W bc B1 B2 g1 m1 g2 m2 r L1 L2 G1 G2 v1 v2 F L0 R0) (hb : Below W.heap.size W W') : TwoC w W' bc B1 B2 g1 m1 g2 m2 r L1 L2 G1 G2 v1 v2 F L0 R0 :=
  ⟨h.box.below hb h.box.lt, h.x.later hb, h.y.later hb, h.below.trans (hb.mono h.below.size), h.hw, h.lo, h.xg, h.xm, h.xv, h.hB⟩
theorem TwoC.actX (h : TwoC w W bc B1 B2 g1 m1 g2 m2 r L1 L2 G1 G2 v1 v2 F L0 R0) (hx : BkO W' B1 g1 m1 r L' G' v1) (hb : Below B1 W W') (hs : Spare W W' g1 m1 v1) : TwoC w W' bc B1 B2 g1 m1 g2 m2 r L' L2 G' G2 v1 v2 F L0 R0 :=
  ⟨h.box.below hb h.lo, hx, h.y.up fun k hk hl => hs.2 k hl (by have := h.xg; omega) (by have := h.xm; omega) (fun e => by have := h.xv k e; omega), h.below.trans (hb.mono h.hw), h.hw, h.lo, h.xg, h.xm, h.xv, h.hB⟩
theorem TwoC.actY (h : TwoC w W bc B1 B2 g1 m1 g2 m2 r L1 L2 G1 G2 v1 v2 F L0 R0) (hy : BkO W' B2 g2 m2 r L' G' v') (hb : Below B2 W W') : TwoC w W' bc B1 B2 g1 m1 g2 m2 r L1 L' G1 G' v1 v' F L0 R0 :=
  ⟨h.box.below hb (by have := h.lo; have := h.hB; omega), h.x.below hb h.xg h.xm h.xv, hy, h.below.trans (hb.mono (by have := h.hw; have := h.hB; omega)), h.hw, h.lo, h.xg, h.xm, h.xv, h.hB⟩
theorem TwoC.cells (h : TwoC w W bc B1 B2 g1 m1 g2 m2 r L1 L2 G1 G2 v1 v2 F L0 R0) : W.cell? ⟨bc, 0, none⟩ = some (.int .u64 F) ∧ W.cell? ⟨bc, 1, none⟩ = some (.int .u64 L0) ∧ W.cell? ⟨bc, 2, none⟩ = some (.int .u64 R0) :=
  ⟨h.box.cell 0, h.box.cell 1, h.box.cell 2⟩
theorem int_eqb (a b : Int) (h : a = b) : (a == b) = true := by simp [h]
theorem cv_at {w : World} {a : Option Addr} {cap k : Nat} {l : List Cv} {c : Cv} (h : CvAt w (.slice a l.length cap) l) (hc : l[k]? = some c) : ∃ b off, a = some ⟨b, off, none⟩ ∧ b < w.heap.size ∧ w.cell? ⟨b, off + k * 3, none⟩ = some (.int .u64 c.1) ∧ w.cell? ⟨b, off + k * 3 + 1, none⟩ = some (.int .u64 c.2.1) ∧ w.cell? ⟨b, off + k * 3 + 2, none⟩ = some (.int .u64 c.2.2) := by
  obtain ⟨_, _, a', cap', e, h3⟩ := h
  cases e
  rcases h3 with rfl | ⟨b, off, rfl, hl, hcap, hcc⟩
  · simp at hc
  · exact ⟨b, off, rfl, hl, hcc k c hc⟩
/-- both books -/
structure WdAt (w W : World) (g m bc : Nat) (r : Int) (L : List (Int × Cv)) (G : List Cv) (F L0 R0 : Int) (base B g1 m1 : Nat) (r1 : Int) (L1 : List (Int × Cv)) : Prop where
  old : AgB w W g m bc r L G F L0 R0 base B
  new : ∃ vg, BkO W B g1 m1 r1 L1 [] vg
theorem WdAt.later {w W W' : World} {g m bc : Nat} {r : Int} {L : List (Int × Cv)} {G : List Cv} {F L0 R0 : Int} {base B g1 m1 : Nat} {r1 : Int} {L1 : List (Int × Cv)} (h : WdAt w W g m bc r L G F L0 R0 base B g1 m1 r1 L1) (hb : Below W.heap.size W W') : WdAt w W' g m bc r L G F L0 R0 base B g1 m1 r1 L1 := by
  obtain ⟨vg, h2⟩ := h.new
  exact ⟨h.old.low_ (hb.mono h2.base_le), vg, h2.later hb⟩

set_option maxRecDepth 100000 in
set_option maxHeartbeats 8000000 in
theorem less_walk (a0 : Option Addr) (len cp0 : Nat) (zs : List (List Value)) (r F L0 R0 ls mr id : Int) (w : World) (hr : U r) (hz : IsRows [some .u8, some .i64, some .u64, some .u64, some .u64, none] w a0 len cp0 zs) (hc : U F ∧ U L0 ∧ U R0) (hls : 0 ≤ ls ∧ ls ≤ 65535) (hmr : 0 ≤ mr ∧ mr ≤ 65535) (hid : (Lit.int .i64 id).wf = true) :
    Calls Try.prog 5 #[.int .u64 r, .slice a0 len cp0, .agg #[.int .u64 F, .int .u64 L0, .int .u64 R0], .int .u16 ls, .int .u16 mr, .int .i64 id] w fun e w' => e = .returned (.bool true) ∧ Below w.heap.size w w' := by
  obtain ⟨hlm, z, hZ⟩ := bacts_of hz
  have hzl := hZ.1
  have HR := Lib.hid hr; have HC := Lib.hid hc; have HID := Lib.hid hid
  have hb0 := (Below.refl w.heap.size w).alloc (Nat.le_refl _) (.cells #[.int .u64 F, .int .u64 L0, .int .u64 R0] 25)
  have hB0 := Blk.new w 25 #[.int .u64 F, .int .u64 L0, .int .u64 R0]
  have hZ0 := hZ.later hb0
  have HB0 := Lib.hid (And.intro hb0 (And.intro hB0 hZ0))
  have haw := fun W => awake_any W
  clear hz hZ hb0 hB0 hZ0
  go_enter Try.func5, Try.ntmps5
  go_wp2_with fail
  refine (haw _).mono ?_
  clear haw
  rintro e w1 ⟨rfl, hb1⟩
  have HB1 := Lib.hid (And.intro (HB0.out.1.trans (hb1.mono HB0.out.1.size)) (And.intro (HB0.out.2.1.below hb1 HB0.out.2.1.lt) (HB0.out.2.2.later hb1)))
  clear hb1 HB0
  have hlo := long_any a0 len cp0 w1
  by_cases h60 : 60 < len
  · rw [decide_eq_true h60] at hlo
    go_wp2_with fail
    refine hlo.mono ?_
    clear hlo
    rintro e w2 ⟨rfl, rfl⟩
    go_wp2_with fail
    go_ret
    exact ⟨rfl, HB1.out.1⟩
  · rw [decide_eq_false h60] at hlo
    go_wp2_with fail
    refine hlo.mono ?_
    clear hlo
    rintro e w2 ⟨rfl, rfl⟩
    subst hzl
    have hpl := played_any r a0 cp0 z w2 hr HB1.out.2.2 (by omega)
    go_wp2_with fail
    refine hpl.mono ?_
    clear hpl
    rintro e w3 ⟨hcase, hb3⟩
    rcases hcase with ⟨hbad, rfl⟩ | ⟨hgood, g, m, vg, rfl, hbo⟩
    · have HB3 := Lib.hid (HB1.out.1.trans (hb3.mono HB1.out.1.size))
      clear hb3
      go_wp2_with fail
      go_ret
      exact ⟨rfl, HB3.out⟩
    · have hki := play_ki (r := r) (by omega) HB1.out.2.2.2.1
      have hsm := play_len r z
      have hA : AgAt w w3 w2.heap.size g m w.heap.size r (playP r z).1 (playP r z).2 F L0 R0 := ⟨⟨vg, hbo⟩, HB1.out.2.1.below hb3 HB1.out.2.1.lt, HB1.out.1.trans (hb3.mono HB1.out.1.size), HB1.out.2.1.lt, HB1.out.1.size⟩
      generalize playP r z = S at hki hsm hA
      obtain ⟨L, G⟩ := S
      dsimp only at hki hsm hA
      have HK := Lib.hid hki; have HS := Lib.hid hsm
      have hbl := hA.box.lt
      have hb4 := ((Below.refl w3.heap.size w3).alloc (Nat.le_refl _) (.cells #[.int .u64 0, .int .u64 0, .int .u64 0] 25))
      obtain ⟨x0, x1, x2⟩ := hA.cells
      have HA := Lib.hid hA; have HG := Lib.hid hgood
      obtain ⟨⟨hF0, hF1⟩, ⟨hL0, hL1⟩, hR0, hR1⟩ := hc
      obtain ⟨hls0, hls1⟩ := hls
      clear hb3 hki hsm hA hbo HB1 hgood
      go_upto_if 44 with fail
      go_cut [44] from 45 to 53 (fun v44 wx => v44 = .bool (decide (0 < L0)) ∧ Blk wx w3.heap.size 25 #[.int .u64 (if 0 < L0 then F - min F ls else F), .int .u64 L0, .int .u64 (R0 - min R0 ls)] ∧ Below w3.heap.size w3 wx)
      case first =>
        by_cases hl : 0 < L0
        · go_wp2_with fail
          go_meet
          rw [if_pos hl]
          exact ⟨rfl, Blk.new w3 _ _, (Below.refl _ _).alloc (Nat.le_refl _) _⟩
        · go_wp2_with fail
          go_meet
          rw [if_neg (by omega)]
          exact ⟨rfl, Blk.new w3 _ _, (Below.refl _ _).alloc (Nat.le_refl _) _⟩
      case rest =>
        obtain ⟨rfl, hO, hb4⟩ := hcut
        have hA := HA.out.later hb4
        obtain ⟨OF, hOF⟩ : ∃ x, (if 0 < L0 then F - min F ls else F) = x := ⟨_, rfl⟩
        obtain ⟨OR, hOR⟩ : ∃ x, R0 - min R0 ls = x := ⟨_, rfl⟩
        have hless : lessC F L0 R0 ls = (OF, L0, OR) := by rw [← hOF, ← hOR]; rfl
        rw [hOF, hOR] at hO
        have huo := less_u HC.out.1 HC.out.2.1 HC.out.2.2 hls0
        rw [hless] at huo
        obtain ⟨fb, hfb⟩ : ∃ b, fitsB (G ++ L.map (·.2)) (F, L0, R0) r = b := ⟨_, rfl⟩
        obtain ⟨ob, hob⟩ : ∃ b, okC (OF, L0, OR) = b := ⟨_, rfl⟩
        have HLS := Lib.hid (And.intro hless (And.intro hfb hob)); have HO := Lib.hid hO; have HA2 := Lib.hid hA; have HUO := Lib.hid huo
        have hf := fits_of hA ⟨⟨hF0, hF1⟩, ⟨hL0, hL1⟩, hR0, hR1⟩ hfb
        obtain ⟨y0, y1, y2⟩ := hA.cells
        clear x0 x1 x2 hO hb4 hOF hOR hless huo hfb hob hA HA
        go_upto_region 12 with fail
        go_cut [66] from 54 to 66 (fun v66 wx => v66 = .bool false ∧ AgAt w wx w2.heap.size g m w.heap.size r L G F L0 R0)
        case first =>
          go_wp2_with fail
          refine hf.mono ?_
          clear hf y0 y1 y2
          rintro e w4 ⟨rfl, hb4⟩
          have hA := HA2.out.later hb4
          have hO := HO.out.below hb4 HO.out.lt
          clear hb4
          cases fb
          · have HA4 := Lib.hid hA
            clear hA
            go_wp2_with fail
            go_meet
            exact ⟨rfl, HA4.out⟩
          · have hm := may_of w4 OF L0 OR hL0 HLS.out.2.2
            have HA4 := Lib.hid hA
            have z0 := hO.cell 0; have z1 := hO.cell 1; have z2 := hO.cell 2
            simp only [List.getElem?_toArray, List.getElem?_cons_zero, List.getElem?_cons_succ] at z0 z1 z2
            have HO4 := Lib.hid hO
            clear hA hO
            go_wp2_with fail
            refine hm.mono ?_
            clear hm z0 z1 z2
            rintro e w5 ⟨rfl, hb5⟩
            have hA := HA4.out.later hb5
            have hO := HO4.out.below hb5 HO4.out.lt
            clear hb5
            cases ob
            · have HA4 := Lib.hid hA
              clear hA
              go_wp2_with fail
              go_meet
              exact ⟨rfl, HA4.out⟩
            · have hfo : fitsB (G ++ L.map (·.2)) (OF, L0, OR) r = true := by
                have h1 := fits_less (l := G ++ L.map (·.2)) (r := r) HC.out.1 HC.out.2.1 HC.out.2.2 hls0 HLS.out.2.1 (by rw [HLS.out.1]; exact HLS.out.2.2)
                rwa [HLS.out.1] at h1
              have hg := ag_fits hA HUO.out hfo
              have z0 := hO.cell 0; have z1 := hO.cell 1; have z2 := hO.cell 2
              simp only [List.getElem?_toArray, List.getElem?_cons_zero, List.getElem?_cons_succ] at z0 z1 z2
              clear hfo hA hO
              go_wp2_with fail
              refine hg.mono ?_
              clear hg z0 z1 z2
              rintro e w6 ⟨rfl, hA⟩
              have HA6 := Lib.hid hA
              clear hA
              go_wp2_with fail
              go_meet
              exact ⟨rfl, HA6.out⟩
        case rest =>
          obtain ⟨rfl, hA⟩ := hcut
          obtain ⟨W3, rfl⟩ : ∃ W3 : World, W3 = wc := ⟨_, rfl⟩
          have HA := Lib.hid hA
          clear hA hf y0 y1 y2
          obtain ⟨hr1, hr2⟩ := HG.out
          obtain ⟨hmr0, hmr1⟩ := hmr
          go_wp2_with fail
          obtain ⟨r1, hr1e, hr1a, hr1b, hr1c⟩ : ∃ r1, min 1048576 (r + mr) = r1 ∧ r ≤ r1 ∧ 1 ≤ r1 ∧ r1 ≤ 1048576 := ⟨_, rfl, by omega, by omega, by omega⟩
          rw [hr1e]
          have HR1 := Lib.hid hr1e
          clear hr1e
          refine (make_any r1 _ ⟨by omega, by omega⟩).mono ?_
          rintro e w4 ⟨hcase, hb4⟩
          rcases hcase with ⟨hbad, rfl⟩ | ⟨_, g1, m1, rfl, hbo⟩
          · exact absurd ⟨hr1b, hr1c⟩ hbad
          have hB := HA.out.toB.low_ hb4
          obtain ⟨vg4, hb4x⟩ := hB.at_.bk
          have hall := all_any g m r L G vg4 w4 hb4x.bk
          have HB4 := Lib.hid (And.intro hB hbo)
          obtain ⟨C, hC⟩ : ∃ C, G ++ L.map (·.2) = C := ⟨_, rfl⟩
          have hCl : C.length ≤ 120 := by rw [← hC, List.length_append, List.length_map]; have := HS.out; omega
          have hCn : ∀ c ∈ C, Noted c := hC ▸ HK.out.all
          have hCk : Keep C r := hC ▸ HK.out.keep
          rw [hC] at hall
          have HCC := Lib.hid (And.intro hC (And.intro hCn hCk))
          clear hb4 hbo hB hb4x hC hCn hCk HA
          go_wp2_with fail
          refine hall.mono ?_
          clear hall
          rintro e w5 ⟨vc, rfl, hown, hb5⟩
          have hcv : CvAt w5 vc C := CvAt.of_owns hown (fun c hc => (HCC.out.2.1 c hc).2.2) (by omega)
          have hne : ∀ k, vc.ownBlock = some k → k ≠ m1 := fun k hk => by
            have h1 := (hown.lt k hk).1
            have h2 := map_lt HB4.out.2
            omega
          have h0 : WdAt w w5 g m w.heap.size r L G F L0 R0 w2.heap.size W3.heap.size g1 m1 r1 [] := (WdAt.mk HB4.out.1 ⟨_, HB4.out.2⟩).later hb5
          obtain ⟨ac, cc, rfl⟩ : ∃ a cap, vc = .slice a C.length cap := by obtain ⟨_, _, a, cap, e, _⟩ := hcv; exact ⟨a, cap, e⟩
          have HST := Lib.hid (And.intro h0 (And.intro hcv hne))
          clear hown hb5 hcv hne h0 HB4
          go_wp2_with fail
          go_loopw [18] (fun v18 W => ∃ i : Nat, v18 = .int .i64 i ∧ i ≤ C.length ∧ WdAt w W g m w.heap.size r L G F L0 R0 w2.heap.size W3.heap.size g1 m1 r1 (numL C i) ∧ CvAt W (.slice ac C.length cc) C) (fun v18 _ => (C.length - Go.RowKit.intOf v18).toNat)
          case atStart => exact ⟨0, rfl, Nat.zero_le _, HST.out.1, HST.out.2.1⟩
          case round =>
            obtain ⟨i, rfl, hi, hwd, hcv⟩ := hrel
            by_cases hlt : i < C.length
            · obtain ⟨⟨CF, CL, CR⟩, hci⟩ : ∃ c, C[i]? = some c := ⟨_, List.getElem?_eq_getElem hlt⟩
              obtain ⟨hno, hnz, hnu⟩ := HCC.out.2.1 _ (List.mem_of_getElem? hci)
              obtain ⟨vw, hbw⟩ := hwd.new
              have hpu := put_any CF CL CR i g1 m1 r1 (numL C i) [] vw wr hnu (by simp [Lit.wf, IntKind.min, IntKind.max, IntKind.signed, IntKind.bits]; omega) hbw.bk (by rw [numL_len hi]; simp; omega)
              have hpc : putC (numL C i) [] i (CF, CL, CR) r1 = 0 := by
                have hak : askB ([] ++ (numL C i).map (·.2)) (CF, CL, CR) r1 = true := by
                  refine ask_keep.2 (.inr ((keep_rate hr1a HCC.out.2.2).le fun t ht => ?_))
                  rw [numL_two, List.nil_append]
                  have h1 : vS C t = vS (C.take i) t + vS (C.drop i) t := by rw [← vS_append, List.take_append_drop]
                  have h2 : C.drop i = (CF, CL, CR) :: C.drop (i + 1) := by
                    rw [List.drop_eq_getElem_cons hlt]
                    congr 1
                    have := List.getElem?_eq_getElem hlt
                    rw [hci] at this
                    exact (Option.some.inj this).symm
                  have h3 := vS_nonneg (l := C.drop (i + 1)) (nn_noted fun c hc => HCC.out.2.1 c (List.mem_of_mem_drop hc)) ht
                  rw [h1, h2, vS_append]
                  simp only [vS]
                  omega
                unfold putC
                rw [if_neg (by rw [hno]; simp), if_neg (by rw [numL_look]; simp), if_neg (by rw [hak]; simp)]
              have hpb : putBk (numL C i) [] i (CF, CL, CR) r1 = numL C (i + 1) := by
                unfold putBk
                rw [if_pos ⟨hpc, hnz⟩, numL_succ hci]
              unfold PutW at hpu
              rw [hpc, hpb] at hpu
              obtain ⟨b, off, e2, hbl, c0, c1, c2⟩ := cv_at hcv hci
              dsimp only at c0 c1 c2
              subst e2
              have HW := Lib.hid (And.intro hwd (And.intro hbw hcv))
              clear hwd hbw hcv hci hno hnz hnu hpc hpb hbl
              go_wp2_with fail
              refine hpu.mono ?_
              clear hpu c0 c1 c2
              rintro e w6 ⟨rfl, hbk, hgr⟩
              have hgm := HW.out.2.1.grownM hbk hgr
              have hN := WdAt.mk (HW.out.1.old.low_ hgm.2) ⟨_, hgm.1⟩
              have hcv6 := HW.out.2.2.grown hgr (fun k hk e => HST.out.2.2 k hk (by cases e; rfl))
              have HN := Lib.hid (And.intro hN hcv6)
              clear hbk hgr hgm hN hcv6
              go_wp2_with fail
              go_roundw
              case measure => (simp [Go.RowKit.intOf]; try omega)
              case rel => exact ⟨i + 1, by go_num, by omega, HN.out.1, HN.out.2⟩
            · obtain rfl : i = C.length := by omega
              have HW := Lib.hid hwd
              clear hwd hcv HST
              have hfits := fits_of HW.out.old.at_ HC.out HLS.out.2.1
              obtain ⟨y0, y1, y2⟩ := HW.out.old.at_.cells
              go_upto_region 23 with fail
              go_cut [102] from 94 to 102 (fun v102 wx => v102 = .bool false ∧ AgAt w wx w2.heap.size g m w.heap.size r L G F L0 R0)
              case first =>
                go_wp2_with fail
                refine hfits.mono ?_
                clear hfits y0 y1 y2
                rintro e w7 ⟨rfl, hb7⟩
                have HW7 := Lib.hid (HW.out.later hb7)
                clear hb7
                cases fb
                · go_wp2_with fail
                  go_meet
                  exact ⟨rfl, HW7.out.old.at_⟩
                · obtain ⟨vw, hbw⟩ := HW7.out.new
                  have hf1 : fitsB ([] ++ (numL C C.length).map (·.2)) (F, L0, R0) r1 = true := by
                    rw [numL_two, List.take_length, List.nil_append, ← HCC.out.1]
                    exact fits_rate hr1a HLS.out.2.1
                  have hg := fits_any F L0 R0 g1 m1 r1 (numL C C.length) [] vw w7 HC.out hbw.bk
                  unfold FitsW at hg
                  rw [hf1] at hg
                  obtain ⟨y0, y1, y2⟩ := HW7.out.old.at_.cells
                  clear hbw hf1
                  go_wp2_with fail
                  refine hg.mono ?_
                  clear hg y0 y1 y2
                  rintro e w8 ⟨rfl, hb8⟩
                  have HW8 := Lib.hid (HW7.out.later hb8)
                  clear hb8
                  go_wp2_with fail
                  go_meet
                  exact ⟨rfl, HW8.out.old.at_⟩
              case rest =>
                obtain ⟨rfl, hA⟩ := hcut
                obtain ⟨vg9, hbo9⟩ := hA.bk
                have hcp := copyO_any g m r L G vg9 wc hbo9.bk
                have HA := Lib.hid (And.intro hA hbo9)
                clear hA hbo9 hfits y0 y1 y2
                go_wp2_with fail
                refine hcp.mono ?_
                clear hcp
                rintro e w10 ⟨gx, mx, vx, rfl, hbx, hb10⟩
                have hcp := copyO_any g m r L G vg9 w10 (HA.out.2.later hb10).bk
                have HX := Lib.hid (And.intro hbx hb10)
                clear hbx hb10
                go_wp2_with fail
                refine hcp.mono ?_
                clear hcp
                rintro e w11 ⟨gy, my, vy, rfl, hby, hb11⟩
                have hA11 := (HA.out.1.later HX.out.2).later hb11
                have hT : TwoC w w11 w.heap.size wc.heap.size w10.heap.size gx mx gy my r L L G G vx vy F L0 R0 := ⟨hA11.box, HX.out.1.later hb11, hby, hA11.below, HA.out.1.below.size, HA.out.1.box.lt, HX.out.1.bk.blk.lt, map_lt HX.out.1, fun k hk => (HX.out.1.own.lt k hk).2, HX.out.2.size⟩
                have HT := Lib.hid hT
                obtain ⟨z0, z1, z2⟩ := hT.cells
                have hsw := swap_any F L0 R0 id false wc.heap.size gx mx r L G vx w11 HC.out hid hT.x (by have := HS.out; omega)
                obtain ⟨hs1, hs2, hs3⟩ := swap_put L G id (F, L0, R0) r
                unfold SwapW at hsw
                rw [hs1, hs2] at hsw
                obtain ⟨pc, hpc⟩ : ∃ pc, putC (delM L id) G id (F, L0, R0) r = pc := ⟨_, rfl⟩
                rw [hpc] at hsw hs3
                have HPC := Lib.hid (And.intro hpc hs3)
                clear hby hb11 hA11 hT hs1 hs2 hs3 hpc HX HA
                go_wp2_with fail
                refine hsw.mono ?_
                clear hsw z0 z1 z2
                rintro e w12 ⟨rfl, ⟨vx', hbx, hvx⟩, hbb, hsp⟩
                have hv : vx' = vx := by first | exact hvx rfl | exact hvx trivial
                rw [hv] at hbx
                clear hv
                have HT2 := Lib.hid (HT.out.actX hbx hbb hsp)
                clear hbx hvx hbb hsp HT
                have hdr := drop_any id false w10.heap.size gy my r L G vy w12 hid HT2.out.y (by have := HS.out; omega)
                go_wp2_with fail
                refine hdr.mono ?_
                clear hdr
                rintro e w13 ⟨rfl, _, hbb, _, hk⟩
                have HT3 := Lib.hid (HT2.out.actY (hk rfl) hbb)
                clear hbb hk HT2
                have hpu := putO_any F L0 R0 id w10.heap.size gy my r (delM L id) G vy w13 HC.out hid HT3.out.y (by have := HS.out; have := del_length id L; omega)
                unfold PutO at hpu
                rw [HPC.out.1] at hpu
                obtain ⟨z0, z1, z2⟩ := HT3.out.cells
                go_wp2_with fail
                refine hpu.mono ?_
                clear hpu z0 z1 z2
                rintro e w14 ⟨rfl, hbo, hbb, _⟩
                have HT4 := Lib.hid (HT3.out.actY hbo hbb)
                clear hbo hbb HT3
                by_cases h0 : pc = 0
                · subst h0
                  have hal := all_any gx mx r _ G vx w14 HT4.out.x.bk
                  rw [HPC.out.2 rfl] at hal
                  obtain ⟨K, hK⟩ : ∃ K, G ++ (putBk (delM L id) G id (F, L0, R0) r).map (·.2) = K := ⟨_, rfl⟩
                  rw [hK] at hal
                  have HKK := Lib.hid hK
                  clear hK
                  go_wp2_with fail
                  refine hal.mono ?_
                  clear hal
                  rintro e w15 ⟨va, rfl, ho, hb15⟩
                  obtain ⟨aa, ca, rfl⟩ := owns_slice ho
                  have HT5 := Lib.hid (HT4.out.later hb15)
                  have hal := all_any gy my r _ G vy w15 HT5.out.y.bk
                  rw [HKK.out] at hal
                  clear ho hb15
                  go_wp2_with fail
                  refine hal.mono ?_
                  clear hal
                  rintro e w16 ⟨va, rfl, ho, hb16⟩
                  obtain ⟨ab, cb, rfl⟩ := owns_slice ho
                  have HT6 := Lib.hid (HT5.out.later hb16)
                  clear ho hb16
                  go_wp2_with fail
                  go_ret
                  exact ⟨by simp, HT6.out.below⟩
                · have hne : (pc == 0) = false := by simpa using h0
                  have hnn : (pc != 0) = true := by simpa using h0
                  clear h0
                  go_wp2_with fail
                  go_ret
                  exact ⟨by simp, HT4.out.below⟩
end Go.Proofs.Ythmhboagbeibdaa
