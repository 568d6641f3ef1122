/- Lemmas of the claim, merged: HCopy, HLeaf, SepR, HSame, HCopies. No conditions beyond those that each states. -/
import Derived.Test.YtclhhegfffccgaaGreatHP5
import Derived.Test.YtclhhegfffccgaaGreatHP8
import Derived.Test.YtclhhegfffccgaaGreatRegO
import Derived.Test.YtclhhegfffccgaaGreatLayM
import Derived.Test.YtclhhegfffccgaaGreatHP6
import Derived.Deep.Upon
import Derived.Deep.AppendSrc
import Derived.Test.YtclhhegfffccgaaGreatHP2
import Derived.Test.YtclhhegfffccgaaGreatHP7
/-
  A tree of classes: a tree of its own.
-/
namespace Go.Proofs.YtclhhegfffccgaaGreat
set_option linter.unusedVariables false
open Go.RowKit Go.Maps Go.Shelf
attribute [local go_sem ↓] Go.wp_at_zero Go.wp_at_succ
attribute [local go_sem] quietR quietAtR quietUponR midAt midUpon plain plainUpon
attribute [local irreducible] TStep

theorem mcloneC_any (m : Nat) (M : List (Int × Value)) (w : World) (h : MapI Tryz.prog 3 w m M) :
    Calls Tryz.prog 35 #[.map (some m)] w fun e w' => e = .returned (.map (some w.heap.size)) ∧ MapI Tryz.prog 3 w' w.heap.size M ∧ Below w.heap.size w w' := by
  obtain ⟨es, clock, h1, F, hs, hD⟩ := h
  have hc := AnyW.maps_Clone mcloneC m es clock w h1
  refine hc.mono fun e w' ⟨he, hw⟩ => ?_
  subst hw
  exact ⟨he, ⟨es, clock, heap_alloc_new _ _, F, hs, hD⟩, (Below.refl w.heap.size w).alloc (Nat.le_refl _) _⟩
theorem mcloneU_any (m : Nat) (M : List (Int × Value)) (w : World) (h : MapI Tryz.prog 3 w m M) :
    Calls Tryz.prog 36 #[.map (some m)] w fun e w' => e = .returned (.map (some w.heap.size)) ∧ MapI Tryz.prog 3 w' w.heap.size M ∧ Below w.heap.size w w' := by
  obtain ⟨es, clock, h1, F, hs, hD⟩ := h
  have hc := AnyW.maps_Clone mcloneU m es clock w h1
  refine hc.mono fun e w' ⟨he, hw⟩ => ?_
  subst hw
  exact ⟨he, ⟨es, clock, heap_alloc_new _ _, F, hs, hD⟩, (Below.refl w.heap.size w).alloc (Nat.le_refl _) _⟩
def MapN (M : List (Int × Value)) (n : Nat) (v : Value) (W : World) : Prop := ∃ m', v = .map (some m') ∧ MapI Tryz.prog 3 W m' M ∧ n ≤ m'
def OM (v : Value) (_ : World) (b : Nat) : Prop := v = .map (some b)
def RowN (l : List Int) (n : Nat) (v : Value) (W : World) : Prop := W.ownsRow n 3 1 v l.length (l.map (Value.int .i64))
/-- what is copied so far -/
structure CpR (w W : World) (g ma mu : Nat) (U : List (Int × Value)) (M : Mp) (V : List (Int × Value)) (left : Lit → Bool) : Prop where
  blk : Blk W g 58 #[.map (some ma), .map (some mu)]
  all : MapI Tryz.prog 3 W ma (mapV clV M)
  ne : ma ≠ mu
  gb : w.heap.size ≤ g
  ab : w.heap.size ≤ ma
  ub : w.heap.size ≤ mu
  below : Below w.heap.size w W
  has : ∀ k, (lookM V k).isSome = (lookM U k).isSome
  old : ∀ k, left (.int .i64 k) = true → lookM V k = lookM U k
  new : ∀ k, left (.int .i64 k) = false → W.ownsRow w.heap.size 3 1 (rowV V k) (kids M k).length ((kids M k).map (Value.int .i64))
  apart : ∀ k k' b, k ≠ k' → left (.int .i64 k) = false → left (.int .i64 k') = false → (rowV V k).ownBlock = some b → (rowV V k').ownBlock = some b → False
section
variable {w W W' : World} {base g ma mu g0 ma0 mu0 : Nat} {U : List (Int × Value)} {M : Mp} {V : List (Int × Value)} {left : Lit → Bool}
theorem CpR.later (h : CpR w W g ma mu U M V left) (hb : Below W.heap.size W W') : CpR w W' g ma mu U M V left :=
  ⟨h.blk.below hb h.blk.lt, h.all.heap (hb.block ma h.all.lt), h.ne, h.gb, h.ab, h.ub, h.below.trans (hb.mono h.below.size), h.has, h.old, fun k hk => owns_laterH (h.new k hk) hb, h.apart⟩
theorem owns_not {w : World} {base sz n q : Nat} {e : TypeId} {v : Value} {xs : List Value} (h : w.ownsRow base e sz v n xs) (hq : ∀ cs t z, w.heap[q]? ≠ some (.cells cs t z)) : v.ownBlock ≠ some q := by
  rcases h.2 with ⟨rfl, _⟩ | ⟨g, c, cur, rfl, _, h2, _⟩
  · simp [Value.ownBlock]
  · intro e
    have e : g = q := by simpa [Value.ownBlock] using e
    subst e
    exact hq _ _ _ h2
theorem CpR.turn (h : CpR w W g ma mu U M V left) {q : Nat} (hg : W.grownBy W' (some q)) (hq : w.heap.size ≤ q) (hm : q ≠ ma) (hc : ∀ cs t z, W.heap[q]? ≠ some (.cells cs t z)) : CpR w W' g ma mu U M V left := by
  refine ⟨h.blk.grown hg (fun e => ?_), h.all.kept hg (fun e => hm (Option.some.inj e).symm), h.ne, h.gb, h.ab, h.ub, ?_, h.has, h.old, fun k hk => (h.new k hk).kept hg ?_, h.apart⟩
  · cases e
    exact hc _ _ _ h.blk
  · exact h.below.grown hg h.below.size fun k e => by cases e; exact hq
  · cases hv : (rowV V k).ownBlock with
    | none => exact .inl rfl
    | some b => exact .inr fun e => owns_not (h.new k hk) hc (hv.trans e)
theorem CpR.start (h : TreeX w base g0 ma0 mu0 U M) (hb : Below w.heap.size w W) (blk : Blk W g 58 #[.map (some ma), .map (some mu)]) (all : MapI Tryz.prog 3 W ma (mapV clV M)) (ne : ma ≠ mu) (gb : w.heap.size ≤ g) (ab : w.heap.size ≤ ma) (ub : w.heap.size ≤ mu) : CpR w W g ma mu U M U (Maps.has (toD U)) := by
  refine ⟨blk, all, ne, gb, ab, ub, hb, fun _ => rfl, fun _ _ => rfl, fun k hk => ?_, fun k k' b _ hk _ h1 _ => ?_⟩
  · rw [toD_has] at hk
    have hn : lookM U k = none := by simpa using hk
    have hr : rowV U k = .slice none 0 0 := by unfold rowV; rw [hn]; rfl
    have hrow := h.rows k
    rw [hr] at hrow ⊢
    rcases hrow.2 with ⟨_, h0⟩ | ⟨g, c, cur, e, _⟩
    · have : kids M k = [] := List.eq_nil_of_length_eq_zero h0
      rw [this]
      exact World.ownsRow_nil _ _ _ _
    · cases e
  · rw [toD_has] at hk
    have hn : lookM U k = none := by simpa using hk
    have hr : rowV U k = .slice none 0 0 := by unfold rowV; rw [hn]; rfl
    rw [hr] at h1
    cases h1
/-- one row more -/
theorem CpR.step (h : CpR w W g ma mu U M V left) {x : Int} {v' : Value} (hg : W.grownBy W' (some mu)) (hmu : ∀ cs t z, W.heap[mu]? ≠ some (.cells cs t z)) (hin : (lookM U x).isSome = true) (n0 : Nat) (hn0 : w.heap.size ≤ n0) (hold : ∀ k b, left (.int .i64 k) = false → (rowV V k).ownBlock = some b → b < n0) (ho : W.ownsRow n0 3 1 v' (kids M x).length ((kids M x).map (Value.int .i64))) (hl : left (.int .i64 x) = true) :
    CpR w W' g ma mu U M (putM V x v') (fun z => left z && !z.sameKey (.int .i64 x)) := by
  have h1 := h.turn hg h.ub h.ne.symm hmu
  have hlf : ∀ k, (left (.int .i64 k) && !(Lit.int .i64 k).sameKey (.int .i64 x)) = (left (.int .i64 k) && !decide (k = x)) := fun k => by rw [same_int]
  refine ⟨h1.blk, h1.all, h1.ne, h1.gb, h1.ab, h1.ub, h1.below, fun k => ?_, fun k hk => ?_, fun k hk => ?_, fun k k' b hne hk hk' e1 e2 => ?_⟩
  · by_cases e : k = x
    · subst e; rw [look_put_same, hin]; rfl
    · rw [look_put_other _ e]; exact h1.has k
  · rw [hlf] at hk
    have : ¬ k = x := by intro e; simp [e] at hk
    rw [look_put_other _ this]
    exact h1.old k (by simp at hk; exact hk.1)
  · rw [hlf] at hk
    rw [rowV_put]
    unfold upd
    by_cases e : k = x
    · subst e
      rw [if_pos rfl]
      refine owns_baseH (ho.kept hg ?_) hn0
      cases hv : v'.ownBlock with
      | none => exact .inl rfl
      | some b => exact .inr fun e => owns_not ho hmu (hv.trans e)
    · rw [if_neg e]
      exact h1.new k (by simpa [e] using hk)
  · rw [hlf] at hk hk'
    rw [rowV_put] at e1 e2
    unfold upd at e1 e2
    by_cases e : k = x
    · subst e
      have e' : ¬ k' = k := fun h => hne h.symm
      rw [if_pos rfl] at e1
      rw [if_neg e'] at e2
      have := (ho.lt b e1).1
      have := hold k' b (by simpa [e'] using hk') e2
      omega
    · rw [if_neg e] at e1
      by_cases e' : k' = x
      · subst e'
        rw [if_pos rfl] at e2
        have := (ho.lt b e2).1
        have := hold k b (by simpa [e] using hk) e1
        omega
      · rw [if_neg e'] at e2
        exact h.apart k k' b hne (by simpa [e] using hk) (by simpa [e'] using hk') e1 e2
end
def TCopyW (w : World) (M : Mp) (e : Ending) (w' : World) : Prop := ∃ g ma mu U, e = .returned (.pointer (some ⟨g, 0, none⟩)) ∧ TreeX w' w.heap.size g ma mu U M ∧ Below w.heap.size w w'
def CpL (w W : World) (g ma mu r : Nat) (U : List (Int × Value)) (M : Mp) : Prop := ∃ V left cnt, RanI Tryz.prog 3 W mu r V left cnt ∧ CpR w W g ma mu U M V left ∧ w.heap.size ≤ r
theorem keys_few {V U : List (Int × Value)} (hr : Rising V) (hU : ∀ q ∈ U, 0 ≤ q.1 ∧ q.1 ≤ 65535) (hh : ∀ k, (lookM V k).isSome = (lookM U k).isSome) : (∀ q ∈ V, 0 ≤ q.1 ∧ q.1 ≤ 65535) ∧ V.length ≤ 65536 := by
  have h1 : ∀ q ∈ V, 0 ≤ q.1 ∧ q.1 ≤ 65535 := fun q hq => by
    have h2 := hh q.1
    rw [look_of_mem hr (show (q.1, q.2) ∈ V from hq)] at h2
    obtain ⟨u, hu⟩ := Option.isSome_iff_exists.1 h2.symm
    exact hU (q.1, u) (mem_of_look hu)
  exact ⟨h1, keys_len 65536 0 hr fun q hq => by have := h1 q hq; omega⟩
set_option maxRecDepth 100000 in
set_option maxHeartbeats 4000000 in
theorem tcopy_any (base g ma mu : Nat) (U : List (Int × Value)) (M : Mp) (w : World) (h : TreeX w base g ma mu U M) :
    Calls Tryz.prog 10 #[.pointer (some ⟨g, 0, none⟩)] w (TCopyW w M) := by
  have H := Lib.hid h
  clear h
  go_enter Tryz.func10, Tryz.ntmps10
  go_upto_region 3 with fail
  have o0 := fun e => (over_cell (w := w) (e := e) (o := 0) H.out.blk.lt).trans (H.out.blk.cell 0)
  have o1 := fun e => (over_cell (w := w) (e := e) (o := 1) H.out.blk.lt).trans (H.out.blk.cell 1)
  simp only [List.getElem?_toArray, List.getElem?_cons_zero, List.getElem?_cons_succ] at o0 o1
  refine wp_region_mido OM (w := w) 10 3 [4, 9] [4, 9] (fun k h => h) [] [(4, MapN (mapV clV M) w.heap.size), (9, MapN U w.heap.size)] rfl (by kernel_rfl) (by kernel_rfl) (by kernel_rfl) (by kernel_rfl) (fun _ _ _ _ _ h => h) ⟨fun v A C ⟨m', h1, h2, h3⟩ hb => ⟨m', h1, h2.heap (hb.block m' h2.lt), h3⟩, fun v A C ⟨m', h1, h2, h3⟩ hb => ⟨m', h1, h2.heap (hb.block m' h2.lt), h3⟩, trivial⟩ (fun q _ _ v A C b _ _ h => h) ?_
  intro LL hL
  have HL := Lib.hid hL
  clear hL
  simp only [List.take_succ_cons, List.take_zero, putL]
  iterate 10 (first | refine wpHead_skip (by decide) ?_ | (refine wpHead_step (by decide) (fun K hK => ?_); go_simp; (refine hK _ ?_; clear hK K)))
  refine wpHead_nil (HL.out _ ⟨?_, ?_, trivial⟩ ?_)
  · intro vs W2 hb2 hf
    clear HL hf o0 o1
    change TStep _ _ _ (Act.put (Act.put _ (some 12) (vs 4)) (some 17) (vs 9)) _ _
    refine tstep_yes (by kernel_rfl) ?_
    have hc := mcloneC_any ma _ W2 (H.out.all.heap (hb2.block ma H.out.all.lt))
    go_simp
    refine hc.mono ?_
    rintro e W3 ⟨rfl, hM, hb⟩
    exact ⟨_, rfl, hb, ⟨_, rfl, hM, hb2.size⟩, fun b (hb3 : Value.map (some W2.heap.size) = .map (some b)) => by cases hb3; exact ⟨Nat.le_refl _, hM.lt⟩⟩
  · intro vs W2 hb2 hf
    clear HL hf o0 o1
    change TStep _ _ _ (Act.put (Act.put _ (some 12) (vs 4)) (some 17) (vs 9)) _ _
    refine tstep_yes (by kernel_rfl) ?_
    have hc := mcloneU_any mu _ W2 (H.out.und.heap (hb2.block mu H.out.und.lt))
    go_simp
    refine hc.mono ?_
    rintro e W3 ⟨rfl, hM, hb⟩
    exact ⟨_, rfl, hb, ⟨_, rfl, hM, hb2.size⟩, fun b (hb3 : Value.map (some W2.heap.size) = .map (some b)) => by cases hb3; exact ⟨Nat.le_refl _, hM.lt⟩⟩
  · intro vs W2 hb2 hf hap
    have hf := fits_cast (q := MapN (mapV clV M) w.heap.size (vs 4) W2 ∧ MapN U w.heap.size (vs 9) W2 ∧ True) hf (by kernel_rfl)
    have hap := hap 4 (by simp) 9 (by simp) (by decide)
    clear HL o0 o1
    change wpList _ _ _ _ (Act.put (Act.put _ (some 12) (vs 4)) (some 17) (vs 9)) _
    generalize vs 4 = u1 at hf hap ⊢
    generalize vs 9 = u2 at hf hap ⊢
    obtain ⟨⟨m1, rfl, hM1, hm1⟩, ⟨m2, rfl, hM2, hm2⟩, -⟩ := hf
    have hne : m1 ≠ m2 := fun e => hap m1 rfl (by rw [e]; rfl)
    clear hap
    simp only [List.drop_succ_cons, List.drop_zero, List.take_succ_cons, List.take_zero]
    have hb3 := (Below.refl W2.heap.size W2).alloc (Nat.le_refl _) (.cells #[.map (some m1), .map (some m2)] 58)
    have hq := Blk.new W2 58 #[.map (some m1), .map (some m2)]
    have hS := CpR.start H.out (hb2.trans (hb3.mono hb2.size)) hq (hM1.heap (hb3.block m1 hM1.lt)) hne hb2.size hm1 hm2
    have hU := hM2.heap (hb3.block m2 hM2.lt)
    have HS := Lib.hid (And.intro hS hU)
    have HSZ := Lib.hid (hb2.trans (hb3.mono hb2.size)).size
    have HH := H
    clear hS hU hq hb3 hM1 hM2 hm1 hm2 hne hb2
    go_upto_region 4 with fail
    generalize W2.alloc (.cells #[.map (some m1), .map (some m2)] 58) = W3 at HS HSZ ⊢
    generalize W2.heap.size = g2 at HS ⊢
    have q1 := HS.out.1.blk.cell 1
    simp only [List.getElem?_toArray, List.getElem?_cons_zero, List.getElem?_cons_succ] at q1
    go_wp2_with (at_range; refine wpList_range_ranI rfl _ 56 rfl Tryz.underlying3 Tryz.underlying56 rfl HS.out.2 ?_; intro w0 cnt0 hrg0 hb0)
    have hL0 : CpL w w0 g2 m1 m2 W3.heap.size U M := ⟨U, _, _, hrg0, HS.out.1.later hb0, HSZ.out⟩
    generalize W3.heap.size = r at hL0 ⊢
    clear hrg0 hb0 q1 HS HSZ
    go_frame
    go_loopw [4] (fun _ wr => CpL w wr g2 m1 m2 r U M) (fun _ wr => wr.rangeLeft m2 r)
    case atStart => exact hL0
    case round =>
      clear hL0
      obtain ⟨V, left, cnt, hrg, hC, hr⟩ := hrel
      have HC := Lib.hid (And.intro hC hr)
      clear hC hr
      have hrg' := hrg
      go_wp2_with (at_next; refine wpList_next_ranI rfl _ rfl Tryz.underlying3 rfl hrg' ?_ ?_)
      · clear hrg'
        intro hl0
        have hV := hrg.owns.rising (int_keyed Tryz.underlying3)
        have hf := keys_few hV H.out.keys HC.out.1.has
        have hfin : TCopyW w M (.returned (.pointer (some ⟨g2, 0, none⟩))) wr := ⟨g2, m1, m2, V, rfl, ⟨HC.out.1.blk, HC.out.1.all, hrg.owns, fun k => HC.out.1.new k (hl0 k), fun k k' b hne h1 h2 => HC.out.1.apart k k' b hne (hl0 k) (hl0 k') h1 h2, HC.out.1.gb, HC.out.1.ab, HC.out.1.ub, HC.out.1.ne, hf.1, H.out.inv⟩, HC.out.1.below⟩
        have HF := Lib.hid hfin
        clear hl0 hV hf hfin hrg
        go_wp2_with fail
        go_ret
        exact HF.out
      · clear hrg'
        intro x v w1 cnt1 hwx hlx hat hrg1 hlt hg1 hs1 hen
        have hV := hrg.owns.rising (int_keyed Tryz.underlying3)
        have hf := keys_few hV H.out.keys HC.out.1.has
        have hU : lookM U x = some v := (HC.out.1.old x hlx).symm.trans hat
        have hrow : rowV U x = v := by unfold rowV; rw [hU]; rfl
        have hro := H.out.rows x
        rw [hrow] at hro
        obtain ⟨va, vc, rfl⟩ := owns_slice hro
        obtain ⟨s9, e9, c9, hit⟩ := hrg.iter
        have hC1 := HC.out.1.turn hg1 HC.out.2 (fun e => by
          have := HC.out.1.all
          obtain ⟨es, clock, hb, _⟩ := this
          rw [← e, hit] at hb
          cases hb) (fun cs t z e => by rw [hit] at e; cases e)
        have hsz1 : wr.heap.size ≤ w1.heap.size := hg1.size
        have hro1 := owns_laterH hro hC1.below
        have HC1 := Lib.hid (And.intro hC1 (And.intro HC.out.2 hro1))
        have HG1 := Lib.hid (And.intro hrg1 (And.intro hlt (And.intro hf.2 (And.intro hwx (And.intro hlx (And.intro hat hU))))))
        have HL0 := Lib.hid hrg
        clear hV hf hrow hro hit hC1 hro1 hg1 hs1 hsz1 hlt hlx hat hU hrg1 HC hrg
        go_upto_region 7 with fail
        clear hen
        have o1 := fun e => (over_cell (w := w1) (e := e) (o := 1) HC1.out.1.blk.lt).trans (HC1.out.1.blk.cell 1)
        simp only [List.getElem?_toArray, List.getElem?_cons_zero, List.getElem?_cons_succ] at o1
        refine wp_region_midg (w := w1) 7 1 [6] [] [(6, RowN (kids M x) w1.heap.size)] rfl (by kernel_rfl) (by kernel_rfl) (by kernel_rfl) (by kernel_rfl) (fun _ _ _ _ _ h => h) ⟨fun v A C h hb => owns_laterH h hb, trivial⟩ ?_
        intro LL hL
        have HL := Lib.hid hL
        clear hL
        simp only [List.take_succ_cons, List.take_zero, putL]
        iterate 7 (first | refine wpHead_skip (by decide) ?_ | (refine wpHead_step (by decide) (fun K hK => ?_); go_simp; (refine hK _ ?_; clear hK K)))
        refine wpHead_nil (HL.out _ ⟨?_, trivial⟩ ?_)
        · intro vs W2 hb2 hf
          clear HL hf o1
          change TStep _ _ _ (Act.put _ (some 36) (vs 6)) _ _
          refine tstep_yes (by kernel_rfl) ?_
          have hc := clone_int base _ (kids M x) W2 (owns_laterH HC1.out.2.2 hb2) (by have := H.out.inv.few; have := kids_len M x; omega)
          go_simp
          refine hc.mono ?_
          rintro e W3 ⟨v', rfl, ho, hb⟩
          exact ⟨_, rfl, hb, owns_baseH ho hb2.size⟩
        · intro vs W2 hb2 hf
          have hf := fits_cast (q := RowN (kids M x) w1.heap.size (vs 6) W2 ∧ True) hf (by kernel_rfl)
          clear HL o1
          change wpList _ _ _ _ (Act.put _ (some 36) (vs 6)) _
          generalize vs 6 = u1 at hf ⊢
          obtain ⟨ua, uc, rfl⟩ := owns_slice hf.1
          have hown := hf.1
          simp only [List.drop_succ_cons, List.drop_zero, List.take_succ_cons, List.take_zero]
          have hrg2 : RanI Tryz.prog 3 W2 m2 r V _ cnt1 := HG1.out.1.heap (hb2.block m2 HG1.out.1.owns.lt) (hb2.block r HG1.out.1.lt)
          obtain ⟨w4, hst, hrg3, hturn⟩ := hrg2.store (k := x) Tryz.underlying3 Tryz.underlying56 HG1.out.2.2.2.1 (by rw [HG1.out.2.2.2.2.2.1]; rfl) (by have := HG1.out.2.2.1; unfold maxLen; omega) (.slice ua (kids M x).length uc)
          have hmu : ∀ cs t z, W2.heap[m2]? ≠ some (.cells cs t z) := fun cs t z e => by
            obtain ⟨es, clock, hb, _⟩ := hrg2.owns
            rw [hb] at e
            cases e
          have hC2 := (HC1.out.1.later hb2).step hturn.grown hmu (by rw [HG1.out.2.2.2.2.2.2]; rfl) w1.heap.size HC1.out.1.below.size (fun k b hk hb => ((HC1.out.1.new k hk).lt b hb).2) hown HG1.out.2.2.2.2.1
          have hfin : CpL w w4 g2 m1 m2 r U M := ⟨_, _, _, hrg3, hC2, HC1.out.2.1⟩
          have HF := Lib.hid (And.intro hfin hrg3)
          have hwx := HG1.out.2.2.2.1
          clear hf hown hrg2 hrg3 hturn hmu hC2 hfin hb2
          go_wp2_with fail
          go_roundw
          case rel => exact HF.out.1
          case measure =>
            rw [HF.out.2.left_eq, HL0.out.left_eq]
            exact HG1.out.2.1
end Go.Proofs.YtclhhegfffccgaaGreat
/-
  A tree of classes: the leaves below a class, by calls of itself.
-/
namespace Go.Proofs.YtclhhegfffccgaaGreat
set_option linter.unusedVariables false
open Go.RowKit Go.Maps Go.Sort Go.Shelf
attribute [local go_sem ↓] Go.wp_at_zero Go.wp_at_succ
attribute [local go_sem] quietR quietAtR quietUponR midAt midUpon

theorem IntAt.form {w : World} {v : Value} {ks : List Int} (h : IntAt w v ks) : ∃ a cap, v = .slice a ks.length cap := by obtain ⟨_, a, cap, e, _⟩ := h; exact ⟨a, cap, e⟩
theorem IntAt.some_ {w : World} {a : Option Addr} {n cap i : Nat} {ks : List Int} {x : Int} (h : IntAt w (.slice a n cap) ks) (hx : ks[i]? = some x) : ∃ b off, a = some ⟨b, off, none⟩ := by
  obtain ⟨_, a', cap', e, h3⟩ := h
  cases e
  rcases h3 with rfl | ⟨b, off, rfl, _⟩
  · simp at hx
  · exact ⟨b, off, rfl⟩
theorem IntAt.cell {w : World} {b off n cap i : Nat} {ks : List Int} {x : Int} (h : IntAt w (.slice (some ⟨b, off, none⟩) n cap) ks) (hx : ks[i]? = some x) : b < w.heap.size ∧ n ≤ cap ∧ w.cell? ⟨b, off + i, none⟩ = some (.int .i64 x) := by
  obtain ⟨_, a', cap', e, h3⟩ := h
  cases e
  rcases h3 with rfl | ⟨b', off', e, h1, h2, h3⟩
  · simp at hx
  · cases e
    exact ⟨h1, h2, h3 i x hx⟩
theorem grown_grow (w : World) (os : Array Obj) : w.grownBy (grow w os) none :=
  ⟨rfl, rfl, rfl, by simp [grow], fun k hk _ => Sort.heap_grow_old w os hk⟩
/-- a row is put in order -/
def SortRowW (w : World) (base : Nat) (v : Value) (l : List Int) (e : Ending) (w' : World) : Prop :=
  ∃ l' : List Int, e = .returned (.tuple #[]) ∧ l'.Perm l ∧ l'.Pairwise (· ≤ ·) ∧ w'.ownsRow base 3 1 v l'.length (l'.map (Value.int .i64)) ∧ w.grownBy w' v.ownBlock
theorem sort_row (base : Nat) (v : Value) (l : List Int) (w : World) (h : w.ownsRow base 3 1 v l.length (l.map (Value.int .i64))) (hl : l.length ≤ 1000) :
    Calls Tryz.prog 47 #[v] w (SortRowW w base v l) := by
  rcases h.2 with ⟨rfl, hz⟩ | ⟨g, cap, cur, rfl, hg, hB, hc, hm, hsz, htk⟩
  · obtain rfl : l = [] := List.eq_nil_of_length_eq_zero hz
    refine (AnyM.slices_Sort_int_none sortI none 0 w).mono ?_
    rintro e w' ⟨rfl, rfl⟩
    exact ⟨[], rfl, .refl _, .nil, World.ownsRow_nil _ _ _ _, ⟨rfl, rfl, rfl, Nat.le_refl _, fun _ _ _ => rfl⟩⟩
  · have hsz : cur.size = cap := by omega
    rw [Nat.mul_one] at htk
    refine (AnyM.slices_Sort_int sortI g 0 cap l w (holds_row hB htk (by omega) rfl) (h.lt g rfl).2 (by omega)).mono ?_
    rintro e w' ⟨rfl, n, os, rfl⟩
    have hp : (l.mergeSort fun x y => decide (x ≤ y)).Perm l := List.mergeSort_perm l _
    have hB2 : Blk (putRow (Value.int .i64) (Sort.ahead w n) g 0 (l.mergeSort fun x y => decide (x ≤ y)).toArray) g 3 _ := heap_putRowI _ hB
    have hgr := grown_putRowI (w := w) (g := g) (n := n) (l.mergeSort fun x y => decide (x ≤ y)).toArray
    have hB3 := hB2.grown (grown_grow _ os) (by simp)
    refine ⟨l.mergeSort fun x y => decide (x ≤ y), rfl, hp, ?_, ?_, hgr.trans ⟨rfl, rfl, rfl, (grown_grow _ os).size, fun k hk _ => (grown_grow _ os).block k hk (by simp)⟩⟩
    · refine (List.pairwise_mergeSort (le := fun x y : Int => decide (x ≤ y)) (fun a b c h1 h2 => ?_) (fun a b => ?_) l).imp (fun h => by simpa using h)
      · simp only [decide_eq_true_eq] at *; omega
      · simp only [Bool.or_eq_true, decide_eq_true_eq]; omega
    · have hlen := hp.length_eq
      rw [show (Value.slice (some ⟨g, 0, none⟩) l.length cap) = .slice (some ⟨g, 0, none⟩) (l.mergeSort fun x y => decide (x ≤ y)).length cap by rw [hlen]]
      refine row_ofList hB3 hg (by omega) hm (by simp [putCells, hsz]) fun k hk => ?_
      rw [put_atI _ _ _ (by omega) hk, List.getElem?_map]
/-- a row is appended to another one -/
theorem app_row (ty : TypeId) {A B : List Int} {w : World} {v vb : Value} {base bb : Nat} (hown : w.ownsRow base 3 1 v A.length (A.map (Value.int .i64))) (hsrc : w.ownsRow bb 3 1 vb B.length (B.map (Value.int .i64))) (hb : base ≤ w.heap.size) (hl : A.length ≤ 1000000) (hl2 : B.length ≤ 1000000) :
    ∃ v' w', (Builtin.append_ #[47, 47] ty #[v, vb]).run Tryz.prog w = .ok v' w' ∧ w'.ownsRow base 3 1 v' (A ++ B).length ((A ++ B).map (Value.int .i64)) ∧ w.grownBy w' v.ownBlock := by
  obtain ⟨i0, hi0, hz0, hz1, hz2⟩ := info_parts info_int
  rcases hsrc.2 with ⟨rfl, hz⟩ | ⟨g, cap, cur, rfl, _⟩
  · obtain rfl : B = [] := List.eq_nil_of_length_eq_zero hz
    obtain ⟨a, c, rfl⟩ := owns_slice hown
    refine ⟨_, _, run_append_nothing w 47 47 ty 3 i0 Tryz.underlying47 hi0 a A.length c ?_ _ (Src.ofNil w Tryz.underlying47 0), by simpa using hown, ⟨rfl, rfl, rfl, Nat.le_refl _, fun _ _ _ => rfl⟩⟩
    rcases hown.2 with ⟨e, h0⟩ | ⟨_, _, _, e, _, _, h2, _⟩
    · injection e with _ h1 h2; omega
    · injection e with e1 e2 e3; omega
  · obtain ⟨v', w', hr, ho, hg, _⟩ := run_append_own (P := Tryz.prog) (w := w) base 47 ty 3 i0 _ 1 8 Tryz.underlying47 hi0 hz0 hz1 hz2 rfl (by decide) v A.length _ hown ⟨g, 0, none⟩ B.length cap (B.map (Value.int .i64)) (by simp) (fun j u hj => by
        rw [Addr.add_lit, Nat.zero_add, hsrc.cellAt j (by have := (List.getElem?_eq_some_iff.1 hj).1; simp at this; omega)]
        exact hj) (by intro u hu; obtain ⟨x, _, rfl⟩ := List.mem_map.1 hu; rfl) (by unfold maxLen; omega) (by omega) hb
    exact ⟨v', w', hr, by simpa using ho, hg⟩
/-- how many steps below the top -/
theorem InvT.dep_le {M : Mp} (h : InvT M) (x : Int) : dep M x ≤ 8 := by
  unfold dep
  cases e : lookM M x with
  | none => simp
  | some c => have := (h.ok _ _ e).d8; simp; omega

set_option maxRecDepth 100000 in
set_option maxHeartbeats 8000000 in
theorem tleaves_any : ∀ (n : Nat) (id : Int) (base g ma mu : Nat) (U : List (Int × Value)) (M : Mp) (w : World), (Lit.int .i64 id).wf = true → TreeX w base g ma mu U M → 9 ≤ dep M id + n →
    Calls Tryz.prog 22 #[.pointer (some ⟨g, 0, none⟩), .int .i64 id] w (IdsW w (leavesM M id))
  | 0, id, base, g, ma, mu, U, M, w, hid, h, hn => by have := h.inv.dep_le id; omega
  | n + 1, id, base, g, ma, mu, U, M, w, hid, h, hn => by
    have hget := tget_any id base g ma mu U M w hid h
    unfold GetW getS spV spC at hget
    have H := Lib.hid h
    have HN := Lib.hid hn
    clear h hn
    by_cases hleaf : ∃ c, lookM M id = some c ∧ c.1.lf = true
    · obtain ⟨c, hc, hl⟩ := hleaf
      have hlv := H.out.inv.leaves_leaf hc hl
      rw [hlv]
      rw [hc] at hget
      obtain ⟨⟨i1, pa, i3, ⟨F1, L1, R1⟩, ⟨F2, L2, R2⟩, ⟨F3, L3, R3⟩, i4, i5⟩, d⟩ := c
      dsimp only [Option.getD, Option.isSome] at hget hl
      subst hl
      clear hlv hc
      go_enter Tryz.func22, Tryz.ntmps22
      go_wp2_with fail
      refine hget.mono ?_
      clear hget
      rintro e w1 ⟨rfl, hb1⟩
      have hb2 := (Below.refl w1.heap.size w1).alloc (Nat.le_refl _) (.cells #[.int .i64 i1, .int .i64 pa, .bool true, .int .u64 F1, .int .u64 L1, .int .u64 R1, .int .u64 F2, .int .u64 L2, .int .u64 R2, .int .u64 F3, .int .u64 L3, .int .u64 R3, .int .i64 i4, .int .i64 i5] 36)
      have hX := Blk.new w1 36 #[.int .i64 i1, .int .i64 pa, .bool true, .int .u64 F1, .int .u64 L1, .int .u64 R1, .int .u64 F2, .int .u64 L2, .int .u64 R2, .int .u64 F3, .int .u64 L3, .int .u64 R3, .int .i64 i4, .int .i64 i5]
      have hw2 := hb1.trans (hb2.mono hb1.size)
      go_upto_region 2 with fail
      generalize w1.alloc (.cells #[.int .i64 i1, .int .i64 pa, .bool true, .int .u64 F1, .int .u64 L1, .int .u64 R1, .int .u64 F2, .int .u64 L2, .int .u64 R2, .int .u64 F3, .int .u64 L3, .int .u64 R3, .int .i64 i4, .int .i64 i5] 36) = w2 at hX hw2 ⊢
      have q2 := hX.cell 2
      simp only [List.getElem?_toArray, List.getElem?_cons_zero, List.getElem?_cons_succ] at q2
      have hb3 := (Below.refl w2.heap.size w2).alloc (Nat.le_refl _) (.cells #[.int .i64 id] 3)
      have k2 := Blk.new w2 3 #[.int .i64 id]
      have HB := Lib.hid (And.intro hw2 (And.intro hb3 k2))
      clear hw2 hb3 k2 hb2 hb1 hX
      go_wp2_with fail
      go_ret
      refine ⟨_, rfl, ?_, HB.out.1.trans (HB.out.2.1.mono HB.out.1.size)⟩
      exact row_ofList HB.out.2.2 (HB.out.1.size) (by simp) (by unfold maxLen; omega) (by simp) (fun k hk => by
        have : k = 0 := by simpa using hk
        subst this; rfl)
    · have hnl : ∀ c, lookM M id = some c → c.1.lf = false := fun c hc => by
        cases e : c.1.lf
        · rfl
        · exact absurd ⟨c, hc, e⟩ hleaf
      clear hleaf
      have hpick : ((((lookM M id).getD cl0).1.lf && (lookM M id).isSome) = false) := by
        cases e : lookM M id with
        | none => simp
        | some c => have := hnl c e; simp [this]
      have HNL := Lib.hid hnl
      clear hnl
      generalize hbs : (lookM M id).isSome = bs at hget hpick
      generalize hcc : (lookM M id).getD cl0 = c at hget hpick
      clear hbs hcc
      obtain ⟨⟨i1, pa, i3, ⟨F1, L1, R1⟩, ⟨F2, L2, R2⟩, ⟨F3, L3, R3⟩, i4, i5⟩, d⟩ := c
      dsimp only at hget hpick
      have hcase : bs = false ∨ (bs = true ∧ i3 = false) := by
        cases bs
        · exact .inl rfl
        · exact .inr ⟨rfl, by simpa using hpick⟩
      clear hpick
      rcases hcase with rfl | ⟨rfl, rfl⟩
      · go_enter Tryz.func22, Tryz.ntmps22
        go_wp2_with fail
        refine hget.mono ?_
        clear hget
        rintro e w1 ⟨rfl, hb1⟩
        have hb2 := (Below.refl w1.heap.size w1).alloc (Nat.le_refl _) (.cells #[.int .i64 i1, .int .i64 pa, .bool i3, .int .u64 F1, .int .u64 L1, .int .u64 R1, .int .u64 F2, .int .u64 L2, .int .u64 R2, .int .u64 F3, .int .u64 L3, .int .u64 R3, .int .i64 i4, .int .i64 i5] 36)
        have hX := Blk.new w1 36 #[.int .i64 i1, .int .i64 pa, .bool i3, .int .u64 F1, .int .u64 L1, .int .u64 R1, .int .u64 F2, .int .u64 L2, .int .u64 R2, .int .u64 F3, .int .u64 L3, .int .u64 R3, .int .i64 i4, .int .i64 i5]
        have hw2 := hb1.trans (hb2.mono hb1.size)
        go_upto_region 2 with fail
        generalize w1.alloc (.cells #[.int .i64 i1, .int .i64 pa, .bool i3, .int .u64 F1, .int .u64 L1, .int .u64 R1, .int .u64 F2, .int .u64 L2, .int .u64 R2, .int .u64 F3, .int .u64 L3, .int .u64 R3, .int .i64 i4, .int .i64 i5] 36) = w2 at hX hw2 ⊢
        have q2 := hX.cell 2
        simp only [List.getElem?_toArray, List.getElem?_cons_zero, List.getElem?_cons_succ] at q2
        have HW := Lib.hid (And.intro hw2 (H.out.later hw2))
        clear hw2 hb2 hb1 hX
        have hun := tunder_any id base g ma mu U M w2 hid HW.out.2
        obtain ⟨ks, hks⟩ : ∃ ks, kids M id = ks := ⟨_, rfl⟩
        rw [hks] at hun
        have hkl : ks.length ≤ 64 := by have := kids_len M id; have := H.out.inv.few; rw [← hks]; omega
        have HK := Lib.hid hks
        clear hks
        go_upto_region 5 with fail
        clear q2
        go_wp2_with fail
        refine hun.mono ?_
        clear hun
        rintro e w3 ⟨vk, rfl, hok, hb3⟩
        have hik := IntAt.of_owns hok (by omega)
        obtain ⟨ak, ck, rfl⟩ := hik.form
        obtain ⟨nk, hnk⟩ : ∃ n, n = ks.length := ⟨_, rfl⟩
        rw [← hnk] at hik hkl ⊢
        have hw3 := HW.out.1.trans (hb3.mono HW.out.1.size)
        have HL := Lib.hid hnk
        have H3 := Lib.hid (And.intro hw3 hik)
        clear hok hb3 hnk hw3 hik HW
        go_wp2_with fail
        go_loopw [7, 27] (fun v7 v27 W => ∃ i : Nat, v27 = .int .i64 i ∧ i ≤ nk ∧ W.ownsRow w3.heap.size 3 1 v7 (leavesL M (ks.take i)).length ((leavesL M (ks.take i)).map (Value.int .i64)) ∧ Below w3.heap.size w3 W) (fun _ v27 _ => (nk - Go.RowKit.intOf v27).toNat)
        case atStart => exact ⟨0, rfl, Nat.zero_le _, World.ownsRow_nil _ _ _ _, Below.refl _ _⟩
        case round =>
          obtain ⟨i, rfl, hi, ho, hb⟩ := hrel
          by_cases hlt : i < nk
          · obtain ⟨x, hx⟩ : ∃ x, ks[i]? = some x := ⟨_, List.getElem?_eq_getElem (by have := HL.out; omega)⟩
            have hik := H3.out.2.later hb
            obtain ⟨bk, ok, rfl⟩ := hik.some_ hx
            have hcx := (hik.cell hx).2.2
            have hnc := (hik.cell hx).2.1
            have hxk : x ∈ kids M id := by rw [HK.out]; exact List.mem_of_getElem? hx
            obtain ⟨cx, hcl, hpa⟩ := (mem_kids H.out.inv.rise).1 hxk
            have hxw : (Lit.int .i64 x).wf = true := by have o := H.out.inv.ok x cx hcl; rw [← o.id]; exact o.wf.1.1
            have hxd := H.out.inv.kid_dep hcl hpa
            have hbw := H3.out.1.trans (hb.mono H3.out.1.size)
            have hrec := tleaves_any n x base g ma mu U M wr hxw (H.out.later hbw) (by have := HN.out; omega)
            have HR := Lib.hid (And.intro hx (And.intro ho hb))
            clear hx hik hxk hcl hpa hxw hxd hbw ho hb
            go_wp2_with fail
            refine hrec.mono ?_
            clear hrec hcx
            rintro e w4 ⟨vl, rfl, hol, hb4⟩
            have hlen : (leavesL M (ks.take (i + 1))).length ≤ 64 := by
              rw [← HK.out]
              exact H.out.inv.leavesL_len id _ (fun k hk => List.mem_of_mem_take hk) (((kids_rising H.out.inv.rise id).imp (fun h => by omega)).sublist (List.take_sublist _ _))
            have htk : leavesL M (ks.take (i + 1)) = leavesL M (ks.take i) ++ leavesM M x := by
              rw [List.take_add_one, HR.out.1, ← leavesL_snoc]; rfl
            rw [htk] at hlen
            have hw4 := HR.out.2.2.trans (hb4.mono HR.out.2.2.size)
            obtain ⟨v', w', hr, ho', hg⟩ := app_row 47 (owns_laterH HR.out.2.1 hb4) hol hw4.size (by simp at hlen; omega) (by simp at hlen; omega)
            have hw5 := hw4.grown hg hw4.size fun k hk => (HR.out.2.1.lt k hk).1
            have HF := Lib.hid (And.intro htk (And.intro ho' hw5))
            clear hol hb4 hlen htk hw4 ho' hg hw5
            go_wp2_with (at_builtin; refine wpList_append_runH rfl _ _ _ rfl _ _ _ rfl rfl hr ?_; clear hr)
            go_roundw
            case measure => (simp [Go.RowKit.intOf]; try omega)
            case rel => exact ⟨i + 1, by go_num, by omega, by rw [HF.out.1]; exact HF.out.2.1, HF.out.2.2⟩
          · obtain rfl : i = nk := by omega
            have hfull : ks.take i = ks := List.take_of_length_le (by have := HL.out; omega)
            rw [hfull] at ho
            have hll : (leavesL M ks).length ≤ 64 := by
              rw [← HK.out]
              exact H.out.inv.leavesL_len id _ (fun k hk => hk) ((kids_rising H.out.inv.rise id).imp (fun h => by omega))
            have hs := sort_row _ _ _ wr ho (by omega)
            have HE := Lib.hid (And.intro ho hb)
            clear ho hb hfull hll
            go_wp2_with fail
            refine hs.mono ?_
            clear hs
            rintro e w5 ⟨l', rfl, hp, hsd, ho5, hg5⟩
            have hlv := H.out.inv.leaves_sorted HNL.out (by rw [HK.out]; exact hp) hsd
            subst hlv
            have HE2 := Lib.hid (And.intro ho5 (HE.out.2.grown hg5 HE.out.2.size fun k hk => (HE.out.1.lt k hk).1))
            clear hp hsd ho5 hg5
            go_wp2_with fail
            go_ret
            exact ⟨_, rfl, owns_baseH HE2.out.1 H3.out.1.size, H3.out.1.trans (HE2.out.2.mono H3.out.1.size)⟩
      · go_enter Tryz.func22, Tryz.ntmps22
        go_wp2_with fail
        refine hget.mono ?_
        clear hget
        rintro e w1 ⟨rfl, hb1⟩
        have hb2 := (Below.refl w1.heap.size w1).alloc (Nat.le_refl _) (.cells #[.int .i64 i1, .int .i64 pa, .bool false, .int .u64 F1, .int .u64 L1, .int .u64 R1, .int .u64 F2, .int .u64 L2, .int .u64 R2, .int .u64 F3, .int .u64 L3, .int .u64 R3, .int .i64 i4, .int .i64 i5] 36)
        have hX := Blk.new w1 36 #[.int .i64 i1, .int .i64 pa, .bool false, .int .u64 F1, .int .u64 L1, .int .u64 R1, .int .u64 F2, .int .u64 L2, .int .u64 R2, .int .u64 F3, .int .u64 L3, .int .u64 R3, .int .i64 i4, .int .i64 i5]
        have hw2 := hb1.trans (hb2.mono hb1.size)
        go_upto_region 2 with fail
        generalize w1.alloc (.cells #[.int .i64 i1, .int .i64 pa, .bool false, .int .u64 F1, .int .u64 L1, .int .u64 R1, .int .u64 F2, .int .u64 L2, .int .u64 R2, .int .u64 F3, .int .u64 L3, .int .u64 R3, .int .i64 i4, .int .i64 i5] 36) = w2 at hX hw2 ⊢
        have q2 := hX.cell 2
        simp only [List.getElem?_toArray, List.getElem?_cons_zero, List.getElem?_cons_succ] at q2
        have HW := Lib.hid (And.intro hw2 (H.out.later hw2))
        clear hw2 hb2 hb1 hX
        have hun := tunder_any id base g ma mu U M w2 hid HW.out.2
        obtain ⟨ks, hks⟩ : ∃ ks, kids M id = ks := ⟨_, rfl⟩
        rw [hks] at hun
        have hkl : ks.length ≤ 64 := by have := kids_len M id; have := H.out.inv.few; rw [← hks]; omega
        have HK := Lib.hid hks
        clear hks
        go_upto_region 5 with fail
        clear q2
        go_wp2_with fail
        refine hun.mono ?_
        clear hun
        rintro e w3 ⟨vk, rfl, hok, hb3⟩
        have hik := IntAt.of_owns hok (by omega)
        obtain ⟨ak, ck, rfl⟩ := hik.form
        obtain ⟨nk, hnk⟩ : ∃ n, n = ks.length := ⟨_, rfl⟩
        rw [← hnk] at hik hkl ⊢
        have hw3 := HW.out.1.trans (hb3.mono HW.out.1.size)
        have HL := Lib.hid hnk
        have H3 := Lib.hid (And.intro hw3 hik)
        clear hok hb3 hnk hw3 hik HW
        go_wp2_with fail
        go_loopw [7, 27] (fun v7 v27 W => ∃ i : Nat, v27 = .int .i64 i ∧ i ≤ nk ∧ W.ownsRow w3.heap.size 3 1 v7 (leavesL M (ks.take i)).length ((leavesL M (ks.take i)).map (Value.int .i64)) ∧ Below w3.heap.size w3 W) (fun _ v27 _ => (nk - Go.RowKit.intOf v27).toNat)
        case atStart => exact ⟨0, rfl, Nat.zero_le _, World.ownsRow_nil _ _ _ _, Below.refl _ _⟩
        case round =>
          obtain ⟨i, rfl, hi, ho, hb⟩ := hrel
          by_cases hlt : i < nk
          · obtain ⟨x, hx⟩ : ∃ x, ks[i]? = some x := ⟨_, List.getElem?_eq_getElem (by have := HL.out; omega)⟩
            have hik := H3.out.2.later hb
            obtain ⟨bk, ok, rfl⟩ := hik.some_ hx
            have hcx := (hik.cell hx).2.2
            have hnc := (hik.cell hx).2.1
            have hxk : x ∈ kids M id := by rw [HK.out]; exact List.mem_of_getElem? hx
            obtain ⟨cx, hcl, hpa⟩ := (mem_kids H.out.inv.rise).1 hxk
            have hxw : (Lit.int .i64 x).wf = true := by have o := H.out.inv.ok x cx hcl; rw [← o.id]; exact o.wf.1.1
            have hxd := H.out.inv.kid_dep hcl hpa
            have hbw := H3.out.1.trans (hb.mono H3.out.1.size)
            have hrec := tleaves_any n x base g ma mu U M wr hxw (H.out.later hbw) (by have := HN.out; omega)
            have HR := Lib.hid (And.intro hx (And.intro ho hb))
            clear hx hik hxk hcl hpa hxw hxd hbw ho hb
            go_wp2_with fail
            refine hrec.mono ?_
            clear hrec hcx
            rintro e w4 ⟨vl, rfl, hol, hb4⟩
            have hlen : (leavesL M (ks.take (i + 1))).length ≤ 64 := by
              rw [← HK.out]
              exact H.out.inv.leavesL_len id _ (fun k hk => List.mem_of_mem_take hk) (((kids_rising H.out.inv.rise id).imp (fun h => by omega)).sublist (List.take_sublist _ _))
            have htk : leavesL M (ks.take (i + 1)) = leavesL M (ks.take i) ++ leavesM M x := by
              rw [List.take_add_one, HR.out.1, ← leavesL_snoc]; rfl
            rw [htk] at hlen
            have hw4 := HR.out.2.2.trans (hb4.mono HR.out.2.2.size)
            obtain ⟨v', w', hr, ho', hg⟩ := app_row 47 (owns_laterH HR.out.2.1 hb4) hol hw4.size (by simp at hlen; omega) (by simp at hlen; omega)
            have hw5 := hw4.grown hg hw4.size fun k hk => (HR.out.2.1.lt k hk).1
            have HF := Lib.hid (And.intro htk (And.intro ho' hw5))
            clear hol hb4 hlen htk hw4 ho' hg hw5
            go_wp2_with (at_builtin; refine wpList_append_runH rfl _ _ _ rfl _ _ _ rfl rfl hr ?_; clear hr)
            go_roundw
            case measure => (simp [Go.RowKit.intOf]; try omega)
            case rel => exact ⟨i + 1, by go_num, by omega, by rw [HF.out.1]; exact HF.out.2.1, HF.out.2.2⟩
          · obtain rfl : i = nk := by omega
            have hfull : ks.take i = ks := List.take_of_length_le (by have := HL.out; omega)
            rw [hfull] at ho
            have hll : (leavesL M ks).length ≤ 64 := by
              rw [← HK.out]
              exact H.out.inv.leavesL_len id _ (fun k hk => hk) ((kids_rising H.out.inv.rise id).imp (fun h => by omega))
            have hs := sort_row _ _ _ wr ho (by omega)
            have HE := Lib.hid (And.intro ho hb)
            clear ho hb hfull hll
            go_wp2_with fail
            refine hs.mono ?_
            clear hs
            rintro e w5 ⟨l', rfl, hp, hsd, ho5, hg5⟩
            have hlv := H.out.inv.leaves_sorted HNL.out (by rw [HK.out]; exact hp) hsd
            subst hlv
            have HE2 := Lib.hid (And.intro ho5 (HE.out.2.grown hg5 HE.out.2.size fun k hk => (HE.out.1.lt k hk).1))
            clear hp hsd ho5 hg5
            go_wp2_with fail
            go_ret
            exact ⟨_, rfl, owns_baseH HE2.out.1 H3.out.1.size, H3.out.1.trans (HE2.out.2.mono H3.out.1.size)⟩
end Go.Proofs.YtclhhegfffccgaaGreat
/-
  The program's tree and the document's, side by side: what each act does, beside whatever else.
-/
namespace Go.Proofs.YtclhhegfffccgaaGreat
set_option linter.unusedVariables false
open Go.RowKit Go.Maps

/-- the document's tree -/
def DO (p : Nat) (L : List Sp) : Ob := fun W S => ∃ v, RtAt W p v L ∧ ∀ b, S b ↔ b = p ∨ v.ownBlock = some b
theorem RtAt.heap {w w' : World} {p : Nat} {v : Value} {L : List Sp} (h : RtAt w p v L) (hs : w.heap.size ≤ w'.heap.size) (hp : w'.heap[p]? = w.heap[p]?) (hk : ∀ b, v.ownBlock = some b → w'.heap[b]? = w.heap[b]?) : RtAt w' p v L :=
  ⟨hp.trans h.blk, h.sr.kept hs fun b hb _ => hk b hb, owns_heapS h.own hk⟩
theorem good_doc (p : Nat) (L : List Sp) : Good (DO p L) := by
  refine ⟨fun ⟨v, h, hS⟩ b hb => ?_, fun ⟨v, h, hS⟩ hs hk => ⟨v, h.heap hs (hk p ((hS p).2 (.inl rfl))) fun b hb => hk b ((hS b).2 (.inr hb)), hS⟩⟩
  rcases (hS b).1 hb with rfl | h2
  · exact h.blk.lt
  · exact h.lt b h2
def WfL (L : List Sp) : Prop := ∀ e ∈ L, WfSp e
section
variable {W W' : World} {g ma mu p : Nat} {M : Mp} {L L' : List Sp}
theorem TO.inv {S : Nat → Prop} (h : TO g ma mu M W S) : InvT M := by
  obtain ⟨U, h, _⟩ := h
  exact h.inv
theorem InvT.wfL (h : InvT M) : WfL (sps M) := fun e he => by
  obtain ⟨q, hq, rfl⟩ := List.mem_map.1 he
  exact (h.ok q.1 q.2 (look_of_mem h.rise hq)).wf
theorem act_tree {U : List (Int × Value)} (h : TreeX W 0 g ma mu U M) {A : Nat → Prop} (hA : ∀ b, A b ↔ b = g ∨ own ma mu U b) {r : Int × Mp} {e : Ending} (ha : ActW W 0 g ma mu U r e W') : e = .returned (.int .i64 r.1) ∧ ∃ A', TO g ma mu r.2 W' A' ∧ Went W W' A A' := by
  obtain ⟨U', he, ht, hfr, hown⟩ := ha
  refine ⟨he, fun b => b = g ∨ own ma mu U' b, ⟨U', ht, fun b => Iff.rfl⟩, hfr.weak fun b _ hb => (hA b).2 (.inr hb), fun b hb => ?_⟩
  rcases hb with rfl | hb
  · exact .inl ((hA b).2 (.inl rfl))
  · exact (hown b hb).imp (fun h => (hA b).2 (.inr h)) id
theorem to_add (s : Sp) (hw : WfSp s) : Acts (fun e => e = .returned (.int .i64 (addM M s).1)) (TO g ma mu M) (TO g ma mu (addM M s).2) 8 #[.pointer (some ⟨g, 0, none⟩), spV s] Tryz.prog W := fun A ⟨U, h, hA⟩ =>
  (tadd_any s 0 g ma mu U M W hw h).mono fun e W' ha => act_tree h hA ha
theorem to_change (s : Sp) (hw : WfSp s) : Acts (fun e => e = .returned (.int .i64 (changeM M s).1)) (TO g ma mu M) (TO g ma mu (changeM M s).2) 24 #[.pointer (some ⟨g, 0, none⟩), spV s] Tryz.prog W := fun A ⟨U, h, hA⟩ =>
  (tchange_any s 0 g ma mu U M W hw h).mono fun e W' ha => act_tree h hA ha
theorem to_drop (id : Int) (hid : (Lit.int .i64 id).wf = true) : Acts (fun e => e = .returned (.int .i64 (dropM M id).1)) (TO g ma mu M) (TO g ma mu (dropM M id).2) 12 #[.pointer (some ⟨g, 0, none⟩), .int .i64 id] Tryz.prog W := fun A ⟨U, h, hA⟩ =>
  (tdrop_any id 0 g ma mu U M W hid h).mono fun e W' ha => act_tree h hA ha
theorem act_doc {v : Value} (h : RtAt W p v L) {A : Nat → Prop} (hA : ∀ b, A b ↔ b = p ∨ v.ownBlock = some b) (ha : TurnC W p v L' W') : ∃ A', DO p L' W' A' ∧ Went W W' A A' := by
  obtain ⟨v', ht, hown, hfr⟩ := ha
  refine ⟨fun b => b = p ∨ v'.ownBlock = some b, ⟨v', ht, fun b => Iff.rfl⟩, hfr.weak fun b _ hb => (hA b).2 hb, fun b hb => ?_⟩
  rcases hb with rfl | hb
  · exact .inl ((hA b).2 (.inl rfl))
  · exact (hown b hb).imp (fun h => (hA b).2 (.inr h)) id
theorem do_add (hi : InvT M) (s : Sp) (hw : WfSp s) : Acts (fun e => e = .returned (.int .i64 (addM M s).1)) (DO p (sps M)) (DO p (sps (addM M s).2)) 9 #[.pointer (some ⟨p, 0, none⟩), spV s] Tryz.prog W := fun A ⟨v, h, hA⟩ =>
  (rtadd_any p v (sps M) s W h hw (by rw [sps_len]; have := hi.few; omega)).mono fun e W' ⟨h1, h2⟩ => by
    rw [hi.addS] at h1 h2
    exact ⟨h1, act_doc h hA h2.c⟩
theorem do_change (hi : InvT M) (s : Sp) (hw : WfSp s) : Acts (fun e => e = .returned (.int .i64 (changeM M s).1)) (DO p (sps M)) (DO p (sps (changeM M s).2)) 25 #[.pointer (some ⟨p, 0, none⟩), spV s] Tryz.prog W := fun A ⟨v, h, hA⟩ =>
  (rtchange_any p v (sps M) s W h hw hi.wfL (sps_pair hi)).mono fun e W' ⟨h1, h2⟩ => by
    rw [hi.changeS] at h1 h2
    exact ⟨h1, act_doc h hA h2⟩
theorem do_drop (hi : InvT M) (id : Int) : Acts (fun e => e = .returned (.int .i64 (dropM M id).1)) (DO p (sps M)) (DO p (sps (dropM M id).2)) 13 #[.pointer (some ⟨p, 0, none⟩), .int .i64 id] Tryz.prog W := fun A ⟨v, h, hA⟩ =>
  (rtdrop_any p v (sps M) id W h (sps_pair hi)).mono fun e W' ⟨h1, h2⟩ => by
    rw [hi.dropS] at h1 h2
    exact ⟨h1, act_doc h hA h2.c⟩
end
/-- a tree that was made beside the others -/
def MadeT (w0 : World) (M : Mp) (R : Ob) (e : Ending) (W' : World) : Prop := ∃ g ma mu, e = .returned (.pointer (some ⟨g, 0, none⟩)) ∧ St w0 W' (Star (TO g ma mu M) R)
def MadeD (w0 : World) (L : List Sp) (R : Ob) (e : Ending) (W' : World) : Prop := ∃ p, e = .returned (.pointer (some ⟨p, 0, none⟩)) ∧ St w0 W' (Star (DO p L) R)
section
variable {w0 W W' : World} {g ma mu p : Nat} {M : Mp} {L L' : List Sp} {R : Ob}
theorem TreeX.lower0 {base : Nat} {U : List (Int × Value)} (h : TreeX W base g ma mu U M) : TreeX W 0 g ma mu U M :=
  ⟨h.blk, h.all, h.und, fun k => owns_baseH (h.rows k) (Nat.zero_le _), h.apart, Nat.zero_le _, Nat.zero_le _, Nat.zero_le _, h.ne, h.keys, h.inv⟩
theorem St.tree (hR : Good R) (h : St w0 W R) {U : List (Int × Value)} (ht : TreeX W' W.heap.size g ma mu U M) (hb : Below W.heap.size W W') : St w0 W' (Star (TO g ma mu M) R) :=
  h.made (S := fun b => b = g ∨ own ma mu U b) hR (good_tree g ma mu M) hb ⟨U, ht.lower0, fun b => Iff.rfl⟩ fun b hb2 => by
    rcases hb2 with rfl | hb2
    · exact ht.gb
    · exact (ht.owned hb2).1
theorem St.newT (hR : Good R) (h : St w0 W R) : Calls Tryz.prog 7 #[] W (MadeT w0 [] R) :=
  (tnew_any W).mono fun e w' ⟨g, ma, mu, he, ht, hb⟩ => ⟨g, ma, mu, he, h.tree hR ht hb⟩
theorem St.copyT (hR : Good R) (h : St w0 W R) (ht : ∃ S, TO g ma mu M W S) : Calls Tryz.prog 10 #[.pointer (some ⟨g, 0, none⟩)] W (MadeT w0 M R) := by
  obtain ⟨S, U, ht, _⟩ := ht
  exact (tcopy_any 0 g ma mu U M W ht).mono fun e w' ⟨g, ma, mu, U', he, ht, hb⟩ => ⟨g, ma, mu, he, h.tree hR ht hb⟩
theorem St.copyD (hR : Good R) (h : St w0 W R) (ht : ∃ S, DO p L W S) : Calls Tryz.prog 11 #[.pointer (some ⟨p, 0, none⟩)] W (MadeD w0 L R) := by
  obtain ⟨S, v, ht, _⟩ := ht
  exact (rtcopy_any p v L W ht).mono fun e w' ⟨p', v', he, ht, h1, h2, hb⟩ => ⟨p', he, h.made (S := fun b => b = p' ∨ v'.ownBlock = some b) hR (good_doc p' L) hb ⟨v', ht, fun b => Iff.rfl⟩ fun b hb2 => by
    rcases hb2 with rfl | hb2
    · exact h1
    · exact h2 b hb2⟩
theorem St.newD (hR : Good R) (h : St w0 W R) : St w0 (W.alloc (.cells #[.slice none 0 0] 29)) (Star (DO W.heap.size []) R) :=
  h.made (S := fun b => b = W.heap.size) hR (good_doc _ _) ((Below.refl W.heap.size W).alloc (Nat.le_refl _) _) ⟨.slice none 0 0, ⟨Blk.new W _ _, ⟨by simp, none, 0, rfl, .inl rfl⟩, World.ownsRow_nil _ _ _ _⟩, fun b => by simp [Value.ownBlock]⟩ fun b hb => by rw [hb]; exact Nat.le_refl _
theorem St.box (hR : Good R) (h : St w0 W R) {B : Nat} {t : TypeId} {cs : Array Value} (hb : Below W.heap.size W W') (hB : Blk W' B t cs) (hlo : W.heap.size ≤ B) : St w0 W' (Star (BoxO B t cs) R) :=
  h.made (S := fun b => b = B) hR (good_box B t cs) hb ⟨hB, fun b => Iff.rfl⟩ fun b hb2 => by rw [hb2]; exact hlo
theorem St.cut2 {P Q : Ob} (h : St w0 W (Star P (Star Q R))) : St w0 W (Star P (Star Q Emp)) := by
  obtain ⟨h0, S, ⟨A, B, hS, hd, hp, C, D, hB, hd2, hq, hr⟩, hlo⟩ := h
  refine ⟨h0, fun b => A b ∨ C b, ⟨A, C, fun b => Iff.rfl, fun b ha hc => hd b ha ((hB b).2 (.inl hc)), hp, C, fun _ => False, fun b => by simp, fun b _ h => h, hq, fun b h => h⟩, fun b hb => ?_⟩
  rcases hb with hb | hb
  · exact hlo b ((hS b).2 (.inl hb))
  · exact hlo b ((hS b).2 (.inr ((hB b).2 (.inl hb))))
theorem St.act4 {P1 P2 P3 P Q : Ob} {φ : Ending → Prop} {f : FuncId} {args : Array Value} {prog : Program} (hP1 : Good P1) (hP2 : Good P2) (hP3 : Good P3) (hP : Good P) (hR : Good R) (h : St w0 W (Star P1 (Star P2 (Star P3 (Star P R))))) (ha : Acts φ P Q f args prog W) : Calls prog f args W fun e W' => φ e ∧ St w0 W' (Star P1 (Star P2 (Star P3 (Star Q R)))) := by
  have h1 : St w0 W (Star P1 (Star P2 (Star P (Star P3 R)))) := h.weak fun ⟨A, B, hS, hd, hp, C, D, hB, hd2, hq, hr⟩ => ⟨A, B, hS, hd, hp, C, D, hB, hd2, hq, Star.swap hr⟩
  exact (h1.act3 hP1 hP2 hP (hP3.star hR) ha).mono fun e W' ⟨h1, h2⟩ => ⟨h1, h2.weak fun ⟨A, B, hS, hd, hp, C, D, hB, hd2, hq, hr⟩ => ⟨A, B, hS, hd, hp, C, D, hB, hd2, hq, Star.swap hr⟩⟩
theorem St.boxed {B : Nat} {t : TypeId} {cs : Array Value} (h : St w0 W (Star (BoxO B t cs) R)) : Blk W B t cs := by
  obtain ⟨S, h, _⟩ := h.first
  exact h
end
end Go.Proofs.YtclhhegfffccgaaGreat
/-
  The law's word: does a tree show what the document's does? (Printed by wip/mkhsame.py.)
-/
namespace Go.Proofs.YtclhhegfffccgaaGreat
set_option linter.unusedVariables false
open Go.RowKit Go.Maps
attribute [local go_sem ↓] Go.wp_at_zero Go.wp_at_succ
attribute [local go_sem] quietR quietAtR quietUponR midAt midUpon
attribute [local irreducible] TStep HStep

/-- a tree and the document's -/
structure TD (W : World) (g ma mu p : Nat) (M : Mp) : Prop where
  tr : ∃ U, TreeX W 0 g ma mu U M
  dc : ∃ v, RtAt W p v (sps M)
def Tells (W : World) (l : List Int) (f : FuncId) (args : Array Value) : Prop := Calls Tryz.prog f args W (IdsW W l)
section
variable {W W' : World} {g ma mu p : Nat} {M : Mp}
theorem TD.later (h : TD W g ma mu p M) (hb : Below W.heap.size W W') : TD W' g ma mu p M := by
  obtain ⟨⟨U, ht⟩, v, hd⟩ := h
  exact ⟨⟨U, ht.later hb⟩, v, hd.later hb⟩
theorem TD.inv (h : TD W g ma mu p M) : InvT M := by
  obtain ⟨⟨U, ht⟩, _⟩ := h
  exact ht.inv
theorem TD.len (h : TD W g ma mu p M) : Calls Tryz.prog 23 #[.pointer (some ⟨g, 0, none⟩)] W fun e w' => e = .returned (.int .i64 M.length) ∧ Below W.heap.size W w' := by
  obtain ⟨⟨U, ht⟩, _⟩ := h
  exact tlen_any 0 g ma mu U M W ht
theorem TD.ids (h : TD W g ma mu p M) : Calls Tryz.prog 17 #[.pointer (some ⟨g, 0, none⟩)] W (IdsW W (M.map (·.1))) := by
  obtain ⟨⟨U, ht⟩, _⟩ := h
  exact tids_any 0 g ma mu U M W ht
theorem TD.ids2 (h : TD W g ma mu p M) : Calls Tryz.prog 41 #[.pointer (some ⟨p, 0, none⟩)] W (IdsW W (M.map (·.1))) := by
  have hi := h.inv
  obtain ⟨_, v, hd⟩ := h
  have := rtids_any p v (sps M) W hd
  rw [hi.idsL] at this
  exact this
theorem TD.get (h : TD W g ma mu p M) (id : Int) (hid : (Lit.int .i64 id).wf = true) : Calls Tryz.prog 18 #[.pointer (some ⟨g, 0, none⟩), .int .i64 id] W (GetW W M id) := by
  obtain ⟨⟨U, ht⟩, _⟩ := h
  exact tget_any id 0 g ma mu U M W hid ht
theorem TD.get2 (h : TD W g ma mu p M) (id : Int) : Calls Tryz.prog 33 #[.pointer (some ⟨p, 0, none⟩), .int .i64 id] W (GetW W M id) := by
  have hi := h.inv
  obtain ⟨_, v, hd⟩ := h
  have := rtget_any p v (sps M) id W hd
  rw [getL_sps hi.key, Option.isSome_map, show ((lookM M id).map (·.1)).getD sp0 = getS M id by unfold getS; cases lookM M id <;> rfl] at this
  exact this
theorem TD.under (h : TD W g ma mu p M) (id : Int) (hid : (Lit.int .i64 id).wf = true) : Calls Tryz.prog 21 #[.pointer (some ⟨g, 0, none⟩), .int .i64 id] W (IdsW W (kids M id)) := by
  obtain ⟨⟨U, ht⟩, _⟩ := h
  exact tunder_any id 0 g ma mu U M W hid ht
theorem TD.under2 (h : TD W g ma mu p M) (id : Int) : Calls Tryz.prog 40 #[.pointer (some ⟨p, 0, none⟩), .int .i64 id] W (IdsW W (kids M id)) := by
  have hi := h.inv
  obtain ⟨_, v, hd⟩ := h
  have := rtunder_any p v (sps M) id W hd
  rw [hi.underL] at this
  exact this
theorem TD.path (h : TD W g ma mu p M) (id : Int) (hid : (Lit.int .i64 id).wf = true) : Calls Tryz.prog 19 #[.pointer (some ⟨g, 0, none⟩), .int .i64 id] W (IdsW W (pathM M id)) := by
  obtain ⟨⟨U, ht⟩, _⟩ := h
  exact tpath_any id 0 g ma mu U M W hid ht
theorem sps_few (hi : InvT M) : (sps M).length ≤ 1000 := by rw [sps_len]; have := hi.few; omega
theorem TD.path2 (h : TD W g ma mu p M) (id : Int) : Calls Tryz.prog 34 #[.pointer (some ⟨p, 0, none⟩), .int .i64 id] W (IdsW W (pathM M id)) := by
  have hi := h.inv
  obtain ⟨_, v, hd⟩ := h
  have := rtpath_any p v (sps M) id W hd (sps_few hi)
  rw [hi.pathL] at this
  exact this
theorem TD.leaves (h : TD W g ma mu p M) (id : Int) (hid : (Lit.int .i64 id).wf = true) : Calls Tryz.prog 22 #[.pointer (some ⟨g, 0, none⟩), .int .i64 id] W (IdsW W (leavesM M id)) := by
  obtain ⟨⟨U, ht⟩, _⟩ := h
  exact tleaves_any 9 id 0 g ma mu U M W hid ht (by omega)
theorem TD.leaves2 (h : TD W g ma mu p M) (id : Int) : Calls Tryz.prog 42 #[.pointer (some ⟨p, 0, none⟩), .int .i64 id] W (IdsW W (leavesM M id)) := by
  have hi := h.inv
  obtain ⟨_, v, hd⟩ := h
  have := rtleaves_any p v (sps M) id W hd (sps_few hi)
  rw [hi.leavesS] at this
  exact this
end
/-- a row that may be written over -/
def ThereAt (W : World) (a : Option Addr) (B n : Nat) : Prop := n = 0 ∨ ∃ g cur, a = some ⟨g, 0, none⟩ ∧ B ≤ g ∧ Blk W g 3 cur ∧ n ≤ cur.size
theorem ThereAt.later {W W' : World} {a : Option Addr} {B n : Nat} (h : ThereAt W a B n) (hb : Below W.heap.size W W') : ThereAt W' a B n := by
  rcases h with h | ⟨g, cur, e, h1, h2, h3⟩
  · exact .inl h
  · exact .inr ⟨g, cur, e, h1, h2.below hb h2.lt, h3⟩
theorem ThereAt.of {W : World} {base n : Nat} {a : Option Addr} {cp : Nat} {xs : List Value} (h : W.ownsRow base 3 1 (.slice a n cp) n xs) : ThereAt W a base n := by
  rcases h.2 with ⟨e, h0⟩ | ⟨g, c, cur, e, h1, h2, h3, h4, h5, _⟩
  · exact .inl h0
  · simp only [Value.slice.injEq] at e
    exact .inr ⟨g, cur, e.1, h1, h2, by omega⟩
theorem ThereAt.low {W : World} {a : Option Addr} {B B' n : Nat} (h : ThereAt W a B n) (hb : B' ≤ B) : ThereAt W a B' n := h.imp id fun ⟨g, cur, e, h1, h2⟩ => ⟨g, cur, e, Nat.le_trans hb h1, h2⟩
theorem ThereAt.set {W : World} {a : Option Addr} {B n q o : Nat} {t : TypeId} {cur : Array Value} {v : Value} (h : ThereAt W a B n) (hq : Blk W q t cur) : ThereAt (W.setCell ⟨q, o, none⟩ v) a B n := by
  rcases h with h | ⟨g, cur, e, h1, h2, h3⟩
  · exact .inl h
  · by_cases hg : g = q
    · subst hg
      exact .inr ⟨g, _, e, h1, h2.set_ o v, by simpa using h3⟩
    · exact .inr ⟨g, cur, e, h1, h2.far (p := ⟨q, o, none⟩) hg v, h3⟩
theorem path_few {M : Mp} (h : InvT M) (id : Int) : (pathM M id).length ≤ 1000000 := by have := h.path_short id; have := h.few; omega
theorem kids_few {M : Mp} (h : InvT M) (id : Int) : (kids M id).length ≤ 1000000 := by have := kids_len M id; have := h.few; omega
theorem leaves_few {M : Mp} (h : InvT M) (id : Int) : (leavesM M id).length ≤ 1000000 := by
  have : (leavesM M id).length ≤ M.length := by unfold leavesM; rw [List.length_map]; exact List.length_filter_le _ _
  have := h.few
  omega
/-- rows of two, made just now -/
theorem owns_two (W : World) (x y : Int) : (W.alloc (.cells #[.int .i64 x, .int .i64 y] 3)).ownsRow W.heap.size 3 1 (.slice (some ⟨W.heap.size, 0, none⟩) 2 2) 2 [.int .i64 x, .int .i64 y] :=
  ⟨rfl, .inr ⟨W.heap.size, 2, #[.int .i64 x, .int .i64 y], rfl, Nat.le_refl _, heap_alloc_new _ _, Nat.le_refl _, by decide, rfl, rfl⟩⟩
theorem wf_key {M : Mp} (h : InvT M) : ∀ k ∈ M.map (·.1), (Lit.int .i64 k).wf = true := fun k hk => by
  obtain ⟨q, hq, rfl⟩ := List.mem_map.1 hk
  have o := h.ok _ _ (look_of_mem h.rise (show (q.1, q.2) ∈ M from hq))
  have := o.wf.1.1
  rwa [o.id] at this

/-- what stays while the law looks at an id -/
structure SameR (w5 : World) (B0 : Nat) (g ma mu p : Nat) (M : Mp) (a1 : Option Addr) (nk : Nat) (W : World) : Prop where
  td : TD W g ma mu p M
  below : Below w5.heap.size w5 W
  ids : ThereAt W a1 B0 nk
theorem SameR.later {w5 W W' : World} {B0 g ma mu p nk : Nat} {M : Mp} {a1 : Option Addr} (h : SameR w5 B0 g ma mu p M a1 nk W) (hb : Below W.heap.size W W') : SameR w5 B0 g ma mu p M a1 nk W' :=
  ⟨h.td.later hb, h.below.trans (hb.mono h.below.size), h.ids.later hb⟩
def RowT (B : Nat) (v : Value) (l : List Int) (W : World) : Prop := IntAt W v l ∧ ∃ a c, v = .slice a l.length c ∧ ThereAt W a B l.length
theorem RowT.later {W W' : World} {B : Nat} {v : Value} {l : List Int} (h : RowT B v l W) (hb : Below W.heap.size W W') : RowT B v l W' := by
  obtain ⟨h1, a, c, e, h2⟩ := h
  exact ⟨h1.later hb, a, c, e, h2.later hb⟩
theorem RowT.of {W : World} {B B' : Nat} {v : Value} {l : List Int} (h : W.ownsRow B' 3 1 v l.length (l.map (Value.int .i64))) (hl : l.length ≤ 1000000) (hB : B ≤ B') : RowT B v l W := by
  obtain ⟨a, c, rfl⟩ := owns_slice h
  exact ⟨IntAt.of_owns h hl, a, c, rfl, (ThereAt.of h).low hB⟩
set_option maxRecDepth 100000 in
set_option maxHeartbeats 8000000 in
theorem lawsame_any (g ma mu p : Nat) (id : Int) (M : Mp) (w : World) (h : TD w g ma mu p M) (hid : (Lit.int .i64 id).wf = true) :
    Calls Tryz.prog 14 #[.pointer (some ⟨g, 0, none⟩), .pointer (some ⟨p, 0, none⟩), .int .i64 id] w fun e w' => e = .returned (.bool true) ∧ Below w.heap.size w w' := by
  have hids := h.ids
  have H := Lib.hid h
  have hinv := h.inv
  have hfew := hinv.few
  have HI := Lib.hid hinv
  clear hinv h
  obtain ⟨ks, hks⟩ : ∃ ks, M.map (·.1) = ks := ⟨_, rfl⟩
  obtain ⟨nk, hnk⟩ : ∃ nk, ks.length = nk := ⟨_, rfl⟩
  have hML : M.length = nk := by rw [← hnk, ← hks, List.length_map]
  rw [hML] at hfew
  rw [hks] at hids
  have HK := Lib.hid (And.intro hks (And.intro hnk hML))
  have HID := Lib.hid hid
  clear hks hnk hML hid
  go_enter Tryz.func14, Tryz.ntmps14
  go_wp2_with fail
  refine hids.mono ?_
  clear hids
  rintro e w1 ⟨v1, rfl, ho1, hb1⟩
  obtain ⟨a1, c1, rfl⟩ := owns_slice ho1
  have H1 := Lib.hid (H.out.later hb1)
  have HO1 := Lib.hid (And.intro ho1 hb1)
  clear ho1 hb1
  rw [HK.out.2.1]
  go_upto_region 2 with fail
  obtain ⟨v9, hd9⟩ := H1.out.dc
  obtain ⟨a9, c9, hv9⟩ : ∃ a c, v9 = .slice a nk c := by
    obtain ⟨_, a, c, e, _⟩ := hd9.sr
    rw [sps_len, HK.out.2.2] at e
    exact ⟨a, c, e⟩
  have o0 := fun e => (over_cell (w := w1) (e := e) (o := 0) hd9.blk.lt).trans (hd9.blk.cell 0)
  simp only [List.getElem?_toArray, List.getElem?_cons_zero, List.getElem?_cons_succ] at o0
  rw [hv9] at o0
  have hlen := fun e => (H1.out.later (over_below w1 e)).len
  rw [HK.out.2.2] at hlen
  have HLN := Lib.hid hlen
  clear hlen hd9 hv9
  refine wp_region_midg (w := w1) 14 1 [11, 12, 13] [] [(11, RowN ks w1.heap.size), (12, fun u W' => u = .bool true), (13, fun u W' => u = .bool false)] rfl (by kernel_rfl) (by kernel_rfl) (by kernel_rfl) (by kernel_rfl) (fun _ _ _ _ _ h => h) ⟨fun v A C h hb => owns_laterH h hb, fun v A C h hb => h, fun v A C h hb => h, trivial⟩ ?_
  intro LL hL
  have HL := Lib.hid hL
  clear hL
  simp only [List.take_succ_cons, List.take_zero, putL]
  iterate 14 (first | refine wpHead_skip (by decide) ?_ | (refine wpHead_step (by decide) (fun K hK => ?_); go_simp; first | (refine hK _ ?_; clear hK K) | (apply Exists.intro; refine ⟨fun e => ?_, hK _ ?_⟩; (focus (go_at_call 23; with_reducible exact HLN.out _)); clear hK K)))
  refine wpHead_nil (HL.out _ ⟨?_, ?_, ?_, trivial⟩ ?_)
  · intro vs W2 hb2 hf
    clear HL hf o0
    change TStep _ _ _ (Act.put (Act.put (Act.put _ (some 34) (vs 11)) (some 35) (vs 12)) (some 36) (vs 13)) _ _
    refine tstep_yes (by kernel_rfl) ?_
    have hc := (H1.out.later hb2).ids2
    rw [HK.out.1] at hc
    go_simp
    refine hc.mono ?_
    rintro e W3 ⟨v', rfl, ho, hb⟩
    exact ⟨_, rfl, hb, owns_baseH ho hb2.size⟩
  · intro vs W2 hb2 hf
    have hf := fits_cast (q := RowN ks w1.heap.size (vs 11) W2 ∧ True) hf (by kernel_rfl)
    clear HL o0
    change TStep _ _ _ (Act.put (Act.put (Act.put _ (some 34) (vs 11)) (some 35) (vs 12)) (some 36) (vs 13)) _ _
    refine tstep_yes (by kernel_rfl) ?_
    have hi1 : IntAt W2 (.slice a1 nk c1) ks := IntAt.of_owns (owns_laterH (by have := HO1.out.1; rw [HK.out.2.1] at this ⊢; exact this) hb2) (by have := HK.out.2.1; omega)
    have hi2 : IntAt W2 (vs 11) ks := IntAt.of_owns hf.1 (by have := HK.out.2.1; omega)
    have hc := same16_any _ _ ks W2 hi1 hi2
    go_simp
    try (refine hc.mono ?_; rintro e W3 ⟨rfl, hb⟩; exact ⟨_, rfl, hb, rfl⟩)
  · intro vs W2 hb2 hf
    have hf := fits_cast (q := vs 12 = .bool true ∧ True) hf (by kernel_rfl)
    clear HL o0
    change TStep _ _ _ (Act.put (Act.put (Act.put _ (some 34) (vs 11)) (some 35) (vs 12)) (some 36) (vs 13)) _ _
    rw [hf.1]
    refine tstep_yes (by kernel_rfl) ?_
    go_simp
    exact Below.refl _ _
  intro vs W2 hb2 hf
  have hf := fits_cast (q := RowN ks w1.heap.size (vs 11) W2 ∧ vs 12 = .bool true ∧ vs 13 = .bool false ∧ True) hf (by kernel_rfl)
  clear HL o0
  change wpList _ _ _ _ (Act.put (Act.put (Act.put _ (some 34) (vs 11)) (some 35) (vs 12)) (some 36) (vs 13)) _
  rw [hf.2.1, hf.2.2.1]
  generalize vs 11 = u11 at hf ⊢
  clear hf
  simp only [List.drop_succ_cons, List.drop_zero, List.take_succ_cons, List.take_zero]
  have H2 := Lib.hid (H1.out.later hb2)
  have HO2 := Lib.hid (And.intro (owns_laterH HO1.out.1 hb2) (HO1.out.2.trans (hb2.mono HO1.out.2.size)))
  clear hb2 H1 HO1 HLN
  go_upto_region 4 with fail
  have HA0 := Lib.hid (owns_two W2 0 id)
  have hb3 := (Below.refl W2.heap.size W2).alloc (Nat.le_refl _) (.cells #[.int .i64 0, .int .i64 id] 3)
  have hids2 := (H2.out.later hb3).ids2
  rw [HK.out.1] at hids2
  have HB3 := Lib.hid hb3
  clear hb3
  go_wp2_with fail
  refine hids2.mono ?_
  clear hids2
  rintro e w4 ⟨v4, rfl, ho4, hb4⟩
  obtain ⟨v5, w5, r5, ho5, hg5⟩ := app_row 47 (A := [0, id]) (B := ks) (owns_laterH HA0.out hb4) ho4 (Nat.le_trans HB3.out.size hb4.size) (by simp) (by have := HK.out.2.1; omega)
  have hb5 : Below W2.heap.size W2 w5 := (HB3.out.trans (hb4.mono HB3.out.size)).grown hg5 (Nat.le_trans HB3.out.size hb4.size) fun q e => by
    cases e
    exact Nat.le_refl _
  obtain ⟨asked, hask⟩ : ∃ l, [0, id] ++ ks = l := ⟨_, rfl⟩
  obtain ⟨na, hna⟩ : ∃ n, asked.length = n := ⟨_, rfl⟩
  rw [hask] at ho5
  have hnl : na ≤ 1000 := by rw [← hna, ← hask]; simp; have := HK.out.2.1; omega
  have hia : IntAt w5 v5 asked := IntAt.of_owns ho5 (by omega)
  obtain ⟨a5, c5, rfl⟩ := owns_slice ho5
  rw [hna] at hia r5
  have hwfs : ∀ k ∈ asked, (Lit.int .i64 k).wf = true := fun k hk => by
    rw [← hask] at hk
    simp only [List.cons_append, List.nil_append, List.mem_cons] at hk
    rcases hk with rfl | rfl | hk
    · decide
    · exact HID.out
    · exact wf_key HI.out k (by rw [HK.out.1]; exact hk)
  have HAS := Lib.hid (And.intro hna (And.intro hwfs hia))
  have H5 := Lib.hid (H2.out.later hb5)
  have hO5 := owns_laterH HO2.out.1 hb5
  rw [HK.out.2.1] at hO5
  have HO5 := Lib.hid (And.intro (ThereAt.of hO5) (HO2.out.2.trans (hb5.mono HO2.out.2.size)))
  obtain ⟨va, vc, hv4⟩ := owns_slice ho4
  rw [HK.out.2.1] at hv4
  subst hv4
  clear ho4 hb4 ho5 hg5 hb5 hask hna hia hwfs hO5 HO2 H2 HA0 HB3
  go_wp2_with (at_builtin; refine wpList_append_runH rfl _ _ _ rfl _ _ _ rfl rfl r5 ?_; clear r5)
  go_loopw [9] (fun vi W => ∃ i : Nat, vi = .int .i64 i ∧ i ≤ na ∧ Below w5.heap.size w5 W ∧ ThereAt W a1 w.heap.size nk) (fun vi _ => (na - Go.RowKit.intOf vi).toNat)
  case atStart => exact ⟨0, rfl, Nat.zero_le _, Below.refl _ _, HO5.out.1⟩
  case round =>
    obtain ⟨i, rfl, hi, hbr, htr⟩ := hrel
    have HBR := Lib.hid (And.intro hbr htr)
    have HR := Lib.hid (H5.out.later hbr)
    have hia := HAS.out.2.2.later hbr
    clear hbr htr
    by_cases hlt : i < na
    · obtain ⟨x, hx⟩ : ∃ x, asked[i]? = some x := ⟨_, List.getElem?_eq_getElem (by rw [HAS.out.1]; exact hlt)⟩
      have HX := Lib.hid (HAS.out.2.1 x (List.mem_of_getElem? hx))
      obtain ⟨_, a6, c6, e6, h3⟩ := hia
      rw [HAS.out.1] at e6
      cases e6
      obtain ⟨b, off, rfl, hbl, hcap, hc⟩ := h3.resolve_left (fun h => by rw [h] at hx; cases hx)
      have k0 := hc i x hx
      have hS : SameR w5 w.heap.size g ma mu p M a1 nk wr := ⟨HR.out, HBR.out.1, HBR.out.2⟩
      have HS := Lib.hid hS
      have hg1 := HR.out.get x HX.out
      have hg2 := fun W (h : TD W g ma mu p M) => h.get2 x
      unfold GetW spV spC at hg1 hg2
      have hka : (kids M x).length ≤ 1000000 := kids_few HI.out x
      have hpa : (pathM M x).length ≤ 1000000 := path_few HI.out x
      have hla : (leavesM M x).length ≤ 1000000 := leaves_few HI.out x
      have HLE := Lib.hid (And.intro hka (And.intro hpa hla))
      clear h3 hc hx hS hka hpa hla
      generalize getS M x = sp at hg1 hg2
      obtain ⟨i1, i2, i3, ⟨F1, L1, R1⟩, ⟨F2, L2, R2⟩, ⟨F3, L3, R3⟩, i4, i5⟩ := sp
      generalize (lookM M x).isSome = bs at hg1 hg2
      dsimp only at hg1 hg2
      have hi0 : (0 : Int) ≤ (i : Int) := by omega
      go_wp2_with fail
      refine hg1.mono ?_
      clear hg1 k0
      rintro e wA ⟨rfl, hbA⟩
      have hal := (Below.refl wA.heap.size wA).alloc (Nat.le_refl _) (.cells #[.int .i64 i1, .int .i64 i2, .bool i3, .int .u64 F1, .int .u64 L1, .int .u64 R1, .int .u64 F2, .int .u64 L2, .int .u64 R2, .int .u64 F3, .int .u64 L3, .int .u64 R3, .int .i64 i4, .int .i64 i5] 36)
      have HSA := Lib.hid (And.intro ((HS.out.later hbA).later hal) (Blk.new wA 36 #[.int .i64 i1, .int .i64 i2, .bool i3, .int .u64 F1, .int .u64 L1, .int .u64 R1, .int .u64 F2, .int .u64 L2, .int .u64 R2, .int .u64 F3, .int .u64 L3, .int .u64 R3, .int .i64 i4, .int .i64 i5]))
      clear hbA hal HS
      go_upto_region 10 with fail
      generalize wA.alloc (.cells #[.int .i64 i1, .int .i64 i2, .bool i3, .int .u64 F1, .int .u64 L1, .int .u64 R1, .int .u64 F2, .int .u64 L2, .int .u64 R2, .int .u64 F3, .int .u64 L3, .int .u64 R3, .int .i64 i4, .int .i64 i5] 36) = wB at HSA ⊢
      generalize wA.heap.size = BA at HSA ⊢
      have hg2 := hg2 wB HSA.out.1.td
      go_wp2_with fail
      refine hg2.mono ?_
      clear hg2
      rintro e wC ⟨rfl, hbC⟩
      have hal := (Below.refl wC.heap.size wC).alloc (Nat.le_refl _) (.cells #[.int .i64 i1, .int .i64 i2, .bool i3, .int .u64 F1, .int .u64 L1, .int .u64 R1, .int .u64 F2, .int .u64 L2, .int .u64 R2, .int .u64 F3, .int .u64 L3, .int .u64 R3, .int .i64 i4, .int .i64 i5] 36)
      have hbB := HSA.out.2.below hbC HSA.out.2.lt
      have HSB := Lib.hid (And.intro ((HSA.out.1.later hbC).later hal) (And.intro (hbB.below hal hbB.lt) (Blk.new wC 36 #[.int .i64 i1, .int .i64 i2, .bool i3, .int .u64 F1, .int .u64 L1, .int .u64 R1, .int .u64 F2, .int .u64 L2, .int .u64 R2, .int .u64 F3, .int .u64 L3, .int .u64 R3, .int .i64 i4, .int .i64 i5])))
      clear hbC hal hbB HSA
      go_upto_region 11 with fail
      generalize wC.alloc (.cells #[.int .i64 i1, .int .i64 i2, .bool i3, .int .u64 F1, .int .u64 L1, .int .u64 R1, .int .u64 F2, .int .u64 L2, .int .u64 R2, .int .u64 F3, .int .u64 L3, .int .u64 R3, .int .i64 i4, .int .i64 i5] 36) = wD at HSB ⊢
      generalize wC.heap.size = BB at HSB ⊢
      have hu := HSB.out.1.td.under x HX.out
      go_wp2_with fail
      refine hu.mono ?_
      clear hu
      rintro e wE ⟨vu, rfl, hou, hbE⟩
      have HSC := Lib.hid (And.intro (HSB.out.1.later hbE) (And.intro (HSB.out.2.1.below hbE HSB.out.2.1.lt) (And.intro (HSB.out.2.2.below hbE HSB.out.2.2.lt) (RowT.of hou HLE.out.1 HSB.out.1.below.size))))
      clear hou hbE HSB
      have hu := HSC.out.1.td.path x HX.out
      go_wp2_with fail
      refine hu.mono ?_
      clear hu
      rintro e wF ⟨vp, rfl, hou, hbE⟩
      have HSD := Lib.hid (And.intro (HSC.out.1.later hbE) (And.intro (HSC.out.2.1.below hbE HSC.out.2.1.lt) (And.intro (HSC.out.2.2.1.below hbE HSC.out.2.2.1.lt) (And.intro (HSC.out.2.2.2.later hbE) (RowT.of hou HLE.out.2.1 HSC.out.1.below.size)))))
      clear hou hbE HSC
      have hu := HSD.out.1.td.leaves x HX.out
      go_wp2_with fail
      refine hu.mono ?_
      clear hu
      rintro e wG ⟨vl, rfl, hou, hbE⟩
      have HSE := Lib.hid (And.intro (HSD.out.1.later hbE) (And.intro (HSD.out.2.1.below hbE HSD.out.2.1.lt) (And.intro (HSD.out.2.2.1.below hbE HSD.out.2.2.1.lt) (And.intro (HSD.out.2.2.2.1.later hbE) (And.intro (HSD.out.2.2.2.2.later hbE) (RowT.of hou HLE.out.2.2 HSD.out.1.below.size))))))
      clear hou hbE HSD
      have x0 := HSE.out.2.1.cell 0; have x1 := HSE.out.2.1.cell 1; have x2 := HSE.out.2.1.cell 2; have x3 := HSE.out.2.1.cell 3; have x4 := HSE.out.2.1.cell 4; have x5 := HSE.out.2.1.cell 5; have x6 := HSE.out.2.1.cell 6; have x7 := HSE.out.2.1.cell 7; have x8 := HSE.out.2.1.cell 8; have x9 := HSE.out.2.1.cell 9; have x10 := HSE.out.2.1.cell 10; have x11 := HSE.out.2.1.cell 11; have x12 := HSE.out.2.1.cell 12; have x13 := HSE.out.2.1.cell 13
      simp only [List.getElem?_toArray, List.getElem?_cons_zero, List.getElem?_cons_succ] at x0 x1 x2 x3 x4 x5 x6 x7 x8 x9 x10 x11 x12 x13
      have y0 := HSE.out.2.2.1.cell 0; have y1 := HSE.out.2.2.1.cell 1; have y2 := HSE.out.2.2.1.cell 2; have y3 := HSE.out.2.2.1.cell 3; have y4 := HSE.out.2.2.1.cell 4; have y5 := HSE.out.2.2.1.cell 5; have y6 := HSE.out.2.2.1.cell 6; have y7 := HSE.out.2.2.1.cell 7; have y8 := HSE.out.2.2.1.cell 8; have y9 := HSE.out.2.2.1.cell 9; have y10 := HSE.out.2.2.1.cell 10; have y11 := HSE.out.2.2.1.cell 11; have y12 := HSE.out.2.2.1.cell 12; have y13 := HSE.out.2.2.1.cell 13
      simp only [List.getElem?_toArray, List.getElem?_cons_zero, List.getElem?_cons_succ] at y0 y1 y2 y3 y4 y5 y6 y7 y8 y9 y10 y11 y12 y13
      have hu := HSE.out.1.td.under2 x
      go_wp2_with fail
      refine hu.mono ?_
      clear hu x0 x1 x2 x3 x4 x5 x6 x7 x8 x9 x10 x11 x12 x13 y0 y1 y2 y3 y4 y5 y6 y7 y8 y9 y10 y11 y12 y13
      rintro e wH ⟨v2, rfl, hou, hbE⟩
      have HSF := Lib.hid (And.intro (HSE.out.1.later hbE) (And.intro (HSE.out.2.2.2.1.later hbE) (And.intro (HSE.out.2.2.2.2.1.later hbE) (HSE.out.2.2.2.2.2.later hbE))))
      have hs := same16_any vu v2 (kids M x) wH HSF.out.2.1.1 (IntAt.of_owns hou HLE.out.1)
      clear hou hbE HSE
      go_wp2_with fail
      refine hs.mono ?_
      clear hs
      rintro e wI ⟨rfl, hbE⟩
      have HSG := Lib.hid (And.intro (HSF.out.1.later hbE) (And.intro (HSF.out.2.1.later hbE) (And.intro (HSF.out.2.2.1.later hbE) (HSF.out.2.2.2.later hbE))))
      clear hbE HSF
      have hu := HSG.out.1.td.path2 x
      go_wp2_with fail
      refine hu.mono ?_
      clear hu
      rintro e wJ ⟨v2, rfl, hou, hbE⟩
      have HSF := Lib.hid (And.intro (HSG.out.1.later hbE) (And.intro (HSG.out.2.1.later hbE) (And.intro (HSG.out.2.2.1.later hbE) (HSG.out.2.2.2.later hbE))))
      have hs := same16_any vp v2 (pathM M x) wJ HSF.out.2.2.1.1 (IntAt.of_owns hou HLE.out.2.1)
      clear hou hbE HSG
      go_wp2_with fail
      refine hs.mono ?_
      clear hs
      rintro e wK ⟨rfl, hbE⟩
      have HSG := Lib.hid (And.intro (HSF.out.1.later hbE) (And.intro (HSF.out.2.1.later hbE) (And.intro (HSF.out.2.2.1.later hbE) (HSF.out.2.2.2.later hbE))))
      clear hbE HSF
      have hu := HSG.out.1.td.leaves2 x
      go_wp2_with fail
      refine hu.mono ?_
      clear hu
      rintro e wL ⟨v2, rfl, hou, hbE⟩
      have HSF := Lib.hid (And.intro (HSG.out.1.later hbE) (And.intro (HSG.out.2.1.later hbE) (And.intro (HSG.out.2.2.1.later hbE) (HSG.out.2.2.2.later hbE))))
      have hs := same16_any vl v2 (leavesM M x) wL HSF.out.2.2.2.1 (IntAt.of_owns hou HLE.out.2.2)
      clear hou hbE HSG
      go_wp2_with fail
      refine hs.mono ?_
      clear hs
      rintro e wM ⟨rfl, hbE⟩
      obtain ⟨ua, uc, hvu, htu⟩ := (HSF.out.2.1.later hbE).2
      obtain ⟨pa, pc, hvp, htp⟩ := (HSF.out.2.2.1.later hbE).2
      subst hvu
      subst hvp
      have hsm := HSF.out.1.later hbE
      have HSG := Lib.hid (And.intro hsm.below (And.intro hsm.ids (And.intro htu htp)))
      have hnu := HLE.out.1
      have hnp := HLE.out.2.1
      generalize (kids M x).length = nu at HSG hnu ⊢
      generalize (pathM M x).length = np at HSG hnp ⊢
      clear hbE HSF htu htp hsm hi0
      go_wp2_with fail
      go_loopw [18] (fun vk W => ∃ k : Nat, vk = .int .i64 k ∧ k ≤ nu ∧ Below w5.heap.size w5 W ∧ ThereAt W a1 w.heap.size nk ∧ ThereAt W ua w5.heap.size nu ∧ ThereAt W pa w5.heap.size np) (fun vk _ => (nu - Go.RowKit.intOf vk).toNat)
      case atStart => exact ⟨0, rfl, Nat.zero_le _, HSG.out.1, HSG.out.2.1, HSG.out.2.2.1, HSG.out.2.2.2⟩
      case round =>
        clear HSG
        obtain ⟨k, rfl, hk, hbr, hti, htu, htp⟩ := hrel
        by_cases hltk : k < nu
        · obtain ⟨gi, cur, rfl, hgb, hB, hsz⟩ := htu.resolve_left (by omega)
          have z0 := hB.frozen k
          obtain ⟨u, hu⟩ : ∃ u, cur[k]? = some u := ⟨_, Array.getElem?_eq_getElem (by omega)⟩
          have z1 := (hB.cell k).trans hu
          have HF := Lib.hid (And.intro (hbr.setCell (p := ⟨gi, k, none⟩) hgb (.int .i64 (-1))) (And.intro (hti.set (o := k) (v := .int .i64 (-1)) hB) (And.intro (htu.set (o := k) (v := .int .i64 (-1)) hB) (htp.set (o := k) (v := .int .i64 (-1)) hB))))
          clear hti htu htp hbr hB hu hsz
          go_wp2_with fail
          go_roundw
          case measure => (simp [Go.RowKit.intOf]; try omega)
          case rel => exact ⟨k + 1, by go_num, by omega, HF.out.1, HF.out.2.1, HF.out.2.2.1, HF.out.2.2.2⟩
        · obtain rfl : k = nu := by omega
          have HE := Lib.hid (And.intro hbr (And.intro hti htp))
          clear hbr hti htp htu
          go_wp2_with fail
          obtain ⟨wo, rfl⟩ : ∃ wo : World, wo = wr := ⟨_, rfl⟩
          go_loopw [19] (fun vk W => ∃ k : Nat, vk = .int .i64 k ∧ k ≤ np ∧ Below w5.heap.size w5 W ∧ ThereAt W a1 w.heap.size nk ∧ ThereAt W pa w5.heap.size np) (fun vk _ => (np - Go.RowKit.intOf vk).toNat)
          case atStart => exact ⟨0, rfl, Nat.zero_le _, HE.out.1, HE.out.2.1, HE.out.2.2⟩
          case round =>
            clear HE
            obtain ⟨k, rfl, hk, hbr, hti, htp⟩ := hrel
            by_cases hltk : k < np
            · obtain ⟨gi, cur, rfl, hgb, hB, hsz⟩ := htp.resolve_left (by omega)
              have z0 := hB.frozen k
              obtain ⟨u, hu⟩ : ∃ u, cur[k]? = some u := ⟨_, Array.getElem?_eq_getElem (by omega)⟩
              have z1 := (hB.cell k).trans hu
              have HF := Lib.hid (And.intro (hbr.setCell (p := ⟨gi, k, none⟩) hgb (.int .i64 (-1))) (And.intro (hti.set (o := k) (v := .int .i64 (-1)) hB) (htp.set (o := k) (v := .int .i64 (-1)) hB)))
              clear hti htp hbr hB hu hsz
              go_wp2_with fail
              go_roundw
              case measure => (simp [Go.RowKit.intOf]; try omega)
              case rel => exact ⟨k + 1, by go_num, by omega, HF.out.1, HF.out.2.1, HF.out.2.2⟩
            · obtain rfl : k = np := by omega
              have HF := Lib.hid (And.intro hbr hti)
              clear hbr hti htp
              go_wp2_with fail
              go_roundw
              case measure => (simp [Go.RowKit.intOf]; try omega)
              case rel => exact ⟨i + 1, by go_num, by omega, HF.out.1, HF.out.2⟩
    · obtain rfl : i = na := by omega
      clear hia
      go_wp2_with fail
      obtain ⟨wo, rfl⟩ : ∃ wo : World, wo = wr := ⟨_, rfl⟩
      go_loopw [20] (fun v9 W => ∃ i : Nat, v9 = .int .i64 i ∧ i ≤ nk ∧ Below w.heap.size w W ∧ ThereAt W a1 w.heap.size nk) (fun v9 _ => (nk - Go.RowKit.intOf v9).toNat)
      case atStart => exact ⟨0, rfl, Nat.zero_le _, HO5.out.2.trans (HBR.out.1.mono HO5.out.2.size), HBR.out.2⟩
      case round =>
        obtain ⟨i, rfl, hi, hbr, htr⟩ := hrel
        by_cases hlt : i < nk
        · obtain ⟨gi, cur, rfl, hgb, hB, hsz⟩ := htr.resolve_left (by omega)
          have z0 := hB.frozen i
          obtain ⟨u, hu⟩ : ∃ u, cur[i]? = some u := ⟨_, Array.getElem?_eq_getElem (by omega)⟩
          have z1 := (hB.cell i).trans hu
          have HF := Lib.hid (And.intro (htr.set (o := i) (v := .int .i64 (-1)) hB) (hbr.setCell (p := ⟨gi, i, none⟩) hgb (.int .i64 (-1))))
          clear htr hbr hB hu hsz
          go_wp2_with fail
          go_roundw
          case measure => (simp [Go.RowKit.intOf]; try omega)
          case rel => exact ⟨i + 1, by go_num, by omega, HF.out.2, HF.out.1⟩
        · obtain rfl : i = nk := by omega
          have HE := Lib.hid hbr
          clear hbr htr
          go_wp2_with fail
          go_ret
          exact ⟨rfl, HE.out⟩
end Go.Proofs.YtclhhegfffccgaaGreat
/-
  A copy goes on alone, and so does the tree: the law. (Printed by wip/mkhcopies.py.)
-/
namespace Go.Proofs.YtclhhegfffccgaaGreat
set_option linter.unusedVariables false
open Go.RowKit Go.Maps
attribute [local go_sem ↓] Go.wp_at_zero Go.wp_at_succ
attribute [local go_sem] quietR quietAtR quietUponR midAt midUpon
attribute [local irreducible] TStep HStep

theorem gT (g ma mu : Nat) (M : Mp) : Good (TO g ma mu M) := good_tree g ma mu M
theorem gD (p : Nat) (L : List Sp) : Good (DO p L) := good_doc p L
/-- a tree and the document's, beside whatever else -/
theorem TD.of {W : World} {g ma mu p : Nat} {M : Mp} (h1 : ∃ S, TO g ma mu M W S) (h2 : ∃ S, DO p (sps M) W S) : TD W g ma mu p M := by
  obtain ⟨_, U, ht, _⟩ := h1
  obtain ⟨_, v, hd, _⟩ := h2
  exact ⟨⟨U, ht⟩, v, hd⟩
theorem toInv {W : World} {g ma mu : Nat} {M : Mp} (h1 : ∃ S, TO g ma mu M W S) : InvT M := by
  obtain ⟨_, h⟩ := h1
  exact h.inv

/-- a row of acts, read at a later world -/
theorem HActsAt.cells {w W : World} {b off len : Nat} {z : List HAct} {i : Nat} {q : HAct} (h : HActsAt w (some ⟨b, off, none⟩) len z) (hb : Below w.heap.size w W) (hq : z[i]? = some q) : ∀ (j : Nat) v, (rowH q)[j]? = some v → W.cell? ⟨b, off + i * 15 + j, none⟩ = some v := by
  obtain ⟨_, _, h3⟩ := h.below hb
  rcases h3 with h3 | ⟨b', off', e, _, hc⟩
  · have h4 := (List.getElem?_eq_some_iff.1 hq).1; have h5 := h.1; omega
  · cases e
    exact hc i q hq
theorem HActsAt.at_ {w : World} {a : Option Addr} {len i : Nat} {z : List HAct} {q : HAct} (h : HActsAt w a len z) (hq : z[i]? = some q) : HFit q ∧ ∃ b off, a = some ⟨b, off, none⟩ := by
  refine ⟨h.2.1 q (List.mem_of_getElem? hq), ?_⟩
  rcases h.2.2 with h3 | ⟨b', off', e, _, hc⟩
  · have h4 := (List.getElem?_eq_some_iff.1 hq).1; have h5 := h.1; omega
  · exact ⟨_, _, e⟩
set_option maxRecDepth 100000 in
set_option maxHeartbeats 8000000 in
theorem hierCopies_any (a0 : Option Addr) (len cap : Nat) (z : List HAct) (a1 : Option Addr) (len1 cap1 : Nat) (y : List HAct) (id : Int) (w : World) (hl : len ≤ 9223372036854775807) (hz : HActsAt w a0 len z) (hl1 : len1 ≤ 9223372036854775807) (hy : HActsAt w a1 len1 y) (hid : (Lit.int .i64 id).wf = true) :
    Calls Tryz.prog 3 #[.slice a0 len cap, .slice a1 len1 cap1, .int .i64 id] w fun e w' => e = .returned (.bool true) ∧ Below w.heap.size w w' := by
  have HZ := Lib.hid hz
  have HY := Lib.hid hy
  have HID := Lib.hid hid
  have hzl : z.length = len := hz.1
  have hyl : y.length = len1 := hy.1
  clear hz hy hid
  go_enter Tryz.func3, Tryz.ntmps3
  go_wp2_with fail
  refine (hlong_any a0 len cap w hl).mono ?_
  rintro e w1' ⟨rfl, rfl⟩
  by_cases hlong : 150 < len
  · have hd : decide (150 < len) = true := decide_eq_true hlong
    rw [hd]
    clear hd
    go_wp2_with fail
    go_ret
    exact ⟨rfl, Below.refl _ _⟩
  have hd : decide (150 < len) = false := decide_eq_false hlong
  rw [hd]
  clear hd
  go_wp2_with fail
  refine (hlong_any a1 len1 cap1 w hl1).mono ?_
  rintro e w1' ⟨rfl, rfl⟩
  by_cases hlong1 : 150 < len1
  · have hd : decide (150 < len1) = true := decide_eq_true hlong1
    rw [hd]
    clear hd
    go_wp2_with fail
    go_ret
    exact ⟨rfl, Below.refl _ _⟩
  have hd : decide (150 < len1) = false := decide_eq_false hlong1
  rw [hd]
  clear hd
  subst hzl
  subst hyl
  have hnew := (St.emp w).newT good_emp
  go_wp2_with fail
  refine hnew.mono ?_
  clear hnew
  rintro e w2 ⟨g, ma, mu, rfl, hT⟩
  have HT := Lib.hid (hT.newD ((gT g ma mu []).star good_emp))
  clear hT
  go_upto_region 4 with fail
  generalize w2.alloc (.cells #[.slice none 0 0] 29) = w3 at HT ⊢
  generalize w2.heap.size = p at HT ⊢
  go_wp2_with fail
  go_loopw [9] (fun v9 W => ∃ (i : Nat) (M : Mp), v9 = .int .i64 i ∧ i ≤ z.length ∧ St w W (Star (DO p (sps M)) (Star (TO g ma mu M) Emp))) (fun v9 _ => (z.length - Go.RowKit.intOf v9).toNat)
  case atStart => exact ⟨0, [], rfl, Nat.zero_le _, HT.out⟩
  case round =>
    clear HT
    obtain ⟨i, M, rfl, hi, hst⟩ := hrel
    have HS := Lib.hid hst
    by_cases hlt : i < z.length
    · clear hst
      obtain ⟨q, hq⟩ : ∃ q, z[i]? = some q := ⟨_, List.getElem?_eq_getElem hlt⟩
      obtain ⟨⟨_, hws⟩, b, off, rfl⟩ := HZ.out.at_ hq
      obtain ⟨k, s⟩ := q
      dsimp only at hws
      have HWS := Lib.hid hws
      have HCQ := Lib.hid fun W (hb : Below w.heap.size w W) => HZ.out.cells hb hq
      have hcq := HCQ.out _ HS.out.1
      have c0 := hcq 0 _ rfl; have c1 := hcq 1 _ rfl; have c2 := hcq 2 _ rfl; have c3 := hcq 3 _ rfl; have c4 := hcq 4 _ rfl; have c5 := hcq 5 _ rfl; have c6 := hcq 6 _ rfl; have c7 := hcq 7 _ rfl; have c8 := hcq 8 _ rfl; have c9 := hcq 9 _ rfl; have c10 := hcq 10 _ rfl; have c11 := hcq 11 _ rfl; have c12 := hcq 12 _ rfl; have c13 := hcq 13 _ rfl; have c14 := hcq 14 _ rfl
      simp only [Nat.add_zero] at c0
      dsimp only at c0 c1 c2 c3 c4 c5 c6 c7 c8 c9 c10 c11 c12 c13 c14
      clear hcq hq hws
      have ha := HS.out.act2 (gD _ _) (gT _ _ _ _) good_emp (to_add s HWS.out)
      unfold spV spC at ha
      go_wp2_with fail
      refine ha.mono ?_
      clear ha c0 c1 c2 c3 c4 c5 c6 c7 c8 c9 c10 c11 c12 c13 c14
      rintro e wA ⟨rfl, hA⟩
      have HI := Lib.hid (toInv HS.out.second)
      have HA := Lib.hid hA
      clear hA HS
      have hcq := HCQ.out _ HA.out.1
      have c0 := hcq 0 _ rfl; have c1 := hcq 1 _ rfl; have c2 := hcq 2 _ rfl; have c3 := hcq 3 _ rfl; have c4 := hcq 4 _ rfl; have c5 := hcq 5 _ rfl; have c6 := hcq 6 _ rfl; have c7 := hcq 7 _ rfl; have c8 := hcq 8 _ rfl; have c9 := hcq 9 _ rfl; have c10 := hcq 10 _ rfl; have c11 := hcq 11 _ rfl; have c12 := hcq 12 _ rfl; have c13 := hcq 13 _ rfl; have c14 := hcq 14 _ rfl
      simp only [Nat.add_zero] at c0
      dsimp only at c0 c1 c2 c3 c4 c5 c6 c7 c8 c9 c10 c11 c12 c13 c14
      clear hcq
      have ha := HA.out.act (gD _ _) ((gT _ _ _ _).star good_emp) (do_add HI.out s HWS.out)
      unfold spV spC at ha
      go_wp2_with fail
      refine ha.mono ?_
      clear ha c0 c1 c2 c3 c4 c5 c6 c7 c8 c9 c10 c11 c12 c13 c14
      rintro e wB ⟨rfl, hA⟩
      have HB := Lib.hid hA
      clear hA HA
      go_wp2_with fail
      go_roundw
      case measure => (simp [Go.RowKit.intOf]; try omega)
      case rel => exact ⟨i + 1, _, by go_num, by omega, HB.out⟩
    · obtain rfl : i = z.length := by omega
      clear hst
      have hc := HS.out.copyT ((gD p (sps M)).star ((gT g ma mu M).star good_emp)) HS.out.second
      go_wp2_with fail
      refine hc.mono ?_
      clear hc
      rintro e wA ⟨gc, mac, muc, rfl, hA⟩
      have HA := Lib.hid hA
      clear hA HS
      have hc := HA.out.copyD ((gT gc mac muc M).star ((gD p (sps M)).star ((gT g ma mu M).star good_emp))) HA.out.second
      go_wp2_with fail
      refine hc.mono ?_
      clear hc
      rintro e wB ⟨pc, rfl, hA⟩
      have HB := Lib.hid hA
      clear hA HA
      go_wp2_with fail
      obtain ⟨wo, rfl⟩ : ∃ wo : World, wo = wr := ⟨_, rfl⟩
      go_loopw [12] (fun v12 W => ∃ (j : Nat) (N : Mp), v12 = .int .i64 j ∧ j ≤ y.length ∧ St w W (Star (DO pc (sps N)) (Star (TO gc mac muc N) (Star (DO p (sps M)) (Star (TO g ma mu M) Emp))))) (fun v12 _ => (y.length - Go.RowKit.intOf v12).toNat)
      case atStart => exact ⟨0, M, rfl, Nat.zero_le _, HB.out⟩
      case round =>
        clear HB
        obtain ⟨j, N, rfl, hj, hst⟩ := hrel
        have HS := Lib.hid hst
        by_cases hlt : j < y.length
        · clear hst
          obtain ⟨q, hq⟩ : ∃ q, y[j]? = some q := ⟨_, List.getElem?_eq_getElem hlt⟩
          obtain ⟨⟨_, hws⟩, b, off, rfl⟩ := HY.out.at_ hq
          obtain ⟨k, s⟩ := q
          dsimp only at hws
          have HWS := Lib.hid hws
          have HCQ := Lib.hid fun W (hb : Below w.heap.size w W) => HY.out.cells hb hq
          have hgr : Good (Star (DO p (sps M)) (Star (TO g ma mu M) Emp)) := (gD _ _).star ((gT _ _ _ _).star good_emp)
          have HGR := Lib.hid hgr
          have c1 := HCQ.out _ HS.out.1 1 _ rfl
          dsimp only at c1
          clear hq hws hgr
          have ha := HS.out.act2 (gD _ _) (gT _ _ _ _) HGR.out (to_drop s.id HWS.out.1.1)
          go_wp2_with fail
          refine ha.mono ?_
          clear ha c1
          rintro e wA ⟨rfl, hA⟩
          have HI := Lib.hid (toInv HS.out.second)
          have HA := Lib.hid hA
          clear hA HS
          have c1 := HCQ.out _ HA.out.1 1 _ rfl
          dsimp only at c1
          have ha := HA.out.act (gD _ _) ((gT _ _ _ _).star HGR.out) (do_drop HI.out s.id)
          go_wp2_with fail
          refine ha.mono ?_
          clear ha c1
          rintro e wB ⟨rfl, hA⟩
          have HS := Lib.hid hA
          clear hA HA HI
          generalize (dropM N s.id).2 = N1 at HS
          have hcq := HCQ.out _ HS.out.1
          have c0 := hcq 0 _ rfl; have c1 := hcq 1 _ rfl; have c2 := hcq 2 _ rfl; have c3 := hcq 3 _ rfl; have c4 := hcq 4 _ rfl; have c5 := hcq 5 _ rfl; have c6 := hcq 6 _ rfl; have c7 := hcq 7 _ rfl; have c8 := hcq 8 _ rfl; have c9 := hcq 9 _ rfl; have c10 := hcq 10 _ rfl; have c11 := hcq 11 _ rfl; have c12 := hcq 12 _ rfl; have c13 := hcq 13 _ rfl; have c14 := hcq 14 _ rfl
          simp only [Nat.add_zero] at c0
          dsimp only at c0 c1 c2 c3 c4 c5 c6 c7 c8 c9 c10 c11 c12 c13 c14
          clear hcq
          have ha := HS.out.act2 (gD _ _) (gT _ _ _ _) HGR.out (to_add s HWS.out)
          unfold spV spC at ha
          go_wp2_with fail
          refine ha.mono ?_
          clear ha c0 c1 c2 c3 c4 c5 c6 c7 c8 c9 c10 c11 c12 c13 c14
          rintro e wA ⟨rfl, hA⟩
          have HI := Lib.hid (toInv HS.out.second)
          have HA := Lib.hid hA
          clear hA HS
          have hcq := HCQ.out _ HA.out.1
          have c0 := hcq 0 _ rfl; have c1 := hcq 1 _ rfl; have c2 := hcq 2 _ rfl; have c3 := hcq 3 _ rfl; have c4 := hcq 4 _ rfl; have c5 := hcq 5 _ rfl; have c6 := hcq 6 _ rfl; have c7 := hcq 7 _ rfl; have c8 := hcq 8 _ rfl; have c9 := hcq 9 _ rfl; have c10 := hcq 10 _ rfl; have c11 := hcq 11 _ rfl; have c12 := hcq 12 _ rfl; have c13 := hcq 13 _ rfl; have c14 := hcq 14 _ rfl
          simp only [Nat.add_zero] at c0
          dsimp only at c0 c1 c2 c3 c4 c5 c6 c7 c8 c9 c10 c11 c12 c13 c14
          clear hcq
          have ha := HA.out.act (gD _ _) ((gT _ _ _ _).star HGR.out) (do_add HI.out s HWS.out)
          unfold spV spC at ha
          go_wp2_with fail
          refine ha.mono ?_
          clear ha c0 c1 c2 c3 c4 c5 c6 c7 c8 c9 c10 c11 c12 c13 c14
          rintro e wB ⟨rfl, hA⟩
          have HB := Lib.hid hA
          clear hA HA
          go_wp2_with fail
          go_roundw
          case measure => (simp [Go.RowKit.intOf]; try omega)
          case rel => exact ⟨j + 1, _, by go_num, by omega, HB.out⟩
        · obtain rfl : j = y.length := by omega
          clear hst
          have hs := lawsame_any g ma mu p id M _ (TD.of HS.out.rest.rest.second HS.out.rest.rest.first) HID.out
          go_wp2_with fail
          refine hs.mono ?_
          clear hs
          rintro e wA ⟨rfl, hbA⟩
          have hS2 := HS.out.later ((gD pc (sps N)).star ((gT gc mac muc N).star ((gD p (sps M)).star ((gT g ma mu M).star good_emp)))) hbA
          have HS2 := Lib.hid hS2
          clear hS2 HS hbA
          have hs := lawsame_any gc mac muc pc id N _ (TD.of HS2.out.second HS2.out.first) HID.out
          go_wp2_with fail
          refine hs.mono ?_
          clear hs
          rintro e wB ⟨rfl, hbA⟩
          have HF := Lib.hid (HS2.out.1.trans (hbA.mono HS2.out.1.size))
          clear hbA HS2
          go_wp2_with fail
          go_ret
          exact ⟨rfl, HF.out⟩
end Go.Proofs.YtclhhegfffccgaaGreat
