/-
  Regions that draw their order, in parts: a part whose operations only read, in whatever order; then one operation that waits for all of it and may do anything (a call); then the next part.
  No conditions beyond those that each theorem names.
-/
import Derived.Test.YtbnnkkojlclgjaaGreatReg
import Derived.RangeFuncNested
import Derived.RangeFuncBound
import Derived.RangeFuncCalls
import Derived.RangeFuncLeaves
import Derived.Shelf.Abstract
import Derived.OwnWalkIn
import Derived.TacticsInMore
namespace Go.Proofs.YtbnnkkojlclgjaaGreat
set_option linter.unusedVariables false
open Go.RowKit

/-- the first k are listed -/
def preL (ops : Array Oper) (k : Nat) : Array Bool := ((List.range ops.size).map fun j => decide (j < k)).toArray
theorem preL_get {ops : Array Oper} {k j : Nat} (hj : j < ops.size) (d : Bool) : (preL ops k).getD j d = decide (j < k) := by
  simp [preL, hj]
theorem preL_size (ops : Array Oper) (k : Nat) : (preL ops k).size = ops.size := by simp [preL]
theorem preL_zero (ops : Array Oper) : preL ops 0 = Array.replicate ops.size false := by
  apply Array.ext
  · simp [preL]
  · intro i h1 h2
    simp [preL]
theorem preL_set {ops : Array Oper} {k : Nat} (hk : k < ops.size) : (preL ops k).setIfInBounds k true = preL ops (k + 1) := by
  apply Array.ext
  · simp [preL]
  · intro i h1 h2
    have hi : i < ops.size := by simpa [preL] using h2
    by_cases e : k = i
    · subst e
      simp [preL]
    · rw [Array.getElem_setIfInBounds_ne (by simpa [preL] using hi) e]
      simp only [preL, List.getElem_toArray, List.getElem_map, List.getElem_range]
      exact decide_eq_decide.2 (by omega)
/-- the edges lead back -/
def backB (md : Region.Mode) (ops : Array Oper) : Bool :=
  (List.range ops.size).all fun j => match ops[j]? with
    | some o => o.after.all fun e => !Region.binds md e || decide (e.on < j)
    | none => true
/-- each of a part is waited for, up to the one behind it; all further ones wait for that one or one behind it -/
def partB (md : Region.Mode) (ops : Array Oper) (k n : Nat) : Bool :=
  (List.range n).all (fun i => decide (i < k) || (List.range (n + 1)).any fun j => decide (i < j) && Region.waitsFor md ops j i) &&
  (List.range ops.size).all fun t => decide (t ≤ n) || (List.range t).any fun s => decide (n ≤ s) && Region.waitsFor md ops t s
def lexP (md : Region.Mode) (ops : Array Oper) : Nat → Nat → Array Bool → Bool
  | 0, _, _ => true
  | f + 1, k, listed => (Region.ready md ops listed).contains k && Region.free md ops listed k && lexP md ops f (k + 1) (listed.setIfInBounds k true)
def segB (md : Region.Mode) (ops : Array Oper) (k m : Nat) : Bool :=
  decide (k + m < ops.size) && partB md ops k (k + m) && lexP md ops m k (preL ops k) && decide (Region.ready md ops (preL ops (k + m)) = [k + m])
def segsB (md : Region.Mode) (ops : Array Oper) : List Nat → Nat → Bool
  | [], k => decide (k = ops.size)
  | m :: ms, k => segB md ops k m && segsB md ops ms (k + m + 1)
section
variable {P : Program} {ops : Array Oper} {md : Region.Mode} {C : World → Prop}

theorem part_waits {k n : Nat} {listed : Array Bool} (hp : partB md ops k n = true) (hpre : ∀ i, i < k → listed.getD i true = true) (inv : HeadInv md ops n listed) :
    ∀ (d i : Nat), n - i = d → i < n → listed.getD i true = false → ∀ t, n ≤ t → t ∉ Region.ready md ops listed := by
  simp only [partB, Bool.and_eq_true] at hp
  obtain ⟨hs, hc⟩ := hp
  intro d
  induction d using Nat.strongRecOn with
  | _ d ih =>
    intro i hd hi hun t ht hr
    obtain ⟨_, ot, hot, hall⟩ := mem_ready.1 hr
    have htlt : t < ops.size := (Array.getElem?_eq_some_iff.1 hot).1
    have hik : ¬ i < k := fun h => by rw [hpre i h] at hun; cases hun
    by_cases htn : t = n
    · subst htn
      have h1 := List.all_eq_true.1 hs i (List.mem_range.2 hi)
      simp only [Bool.or_eq_true, decide_eq_true_eq] at h1
      obtain ⟨j, hj, hj2⟩ := List.any_eq_true.1 (h1.resolve_left hik)
      simp only [Bool.and_eq_true, decide_eq_true_eq] at hj2
      obtain ⟨oj, hoj, e, he, hb, hon⟩ := Region.waitsFor_spec hj2.2
      have hjle : j ≤ t := by have := List.mem_range.1 hj; omega
      by_cases hjt : j = t
      · subst hjt
        have : oj = ot := Option.some.inj (hoj.symm.trans hot)
        subst this
        have h2 := hall e he hb
        rw [hon, getD_both hun] at h2
        cases h2
      · cases hl : listed.getD j false with
        | true =>
          have h2 := inv.closed j oj hoj hl e he hb
          rw [hon, getD_both hun] at h2
          cases h2
        | false =>
          have hjs : j < listed.size := by rw [inv.size]; omega
          exact ih (t - j) (by omega) j rfl (by omega) (getD_in hjs hl) t (Nat.le_refl _) hr
    · have h1 := List.all_eq_true.1 hc t (List.mem_range.2 htlt)
      simp only [Bool.or_eq_true, decide_eq_true_eq] at h1
      rcases h1 with h1 | h1
      · omega
      · obtain ⟨s, hs1, hs2⟩ := List.any_eq_true.1 h1
        simp only [Bool.and_eq_true, decide_eq_true_eq] at hs2
        have hst := List.mem_range.1 hs1
        obtain ⟨o', ho', e, he, hb, hon⟩ := Region.waitsFor_spec hs2.2
        have : o' = ot := Option.some.inj (ho'.symm.trans hot)
        subst this
        have h2 := hall e he hb
        rw [hon, getD_both (inv.tail s hs2.1 (by omega))] at h2
        cases h2

theorem part_take {k n i : Nat} {oi : Oper} {v : Value} {L : Array Bool → Act → Prop} (hi : ops[i]? = some oi) (hsel : ∀ (j : Nat) (o : Oper) cs b, ops[j]? = some o → o.op ≠ .select cs b)
    (hp : partB md ops k n = true) (hin : i < n) (hik : k ≤ i)
    (hdone : ∀ listed a, L listed a → ∀ j ∈ Region.ready md ops listed, n ≤ j) :
    ∀ (f : Nat) (listed : Array Bool) (a : Act), HeadInv md ops n listed → (∀ i, i < k → listed.getD i true = true) →
      (∀ j oj, ops[j]? = some oj → j ≠ i → listed.getD j true = false → (∀ e ∈ oj.after, Region.binds md e = true → e.on ≠ i) → oi.apart ops oj = true) →
      i ∈ Region.ready md ops listed → YieldsIn P ops C oi v a →
      headQ P md ops C n L f (listed.setIfInBounds i true) (a.put oi.dst v) → headQ P md ops C n L (f + 1) listed a := by
  intro f
  induction f with
  | zero =>
    intro listed a inv hpre _ hr hy H
    have hun := (mem_ready.1 hr).1
    refine ⟨fun h => (by rw [h] at hr; cases hr), fun j hj => ?_⟩
    have hjn : j < n := Nat.lt_of_not_le fun h => part_waits hp hpre inv _ i rfl hin hun j h hj
    refine ⟨hjn, ?_⟩
    by_cases hji : j = i
    · subst hji; exact hy.qOp hi H
    · exact absurd (hdone _ _ H j (ready_mono hj hji)) (by omega)
  | succ f ih =>
    intro listed a inv hpre hfree hr hy H
    have hun := (mem_ready.1 hr).1
    refine ⟨fun h => (by rw [h] at hr; cases hr), fun j hj => ?_⟩
    have hjn : j < n := Nat.lt_of_not_le fun h => part_waits hp hpre inv _ i rfl hin hun j h hj
    refine ⟨hjn, ?_⟩
    by_cases hji : j = i
    · subst hji; exact hy.qOp hi H
    · have h1 := (H.2 j (ready_mono hj hji)).2
      obtain ⟨hjun, oj, hoj, hall⟩ := mem_ready.1 hj
      have hnot : ∀ e ∈ oj.after, Region.binds md e = true → e.on ≠ i := fun e he hb heq => by
        have h3 := hall e he hb
        rw [heq, getD_both hun] at h3
        cases h3
      have hjk : k ≤ j := Nat.le_of_not_lt fun h => by rw [hpre j h] at hjun; cases hjun
      have h2 := qOp_put hoj (hfree j oj hoj hji hjun hnot) (fun cs b => hsel i oi cs b hi) (fun cs b => hsel j oj cs b hoj) hy h1
      refine qOp_mono (fun a' h3 => ih (listed.setIfInBounds j true) a' (inv.set hj hjn) (fun q hq => by rw [getD_set_ne true (by omega)]; exact hpre q hq) (fun k ok hk hki hun' hno => ?_) (ready_mono hr (Ne.symm hji)) h3.1 ?_) h2
      · refine hfree k ok hk hki ?_ hno
        by_cases hjk : j = k
        · subst hjk; exact hjun
        · rw [getD_set_ne true hjk] at hun'; exact hun'
      · rw [Array.setIfInBounds_comm _ _ hji]
        exact h3.2

theorem part_lex {k0 n : Nat} {Lq : Act → Prop} (hsel : Region.noSelect ops = true) (hp : partB md ops k0 n = true) (hn : n < ops.size) (hend : Region.ready md ops (preL ops n) = [n]) :
    ∀ (l : List Oper) (k : Nat) (a : Act), k0 ≤ k → (∀ j, j < l.length → l[j]? = ops[k + j]?) → k + l.length = n → HeadInv md ops n (preL ops k) →
    lexP md ops l.length k (preL ops k) = true → wpQuiet P ops C Lq l a →
    headQ P md ops C n (fun listed' a' => listed' = preL ops n ∧ Lq a') l.length (preL ops k) a
  | [], k, a, _, _, hk, _, _, h => by
    obtain rfl : k = n := by simpa using hk
    exact ⟨rfl, h⟩
  | o :: l, k, a, hk0, hl, hk, inv, hB, h => by
    have h0 : ops[k]? = some o := by simpa using (hl 0 (by simp)).symm
    simp only [List.length_cons, lexP, Bool.and_eq_true] at hB
    obtain ⟨⟨hr, hf⟩, hB'⟩ := hB
    have hkn : k < n := by simp only [List.length_cons] at hk; omega
    rw [preL_set (by omega)] at hB'
    have hr' : k ∈ Region.ready md ops (preL ops k) := by simpa using hr
    have hst : qOp P ops C k (wpQuiet P ops C Lq l) a := by unfold qOp; simp only [h0]; exact h
    obtain ⟨v, hy, hK⟩ := yieldsIn_of_qOp h0 hst
    have inv' := inv.set hr' hkn
    rw [preL_set (by omega)] at inv'
    refine part_take (k := k0) h0 (Region.noSelect_spec hsel) hp hkn hk0 (fun listed' a' hL j hj => ?_) l.length (preL ops k) a inv (fun i hi => ?_) (Region.free_spec h0 hf) hr' hy ?_
    · rw [hL.1, hend] at hj
      rw [List.mem_singleton.1 hj]; exact Nat.le_refl _
    · rw [preL_get (by omega)]; simp; omega
    · rw [preL_set (by omega)]
      exact part_lex hsel hp hn hend l (k + 1) _ (by omega) (fun j hj => by have := hl (j + 1) (by simp; omega); simpa [Nat.add_assoc, Nat.add_comm 1 j] using this) (by simp only [List.length_cons] at hk; omega) inv' hB' hK

theorem preL_inv {k n : Nat} (hb : backB md ops = true) (hk : k ≤ n) (hn : n ≤ ops.size) : HeadInv md ops n (preL ops k) := by
  refine ⟨preL_size ops k, fun j oj hoj hl e he hbi => ?_, fun t ht ht' => by rw [preL_get ht']; simp; omega⟩
  have hj : j < ops.size := (Array.getElem?_eq_some_iff.1 hoj).1
  rw [preL_get hj] at hl
  have h1 := List.all_eq_true.1 hb j (List.mem_range.2 hj)
  simp only [hoj] at h1
  have h2 := (Array.all_eq_true'.1 h1) e he
  simp only [Bool.or_eq_true, Bool.not_eq_true', decide_eq_true_eq] at h2
  rcases h2 with h2 | h2
  · rw [hbi] at h2; cases h2
  · rw [preL_get (by omega)]
    simp only [decide_eq_true_eq] at hl ⊢
    omega

variable {n : Nat}
theorem wpInW_of_quiet {o : Oper} {a : Act} {K : Act → Prop} {K' : Act → World → Prop} {Q' : Exit → Act → World → Prop} {w : World} (hw : C w) (h : ∀ a w', C w' → K a → K' a w') (hh : o.quiet P a C K) :
    o.wpIn Fence.wide n P a w K' Q' := by
  obtain ⟨v, h1, h2⟩ := hh
  have h3 := h1 w hw
  unfold Oper.quietAt at h3
  refine ⟨fun _ _ => trivial, ?_⟩
  rw [show Fence.wide.round = none from rfl, Oper.semAt_none]
  generalize (execOp a.eval o).run P w = r at *
  cases r with
  | ok x w' =>
    cases x <;> simp only [Oper.quietUpon] at h3 <;> simp only [Oper.uponIn]
    case value u =>
      obtain ⟨e1, e2⟩ := h3
      rw [e1, e2]
      exact h _ _ hw h2
    case skip =>
      obtain ⟨e1, e2⟩ := h3
      rw [e1, ← e2]
      exact h _ _ hw h2
    case enter f args =>
      obtain ⟨e1, hc⟩ := h3
      rw [e1]
      refine ⟨fun hd => by simp [Fence.wide] at hd, callsIn_wide.2 (hc.mono ?_)⟩
      rintro e w'' ⟨he, hw''⟩
      subst he
      exact h _ _ hw'' h2
  | halt x w' => simp only [Oper.quietUpon] at h3

theorem wpOpInW_of_qOp {i : Nat} {a : Act} {K : Act → Prop} {K' : Act → World → Prop} {Q' : Exit → Act → World → Prop} {w : World} (hC : C w) (h : ∀ a w', C w' → K a → K' a w') (hh : qOp P ops C i K a) :
    wpOpIn Fence.wide n P ops Q' i K' a w := by
  unfold qOp at hh
  unfold wpOpIn
  split
  · rename_i ho; simp only [ho] at hh; exact h _ _ hC hh
  · rename_i o ho
    simp only [ho] at hh
    split
    · rename_i hw; simp only [hw, if_true] at hh; exact wpInW_of_quiet hC h hh
    · rename_i hw; simp only [hw] at hh; exact ⟨fun _ _ => trivial, h _ _ hC hh⟩

theorem anyInW_of_headQ {m g : Nat} {L : Array Bool → Act → Prop} {Q' : Exit → Act → World → Prop}
    (hL : ∀ listed a w, C w → L listed a → wpAnyIn Fence.wide n P md ops Q' g listed a w) :
    ∀ (f : Nat) (listed : Array Bool) (a : Act) (w : World), C w → headQ P md ops C m L f listed a → wpAnyIn Fence.wide n P md ops Q' (f + g) listed a w
  | 0, listed, a, w, hw, h => by rw [Nat.zero_add]; exact hL _ _ _ hw h
  | f + 1, listed, a, w, hw, h => by
    rw [show f + 1 + g = (f + g) + 1 by omega]
    exact ⟨fun h0 => absurd h0 h.1, fun i hi => wpOpInW_of_qOp hw (fun a' w' hw' h' => anyInW_of_headQ hL f _ a' w' hw' h') (h.2 i hi).2⟩

theorem wpIn_exit {F : Fence} {o : Oper} {a : Act} {w : World} {K K2 : Act → World → Prop} {Q : Exit → Act → World → Prop} (h : o.wpIn F n P a w K (Exit.then K2 Q)) : o.wpIn F n P a w K Q := by
  unfold Oper.wpIn at *
  refine ⟨h.1, ?_⟩
  have hh := h.2
  generalize (o.semAt F.round a.eval).run P w = r at *
  cases r with
  | ok x w' => cases x <;> simp only [Oper.uponIn] at hh ⊢ <;> exact hh
  | halt x w' => cases x <;> simp only [Oper.uponIn] at hh ⊢ <;> exact hh

/-- part by part -/
def wpSegs (n : Nat) (P : Program) (ops : Array Oper) (l : List Oper) (Q : Exit → Act → World → Prop) : List Nat → Act → World → Prop
  | [], a, w => Q .normal a w
  | m :: ms, a, w => wpQuiet P ops (fun w' => ∃ e, w' = over w e) (fun a' => ∀ w', (∃ e, w' = over w e) → wpListIn Fence.wide n P ops (Exit.then (fun a'' w'' => wpSegs n P ops (l.drop (m + 1)) Q ms a'' w'') Q) ((l.drop m).take 1) a' w') (l.take m) a

theorem wpSegs_nil {n : Nat} {l : List Oper} {Q : Exit → Act → World → Prop} {a : Act} {w : World} : wpSegs n P ops l Q [] a w = Q .normal a w := rfl
theorem wpSegs_cons {n : Nat} {l : List Oper} {Q : Exit → Act → World → Prop} {m : Nat} {ms : List Nat} {a : Act} {w : World} : wpSegs n P ops l Q (m :: ms) a w =
    wpQuiet P ops (fun w' => ∃ e, w' = over w e) (fun a' => ∀ w', (∃ e, w' = over w e) → wpListIn Fence.wide n P ops (Exit.then (fun a'' w'' => wpSegs n P ops (l.drop (m + 1)) Q ms a'' w'') Q) ((l.drop m).take 1) a' w') (l.take m) a := rfl
/-- an operation whose guard says no is passed over -/
theorem segSkip {n : Nat} {o : Oper} {K : Act → World → Prop} {Q : Exit → Act → World → Prop} {a a' : Act} {w : World} (hw : Region.wanted o (yielded ops a.tmps) = false) (ha : a.put o.dst undef = a') (h : K a' w) :
    wpListIn Fence.wide n P ops (Exit.then K Q) [o] a w := by
  subst ha
  unfold wpListIn
  rw [if_neg (by rw [hw]; simp)]
  exact ⟨fun _ _ => trivial, h⟩
theorem any_of_segs {Q : Exit → Act → World → Prop} (hsel : Region.noSelect ops = true) (hb : backB md ops = true) : ∀ (ms : List Nat) (k : Nat) (l : List Oper) (a : Act) (w : World), (∀ j, l[j]? = ops[k + j]?) → k ≤ ops.size →
    segsB md ops ms k = true → wpSegs n P ops l Q ms a w → wpAnyIn Fence.wide n P md ops Q (ops.size - k) (preL ops k) a w
  | [], k, l, a, w, hl, _, hB, h => by
    have hk : k = ops.size := by simpa [segsB] using hB
    subst hk
    rw [Nat.sub_self]
    refine ⟨?_, h⟩
    unfold Region.ready
    rw [List.filter_eq_nil_iff]
    intro i hi
    have := List.mem_range.1 hi
    simp [preL_get this, this]
  | m :: ms, k, l, a, w, hl, hle, hB, h => by
    simp only [segsB, segB, Bool.and_eq_true, decide_eq_true_eq] at hB
    obtain ⟨⟨⟨⟨hlt, hp⟩, hlex⟩, hend⟩, hB'⟩ := hB
    have hlen : l.length = ops.size - k := by
      have hge : l.length ≤ ops.size - k := Nat.le_of_not_lt fun hh => by
        have := hl (ops.size - k)
        rw [List.getElem?_eq_getElem hh, Array.getElem?_eq_none (by omega)] at this
        cases this
      have hle2 : ops.size - k ≤ l.length := Nat.le_of_not_lt fun hh => by
        have := hl l.length
        rw [List.getElem?_eq_none (Nat.le_refl _), Array.getElem?_eq_getElem (by omega)] at this
        cases this
      omega
    have htl : (l.take m).length = m := by simp; omega
    have H := part_lex (P := P) (C := fun w' => ∃ e, w' = over w e) hsel hp hlt hend (l.take m) k a (Nat.le_refl _) (fun j hj => by
      have hj' : j < m := by rw [htl] at hj; exact hj
      rw [List.getElem?_take_of_lt hj']; exact hl j) (by rw [htl]) (preL_inv hb (by omega) (by omega)) (by rw [htl]; exact hlex) h
    rw [htl] at H
    have := anyInW_of_headQ (n := n) (Q' := Q) (g := ops.size - (k + m)) (fun listed a' w' hw' hL => by
      obtain ⟨rfl, hq⟩ := hL
      have hq := hq w' hw'
      obtain ⟨o, ho⟩ : ∃ o, ops[k + m]? = some o := ⟨_, Array.getElem?_eq_getElem hlt⟩
      have hd : (l.drop m).take 1 = [o] := by
        have h1 : l[m]? = some o := (hl m).trans ho
        have hm : m < l.length := by omega
        rw [List.getElem?_eq_getElem hm] at h1
        rw [List.drop_eq_getElem_cons hm, Option.some.inj h1]
        rfl
      rw [hd] at hq
      rw [show ops.size - (k + m) = (ops.size - (k + m + 1)) + 1 by omega]
      refine ⟨fun h0 => (by rw [hend] at h0; cases h0), fun i hi => ?_⟩
      rw [hend] at hi
      obtain rfl := List.mem_singleton.1 hi
      rw [preL_set hlt]
      have hnext : ∀ a'' w'', wpSegs n P ops (l.drop (m + 1)) Q ms a'' w'' → wpAnyIn Fence.wide n P md ops Q (ops.size - (k + m + 1)) (preL ops (k + m + 1)) a'' w'' := fun a'' w'' hs =>
        any_of_segs hsel hb ms (k + m + 1) (l.drop (m + 1)) a'' w'' (fun j => by rw [List.getElem?_drop, hl]; congr 1; omega) (by omega) hB' hs
      unfold wpOpIn
      simp only [ho]
      simp only [wpListIn] at hq
      split
      · rename_i hwant
        rw [if_pos hwant] at hq
        exact wpIn_exit (Oper.wpIn_mono hnext hq)
      · rename_i hwant
        rw [if_neg hwant] at hq
        exact ⟨hq.1, hnext _ _ hq.2⟩) m (preL ops k) a w ⟨w, eq_over (Below.refl _ w)⟩ H
    rw [show m + (ops.size - (k + m)) = ops.size - k by omega] at this
    exact this

theorem wpIn_region_segs {id : Nat} {Q : Exit → Act → World → Prop} {a : Act} {w : World} {l : List Oper} (ms : List Nat) (hm : P.follows .mixedOrders = true) (hB : (Region.noSelect l.toArray && backB .any l.toArray && segsB .any l.toArray ms 0) = true)
    (h : wpSegs n P l.toArray l Q ms a w.drew) : (Code.region id l.toArray true).wpIn Fence.wide n P Q a w := by
  simp only [Bool.and_eq_true] at hB
  refine wpIn_region_any hm ?_
  have := any_of_segs (n := n) hB.1.1 hB.1.2 ms 0 l a w.drew (fun j => by simp) (Nat.zero_le _) hB.2 h
  rw [preL_zero, Nat.sub_zero] at this
  exact this
end
end Go.Proofs.YtbnnkkojlclgjaaGreat
