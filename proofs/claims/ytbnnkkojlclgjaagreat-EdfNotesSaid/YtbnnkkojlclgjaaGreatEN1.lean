/- Lemmas of the claim, merged: Math, SagPlain, SagLaw, BentPlain, RunPlain, RefPlain, Wide, RegIn, Ratio, Up. No conditions beyond those that each states. -/
import Derived.Test.YtbnnkkojlclgjaaGreatPure
import Derived.Test.YtbnnkkojlclgjaaGreatReg
import Derived.RangeFuncNested
import Derived.RangeFuncBound
import Derived.RangeFuncCalls
import Derived.RangeFuncLeaves
import Derived.RangeFuncBox
import Derived.Shelf.Abstract
import Derived.Shelf.RegionOpen
import Derived.OwnWalkIn
import Derived.TacticsInMore
import Derived.LoopNIn
import Derived.LoopIn
/-
  Plain arithmetic of curves: what a curve has at a tick; the first tick at which it has so much. No program in sight.
-/
namespace Go.Proofs.YtbnnkkojlclgjaaGreat
set_option linter.unusedVariables false

/-- what a curve has at a tick, without an end -/
def W (F L R t : Int) : Int := F * min t L + R * (t - min t L)

/-- a curve that may be -/
structure MayC (F L R : Int) : Prop where
  f0 : 0 ≤ F
  f1 : F ≤ 1048576
  r0 : 0 ≤ R
  r1 : R ≤ 1048576
  l0 : 0 ≤ L
  l1 : L ≤ 1099511627776
  fl : L = 0 → F = 0

theorem W_early {F L R t : Int} (h : t ≤ L) : W F L R t = F * t := by
  unfold W; rw [Int.min_eq_left h, Int.sub_self, Int.mul_zero, Int.add_zero]
theorem W_late {F L R t : Int} (h : L ≤ t) : W F L R t = F * L + R * (t - L) := by
  unfold W; rw [Int.min_eq_right h]
theorem W_zero {F L R : Int} (hL : 0 ≤ L) : W F L R 0 = 0 := by rw [W_early hL, Int.mul_zero]
theorem W_nonneg {F L R t : Int} (hF : 0 ≤ F) (hR : 0 ≤ R) (hL : 0 ≤ L) (ht : 0 ≤ t) : 0 ≤ W F L R t := by
  unfold W
  have h1 := Int.mul_nonneg hF (show 0 ≤ min t L by omega)
  have h2 := Int.mul_nonneg hR (show 0 ≤ t - min t L by omega)
  omega
theorem W_mono {F L R t u : Int} (hF : 0 ≤ F) (hR : 0 ≤ R) (h : t ≤ u) : W F L R t ≤ W F L R u := by
  unfold W
  have h1 := Int.mul_le_mul_of_nonneg_left (show min t L ≤ min u L by omega) hF
  have h2 := Int.mul_le_mul_of_nonneg_left (show t - min t L ≤ u - min u L by omega) hR
  omega

theorem ceil_mul {y c : Int} (hc : 1 ≤ c) : y ≤ c * ceil y c := by
  have h := Int.lt_mul_ediv_self_add (x := y + c - 1) (k := c) (by omega)
  unfold ceil
  omega
theorem ceil_lt {y c t : Int} (hc : 1 ≤ c) (h : t < ceil y c) : c * t < y := by
  unfold ceil at h
  have h1 := Int.mul_ediv_self_le (x := y + c - 1) (k := c) (by omega)
  have h2 := Int.mul_le_mul_of_nonneg_left (show t + 1 ≤ (y + c - 1) / c by omega) (show 0 ≤ c by omega)
  rw [Int.mul_add] at h2
  omega
theorem ceil_nonneg {y c : Int} (hc : 1 ≤ c) (hy : 0 ≤ y) : 0 ≤ ceil y c := by
  unfold ceil; exact Int.ediv_nonneg (by omega) (by omega)
theorem ceil_pos {y c : Int} (hc : 1 ≤ c) (hy : 1 ≤ y) : 1 ≤ ceil y c := by
  have h := ceil_mul (y := y) hc
  have h0 := ceil_nonneg (y := y) hc (by omega)
  by_cases h1 : ceil y c = 0
  · rw [h1, Int.mul_zero] at h; omega
  · omega
theorem ceil_le {y c : Int} (hc : 1 ≤ c) (hy : 0 ≤ y) : ceil y c ≤ y := by
  by_cases h : y < ceil y c
  · have h1 := ceil_lt hc h
    have h2 := Int.mul_le_mul_of_nonneg_right hc hy
    omega
  · omega

/-- curve.Reach -/
def reachC (F L R y : Int) : Int :=
  if 4611686018427387904 < y then 9223372036854775808
  else if 0 < L ∧ y ≤ cap (F * L) then (if y = 0 then 0 else cap (ceil y F))
  else if (if 0 < L then y - cap (F * L) else y) ≤ cap (R * 18446744073709551615) then
    (if (if 0 < L then y - cap (F * L) else y) = 0 then (if 0 < L then L else 0) else (if 0 < L then L else 0) + cap (ceil (if 0 < L then y - cap (F * L) else y) R))
  else 9223372036854775808

/-- r is the first tick at which the curve has y: or it never has -/
def First (F L R y r : Int) : Prop :=
  (r = 9223372036854775808 ∧ ∀ t, 0 ≤ t → W F L R t < y) ∨ (0 ≤ r ∧ r ≤ 4611687117939015680 ∧ y ≤ W F L R r ∧ ∀ t, 0 ≤ t → t < r → W F L R t < y)

theorem reachC_over {F L R y : Int} (h : 4611686018427387904 < y) : reachC F L R y = 9223372036854775808 := by unfold reachC; rw [if_pos h]
theorem reachC_zero {F L R : Int} (h : MayC F L R) : reachC F L R 0 = 0 := by
  unfold reachC
  rw [if_neg (by omega)]
  have h1 := cap_nonneg (Int.mul_nonneg h.f0 h.l0)
  have h2 := cap_nonneg (n := R * 18446744073709551615) (Int.mul_nonneg h.r0 (by decide))
  by_cases hL : 0 < L
  · rw [if_pos ⟨hL, h1⟩, if_pos rfl]
  · rw [if_neg (by omega)]; simp only [hL, if_false, if_true]; rw [if_pos h2]

theorem reachC_spec {F L R y : Int} (h : MayC F L R) (hy0 : 0 ≤ y) (hy : y ≤ 4611686018427387904) : First F L R y (reachC F L R y) := by
  have hF := h.f0; have hR := h.r0; have hL0 := h.l0; have hL1 := h.l1
  have hFL := Int.mul_nonneg hF hL0
  have hRM : 1 ≤ R → cap (R * 18446744073709551615) = 4611686018427387904 := fun hR1 => cap_of_ge (by omega)
  by_cases y0 : y = 0
  · subst y0
    rw [reachC_zero h]
    exact .inr ⟨by omega, by omega, by rw [W_zero hL0]; omega, fun t h1 h2 => by omega⟩
  unfold reachC
  rw [if_neg (by omega)]
  by_cases c1 : 0 < L ∧ y ≤ cap (F * L)
  · rw [if_pos c1, if_neg y0]
    obtain ⟨hL, h1⟩ := c1
    have h2 := cap_le_self (F * L)
    have hF1 : 1 ≤ F := by
      by_cases hF0 : F = 0
      · subst hF0; rw [Int.zero_mul] at h2 h1; omega
      · omega
    have h3 := ceil_le hF1 hy0
    rw [cap_of_le (by omega)]
    have h4 : ceil y F ≤ L := by
      by_cases hlt : L < ceil y F
      · have := ceil_lt hF1 hlt; omega
      · omega
    refine .inr ⟨ceil_nonneg hF1 hy0, by omega, by rw [W_early h4]; exact ceil_mul hF1, fun t ht htr => by rw [W_early (by omega)]; exact ceil_lt hF1 htr⟩
  · rw [if_neg c1]
    by_cases hL : 0 < L
    · simp only [hL, if_true]
      have h1 : cap (F * L) < y := by omega
      have h2 : cap (F * L) = F * L := cap_of_le (by unfold cap at h1; omega)
      rw [h2] at h1 ⊢
      by_cases hR1 : 1 ≤ R
      · rw [hRM hR1, if_pos (by omega), if_neg (by omega)]
        have h3 := ceil_le hR1 (show 0 ≤ y - F * L by omega)
        have h4 := ceil_pos hR1 (show 1 ≤ y - F * L by omega)
        rw [cap_of_le (by omega)]
        refine .inr ⟨by omega, by omega, ?_, fun t ht htr => ?_⟩
        · rw [W_late (by omega), show L + ceil (y - F * L) R - L = ceil (y - F * L) R by omega]
          have := ceil_mul (y := y - F * L) hR1
          omega
        · by_cases hlt : t ≤ L
          · have := W_mono (F := F) (L := L) (R := R) hF hR hlt
            rw [W_early (Int.le_refl L)] at this
            omega
          · rw [W_late (by omega)]
            have := ceil_lt (y := y - F * L) (t := t - L) hR1 (by omega)
            omega
      · have hR0 : R = 0 := by omega
        subst hR0
        rw [Int.zero_mul, if_neg (by unfold cap; omega)]
        refine .inl ⟨rfl, fun t ht => ?_⟩
        have h5 := Int.mul_le_mul_of_nonneg_left (show min t L ≤ L by omega) hF
        unfold W
        omega
    · have hL' : L = 0 := by omega
      subst hL'
      simp only [hL, if_false]
      by_cases hR1 : 1 ≤ R
      · rw [hRM hR1, if_pos (by omega), if_neg (by omega)]
        have h3 := ceil_le hR1 hy0
        have h4 := ceil_pos hR1 (show 1 ≤ y by omega)
        rw [cap_of_le (by omega)]
        refine .inr ⟨by omega, by omega, ?_, fun t ht htr => ?_⟩
        · rw [W_late (by omega)]
          have := ceil_mul (y := y) hR1
          simp; omega
        · rw [W_late (by omega)]
          have := ceil_lt (y := y) (t := t) hR1 (by omega)
          simp; omega
      · have hR0 : R = 0 := by omega
        subst hR0
        rw [Int.zero_mul, if_neg (by unfold cap; omega)]
        refine .inl ⟨rfl, fun t ht => ?_⟩
        rw [W_late (by omega)]
        simp; omega

end Go.Proofs.YtbnnkkojlclgjaaGreat
/-
  The plain law of a sagging run: of the copies that are kept, one has no more than each that started; and its line is no higher. No program in sight.
-/
namespace Go.Proofs.YtbnnkkojlclgjaaGreat
set_option linter.unusedVariables false

/-- a copy: from .2 on, at the tick .1: what it has, and its line, without an end -/
def hasK (F L R : Int) (k : Int × Int) (t : Int) : Int := k.2 + W F L R (t - k.1)
def lineK (R : Int) (k : Int × Int) (t : Int) : Int := k.2 + R * (t - k.1)

/-- how far the line is above -/
def gapK (F L R u : Int) : Int := (R - F) * min u L

theorem W_gap (F L R u : Int) : W F L R u = R * u - gapK F L R u := by
  unfold W gapK
  rw [Int.mul_sub, Int.sub_mul]
  omega
theorem line_gap (F L R : Int) (k : Int × Int) (t : Int) : lineK R k t = hasK F L R k t + gapK F L R (t - k.1) := by
  unfold lineK hasK
  rw [W_gap]
  omega

/-- a curve that sags, or is straight -/
structure SagC (F L R : Int) : Prop where
  may : MayC F L R
  sag : L = 0 ∨ F ≤ R

theorem gap_mono {F L R a b : Int} (h : SagC F L R) (hb : 0 ≤ b) (hab : b ≤ a) : gapK F L R b ≤ gapK F L R a := by
  unfold gapK
  rcases h.sag with h0 | h0
  · rw [h0, Int.min_eq_right hb, Int.min_eq_right (Int.le_trans hb hab)]; exact Int.le_refl _
  · exact Int.mul_le_mul_of_nonneg_left (by omega) (by omega)
theorem gap_conc {F L R a b d : Int} (h : SagC F L R) (hb : 0 ≤ b) (hab : b ≤ a) (hd : 0 ≤ d) : gapK F L R (a + d) - gapK F L R a ≤ gapK F L R (b + d) - gapK F L R b := by
  unfold gapK
  rcases h.sag with h0 | h0
  · rw [h0, Int.min_eq_right hb, Int.min_eq_right (Int.le_trans hb hab), Int.min_eq_right (by omega), Int.min_eq_right (by omega)]; exact Int.le_refl _
  · rw [← Int.mul_sub, ← Int.mul_sub]
    exact Int.mul_le_mul_of_nonneg_left (by omega) (by omega)
theorem gap_nonneg {F L R a : Int} (h : SagC F L R) (ha : 0 ≤ a) : 0 ≤ gapK F L R a := by
  have := gap_mono h (Int.le_refl 0) ha
  unfold gapK at *
  rw [Int.min_eq_left h.may.l0] at this
  omega
theorem gap_le {F L R a : Int} (h : SagC F L R) (ha : 0 ≤ a) : gapK F L R a ≤ (if L = 0 then 0 else (R - F) * L) := by
  unfold gapK
  rcases h.sag with h0 | h0
  · rw [if_pos h0, h0, Int.min_eq_right ha]; omega
  · split
    · rename_i h1; rw [h1, Int.min_eq_right ha]; omega
    · exact Int.mul_le_mul_of_nonneg_left (by omega) (by omega)
theorem gap_late {F L R a : Int} (h : SagC F L R) (ha : L ≤ a) : gapK F L R a = (if L = 0 then 0 else (R - F) * L) := by
  unfold gapK
  rw [Int.min_eq_right ha]
  split
  · rename_i h1; rw [h1, Int.mul_zero]
  · rfl

theorem line_add (R : Int) (k : Int × Int) (s t : Int) : lineK R k t = lineK R k s + R * (t - s) := by
  unfold lineK
  have : R * (t - k.1) = R * (s - k.1) + R * (t - s) := by rw [← Int.mul_add]; congr 1; omega
  omega

/-- from s on a has no more than b, and its line is no higher -/
def Beats (F L R : Int) (a b : Int × Int) (s : Int) : Prop := ∀ t, s ≤ t → hasK F L R a t ≤ hasK F L R b t ∧ lineK R a t ≤ lineK R b t

theorem Beats.refl {F L R : Int} (a : Int × Int) (s : Int) : Beats F L R a a s := fun _ _ => ⟨Int.le_refl _, Int.le_refl _⟩
theorem Beats.trans {F L R s : Int} {a b c : Int × Int} (h : Beats F L R a b s) (k : Beats F L R b c s) : Beats F L R a c s :=
  fun t ht => ⟨Int.le_trans (h t ht).1 (k t ht).1, Int.le_trans (h t ht).2 (k t ht).2⟩
theorem Beats.mono {F L R s s' : Int} {a b : Int × Int} (h : Beats F L R a b s) (hs : s ≤ s') : Beats F L R a b s' := fun t ht => h t (Int.le_trans hs ht)

theorem later_beats {F L R s : Int} {o k : Int × Int} (h : SagC F L R) (hok : o.1 ≤ k.1) (hks : k.1 ≤ s) (hh : hasK F L R k s ≤ hasK F L R o s) : Beats F L R k o s := by
  intro t ht
  have e1 := line_gap F L R k s; have e2 := line_gap F L R o s
  have e3 := line_gap F L R k t; have e4 := line_gap F L R o t
  have a1 := line_add R k s t; have a2 := line_add R o s t
  have c := gap_conc (a := s - o.1) (b := s - k.1) (d := t - s) h (by omega) (by omega) (by omega)
  have m := gap_mono (a := s - o.1) (b := s - k.1) h (by omega) (by omega)
  rw [show s - o.1 + (t - s) = t - o.1 by omega, show s - k.1 + (t - s) = t - k.1 by omega] at c
  exact ⟨by omega, by omega⟩
theorem earlier_beats {F L R s : Int} {o k : Int × Int} (h : SagC F L R) (hok : o.1 ≤ k.1) (hks : k.1 ≤ s) (hh : lineK R o s ≤ lineK R k s) : Beats F L R o k s := by
  intro t ht
  have e3 := line_gap F L R k t; have e4 := line_gap F L R o t
  have a1 := line_add R k s t; have a2 := line_add R o s t
  have m := gap_mono (a := t - o.1) (b := t - k.1) h (by omega) (by omega)
  exact ⟨by omega, by omega⟩

/-- the copies that are left when the last ones that v says go, of the first n -/
def popN (v : Int × Int → Bool) (l : List (Int × Int)) : Nat → List (Int × Int)
  | 0 => []
  | n + 1 => if (match l[n]? with | some o => v o | none => false) then popN v l n else l.take (n + 1)

theorem popN_spec (v : Int × Int → Bool) (l : List (Int × Int)) : ∀ n, ∃ m, m ≤ n ∧ popN v l n = l.take m ∧ (∀ j o, m ≤ j → j < n → l[j]? = some o → v o = true) ∧ (∀ j o, m = j + 1 → l[j]? = some o → v o = false) := by
  intro n
  induction n with
  | zero => exact ⟨0, Nat.le_refl _, by simp [popN], fun j o h1 h2 => by omega, fun j o h => by omega⟩
  | succ n ih =>
    unfold popN
    by_cases hc : (match l[n]? with | some o => v o | none => false) = true
    · rw [if_pos hc]
      obtain ⟨m, hm, he, h1, h2⟩ := ih
      refine ⟨m, by omega, he, fun j o hj hj2 ho => ?_, h2⟩
      by_cases hjn : j = n
      · subst hjn; rw [ho] at hc; exact hc
      · exact h1 j o hj (by omega) ho
    · rw [if_neg hc]
      refine ⟨n + 1, Nat.le_refl _, rfl, fun j o h1 h2 => by omega, fun j o hj ho => ?_⟩
      obtain rfl : j = n := by omega
      rw [ho] at hc
      simpa using hc

/-- one more copy is tried, at the tick s -/
def push1 (F L R s : Int) (out : List (Int × Int)) (k : Int × Int) : List (Int × Int) :=
  let o := popN (fun o => decide (hasK F L R k s ≤ hasK F L R o s)) out out.length
  match o.getLast? with
  | some p => if lineK R p s ≤ lineK R k s then o else o ++ [k]
  | none => o ++ [k]

def startK (F L R s : Int) (K : List (Int × Int)) (k : Int × Int) : List (Int × Int) := (K ++ [k]).foldl (push1 F L R s) []

/-- each of A is beaten by one of K -/
def Cov (F L R s : Int) (K A : List (Int × Int)) : Prop := ∀ a ∈ A, ∃ k ∈ K, Beats F L R k a s

theorem push1_ok {F L R s : Int} {out P : List (Int × Int)} {k : Int × Int} (h : SagC F L R) (hok : ∀ o ∈ out, o.1 ≤ k.1) (hks : k.1 ≤ s) (hsub : out.Sublist P) (hc : Cov F L R s out P) :
    (push1 F L R s out k).Sublist (P ++ [k]) ∧ Cov F L R s (push1 F L R s out k) (P ++ [k]) := by
  obtain ⟨m, hm, he, h1, h2⟩ := popN_spec (fun o => decide (hasK F L R k s ≤ hasK F L R o s)) out out.length
  unfold push1
  rw [he]
  have hts : (out.take m).Sublist P := (List.take_sublist _ _).trans hsub
  -- what is popped is beaten by k
  have hp : ∀ o ∈ out, o ∈ out.take m ∨ Beats F L R k o s := by
    intro o ho
    obtain ⟨j, hj, rfl⟩ := List.mem_iff_getElem.1 ho
    by_cases hjm : j < m
    · exact .inl (List.mem_iff_getElem.2 ⟨j, by rw [List.length_take]; omega, by rw [List.getElem_take]⟩)
    · have := h1 j out[j] (by omega) hj (by simp [hj])
      exact .inr (later_beats h (hok _ ho) hks (of_decide_eq_true this))
  have happ : (out.take m ++ [k]).Sublist (P ++ [k]) ∧ Cov F L R s (out.take m ++ [k]) (P ++ [k]) := by
    refine ⟨hts.append (List.Sublist.refl _), fun a ha => ?_⟩
    rcases List.mem_append.1 ha with ha | ha
    · obtain ⟨o, ho, hb⟩ := hc a ha
      rcases hp o ho with h3 | h3
      · exact ⟨o, List.mem_append_left _ h3, hb⟩
      · exact ⟨k, by simp, h3.trans hb⟩
    · obtain rfl : a = k := by simpa using ha
      exact ⟨a, by simp, Beats.refl _ _⟩
  cases hl : (out.take m).getLast? with
  | none => simpa [hl] using happ
  | some p =>
    simp only [hl]
    by_cases hline : lineK R p s ≤ lineK R k s
    · rw [if_pos hline]
      have hpm : p ∈ out.take m := List.mem_of_getLast? hl
      have hpo : p ∈ out := List.mem_of_mem_take hpm
      have hb := earlier_beats h (hok p hpo) hks hline
      refine ⟨hts.trans (List.sublist_append_left _ _), fun a ha => ?_⟩
      rcases List.mem_append.1 ha with ha | ha
      · obtain ⟨o, ho, hb2⟩ := hc a ha
        rcases hp o ho with h3 | h3
        · exact ⟨o, h3, hb2⟩
        · exact ⟨p, hpm, (hb.trans h3).trans hb2⟩
      · obtain rfl : a = k := by simpa using ha
        exact ⟨p, hpm, hb⟩
    · rw [if_neg hline]; exact happ

theorem fold_ok {F L R s : Int} (h : SagC F L R) : ∀ (l P out : List (Int × Int)), (P ++ l).Pairwise (fun a b => a.1 ≤ b.1) → (∀ k ∈ l, k.1 ≤ s) → out.Sublist P → Cov F L R s out P →
    (l.foldl (push1 F L R s) out).Sublist (P ++ l) ∧ Cov F L R s (l.foldl (push1 F L R s) out) (P ++ l)
  | [], P, out, _, _, hsub, hc => by simpa using ⟨hsub, hc⟩
  | k :: l, P, out, hp, hs, hsub, hc => by
    have hle : ∀ o ∈ out, o.1 ≤ k.1 := fun o ho => (List.pairwise_append.1 hp).2.2 o (hsub.subset ho) k (by simp)
    have h1 := push1_ok h hle (hs k (by simp)) hsub hc
    have h2 := fold_ok h l (P ++ [k]) (push1 F L R s out k) (by simpa using hp) (fun x hx => hs x (by simp [hx])) h1.1 h1.2
    simpa using h2

/-- what a run knows: K are kept of the copies A that started, the last one at s -/
structure Run (F L R s : Int) (K A : List (Int × Int)) : Prop where
  sub : K.Sublist A
  cov : Cov F L R s K A
  sort : A.Pairwise (fun a b => a.1 ≤ b.1)
  le : ∀ a ∈ A, a.1 ≤ s

theorem Run.nil (F L R s : Int) : Run F L R s [] [] := ⟨List.Sublist.refl _, (by intro a ha; simp at ha), List.Pairwise.nil, (by intro a ha; simp at ha)⟩
theorem Run.start {F L R s s' y : Int} {K A : List (Int × Int)} (h : SagC F L R) (r : Run F L R s K A) (hs : s ≤ s') : Run F L R s' (startK F L R s' K (s', y)) (A ++ [(s', y)]) := by
  have hsub : (K ++ [(s', y)]).Sublist (A ++ [(s', y)]) := r.sub.append (List.Sublist.refl _)
  have hle : ∀ a ∈ A ++ [(s', y)], a.1 ≤ s' := by
    intro a ha
    rcases List.mem_append.1 ha with ha | ha
    · exact Int.le_trans (r.le a ha) hs
    · obtain rfl : a = (s', y) := by simpa using ha
      exact Int.le_refl _
  have hsort : (A ++ [(s', y)]).Pairwise (fun a b => a.1 ≤ b.1) := by
    refine List.pairwise_append.2 ⟨r.sort, by simp, fun a ha b hb => ?_⟩
    obtain rfl : b = (s', y) := by simpa using hb
    exact Int.le_trans (r.le a ha) hs
  have h1 := fold_ok (s := s') h (K ++ [(s', y)]) [] [] (by simpa using hsort.sublist hsub) (fun k hk => hle k (hsub.subset hk)) (List.Sublist.refl _) (by intro a ha; simp at ha)
  simp only [List.nil_append] at h1
  refine ⟨h1.1.trans hsub, fun a ha => ?_, hsort, hle⟩
  have hcov : ∃ k ∈ K ++ [(s', y)], Beats F L R k a s' := by
    rcases List.mem_append.1 ha with ha | ha
    · obtain ⟨k, hk, hb⟩ := r.cov a ha
      exact ⟨k, List.mem_append_left _ hk, hb.mono hs⟩
    · exact ⟨a, List.mem_append_right _ ha, Beats.refl _ _⟩
  obtain ⟨k, hk, hb⟩ := hcov
  obtain ⟨k2, hk2, hb2⟩ := h1.2 k hk
  exact ⟨k2, hk2, hb2.trans hb⟩

/-- the least of g, and of m -/
def minF (g : Int × Int → Int) (m : Int) (l : List (Int × Int)) : Int := l.foldl (fun m k => min m (g k)) m
theorem minF_le_start (g : Int × Int → Int) : ∀ (l : List (Int × Int)) (m : Int), minF g m l ≤ m
  | [], m => Int.le_refl _
  | k :: l, m => by
    have := minF_le_start g l (min m (g k))
    unfold minF at *
    simp only [List.foldl_cons]
    omega
theorem minF_le (g : Int × Int → Int) : ∀ (l : List (Int × Int)) (m : Int) (k : Int × Int), k ∈ l → minF g m l ≤ g k
  | x :: l, m, k, hk => by
    have h1 := minF_le_start g l (min m (g x))
    rcases List.mem_cons.1 hk with rfl | hk
    · unfold minF at *; simp only [List.foldl_cons]; omega
    · have := minF_le g l (min m (g x)) k hk
      unfold minF at *; simp only [List.foldl_cons]; omega
theorem le_minF (g : Int × Int → Int) (b : Int) : ∀ (l : List (Int × Int)) (m : Int), b ≤ m → (∀ k ∈ l, b ≤ g k) → b ≤ minF g m l
  | [], m, hm, _ => hm
  | k :: l, m, hm, h => by
    have h1 := h k (by simp)
    have := le_minF g b l (min m (g k)) (by omega) (fun x hx => h x (by simp [hx]))
    unfold minF at *; simpa using this
theorem minF_eq (g : Int × Int → Int) (m : Int) {K A : List (Int × Int)} (h1 : ∀ k ∈ K, k ∈ A) (h2 : ∀ a ∈ A, ∃ k ∈ K, g k ≤ g a) : minF g m K = minF g m A := by
  apply Int.le_antisymm
  · refine le_minF g _ A m (minF_le_start g K m) fun a ha => ?_
    obtain ⟨k, hk, hg⟩ := h2 a ha
    exact Int.le_trans (minF_le g K m k hk) hg
  · exact le_minF g _ K m (minF_le_start g A m) fun k hk => minF_le g A m k (h1 k hk)

/-- what a run has, and its line: as the program tells them -/
def atK (F L R t : Int) (k : Int × Int) : Int := cap (k.2 + cap (W F L R (t - k.1)))
def linK (R t : Int) (k : Int × Int) : Int := cap (k.2 + cap (R * (t - k.1)))
theorem atK_has {F L R t : Int} {k : Int × Int} (h : 0 ≤ k.2) : atK F L R t k = cap (hasK F L R k t) := by unfold atK hasK cap; omega
theorem linK_line {R t : Int} {k : Int × Int} (h : 0 ≤ k.2) : linK R t k = cap (lineK R k t) := by unfold linK lineK cap; omega
theorem cap_mono {a b : Int} (h : a ≤ b) : cap a ≤ cap b := by unfold cap; omega

theorem Run.least {F L R s t : Int} {K A : List (Int × Int)} (r : Run F L R s K A) (hy : ∀ a ∈ A, 0 ≤ a.2) (ht : s ≤ t) :
    minF (atK F L R t) 4611686018427387904 K = minF (atK F L R t) 4611686018427387904 A ∧ minF (linK R t) 4611686018427387904 K = minF (linK R t) 4611686018427387904 A := by
  constructor
  · refine minF_eq _ _ (fun k hk => r.sub.subset hk) fun a ha => ?_
    obtain ⟨k, hk, hb⟩ := r.cov a ha
    refine ⟨k, hk, ?_⟩
    rw [atK_has (hy _ (r.sub.subset hk)), atK_has (hy _ ha)]
    exact cap_mono (hb t ht).1
  · refine minF_eq _ _ (fun k hk => r.sub.subset hk) fun a ha => ?_
    obtain ⟨k, hk, hb⟩ := r.cov a ha
    refine ⟨k, hk, ?_⟩
    rw [linK_line (hy _ (r.sub.subset hk)), linK_line (hy _ ha)]
    exact cap_mono (hb t ht).2

theorem Run.some {F L R s : Int} {K A : List (Int × Int)} (r : Run F L R s K A) (hA : A ≠ []) : 1 ≤ K.length ∧ K.length ≤ A.length := by
  refine ⟨?_, r.sub.length_le⟩
  obtain ⟨a, ha⟩ := List.exists_mem_of_ne_nil A hA
  obtain ⟨k, hk, _⟩ := r.cov a ha
  exact List.length_pos_of_mem hk

/-- where all corners are behind just one is kept -/
theorem push1_one {F L R s : Int} {out : List (Int × Int)} {k : Int × Int} (h : SagC F L R) (hout : out.length ≤ 1) (ho : ∀ o ∈ out, L ≤ s - o.1) (hk : L ≤ s - k.1) : (push1 F L R s out k).length = 1 := by
  have e1 := line_gap F L R k s
  rw [gap_late h hk] at e1
  match out, hout with
  | [], _ => rfl
  | [o], _ =>
    have e2 := line_gap F L R o s
    rw [gap_late h (ho o (by simp))] at e2
    by_cases hh : hasK F L R k s ≤ hasK F L R o s
    · simp [push1, popN, hh]
    · have : lineK R o s ≤ lineK R k s := by omega
      simp [push1, popN, hh, this]
theorem push1_mem {F L R s : Int} {out : List (Int × Int)} {k o : Int × Int} (h : o ∈ push1 F L R s out k) : o ∈ out ∨ o = k := by
  obtain ⟨m, _, he, _, _⟩ := popN_spec (fun o => decide (hasK F L R k s ≤ hasK F L R o s)) out out.length
  unfold push1 at h
  rw [he] at h
  have hin : o ∈ out.take m ++ [k] → o ∈ out ∨ o = k := fun h => by
    rcases List.mem_append.1 h with h | h
    · exact .inl (List.mem_of_mem_take h)
    · exact .inr (by simpa using h)
  cases hl : (out.take m).getLast? with
  | none => simp only [hl] at h; exact hin h
  | some p =>
    simp only [hl] at h
    split at h
    · exact .inl (List.mem_of_mem_take h)
    · exact hin h
theorem fold_one {F L R s : Int} (h : SagC F L R) : ∀ (l out : List (Int × Int)), out.length ≤ 1 → (∀ o ∈ out, L ≤ s - o.1) → (∀ k ∈ l, L ≤ s - k.1) → (l.foldl (push1 F L R s) out).length ≤ 1
  | [], out, h1, _, _ => h1
  | k :: l, out, h1, h2, h3 => by
    refine fold_one h l _ (Nat.le_of_eq (push1_one h h1 h2 (h3 k (by simp)))) (fun o ho => ?_) (fun x hx => h3 x (by simp [hx]))
    rcases push1_mem ho with ho | rfl
    · exact h2 o ho
    · exact h3 _ (by simp)
theorem start_one {F L R s : Int} {K : List (Int × Int)} {k : Int × Int} (h : SagC F L R) (hK : ∀ o ∈ K, L ≤ s - o.1) (hk : L ≤ s - k.1) : (startK F L R s K k).length ≤ 1 :=
  fold_one h _ [] (by simp) (by intro o ho; simp at ho) (by
    intro o ho
    rcases List.mem_append.1 ho with ho | ho
    · exact hK o ho
    · obtain rfl : o = k := by simpa using ho
      exact hk)

end Go.Proofs.YtbnnkkojlclgjaaGreat
/-
  The plain law of a sagging run, part 2: when it has so much, and its line; how far the line is above. No program in sight.
-/
namespace Go.Proofs.YtbnnkkojlclgjaaGreat
set_option linter.unusedVariables false

/-- the last of the ticks at which each copy has y, by what it needs from its start on -/
def lastL (needs : Int → Int) (y : Int) : List (Int × Int) → Int → Int
  | [], a => a
  | k :: K, a => if 9223372036854775808 - k.1 ≤ needs (less y k.2) then 9223372036854775808 else lastL needs y K (max a (k.1 + needs (less y k.2)))
def lastAt (needs : Int → Int) (y : Int) (K : List (Int × Int)) (s : Int) : Int := if 4611686018427387904 < y then 9223372036854775808 else lastL needs y K s

theorem lastL_never (needs : Int → Int) (y : Int) : ∀ (K : List (Int × Int)) (a : Int), a ≤ 9223372036854775808 → lastL needs y K a ≤ 9223372036854775808
  | [], a, h => h
  | k :: K, a, h => by
    unfold lastL
    split
    · exact Int.le_refl _
    · exact lastL_never needs y K _ (by omega)
theorem lastL_le {n1 n2 : Int → Int} {y : Int} (hn : ∀ m, 0 ≤ m → m ≤ 4611686018427387904 → n1 m ≤ n2 m) : ∀ (K : List (Int × Int)) (a b : Int), a ≤ b → a ≤ 9223372036854775808 → lastL n1 y K a ≤ lastL n2 y K b
  | [], a, b, h, _ => h
  | k :: K, a, b, h, ha => by
    have h0 : 0 ≤ less y k.2 := U_less.1
    have h1 : less y k.2 ≤ 4611686018427387904 := by unfold less cap; omega
    have h2 := hn _ h0 h1
    unfold lastL
    by_cases c1 : 9223372036854775808 - k.1 ≤ n1 (less y k.2)
    · rw [if_pos c1, if_pos (by omega)]; exact Int.le_refl _
    · rw [if_neg c1]
      by_cases c2 : 9223372036854775808 - k.1 ≤ n2 (less y k.2)
      · rw [if_pos c2]; exact lastL_never _ _ _ _ (by omega)
      · rw [if_neg c2]; exact lastL_le hn K _ _ (by omega) (by omega)

/-- r is the first tick at which f is m, or it never is -/
def FirstF (f : Int → Int) (m r : Int) : Prop :=
  (r = 9223372036854775808 ∧ ∀ t, 0 ≤ t → f t < m) ∨ (0 ≤ r ∧ m ≤ f r ∧ ∀ t, 0 ≤ t → t < r → f t < m)

theorem lastL_spec {f needs : Int → Int} {y : Int} (hn : ∀ m, 0 ≤ m → m ≤ 4611686018427387904 → FirstF f m (needs m)) (hf : ∀ t, 0 ≤ t → 0 ≤ f t) (hm : ∀ t u, 0 ≤ t → t ≤ u → f t ≤ f u) (hy : y ≤ 4611686018427387904) :
    ∀ (K : List (Int × Int)) (a : Int), (∀ k ∈ K, 0 ≤ k.1 ∧ k.1 ≤ a ∧ 0 ≤ k.2) →
    (lastL needs y K a = 9223372036854775808 ∧ ∃ k ∈ K, ∀ t, k.1 ≤ t → t < 9223372036854775808 → k.2 + f (t - k.1) < y) ∨
    (a ≤ lastL needs y K a ∧ (∀ k ∈ K, y ≤ k.2 + f (lastL needs y K a - k.1)) ∧ (lastL needs y K a = a ∨ ∃ k ∈ K, ∀ t, k.1 ≤ t → t < lastL needs y K a → k.2 + f (t - k.1) < y))
  | [], a, _ => .inr ⟨Int.le_refl _, (by intro k hk; simp at hk), .inl rfl⟩
  | k :: K, a, hK => by
    obtain ⟨hk0, hka, hk2⟩ := hK k (by simp)
    have h0 : 0 ≤ less y k.2 := U_less.1
    have h1 : less y k.2 ≤ 4611686018427387904 := by unfold less cap; omega
    have h2 : 0 < less y k.2 → less y k.2 = y - k.2 := by unfold less cap; intro h; omega
    have h3 : y ≤ k.2 + less y k.2 := by unfold less cap; omega
    have hF := hn _ h0 h1
    unfold lastL
    by_cases c1 : 9223372036854775808 - k.1 ≤ needs (less y k.2)
    · rw [if_pos c1]
      refine .inl ⟨rfl, k, by simp, fun t ht htn => ?_⟩
      have hlt : f (t - k.1) < less y k.2 := by
        rcases hF with ⟨_, h4⟩ | ⟨_, _, h4⟩
        · exact h4 _ (by omega)
        · exact h4 _ (by omega) (by omega)
      have := hf (t - k.1) (by omega)
      have := h2 (by omega)
      omega
    · rw [if_neg c1]
      obtain ⟨hr0, hr1, hr2⟩ : 0 ≤ needs (less y k.2) ∧ less y k.2 ≤ f (needs (less y k.2)) ∧ ∀ t, 0 ≤ t → t < needs (less y k.2) → f t < less y k.2 := by
        rcases hF with ⟨h4, _⟩ | h4
        · omega
        · exact h4
      generalize hnn : needs (less y k.2) = n at *
      rcases lastL_spec hn hf hm hy K (max a (k.1 + n)) (fun x hx => by have := hK x (by simp [hx]); exact ⟨this.1, by omega, this.2.2⟩) with ⟨e, x, hx, h4⟩ | ⟨e, h4, h5⟩
      · exact .inl ⟨e, x, by simp [hx], h4⟩
      · generalize lastL needs y K (max a (k.1 + n)) = r at *
        refine .inr ⟨by omega, fun x hx => ?_, ?_⟩
        · rcases List.mem_cons.1 hx with rfl | hx
          · have := hm n (r - x.1) hr0 (by omega)
            omega
          · exact h4 x hx
        · rcases h5 with h5 | ⟨x, hx, h5⟩
          · by_cases hc : r = a
            · exact .inl hc
            · refine .inr ⟨k, by simp, fun t ht htr => ?_⟩
              have hlt := hr2 (t - k.1) (by omega) (by omega)
              have := hf (t - k.1) (by omega)
              have := h2 (by omega)
              omega
          · exact .inr ⟨x, by simp [hx], h5⟩

/-- at the tick that lastAt tells all have y, a tick ahead not; v: the least of what all have -/
theorem back_any {f needs : Int → Int} {y s : Int} {K : List (Int × Int)} (v : Int → Int) (hn : ∀ m, 0 ≤ m → m ≤ 4611686018427387904 → FirstF f m (needs m)) (hf : ∀ t, 0 ≤ t → 0 ≤ f t) (hm : ∀ t u, 0 ≤ t → t ≤ u → f t ≤ f u)
    (hK : ∀ k ∈ K, 0 ≤ k.1 ∧ k.1 ≤ s ∧ 0 ≤ k.2) (hs : s ≤ 9223372036854775808)
    (hv1 : ∀ t, v t ≤ 4611686018427387904) (hv2 : ∀ t, s ≤ t → ∀ k ∈ K, v t ≤ k.2 + f (t - k.1)) (hv3 : ∀ t, s ≤ t → y ≤ 4611686018427387904 → (∀ k ∈ K, y ≤ k.2 + f (t - k.1)) → y ≤ v t) :
    (lastAt needs y K s = 9223372036854775808 → s < 9223372036854775808 → v 9223372036854775807 < y) ∧
    (lastAt needs y K s < 9223372036854775808 → s ≤ lastAt needs y K s ∧ y ≤ v (lastAt needs y K s) ∧ (s < lastAt needs y K s → v (lastAt needs y K s - 1) < y)) := by
  unfold lastAt
  by_cases hy : 4611686018427387904 < y
  · rw [if_pos hy]
    exact ⟨fun _ _ => by have := hv1 9223372036854775807; omega, fun h => by omega⟩
  · rw [if_neg hy]
    rcases lastL_spec (y := y) hn hf hm (by omega) K s hK with ⟨e, k, hk, h1⟩ | ⟨h0, h1, h2⟩
    · rw [e]
      refine ⟨fun _ h => ?_, fun h => by omega⟩
      have := h1 9223372036854775807 (by have := hK k hk; omega) (by omega)
      have := hv2 9223372036854775807 (by omega) k hk
      omega
    · generalize lastL needs y K s = r at *
      refine ⟨fun hr hs2 => ?_, fun hr => ⟨h0, hv3 r h0 (by omega) h1, fun hlt => ?_⟩⟩
      · rcases h2 with h2 | ⟨k, hk, h2⟩
        · omega
        · have := h2 9223372036854775807 (by have := hK k hk; omega) (by omega)
          have := hv2 9223372036854775807 (by omega) k hk
          omega
      · rcases h2 with h2 | ⟨k, hk, h2⟩
        · omega
        · have := h2 (r - 1) (by have := hK k hk; omega) (by omega)
          have := hv2 (r - 1) (by omega) k hk
          omega

end Go.Proofs.YtbnnkkojlclgjaaGreat
/-
  The plain law of a bent run: two lines' heights tell the least of what all copies have. No program in sight.
-/
namespace Go.Proofs.YtbnnkkojlclgjaaGreat
set_option linter.unusedVariables false

/-- a line of slope s, of height h at the tick x, tells for each later tick the least of the lines of all copies, each m above its copy's start -/
structure Below1 (s m x h : Int) (A : List (Int × Int)) : Prop where
  h0 : 0 ≤ h
  h1 : h ≤ 4611686018427387904
  eq : ∀ t, x ≤ t → cap (h + s * (t - x)) = minF (fun k => cap (k.2 + m + s * (t - k.1))) 4611686018427387904 A

theorem mul_split (s a b c : Int) : s * (c - a) = s * (b - a) + s * (c - b) := by rw [← Int.mul_add]; congr 1; omega

theorem Below1.first {s m x y : Int} (hs : 0 ≤ s) (hm : 0 ≤ m) (hy0 : 0 ≤ y) : Below1 s m x (cap (y + m)) [(x, y)] := by
  refine ⟨cap_nonneg (by omega), cap_le _, fun t ht => ?_⟩
  have := Int.mul_nonneg hs (show 0 ≤ t - x by omega)
  simp only [minF, List.foldl_cons, List.foldl_nil]
  unfold cap; split <;> split <;> (try split) <;> omega
theorem Below1.next {s m x x' y h : Int} {A : List (Int × Int)} (hs : 0 ≤ s) (hm : 0 ≤ m) (hy0 : 0 ≤ y) (hx : x ≤ x') (b : Below1 s m x h A) :
    Below1 s m x' (min (cap (h + cap (s * (x' - x)))) (cap (y + m))) (A ++ [(x', y)]) := by
  have b0 := b.h0
  have hd := Int.mul_nonneg hs (show 0 ≤ x' - x by omega)
  have c1 := cap_nonneg hd
  refine ⟨?_, ?_, fun t ht => ?_⟩
  · have := cap_nonneg (show 0 ≤ h + cap (s * (x' - x)) by omega); have := cap_nonneg (show 0 ≤ y + m by omega); omega
  · have := cap_le (y + m); omega
  · have h1 := b.eq t (by omega)
    have h2 : minF (fun k => cap (k.2 + m + s * (t - k.1))) 4611686018427387904 (A ++ [(x', y)]) = min (minF (fun k => cap (k.2 + m + s * (t - k.1))) 4611686018427387904 A) (cap (y + m + s * (t - x'))) := by
      simp [minF, List.foldl_append]
    rw [h2, ← h1, mul_split s x x' t]
    have hd2 := Int.mul_nonneg hs (show 0 ≤ t - x' by omega)
    generalize s * (x' - x) = d at *
    generalize s * (t - x') = e at *
    unfold cap; omega

/-- the least of two is the least of both -/
theorem minF_two (f g : Int × Int → Int) (m : Int) : ∀ (A : List (Int × Int)), min (minF f m A) (minF g m A) = minF (fun k => min (f k) (g k)) m A := by
  intro A
  apply Int.le_antisymm
  · refine le_minF _ _ A m ?_ fun k hk => ?_
    · have := minF_le_start f A m; omega
    · have := minF_le f A m k hk; have := minF_le g A m k hk
      omega
  · have h1 := le_minF f (minF (fun k => min (f k) (g k)) m A) A m (minF_le_start _ A m) fun k hk => by have := minF_le (fun k => min (f k) (g k)) A m k hk; omega
    have h2 := le_minF g (minF (fun k => min (f k) (g k)) m A) A m (minF_le_start _ A m) fun k hk => by have := minF_le (fun k => min (f k) (g k)) A m k hk; omega
    omega

/-- a curve that is bent: two lines -/
theorem W_bent {F L R u : Int} (h : R < F) (hL : 0 ≤ L) (hu : 0 ≤ u) : W F L R u = min (F * u) ((F - R) * L + R * u) := by
  by_cases hul : u ≤ L
  · rw [W_early hul]
    have : (F - R) * u ≤ (F - R) * L := Int.mul_le_mul_of_nonneg_left hul (by omega)
    rw [Int.sub_mul] at this
    rw [Int.sub_mul] at this ⊢
    omega
  · rw [W_late (by omega)]
    have : (F - R) * L ≤ (F - R) * u := Int.mul_le_mul_of_nonneg_left (by omega) (by omega)
    rw [Int.sub_mul, Int.sub_mul] at this
    rw [Int.sub_mul, Int.mul_sub]
    omega

theorem bent_at {F L R x t h1 h2 : Int} {A : List (Int × Int)} (h : R < F) (hL : 0 ≤ L) (hA : ∀ a ∈ A, a.1 ≤ x ∧ 0 ≤ a.2) (b1 : Below1 F 0 x h1 A) (b2 : Below1 R ((F - R) * L) x h2 A) (ht : x ≤ t) :
    min (cap (h1 + F * (t - x))) (cap (h2 + R * (t - x))) = minF (atK F L R t) 4611686018427387904 A := by
  rw [b1.eq t ht, b2.eq t ht, minF_two]
  have : ∀ (l : List (Int × Int)) (m : Int), (∀ a ∈ l, a.1 ≤ x ∧ 0 ≤ a.2) → minF (fun k => min (cap (k.2 + 0 + F * (t - k.1))) (cap (k.2 + (F - R) * L + R * (t - k.1)))) m l = minF (atK F L R t) m l := by
    intro l
    induction l with
    | nil => intro m _; rfl
    | cons k l ih =>
      intro m hl
      have hk := hl k (by simp)
      have e : min (cap (k.2 + 0 + F * (t - k.1))) (cap (k.2 + (F - R) * L + R * (t - k.1))) = atK F L R t k := by
        rw [atK_has hk.2]
        unfold hasK
        rw [W_bent h hL (by omega)]
        generalize F * (t - k.1) = p
        generalize (F - R) * L = q
        generalize R * (t - k.1) = r
        unfold cap; omega
      simp only [minF, List.foldl_cons] at ih ⊢
      rw [e]
      exact ih _ fun a ha => hl a (by simp [ha])
  exact this A _ hA

/-- how many ticks a line needs up to y -/
def untilL (s h y : Int) : Int := if y ≤ h then 0 else if s = 0 ∨ 4611686018427387904 < y then 9223372036854775808 else ceil (y - h) s

theorem untilL_bd {s h y : Int} (hs : 0 ≤ s) (hh : 0 ≤ h) : 0 ≤ untilL s h y ∧ untilL s h y ≤ 9223372036854775808 := by
  unfold untilL
  split
  · omega
  · split
    · omega
    · rename_i h1 h2
      have h3 := ceil_nonneg (y := y - h) (c := s) (by omega) (by omega)
      have h4 := ceil_le (y := y - h) (c := s) (by omega) (by omega)
      omega

theorem untilL_spec {s h y : Int} (hs : 0 ≤ s) (hh : 0 ≤ h) (hh1 : h ≤ 4611686018427387904) :
    (untilL s h y = 9223372036854775808 ∧ ∀ n, 0 ≤ n → cap (h + s * n) < y) ∨ (untilL s h y ≤ 4611686018427387904 ∧ (∀ n, untilL s h y ≤ n → y ≤ cap (h + s * n)) ∧ ∀ n, 0 ≤ n → n < untilL s h y → cap (h + s * n) < y) := by
  unfold untilL
  by_cases h1 : y ≤ h
  · rw [if_pos h1]
    refine .inr ⟨by omega, fun n hn => ?_, fun n h0 hn => by omega⟩
    have := Int.mul_nonneg hs hn
    unfold cap; split <;> omega
  · rw [if_neg h1]
    by_cases h2 : s = 0 ∨ 4611686018427387904 < y
    · rw [if_pos h2]
      refine .inl ⟨rfl, fun n hn => ?_⟩
      rcases h2 with h2 | h2
      · rw [h2, Int.zero_mul]; unfold cap; split <;> omega
      · have := cap_le (h + s * n); omega
    · rw [if_neg h2]
      have h3 := ceil_le (y := y - h) (c := s) (by omega) (by omega)
      have h4 := ceil_mul (y := y - h) (c := s) (by omega)
      refine .inr ⟨by omega, fun n hn => ?_, fun n h0 hn => ?_⟩
      · have := Int.mul_le_mul_of_nonneg_left hn hs
        unfold cap; split <;> omega
      · have := ceil_lt (y := y - h) (c := s) (t := n) (by omega) hn
        unfold cap; split <;> omega

/-- what is known of a tick at which v has y, or of Never -/
def Back (v : Int → Int) (x y n : Int) : Prop :=
  (n = 9223372036854775808 ∧ x < 9223372036854775808 ∧ v 9223372036854775807 < y) ∨ (n = 9223372036854775808 ∧ x = 9223372036854775808) ∨
  (n < 9223372036854775808 ∧ x = n ∧ y ≤ v n) ∨ (n < 9223372036854775808 ∧ x < n ∧ y ≤ v n ∧ v (n - 1) < y)
theorem Back.of {v : Int → Int} {x y n : Int} (hx : x ≤ 9223372036854775808) (hn : n ≤ 9223372036854775808) (h : (n = 9223372036854775808 → x < 9223372036854775808 → v 9223372036854775807 < y) ∧ (n < 9223372036854775808 → x ≤ n ∧ y ≤ v n ∧ (x < n → v (n - 1) < y))) : Back v x y n := by
  by_cases h1 : n = 9223372036854775808
  · by_cases h2 : x = 9223372036854775808
    · exact .inr (.inl ⟨h1, h2⟩)
    · exact .inl ⟨h1, by omega, h.1 h1 (by omega)⟩
  · have h3 := h.2 (by omega)
    by_cases h2 : x = n
    · exact .inr (.inr (.inl ⟨by omega, h2, h3.2.1⟩))
    · exact .inr (.inr (.inr ⟨by omega, by omega, h3.2.1, h3.2.2 (by omega)⟩))

/-- the tick at which both lines have y -/
def reachB (F R x h1 h2 y : Int) : Int :=
  if 9223372036854775808 - x ≤ max (untilL F h1 y) (untilL R h2 y) then 9223372036854775808 else x + max (untilL F h1 y) (untilL R h2 y)

theorem bent_back {F L R x y h1 h2 : Int} {A : List (Int × Int)} (h : R < F) (hR : 0 ≤ R) (hL : 0 ≤ L) (hx0 : 0 ≤ x) (hx1 : x ≤ 9223372036854775808) (hA : ∀ a ∈ A, a.1 ≤ x ∧ 0 ≤ a.2) (b1 : Below1 F 0 x h1 A) (b2 : Below1 R ((F - R) * L) x h2 A) :
    Back (fun t => minF (atK F L R (max t x)) 4611686018427387904 A) x y (reachB F R x h1 h2 y) := by
  have hv : ∀ t, x ≤ t → minF (atK F L R (max t x)) 4611686018427387904 A = min (cap (h1 + F * (t - x))) (cap (h2 + R * (t - x))) := fun t ht => by
    rw [Int.max_eq_left ht, bent_at h hL hA b1 b2 ht]
  have s1 := untilL_spec (y := y) (show 0 ≤ F by omega) b1.h0 b1.h1
  have s2 := untilL_spec (y := y) hR b2.h0 b2.h1
  have d1 := untilL_bd (y := y) (show 0 ≤ F by omega) b1.h0
  have d2 := untilL_bd (y := y) hR b2.h0
  unfold reachB
  generalize untilL F h1 y = u1 at *
  generalize untilL R h2 y = u2 at *
  by_cases hn : 9223372036854775808 - x ≤ max u1 u2
  · rw [if_pos hn]
    refine Back.of hx1 (Int.le_refl _) ⟨fun _ hlt => ?_, fun hh => by omega⟩
    rw [hv _ (by omega)]
    rcases Int.lt_or_le u1 (9223372036854775808 - x) with hu | hu
    · rcases s2 with ⟨_, e⟩ | ⟨_, _, e⟩
      · have := e (9223372036854775807 - x) (by omega); omega
      · have := e (9223372036854775807 - x) (by omega) (by omega); omega
    · rcases s1 with ⟨_, e⟩ | ⟨_, _, e⟩
      · have := e (9223372036854775807 - x) (by omega); omega
      · have := e (9223372036854775807 - x) (by omega) (by omega); omega
  · rw [if_neg hn]
    refine Back.of hx1 (by omega) ⟨fun hh => by omega, fun _ => ⟨by omega, ?_, fun hlt => ?_⟩⟩
    · rw [hv _ (by omega)]
      rcases s1 with ⟨e, _⟩ | ⟨_, e1, _⟩
      · omega
      · rcases s2 with ⟨e, _⟩ | ⟨_, e2, _⟩
        · omega
        · have := e1 (x + max u1 u2 - x) (by omega); have := e2 (x + max u1 u2 - x) (by omega)
          omega
    · rw [hv _ (by omega)]
      rcases Int.lt_or_le u1 (max u1 u2) with hu | hu
      · rcases s2 with ⟨e, _⟩ | ⟨_, _, e⟩
        · omega
        · have := e (x + max u1 u2 - 1 - x) (by omega) (by omega); omega
      · rcases s1 with ⟨e, _⟩ | ⟨_, _, e⟩
        · omega
        · have := e (x + max u1 u2 - 1 - x) (by omega) (by omega); omega

end Go.Proofs.YtbnnkkojlclgjaaGreat
/-
  The plain laws of runs of either kind: what a run has behind a tick is at most what E has then, and what the curve has. No program in sight.
-/
namespace Go.Proofs.YtbnnkkojlclgjaaGreat
set_option linter.unusedVariables false

theorem minF_at (g : Int × Int → Int) : ∀ (l : List (Int × Int)) (m : Int), minF g m l = m ∨ ∃ k ∈ l, minF g m l = g k
  | [], m => .inl rfl
  | k :: l, m => by
    have h : minF g m (k :: l) = minF g (min m (g k)) l := rfl
    rw [h]
    rcases minF_at g l (min m (g k)) with h1 | ⟨j, hj, h1⟩
    · by_cases h2 : m ≤ g k
      · exact .inl (by omega)
      · exact .inr ⟨k, by simp, by omega⟩
    · exact .inr ⟨j, by simp [hj], h1⟩
theorem minF_snoc (g : Int × Int → Int) (m : Int) (A : List (Int × Int)) (a : Int × Int) : minF g m (A ++ [a]) = min (minF g m A) (g a) := by
  simp [minF, List.foldl_append]
theorem minF_more (g : Int × Int → Int) (m : Int) (A B : List (Int × Int)) : minF g m (A ++ B) ≤ minF g m A := by
  unfold minF
  rw [List.foldl_append]
  exact minF_le_start g B _
theorem minF_mono {f g : Int × Int → Int} {m : Int} {A : List (Int × Int)} (h : ∀ a ∈ A, f a ≤ g a) : minF f m A ≤ minF g m A :=
  le_minF g _ A m (minF_le_start f A m) fun k hk => Int.le_trans (minF_le f A m k hk) (h k hk)

/-- what a run has, and what E has -/
def vA (F L R : Int) (A : List (Int × Int)) (t : Int) : Int := minF (atK F L R t) 4611686018427387904 A
def vL (R : Int) (A : List (Int × Int)) (t : Int) : Int := minF (linK R t) 4611686018427387904 A
def vE (F L R : Int) (A : List (Int × Int)) (t : Int) : Int := if R < F then vA F L R A t else vL R A t

section
variable {F L R x : Int} {A : List (Int × Int)}
theorem vA_mono (h : MayC F L R) (hA : ∀ a ∈ A, a.1 ≤ x ∧ 0 ≤ a.2) {t u : Int} (ht : x ≤ t) (htu : t ≤ u) : vA F L R A t ≤ vA F L R A u := by
  refine minF_mono fun a ha => ?_
  rw [atK_has (hA a ha).2, atK_has (hA a ha).2]
  refine cap_mono ?_
  unfold hasK
  have := W_mono h.f0 h.r0 (F := F) (L := L) (R := R) (show t - a.1 ≤ u - a.1 by omega)
  omega
theorem vL_mono (hR : 0 ≤ R) (hA : ∀ a ∈ A, a.1 ≤ x ∧ 0 ≤ a.2) {t u : Int} (ht : x ≤ t) (htu : t ≤ u) : vL R A t ≤ vL R A u := by
  refine minF_mono fun a ha => ?_
  rw [linK_line (hA a ha).2, linK_line (hA a ha).2]
  refine cap_mono ?_
  unfold lineK
  have := Int.mul_le_mul_of_nonneg_left (show t - a.1 ≤ u - a.1 by omega) hR
  omega
theorem vE_mono (h : MayC F L R) (hA : ∀ a ∈ A, a.1 ≤ x ∧ 0 ≤ a.2) {t u : Int} (ht : x ≤ t) (htu : t ≤ u) : vE F L R A t ≤ vE F L R A u := by
  unfold vE; split
  · exact vA_mono h hA ht htu
  · exact vL_mono h.r0 hA ht htu
theorem vA_le {t : Int} : vA F L R A t ≤ 4611686018427387904 := minF_le_start _ _ _
theorem vA_nonneg (h : MayC F L R) (hA : ∀ a ∈ A, a.1 ≤ x ∧ 0 ≤ a.2) {t : Int} (ht : x ≤ t) : 0 ≤ vA F L R A t := by
  refine le_minF _ 0 A _ (by omega) fun a ha => ?_
  rw [atK_has (hA a ha).2]
  refine cap_nonneg ?_
  unfold hasK
  have := W_nonneg h.f0 h.r0 h.l0 (t := t - a.1) (by have := hA a ha; omega)
  have := hA a ha
  omega
theorem vL_nonneg (hR : 0 ≤ R) (hA : ∀ a ∈ A, a.1 ≤ x ∧ 0 ≤ a.2) {t : Int} (ht : x ≤ t) : 0 ≤ vL R A t := by
  refine le_minF _ 0 A _ (by omega) fun a ha => ?_
  rw [linK_line (hA a ha).2]
  refine cap_nonneg ?_
  unfold lineK
  have := hA a ha
  have := Int.mul_nonneg hR (show 0 ≤ t - a.1 by omega)
  omega
theorem vE_nonneg (h : MayC F L R) (hA : ∀ a ∈ A, a.1 ≤ x ∧ 0 ≤ a.2) {t : Int} (ht : x ≤ t) : 0 ≤ vE F L R A t := by
  unfold vE; split
  · exact vA_nonneg h hA ht
  · exact vL_nonneg h.r0 hA ht
theorem vE_le {t : Int} : vE F L R A t ≤ 4611686018427387904 := by unfold vE; split <;> exact minF_le_start _ _ _

/-- E is at least what the run has -/
theorem vA_vE (h : MayC F L R) (hA : ∀ a ∈ A, a.1 ≤ x ∧ 0 ≤ a.2) {t : Int} (ht : x ≤ t) : vA F L R A t ≤ vE F L R A t := by
  unfold vE; split
  · exact Int.le_refl _
  · rename_i hs
    refine minF_mono fun a ha => ?_
    have hk := hA a ha
    rw [atK_has hk.2, linK_line hk.2]
    refine cap_mono ?_
    rw [line_gap F L R]
    have := gap_nonneg (F := F) (L := L) (R := R) ⟨h, .inr (by omega)⟩ (show 0 ≤ t - a.1 by omega)
    omega

theorem W_sub_bent (h : MayC F L R) (hb : R < F) {u d : Int} (hu : 0 ≤ u) (hd : 0 ≤ d) : W F L R (u + d) ≤ W F L R u + W F L R d := by
  rw [W_bent hb h.l0 (show 0 ≤ u + d by omega), W_bent hb h.l0 hu, W_bent hb h.l0 hd, Int.mul_add, Int.mul_add]
  have h1 := Int.mul_le_mul_of_nonneg_right (show R ≤ F by omega) hu
  have h2 := Int.mul_le_mul_of_nonneg_right (show R ≤ F by omega) hd
  have h3 := Int.mul_nonneg (show 0 ≤ F - R by omega) h.l0
  omega
theorem W_sub_sag (h : MayC F L R) (hs : F ≤ R) {u d : Int} (hu : 0 ≤ u) (hd : 0 ≤ d) : W F L R (u + d) ≤ R * u + W F L R d := by
  rw [W_gap, W_gap F L R d, Int.mul_add]
  have := gap_mono (F := F) (L := L) (R := R) (a := u + d) (b := d) ⟨h, .inr hs⟩ hd (by omega)
  omega

/-- what a run has d ticks behind t is at most what E has at t, and what the curve has at d -/
theorem ahead_law (h : MayC F L R) (hA : ∀ a ∈ A, a.1 ≤ x ∧ 0 ≤ a.2) {t d : Int} (ht : x ≤ t) (hd : 0 ≤ d) : vA F L R A (t + d) ≤ cap (vE F L R A t + W F L R d) := by
  have w0 := W_nonneg h.f0 h.r0 h.l0 hd
  have hle : vA F L R A (t + d) ≤ 4611686018427387904 := minF_le_start _ _ _
  by_cases hb : R < F
  · have e : vE F L R A t = vA F L R A t := if_pos hb
    rw [e]
    rcases minF_at (atK F L R t) A 4611686018427387904 with h1 | ⟨a, ha, h1⟩
    · have e2 : vA F L R A t = 4611686018427387904 := h1
      rw [e2]; unfold cap; split <;> omega
    · have e2 : vA F L R A t = atK F L R t a := h1
      have hk := hA a ha
      have h3 : vA F L R A (t + d) ≤ atK F L R (t + d) a := minF_le _ A _ a ha
      rw [atK_has hk.2] at h3
      rw [e2, atK_has hk.2]
      have h4 := W_sub_bent h hb (show 0 ≤ t - a.1 by omega) hd
      rw [show t - a.1 + d = t + d - a.1 by omega] at h4
      have h5 := W_nonneg h.f0 h.r0 h.l0 (t := t - a.1) (by omega)
      unfold hasK at *
      generalize W F L R (t + d - a.1) = p at *
      generalize W F L R (t - a.1) = q at *
      generalize W F L R d = r at *
      unfold cap at *; omega
  · have e : vE F L R A t = vL R A t := if_neg hb
    rw [e]
    rcases minF_at (linK R t) A 4611686018427387904 with h1 | ⟨a, ha, h1⟩
    · have e2 : vL R A t = 4611686018427387904 := h1
      rw [e2]; unfold cap; split <;> omega
    · have e2 : vL R A t = linK R t a := h1
      have hk := hA a ha
      have h3 : vA F L R A (t + d) ≤ atK F L R (t + d) a := minF_le _ A _ a ha
      rw [atK_has hk.2] at h3
      rw [e2, linK_line hk.2]
      have h4 := W_sub_sag h (show F ≤ R by omega) (show 0 ≤ t - a.1 by omega) hd
      rw [show t - a.1 + d = t + d - a.1 by omega] at h4
      have h5 := Int.mul_nonneg h.r0 (show 0 ≤ t - a.1 by omega)
      unfold hasK at *
      unfold lineK
      generalize W F L R (t + d - a.1) = p at *
      generalize R * (t - a.1) = q at *
      generalize W F L R d = r at *
      unfold cap at *; omega
end

section
variable {v : Int → Int} {x y n : Int}
theorem Back.gt (h : Back v x y n) (hm : ∀ t u, x ≤ t → t ≤ u → v t ≤ v u) {s : Int} (hs : x ≤ s) (hsn : s < n) : v s < y := by
  rcases h with ⟨h1, h2, h3⟩ | ⟨h1, h2⟩ | ⟨h1, h2, h3⟩ | ⟨h1, h2, h3, h4⟩
  · have := hm s 9223372036854775807 hs (by omega); omega
  · omega
  · omega
  · have := hm s (n - 1) hs (by omega); omega
theorem Back.le (h : Back v x y n) (hm : ∀ t u, x ≤ t → t ≤ u → v t ≤ v u) {e : Int} (hne : n ≤ e) (he : e < 9223372036854775808) : x ≤ n ∧ y ≤ v e := by
  rcases h with ⟨h1, h2, h3⟩ | ⟨h1, h2⟩ | ⟨h1, h2, h3⟩ | ⟨h1, h2, h3, h4⟩
  · omega
  · omega
  · have := hm n e (by omega) hne; exact ⟨by omega, by omega⟩
  · have := hm n e (by omega) hne; exact ⟨by omega, by omega⟩
theorem Back.x_le (h : Back v x y n) : x ≤ n := by
  rcases h with ⟨h1, h2, h3⟩ | ⟨h1, h2⟩ | ⟨h1, h2, h3⟩ | ⟨h1, h2, h3, h4⟩ <;> omega
theorem Back.le_never (h : Back v x y n) : n ≤ 9223372036854775808 := by
  rcases h with ⟨h1, h2, h3⟩ | ⟨h1, h2⟩ | ⟨h1, h2, h3⟩ | ⟨h1, h2, h3, h4⟩ <;> omega
/-- of two, the greater one has so much earlier -/
theorem Back.less {w : Int → Int} {m : Int} (h : Back v x y n) (k : Back w x y m) (hm : ∀ t u, x ≤ t → t ≤ u → w t ≤ w u) (hvw : ∀ t, x ≤ t → v t ≤ w t) : m ≤ n := by
  have hk := k.le_never
  rcases Int.lt_or_le n m with hlt | hle
  · exfalso
    have h1 := h.x_le
    have h2 : n < 9223372036854775808 := by omega
    have h3 := k.gt hm h1 hlt
    have h4 := hvw n h1
    rcases h with ⟨a, _⟩ | ⟨a, _⟩ | ⟨_, _, a⟩ | ⟨_, _, a, _⟩ <;> omega
  · exact hle
end

end Go.Proofs.YtbnnkkojlclgjaaGreat
/-
  The plain laws of the document's answer: the least of all copies without an end, stopped, is what a run has; a search by halves.
-/
namespace Go.Proofs.YtbnnkkojlclgjaaGreat
set_option linter.unusedVariables false

theorem cap_min (a b : Int) : cap (min a b) = min (cap a) (cap b) := by unfold cap; omega
/-- the least of all copies at a tick, from m on, as the document goes through them -/
def leastW (F L R t : Int) (m : Int) (A : List (Int × Int)) : Int := A.foldl (fun m k => if hasK F L R k t < m then hasK F L R k t else m) m
theorem leastW_cap (F L R t : Int) : ∀ (A : List (Int × Int)) (m : Int), cap (leastW F L R t m A) = minF (fun k => cap (hasK F L R k t)) (cap m) A
  | [], m => rfl
  | k :: A, m => by
    have h := leastW_cap F L R t A (if hasK F L R k t < m then hasK F L R k t else m)
    have e : leastW F L R t m (k :: A) = leastW F L R t (if hasK F L R k t < m then hasK F L R k t else m) A := rfl
    have e2 : minF (fun k => cap (hasK F L R k t)) (cap m) (k :: A) = minF (fun k => cap (hasK F L R k t)) (min (cap m) (cap (hasK F L R k t))) A := rfl
    rw [e, h, e2, ← cap_min]
    congr 1
    congr 1
    split <;> omega
theorem leastW_nonneg {F L R t : Int} : ∀ (A : List (Int × Int)) (m : Int), 0 ≤ m → (∀ a ∈ A, 0 ≤ hasK F L R a t) → 0 ≤ leastW F L R t m A ∧ leastW F L R t m A ≤ m
  | [], m, h, _ => ⟨h, Int.le_refl _⟩
  | k :: A, m, h, hA => by
    have hk := hA k (List.mem_cons_self ..)
    have h2 := leastW_nonneg A (if hasK F L R k t < m then hasK F L R k t else m) (by split <;> omega) (fun a ha => hA a (List.mem_cons_of_mem _ ha))
    have e : leastW F L R t m (k :: A) = leastW F L R t (if hasK F L R k t < m then hasK F L R k t else m) A := rfl
    rw [e]
    refine ⟨h2.1, Int.le_trans h2.2 ?_⟩
    split <;> omega
theorem leastW_snoc (F L R t m : Int) (A : List (Int × Int)) (k : Int × Int) : leastW F L R t m (A ++ [k]) = if hasK F L R k t < leastW F L R t m A then hasK F L R k t else leastW F L R t m A := by
  unfold leastW
  rw [List.foldl_append]
  rfl
theorem minF_congr {f g : Int × Int → Int} : ∀ (A : List (Int × Int)) (m : Int), (∀ a ∈ A, f a = g a) → minF f m A = minF g m A
  | [], m, _ => rfl
  | k :: A, m, h => by
    have e : minF f m (k :: A) = minF f (min m (f k)) A := rfl
    have e2 : minF g m (k :: A) = minF g (min m (g k)) A := rfl
    rw [e, e2, h k (List.mem_cons_self ..), minF_congr A _ (fun a ha => h a (List.mem_cons_of_mem _ ha))]
theorem vA_leastW {F L R t : Int} {a : Int × Int} {B : List (Int × Int)} (h : ∀ k ∈ a :: B, 0 ≤ k.2) : vA F L R (a :: B) t = cap (leastW F L R t (hasK F L R a t) B) := by
  rw [leastW_cap]
  have e : vA F L R (a :: B) t = minF (atK F L R t) (min 4611686018427387904 (atK F L R t a)) B := rfl
  rw [e, atK_has (h a (List.mem_cons_self ..))]
  have e2 : min 4611686018427387904 (cap (hasK F L R a t)) = cap (hasK F L R a t) := by unfold cap; omega
  rw [e2]
  exact minF_congr B _ fun k hk => atK_has (h k (List.mem_cons_of_mem _ hk))

/-- a tick found by halves -/
theorem halves_back {v : Int → Int} {x y n : Int} (hx : x ≤ n) (hn : n ≤ 9223372036854775807) (h1 : y ≤ v n) (h2 : x < n → v (n - 1) < y) : Back v x y n :=
  Back.of (by omega) (by omega) ⟨fun h => by omega, fun _ => ⟨hx, h1, h2⟩⟩

end Go.Proofs.YtbnnkkojlclgjaaGreat
/-
  The contracts of layer 1: comparing, adding and multiplying numbers of 128 bits.
-/
namespace Go.Proofs.YtbnnkkojlclgjaaGreat
set_option linter.unusedVariables false
open Go.RowKit

theorem compare_any (a b : Int) (w : World) :
    Calls Tryz.prog 164 #[.int .u64 a, .int .u64 b] w fun e w' => e = .returned (.int .i64 (cmpI a b)) ∧ w = w' := by
  go_enter Tryz.func164, Tryz.ntmps164
  go_wp2
  all_goals go_ret
  · exact ⟨ret_int (cmpI_lt (by assumption)).symm, rfl⟩
  · exact ⟨ret_int (cmpI_gt (by assumption)).symm, rfl⟩
  · exact ⟨ret_int (cmpI_eq (by omega)).symm, rfl⟩

theorem cmp_any (a b c d : Int) (w : World) (hb : U b) (hd : U d) :
    Calls Tryz.prog 158 #[.agg #[.int .u64 a, .int .u64 b], .agg #[.int .u64 c, .int .u64 d]] w fun e w' => e = .returned (.int .i64 (cmpI (num a b) (num c d))) ∧ Below w.heap.size w w' := by
  go_enter Tryz.func158, Tryz.ntmps158
  go_wp2_with (go_at_call 164; refine (compare_any _ _ _).mono ?_; rintro e w' ⟨rfl, rfl⟩)
  all_goals go_ret
  · exact ⟨ret_int (cmpI_hi (cmpI_ne (by assumption)) hb hd), by go_grown⟩
  · have h := cmpI_same (by assumption)
    subst h
    exact ⟨ret_int cmpI_lo, by go_grown⟩


/-- wide.Mul's memory: the two factors' halves, and the parts of the product. -/
def MW (w W : World) (x0 x1 y0 y1 v0 v1 v2 v3 : Int) : Prop :=
  Blk W w.heap.size 153 #[.int .u64 0, .int .u64 0] ∧ Blk W (w.heap.size + 1) 188 #[.int .u64 x0, .int .u64 x1] ∧ Blk W (w.heap.size + 1 + 1) 188 #[.int .u64 y0, .int .u64 y1] ∧
  Blk W (w.heap.size + 1 + 1 + 1) 199 #[.int .u64 v0, .int .u64 v1, .int .u64 v2, .int .u64 v3] ∧ Below w.heap.size w W

theorem MW.start (w : World) (x0 x1 y0 y1 : Int) : MW w ((((w.alloc (.cells #[.int .u64 0, .int .u64 0] 153)).alloc (.cells #[.int .u64 x0, .int .u64 x1] 188)).alloc (.cells #[.int .u64 y0, .int .u64 y1] 188)).alloc (.cells #[.int .u64 0, .int .u64 0, .int .u64 0, .int .u64 0] 199)) x0 x1 y0 y1 0 0 0 0 := by
  refine ⟨(((Blk.new w _ _).alloc _).alloc _).alloc _, ?_, ?_, ?_, ?_⟩
  · have h := (((Blk.new (w.alloc (.cells #[.int .u64 0, .int .u64 0] 153)) 188 #[.int .u64 x0, .int .u64 x1])).alloc (.cells #[.int .u64 y0, .int .u64 y1] 188)).alloc (.cells #[.int .u64 0, .int .u64 0, .int .u64 0, .int .u64 0] 199)
    simpa using h
  · have h := (Blk.new ((w.alloc (.cells #[.int .u64 0, .int .u64 0] 153)).alloc (.cells #[.int .u64 x0, .int .u64 x1] 188)) 188 #[.int .u64 y0, .int .u64 y1]).alloc (.cells #[.int .u64 0, .int .u64 0, .int .u64 0, .int .u64 0] 199)
    simpa using h
  · have h := Blk.new (((w.alloc (.cells #[.int .u64 0, .int .u64 0] 153)).alloc (.cells #[.int .u64 x0, .int .u64 x1] 188)).alloc (.cells #[.int .u64 y0, .int .u64 y1] 188)) 199 #[.int .u64 0, .int .u64 0, .int .u64 0, .int .u64 0]
    simpa using h
  · go_grown

theorem MW.set_ {w W : World} {x0 x1 y0 y1 v0 v1 v2 v3 : Int} (h : MW w W x0 x1 y0 y1 v0 v1 v2 v3) (n i : Nat) (u v0' v1' v2' v3' : Int)
    (hs : (#[.int .u64 v0, .int .u64 v1, .int .u64 v2, .int .u64 v3] : Array Value).setIfInBounds i (.int .u64 u) = #[.int .u64 v0', .int .u64 v1', .int .u64 v2', .int .u64 v3']) :
    MW w ((W.drewN n).setCell ⟨w.heap.size + 1 + 1 + 1, i, none⟩ (.int .u64 u)) x0 x1 y0 y1 v0' v1' v2' v3' := by
  obtain ⟨h0, h1, h2, h3, hb⟩ := h
  exact ⟨(h0.drewN n).far (by simp; omega) _, (h1.drewN n).far (by simp) _, (h2.drewN n).far (by simp) _, by rw [← hs]; exact (h3.drewN n).set_ i _, (below_drewN hb n).setCell (by simp; omega) _⟩
theorem MW.set0 {w W : World} {x0 x1 y0 y1 v0 v1 v2 v3 : Int} (h : MW w W x0 x1 y0 y1 v0 v1 v2 v3) (i : Nat) (u v0' v1' v2' v3' : Int)
    (hs : (#[.int .u64 v0, .int .u64 v1, .int .u64 v2, .int .u64 v3] : Array Value).setIfInBounds i (.int .u64 u) = #[.int .u64 v0', .int .u64 v1', .int .u64 v2', .int .u64 v3']) :
    MW w (W.setCell ⟨w.heap.size + 1 + 1 + 1, i, none⟩ (.int .u64 u)) x0 x1 y0 y1 v0' v1' v2' v3' := h.set_ 0 i u v0' v1' v2' v3' hs

theorem MW.result {w W : World} {x0 x1 y0 y1 v0 v1 v2 v3 : Int} (h : MW w W x0 x1 y0 y1 v0 v1 v2 v3) :
    W.cell? ⟨w.heap.size, 0, none⟩ = some (.int .u64 0) ∧ W.cell? ⟨w.heap.size, 1, none⟩ = some (.int .u64 0) ∧ W.frozen? ⟨w.heap.size, 0, none⟩ = false ∧ W.frozen? ⟨w.heap.size, 1, none⟩ = false :=
  ⟨h.1.cell 0, h.1.cell 1, h.1.frozen 0, h.1.frozen 1⟩
theorem MW.facts {w W : World} {x0 x1 y0 y1 v0 v1 v2 v3 : Int} (h : MW w W x0 x1 y0 y1 v0 v1 v2 v3) :
    W.cell? ⟨w.heap.size + 1, 0, none⟩ = some (.int .u64 x0) ∧ W.cell? ⟨w.heap.size + 1, 1, none⟩ = some (.int .u64 x1) ∧
    W.cell? ⟨w.heap.size + 1 + 1, 0, none⟩ = some (.int .u64 y0) ∧ W.cell? ⟨w.heap.size + 1 + 1, 1, none⟩ = some (.int .u64 y1) ∧
    W.cell? ⟨w.heap.size + 1 + 1 + 1, 0, none⟩ = some (.int .u64 v0) ∧ W.cell? ⟨w.heap.size + 1 + 1 + 1, 1, none⟩ = some (.int .u64 v1) ∧
    W.cell? ⟨w.heap.size + 1 + 1 + 1, 2, none⟩ = some (.int .u64 v2) ∧ W.cell? ⟨w.heap.size + 1 + 1 + 1, 3, none⟩ = some (.int .u64 v3) ∧
    W.frozen? ⟨w.heap.size + 1 + 1 + 1, 0, none⟩ = false ∧ W.frozen? ⟨w.heap.size + 1 + 1 + 1, 1, none⟩ = false ∧ W.frozen? ⟨w.heap.size + 1 + 1 + 1, 2, none⟩ = false ∧ W.frozen? ⟨w.heap.size + 1 + 1 + 1, 3, none⟩ = false ∧
    MW w W x0 x1 y0 y1 v0 v1 v2 v3 := by
  obtain ⟨h0, h1, h2, h3, hb⟩ := id h
  exact ⟨h1.cell 0, h1.cell 1, h2.cell 0, h2.cell 1, h3.cell 0, h3.cell 1, h3.cell 2, h3.cell 3, h3.frozen 0, h3.frozen 1, h3.frozen 2, h3.frozen 3, h⟩

set_option maxHeartbeats 400000 in
theorem mul_walk (a b x0 x1 y0 y1 t00 p0 c0 u01 t01 p1 c1 u10 t10 q1 c2 u11 s11 t11 p2 c3 s3 s1 h l : Int) (w : World)
    (m1 : bits .and .u64 a 4294967295 = x0) (d1 : a / 4294967296 = x1) (m2 : bits .and .u64 b 4294967295 = y0) (d2 : b / 4294967296 = y1)
    (e00 : IntKind.u64.wrap (x0 * y0) = t00) (w00 : IntKind.u64.wrap t00 = t00) (m00 : bits .and .u64 t00 4294967295 = p0) (d00 : t00 / 4294967296 = c0)
    (e01 : IntKind.u64.wrap (x0 * y1) = u01) (w01 : IntKind.u64.wrap u01 = u01) (f01 : IntKind.u64.wrap (u01 + c0) = t01) (m01 : bits .and .u64 t01 4294967295 = p1) (d01 : t01 / 4294967296 = c1)
    (e10 : IntKind.u64.wrap (x1 * y0) = u10) (f10 : IntKind.u64.wrap (u10 + p1) = t10) (w10 : IntKind.u64.wrap t10 = t10) (m10 : bits .and .u64 t10 4294967295 = q1) (d10 : t10 / 4294967296 = c2)
    (e11 : IntKind.u64.wrap (x1 * y1) = u11) (f11 : IntKind.u64.wrap (u11 + c1) = s11) (g11 : IntKind.u64.wrap (s11 + c2) = t11) (m11 : bits .and .u64 t11 4294967295 = p2) (d11 : t11 / 4294967296 = c3)
    (k3 : IntKind.u64.wrap (c3 * 4294967296) = s3) (o3 : bits .or .u64 s3 p2 = h) (k1 : IntKind.u64.wrap (q1 * 4294967296) = s1) (o1 : bits .or .u64 s1 p0 = l) :
    Calls Tryz.prog 141 #[.int .u64 a, .int .u64 b] w fun e w' => e = .returned (.agg #[.int .u64 h, .int .u64 l]) ∧ Below w.heap.size w w' := by
  go_enter Tryz.func141, Tryz.ntmps141
  go_wp2
  refine wp_gen (fun W => MW w W x0 x1 y0 y1 0 0 0 0) (MW.start w x0 x1 y0 y1) ?_
  rintro W1 hm
  obtain ⟨c10, c11, c20, c21, c30, c31, c32, c33, f0, f1, f2, f3, hm⟩ := hm.facts
  have HM := Lib.hid hm; clear hm
  refine wp_loop_rounds 3 ?_
  rw [rounds_succ]
  go_wp2
  refine wp_loop_rounds 3 ?_
  rw [rounds_succ]
  go_wp2
  go_quiet (fail)
  go_wp2
  clear c10 c11 c20 c21 c30 c31 c32 c33 f0 f1 f2 f3
  rw [rounds_succ]
  refine wp_gen (fun W => MW w W x0 x1 y0 y1 p0 0 0 0) (by exact HM.out.set_ _ _ _ p0 0 0 0 rfl) ?_
  clear HM
  rintro W2 hm
  obtain ⟨c10, c11, c20, c21, c30, c31, c32, c33, f0, f1, f2, f3, hm⟩ := hm.facts
  have HM := Lib.hid hm; clear hm
  go_wp2
  go_quiet (fail)
  go_wp2
  clear c10 c11 c20 c21 c30 c31 c32 c33 f0 f1 f2 f3
  rw [rounds_succ]
  refine wp_gen (fun W => MW w W x0 x1 y0 y1 p0 p1 0 0) (by exact HM.out.set_ _ _ _ p0 p1 0 0 rfl) ?_
  clear HM
  rintro W3 hm
  obtain ⟨c10, c11, c20, c21, c30, c31, c32, c33, f0, f1, f2, f3, hm⟩ := hm.facts
  have HM := Lib.hid hm; clear hm
  go_wp2
  clear c10 c11 c20 c21 c30 c31 c32 c33 f0 f1 f2 f3
  rw [rounds_succ]
  refine wp_gen (fun W => MW w W x0 x1 y0 y1 p0 p1 c1 0) (by exact HM.out.set0 _ _ p0 p1 c1 0 rfl) ?_
  clear HM
  rintro W4 hm
  obtain ⟨c10, c11, c20, c21, c30, c31, c32, c33, f0, f1, f2, f3, hm⟩ := hm.facts
  have HM := Lib.hid hm; clear hm
  go_wp2
  refine wp_loop_rounds 3 ?_
  rw [rounds_succ]
  go_wp2
  go_quiet (fail)
  go_wp2
  clear c10 c11 c20 c21 c30 c31 c32 c33 f0 f1 f2 f3
  rw [rounds_succ]
  refine wp_gen (fun W => MW w W x0 x1 y0 y1 p0 q1 c1 0) (by exact HM.out.set_ _ _ _ p0 q1 c1 0 rfl) ?_
  clear HM
  rintro W5 hm
  obtain ⟨c10, c11, c20, c21, c30, c31, c32, c33, f0, f1, f2, f3, hm⟩ := hm.facts
  have HM := Lib.hid hm; clear hm
  go_wp2
  go_quiet (fail)
  go_wp2
  clear c10 c11 c20 c21 c30 c31 c32 c33 f0 f1 f2 f3
  rw [rounds_succ]
  refine wp_gen (fun W => MW w W x0 x1 y0 y1 p0 q1 p2 0) (by exact HM.out.set_ _ _ _ p0 q1 p2 0 rfl) ?_
  clear HM
  rintro W6 hm
  obtain ⟨c10, c11, c20, c21, c30, c31, c32, c33, f0, f1, f2, f3, hm⟩ := hm.facts
  have HM := Lib.hid hm; clear hm
  go_wp2
  clear c10 c11 c20 c21 c30 c31 c32 c33 f0 f1 f2 f3
  rw [rounds_succ]
  refine wp_gen (fun W => MW w W x0 x1 y0 y1 p0 q1 p2 c3) (by exact HM.out.set0 _ _ p0 q1 p2 c3 rfl) ?_
  clear HM
  rintro W7 hm
  obtain ⟨c10, c11, c20, c21, c30, c31, c32, c33, f0, f1, f2, f3, hm⟩ := hm.facts
  have HM := Lib.hid hm; clear hm
  obtain ⟨r0, r1, g0, g1⟩ := HM.out.result
  go_wp2
  have hb' := (HM.out.1.set_ 0 (.int .u64 h)).set_ 1 (.int .u64 l)
  have q0 := hb'.cell 0
  have q1 := hb'.cell 1
  simp at q0 q1
  refine bodyPost_ret (v := .agg #[.int .u64 h, .int .u64 l]) (by simp [results, Tryz.results141, go_sem, q0, q1]) rfl ⟨rfl, ?_⟩
  exact (HM.out.2.2.2.2.setCell (Nat.le_refl _) _).setCell (Nat.le_refl _) _

theorem mask_u64 (x : Int) (h : U x) : bits .and .u64 x 4294967295 = x % 4294967296 := by
  unfold U at h
  rw [u64_and x _ h.1 (by omega) (by decide) (by decide), show (4294967295 : Int).toNat = 2 ^ 32 - 1 from rfl, Nat.and_two_pow_sub_one_eq_mod]
  obtain ⟨n, rfl⟩ := Int.eq_ofNat_of_zero_le h.1
  simp
theorem or_u64 (x y : Int) (hx : 0 ≤ x) (hx' : x ≤ 4294967295) (hy : 0 ≤ y) (hy' : y ≤ 4294967295) : bits .or .u64 (x * 4294967296) y = x * 4294967296 + y := by
  rw [u64_or _ _ (by omega) (by omega) hy (by omega)]
  obtain ⟨n, rfl⟩ := Int.eq_ofNat_of_zero_le hx
  obtain ⟨m, rfl⟩ := Int.eq_ofNat_of_zero_le hy
  have h := Nat.shiftLeft_add_eq_or_of_lt (b := m) (i := 32) (by omega) n
  rw [Nat.shiftLeft_eq] at h
  have e : ((n : Int) * 4294967296).toNat = n * 2 ^ 32 := by omega
  rw [e, Int.toNat_natCast, ← h]
  omega
theorem wrap_u {x : Int} (h : U x) : IntKind.u64.wrap x = x := IntWalk.u64_in _ h

theorem prod_bd {x y : Int} (hx : 0 ≤ x) (hx' : x ≤ 4294967295) (hy : 0 ≤ y) (hy' : y ≤ 4294967295) : 0 ≤ x * y ∧ x * y ≤ 18446744065119617025 :=
  ⟨Int.mul_nonneg hx hy, by have := Int.mul_le_mul hx' hy' hy (by decide); omega⟩

theorem mul_any (a b : Int) (w : World) (ha : U a) (hb : U b) :
    Calls Tryz.prog 141 #[.int .u64 a, .int .u64 b] w fun e w' => e = .returned (.agg #[.int .u64 (hiW (a * b)), .int .u64 (loW (a * b))]) ∧ Below w.heap.size w w' := by
  have ha' := ha; have hb' := hb
  unfold U at ha' hb'
  have b00 := prod_bd (x := a % 4294967296) (y := b % 4294967296) (by omega) (by omega) (by omega) (by omega)
  have b01 := prod_bd (x := a % 4294967296) (y := b / 4294967296) (by omega) (by omega) (by omega) (by omega)
  have b10 := prod_bd (x := a / 4294967296) (y := b % 4294967296) (by omega) (by omega) (by omega) (by omega)
  have b11 := prod_bd (x := a / 4294967296) (y := b / 4294967296) (by omega) (by omega) (by omega) (by omega)
  have hx : a = a / 4294967296 * 4294967296 + a % 4294967296 := by omega
  have hy : b = b / 4294967296 * 4294967296 + b % 4294967296 := by omega
  have hab : a * b = (a / 4294967296 * (b / 4294967296)) * 18446744073709551616 + (a / 4294967296 * (b % 4294967296) + a % 4294967296 * (b / 4294967296)) * 4294967296 + a % 4294967296 * (b % 4294967296) := by
    have : a * b = (a / 4294967296 * 4294967296 + a % 4294967296) * (b / 4294967296 * 4294967296 + b % 4294967296) := by rw [← hx, ← hy]
    rw [this]
    generalize a / 4294967296 = x1
    generalize a % 4294967296 = x0
    generalize b / 4294967296 = y1
    generalize b % 4294967296 = y0
    have e1 : x1 * 4294967296 * (y1 * 4294967296) = x1 * y1 * 18446744073709551616 := by
      rw [Int.mul_assoc, Int.mul_left_comm 4294967296, ← Int.mul_assoc, show (4294967296 : Int) * 4294967296 = 18446744073709551616 from rfl]
    have e2 : x1 * 4294967296 * y0 = x1 * y0 * 4294967296 := Int.mul_right_comm _ _ _
    have e3 : x0 * (y1 * 4294967296) = x0 * y1 * 4294967296 := (Int.mul_assoc _ _ _).symm
    rw [Int.add_mul, Int.mul_add, Int.mul_add, e1, e2, e3]
    omega
  rw [hab]
  have m1 := mask_u64 a ha
  have m2 := mask_u64 b hb
  generalize h1 : a / 4294967296 = x1 at *
  generalize h2 : a % 4294967296 = x0 at *
  generalize h3 : b / 4294967296 = y1 at *
  generalize h4 : b % 4294967296 = y0 at *
  clear hab hx hy ha' hb'
  have r0 : 0 ≤ x0 ∧ x0 ≤ 4294967295 := by omega
  have hU : ∀ t : Int, 0 ≤ t → t ≤ 18446744073709551615 → U t := fun t h h' => ⟨h, h'⟩
  generalize g00 : x0 * y0 = t00 at *
  generalize g01 : x0 * y1 = u01 at *
  generalize g10 : x1 * y0 = u10 at *
  generalize g11 : x1 * y1 = u11 at *
  have H := mul_walk a b x0 x1 y0 y1 t00 (t00 % 4294967296) (t00 / 4294967296) u01 (u01 + t00 / 4294967296) ((u01 + t00 / 4294967296) % 4294967296) ((u01 + t00 / 4294967296) / 4294967296)
    u10 (u10 + (u01 + t00 / 4294967296) % 4294967296) ((u10 + (u01 + t00 / 4294967296) % 4294967296) % 4294967296) ((u10 + (u01 + t00 / 4294967296) % 4294967296) / 4294967296)
    u11 (u11 + (u01 + t00 / 4294967296) / 4294967296) (u11 + (u01 + t00 / 4294967296) / 4294967296 + (u10 + (u01 + t00 / 4294967296) % 4294967296) / 4294967296)
    ((u11 + (u01 + t00 / 4294967296) / 4294967296 + (u10 + (u01 + t00 / 4294967296) % 4294967296) / 4294967296) % 4294967296) ((u11 + (u01 + t00 / 4294967296) / 4294967296 + (u10 + (u01 + t00 / 4294967296) % 4294967296) / 4294967296) / 4294967296)
    ((u11 + (u01 + t00 / 4294967296) / 4294967296 + (u10 + (u01 + t00 / 4294967296) % 4294967296) / 4294967296) / 4294967296 * 4294967296) ((u10 + (u01 + t00 / 4294967296) % 4294967296) % 4294967296 * 4294967296)
    (hiW (u11 * 18446744073709551616 + (u10 + u01) * 4294967296 + t00)) (loW (u11 * 18446744073709551616 + (u10 + u01) * 4294967296 + t00)) w
    m1 h1 m2 h3 (by rw [g00]; exact wrap_u (hU _ (by omega) (by omega))) (wrap_u (hU _ (by omega) (by omega))) (mask_u64 _ (hU _ (by omega) (by omega))) rfl
    (by rw [g01]; exact wrap_u (hU _ (by omega) (by omega))) (wrap_u (hU _ (by omega) (by omega))) (wrap_u (hU _ (by omega) (by omega))) (mask_u64 _ (hU _ (by omega) (by omega))) rfl
    (by rw [g10]; exact wrap_u (hU _ (by omega) (by omega))) (wrap_u (hU _ (by omega) (by omega))) (wrap_u (hU _ (by omega) (by omega))) (mask_u64 _ (hU _ (by omega) (by omega))) rfl
    (by rw [g11]; exact wrap_u (hU _ (by omega) (by omega))) (wrap_u (hU _ (by omega) (by omega))) (wrap_u (hU _ (by omega) (by omega))) (mask_u64 _ (hU _ (by omega) (by omega))) rfl
    (wrap_u (hU _ (by omega) (by omega))) (by rw [or_u64 _ _ (by omega) (by omega) (by omega) (by omega)]; unfold hiW; omega) (wrap_u (hU _ (by omega) (by omega))) (by rw [or_u64 _ _ (by omega) (by omega) (by omega) (by omega)]; unfold loW; omega)
  exact H

theorem add64_run (x y c : Int) (w : World) (hx : U x) (hy : U y) (hc0 : 0 ≤ c) (hc : c ≤ 1) :
    (callFunc 166 #[.int .u64 x, .int .u64 y, .int .u64 c]).run Tryz.prog w = .ok (.value (.tuple #[.int .u64 (loW (x + y + c)), .int .u64 (hiW (x + y + c))])) w := by
  rw [run_callFunc_extern (e := add64Entry) Tryz.func166 (by kernel_rfl) (by kernel_rfl) (by kernel_rfl) (by kernel_rfl), run_add64 x y c hx.1 hy.1 hc0 hc]
  rfl

theorem carry {b d : Int} (hb : U b) (hd : U d) : 0 ≤ hiW (b + d) ∧ hiW (b + d) ≤ 1 := by unfold U at hb hd; unfold hiW; omega

theorem plus_any (a b c d : Int) (w : World) (ha : U a) (hb : U b) (hc : U c) (hd : U d) (hs : num a b + num c d < 340282366920938463463374607431768211456) :
    Calls Tryz.prog 163 #[.agg #[.int .u64 a, .int .u64 b], .agg #[.int .u64 c, .int .u64 d]] w fun e w' => e = .returned (.tuple #[.agg #[.int .u64 (hiW (num a b + num c d)), .int .u64 (loW (num a b + num c d))], .int .i64 0]) ∧ Below w.heap.size w w' := by
  have h1 : ∀ W, (callFunc 166 #[.int .u64 b, .int .u64 d, .int .u64 0]).run Tryz.prog W = .ok (.value (.tuple #[.int .u64 (loW (b + d)), .int .u64 (hiW (b + d))])) W := fun W => by
    have h := add64_run b d 0 W hb hd (by decide) (by decide)
    rwa [Int.add_zero] at h
  have h2 := fun W => add64_run a c (hiW (b + d)) W ha hc (carry hb hd).1 (carry hb hd).2
  have hz : hiW (a + c + hiW (b + d)) = 0 := by
    unfold U at ha hb hc hd; unfold num at hs; unfold hiW; omega
  have E1 : Hid (loW (a + c + hiW (b + d)) = hiW (num a b + num c d)) := by
    show _ = _; unfold U at ha hb hc hd; unfold num hiW loW; unfold num at hs; omega
  have E2 : Hid (loW (b + d) = loW (num a b + num c d)) := by
    show _ = _; unfold loW num; omega
  clear hs
  go_enter Tryz.func163, Tryz.ntmps163
  go_wp2
  go_returns
  rw [E1.out, E2.out]
  exact ⟨rfl, by go_grown⟩

end Go.Proofs.YtbnnkkojlclgjaaGreat
/-
  The laws of XReg inside a round of a loop over a function.
-/
namespace Go.Proofs.YtbnnkkojlclgjaaGreat
set_option linter.unusedVariables false
open Go.RowKit

section
variable {P : Program} {ops : Array Oper} {md : Region.Mode} {C : World → Prop} {n l₀ : Nat}

theorem wpIn_of_quiet {o : Oper} {a : Act} {K : Act → Prop} {K' : Act → World → Prop} {Q' : Exit → Act → World → Prop} {w : World} (hnd : ∀ c, o.op ≠ .defer c) (hw : C w) (h : ∀ a w', C w' → K a → K' a w') (hh : o.quiet P a C K) :
    o.wpIn (Fence.wide.inRound l₀) n P a w K' Q' := by
  obtain ⟨v, h1, h2⟩ := hh
  have h3 := h1 w hw
  unfold Oper.quietAt at h3
  refine ⟨fun _ _ => trivial, ?_⟩
  rw [show (Fence.wide.inRound l₀).round = some l₀ from rfl, Oper.semAt_some l₀ _ _ hnd]
  generalize (execOp a.eval o).run P w = r at *
  cases r with
  | ok x w' =>
    cases x <;> simp only [Oper.quietUpon] at h3 <;> simp only [Oper.uponIn]
    case value u =>
      obtain ⟨e1, e2⟩ := h3
      rw [e1, e2]
      exact h _ _ hw h2
    case skip =>
      obtain ⟨e1, e2⟩ := h3
      rw [e1, ← e2]
      exact h _ _ hw h2
    case enter f args =>
      obtain ⟨e1, hc⟩ := h3
      rw [e1]
      refine ⟨fun hd => by simp [Fence.inRound, Fence.wide] at hd, CallsIn.inRound l₀ (callsIn_wide.2 (hc.mono ?_))⟩
      rintro e w'' ⟨he, hw''⟩
      subst he
      exact h _ _ hw'' h2
  | halt x w' => simp only [Oper.quietUpon] at h3

theorem wpOpIn_of_qOp {i : Nat} {a : Act} {K : Act → Prop} {K' : Act → World → Prop} {Q' : Exit → Act → World → Prop} {w : World} (hnd : ∀ (j : Nat) (o : Oper), ops[j]? = some o → ∀ c, o.op ≠ .defer c) (hC : C w) (h : ∀ a w', C w' → K a → K' a w') (hh : qOp P ops C i K a) :
    wpOpIn (Fence.wide.inRound l₀) n P ops Q' i K' a w := by
  unfold qOp at hh
  unfold wpOpIn
  split
  · rename_i ho; simp only [ho] at hh; exact h _ _ hC hh
  · rename_i o ho
    simp only [ho] at hh
    split
    · rename_i hw; simp only [hw, if_true] at hh; exact wpIn_of_quiet (hnd i o ho) hC h hh
    · rename_i hw; simp only [hw] at hh; exact ⟨fun _ _ => trivial, h _ _ hC hh⟩

theorem anyIn_of_headQ {m g : Nat} {L : Array Bool → Act → Prop} {Q' : Exit → Act → World → Prop} (hnd : ∀ (j : Nat) (o : Oper), ops[j]? = some o → ∀ c, o.op ≠ .defer c)
    (hL : ∀ listed a w, C w → L listed a → wpAnyIn (Fence.wide.inRound l₀) n P md ops Q' g listed a w) :
    ∀ (f : Nat) (listed : Array Bool) (a : Act) (w : World), C w → headQ P md ops C m L f listed a → wpAnyIn (Fence.wide.inRound l₀) n P md ops Q' (f + g) listed a w
  | 0, listed, a, w, hw, h => by rw [Nat.zero_add]; exact hL _ _ _ hw h
  | f + 1, listed, a, w, hw, h => by
    rw [show f + 1 + g = (f + g) + 1 by omega]
    exact ⟨fun h0 => absurd h0 h.1, fun i hi => wpOpIn_of_qOp hnd hw (fun a' w' hw' h' => anyIn_of_headQ hnd hL f _ a' w' hw' h') (h.2 i hi).2⟩

theorem anyIn_of_seq {F : Fence} {Q' : Exit → Act → World → Prop} : ∀ (l : List Oper) (k : Nat) (listed : Array Bool) (a : Act) (w : World), (∀ j, l[j]? = ops[k + j]?) →
    Region.seqB md ops l.length k listed = true → wpListIn F n P ops Q' l a w → wpAnyIn F n P md ops Q' l.length listed a w
  | [], _, _, _, _, _, hB, h => ⟨by simpa [Region.seqB] using hB, h⟩
  | o :: l, k, listed, a, w, hl, hB, h => by
    have h0 : ops[k]? = some o := by simpa using (hl 0).symm
    simp only [List.length_cons, Region.seqB, Bool.and_eq_true, decide_eq_true_eq] at hB
    refine ⟨fun h1 => (by rw [hB.1] at h1; cases h1), fun i hi => ?_⟩
    rw [hB.1] at hi
    obtain rfl : i = k := by simpa using hi
    have hw : wpOpIn F n P ops Q' i (wpListIn F n P ops Q' l) a w := by unfold wpOpIn; simp only [h0]; exact h
    exact wpOpIn_mono (fun a' w' h' => anyIn_of_seq l (i + 1) _ a' w' (fun j => by have := hl (j + 1); simpa [Nat.add_assoc, Nat.add_comm 1 j] using this) hB.2 h') hw

theorem wpIn_region_quiet_tail {id : Nat} {Q : Exit → Act → World → Prop} {a : Act} {w : World} {l : List Oper} (m : Nat) (hnd : (l.all fun o => match o.op with | .defer _ => false | _ => true) = true)
    (hm : P.follows .mixedOrders = true) (hB : Region.lexTailB .any l.toArray m = true) (hC : C w.drew)
    (h : wpQuiet P l.toArray C (fun a' => ∀ w', C w' → wpListIn (Fence.wide.inRound l₀) n P l.toArray Q (l.drop m) a' w') (l.take m) a) : (Code.region id l.toArray true).wpIn (Fence.wide.inRound l₀) n P Q a w := by
  have hnd' : ∀ (j : Nat) (o : Oper), l.toArray[j]? = some o → ∀ c, o.op ≠ .defer c := fun j o ho c hc => by
    have h1 := List.all_eq_true.1 hnd o (List.mem_of_getElem? (by simpa using ho))
    simp [hc] at h1
  simp only [Region.lexTailB, Bool.and_eq_true, decide_eq_true_eq] at hB
  obtain ⟨⟨⟨⟨hsel, hn⟩, hs⟩, hc⟩, hlex⟩ := hB
  have hn' : m < l.length := by simpa using hn
  have htl : (l.take m).length = m := by simp; omega
  have hdl : (l.drop m).length = l.toArray.size - m := by simp
  have inv0 : HeadInv .any l.toArray m (Array.replicate l.toArray.size false) :=
    ⟨by simp, fun j oj _ hl => (by rw [getD_replicate_false] at hl; cases hl), fun t _ ht => getD_in (by simpa using ht) (getD_replicate_false _ _)⟩
  have H := headQ_lex (md := .any) (g := l.toArray.size - m) hsel hs hc hn (l.take m) 0 _ a (fun j hj => by
    have hj' : j < m := by rw [htl] at hj; exact hj
    simp [hj']) (by simpa using htl) inv0 (by rw [htl]; exact hlex) h
  refine wpIn_region_any hm ?_
  have := anyIn_of_headQ (n := n) (l₀ := l₀) (Q' := Q) (g := l.toArray.size - m) hnd' (fun listed a' w' hw' hL => by
    have := anyIn_of_seq (F := Fence.wide.inRound l₀) (n := n) (md := .any) (Q' := Q) (l.drop m) m listed a' w' (fun j => by simp [List.getElem?_drop]) (by rw [hdl]; exact hL.1) (hL.2 w' hw')
    rwa [hdl] at this) _ _ _ w.drew hC H
  rw [htl, show m + (l.toArray.size - m) = l.toArray.size by omega] at this
  exact this

theorem wpIn_region_over_tail {id : Nat} {Q : Exit → Act → World → Prop} {a : Act} {w : World} {l : List Oper} (m : Nat) (hnd : (l.all fun o => match o.op with | .defer _ => false | _ => true) = true)
    (hm : P.follows .mixedOrders = true) (hB : Region.lexTailB .any l.toArray m = true)
    (h : wpQuiet P l.toArray (fun w' => ∃ e, w' = over w e) (fun a' => ∀ w', (∃ e, w' = over w e) → wpListIn (Fence.wide.inRound l₀) n P l.toArray Q (l.drop m) a' w') (l.take m) a) : (Code.region id l.toArray true).wpIn (Fence.wide.inRound l₀) n P Q a w :=
  wpIn_region_quiet_tail (C := fun w' => ∃ e, w' = over w e) m hnd hm hB ⟨w.drew, eq_over ((Below.refl _ w).drew)⟩ h

end
end Go.Proofs.YtbnnkkojlclgjaaGreat
/-
  The contracts of layer 2: sums and products that stop at 2^62, and quotients of a word.
-/
namespace Go.Proofs.YtbnnkkojlclgjaaGreat
set_option linter.unusedVariables false
open Go.RowKit

theorem stopped_yes (n : Int) (w : World) :
    Calls Tryz.prog 138 #[.int .u64 n, .bool true] w fun e w' => e = .returned (.int .u64 4611686018427387904) ∧ w = w' := by
  go_enter Tryz.func138, Tryz.ntmps138
  go_wp2
  go_ret
  exact ⟨rfl, rfl⟩

theorem stopped_no (n : Int) (w : World) :
    Calls Tryz.prog 138 #[.int .u64 n, .bool false] w fun e w' => e = .returned (.int .u64 (cap n)) ∧ w = w' := by
  by_cases h : 4611686018427387904 < n
  · have E := cap_of_ge (n := n) (by omega)
    have H := Lib.hid E; clear E
    go_enter Tryz.func138, Tryz.ntmps138
    go_wp2
    go_ret
    exact ⟨ret_int H.out.symm, rfl⟩
  · have E := cap_of_le (n := n) (by omega)
    have H := Lib.hid E; clear E
    go_enter Tryz.func138, Tryz.ntmps138
    go_wp2
    go_ret
    exact ⟨ret_int H.out.symm, rfl⟩

/-- with the test as it stands -/
theorem stopped_any (n : Int) (b : Bool) (w : World) :
    Calls Tryz.prog 138 #[.int .u64 n, .bool b] w fun e w' => e = .returned (.int .u64 (if b = true then 4611686018427387904 else cap n)) ∧ w = w' := by
  cases b
  · exact stopped_no n w
  · exact stopped_yes n w

theorem rplus_any (a b : Int) (w : World) (ha : U a) (hb : U b) :
    Calls Tryz.prog 134 #[.int .u64 a, .int .u64 b] w fun e w' => e = .returned (.int .u64 (cap (a + b))) ∧ w = w' := by
  have hw : IntKind.u64.wrap (a + b) = if a + b ≤ 18446744073709551615 then a + b else a + b - 18446744073709551616 := by
    unfold U at ha hb; rw [IntKind.wrap_u64]; omega
  by_cases h : a + b ≤ 18446744073709551615
  · rw [if_pos h] at hw
    have hlt : decide (a + b < a) = false := by unfold U at ha hb; simp; omega
    clear h
    go_enter Tryz.func134, Tryz.ntmps134
    go_wp2_with (go_at_call 138; refine (stopped_no _ _).mono ?_; rintro e w' ⟨rfl, rfl⟩)
    go_ret
    exact ⟨rfl, rfl⟩
  · rw [if_neg h] at hw
    have hlt : decide (a + b - 18446744073709551616 < a) = true := by unfold U at ha hb; simp; omega
    have hc := cap_of_ge (n := a + b) (by omega)
    rw [hc]
    clear h hc
    generalize a + b - 18446744073709551616 = x at *
    go_enter Tryz.func134, Tryz.ntmps134
    go_wp2_with (go_at_call 138; refine (stopped_yes _ _).mono ?_; rintro e w' ⟨rfl, rfl⟩)
    go_ret
    exact ⟨rfl, rfl⟩

theorem minus_any (a b : Int) (w : World) (ha : U a) (hb : U b) :
    Calls Tryz.prog 161 #[.int .u64 a, .int .u64 b] w fun e w' => e = .returned (.int .u64 (less a b)) ∧ w = w' := by
  unfold U at ha hb
  by_cases h : a < b
  · have hl : less a b = 0 := by simp [less, h]
    rw [hl]; clear hl
    go_enter Tryz.func161, Tryz.ntmps161
    go_wp2
    go_ret
    exact ⟨rfl, rfl⟩
  · have hl : less a b = cap (a - b) := by simp [less, h]
    rw [hl]; clear hl
    go_enter Tryz.func161, Tryz.ntmps161
    go_wp2_with (go_at_call 138; refine (stopped_no _ _).mono ?_; rintro e w' ⟨rfl, rfl⟩)
    go_ret
    exact ⟨rfl, rfl⟩

theorem times_any (a b : Int) (w : World) (ha : U a) (hb : U b) :
    Calls Tryz.prog 137 #[.int .u64 a, .int .u64 b] w fun e w' => e = .returned (.int .u64 (cap (a * b))) ∧ Below w.heap.size w w' := by
  by_cases h : U (a * b)
  · have h1 := hi_small h
    have h2 := lo_small h
    clear h
    go_enter Tryz.func137, Tryz.ntmps137
    go_wp2_with (first
      | (go_at_call 141; refine (mul_any _ _ _ ha hb).mono ?_; rintro e w1 ⟨rfl, hb1⟩)
      | (go_at_call 138; refine (stopped_no _ _).mono ?_; rintro e w' ⟨rfl, rfl⟩))
    go_ret
    exact ⟨rfl, hb1.alloc hb1.size _⟩
  · have h1 : 0 < hiW (a * b) := by
      have := Int.mul_nonneg ha.1 hb.1
      unfold U at h; unfold hiW; omega
    have h2 := cap_of_ge (n := a * b) (by have := Int.mul_nonneg ha.1 hb.1; unfold U at h; omega)
    rw [h2]
    clear h h2
    go_enter Tryz.func137, Tryz.ntmps137
    go_wp2_with (first
      | (go_at_call 141; refine (mul_any _ _ _ ha hb).mono ?_; rintro e w1 ⟨rfl, hb1⟩)
      | (go_at_call 138; refine (stopped_yes _ _).mono ?_; rintro e w' ⟨rfl, rfl⟩))
    go_ret
    exact ⟨rfl, hb1.alloc hb1.size _⟩

end Go.Proofs.YtbnnkkojlclgjaaGreat
/-
  The contract of ratio.Up at a divisor of one factor: a quotient of a word, rounded up.
-/
namespace Go.Proofs.YtbnnkkojlclgjaaGreat
set_option linter.unusedVariables false
open Go.RowKit

theorem div64_word (lo y : Int) (w : World) (hy : 1 ≤ y) (hy' : U y) (hlo : U lo) :
    Calls Tryz.prog 143 #[.int .u64 0, .int .u64 lo, .int .u64 y] w fun e w' => e = .returned (.tuple #[.int .u64 (lo / y), .int .u64 (lo % y)]) ∧ Below w.heap.size w w' := by
  unfold U at hlo hy'
  obtain ⟨h0, h1⟩ := hlo
  have hy0 : (y == 0) = false := by simp; omega
  have hyp : (0 : Int) < y := by omega
  go_enter Tryz.func143, Tryz.ntmps143
  go_wp2
  go_quiet (fail)
  go_wp2
  go_ret2
  exact ⟨rfl, below_drewN (Below.refl _ _) _⟩

theorem div_none (h l : Int) (w : World) :
    Calls Tryz.prog 142 #[.agg #[.int .u64 h, .int .u64 l], .int .u64 0] w fun e w' => e = .returned (.tuple #[.int .u64 0, .int .u64 0, .int .i64 2]) ∧ Below w.heap.size w w' := by
  go_enter Tryz.func142, Tryz.ntmps142
  go_wp2
  go_ret3
  exact ⟨rfl, by go_grown⟩

theorem div_word (l y : Int) (w : World) (hy : 1 ≤ y) (hy' : U y) (hlo : U l) :
    Calls Tryz.prog 142 #[.agg #[.int .u64 0, .int .u64 l], .int .u64 y] w fun e w' => e = .returned (.tuple #[.int .u64 (l / y), .int .u64 (l % y), .int .i64 0]) ∧ Below w.heap.size w w' := by
  have hy0 : (y == 0) = false := by simp; omega
  go_enter Tryz.func142, Tryz.ntmps142
  go_wp2_with (go_at_call 143; refine (div64_word _ _ _ hy hy' hlo).mono ?_; rintro e w1 ⟨rfl, hb1⟩)
  go_ret3
  exact ⟨rfl, ((Below.refl _ _).alloc (Nat.le_refl _) _).trans (hb1.mono (by simp))⟩

theorem more_any (r : Int) (w : World) (hr : 0 ≤ r) :
    Calls Tryz.prog 139 #[.int .u64 r] w fun e w' => e = .returned (.int .u64 (few r)) ∧ w = w' := by
  by_cases h : 1 < r
  · have E := Lib.hid (show few r = 1 by simp [few, h])
    go_enter Tryz.func139, Tryz.ntmps139
    go_wp2
    go_ret
    exact ⟨ret_int E.out.symm, rfl⟩
  · have E := Lib.hid (show few r = r by simp [few, h])
    go_enter Tryz.func139, Tryz.ntmps139
    go_wp2
    all_goals go_ret
    all_goals exact ⟨ret_int (by rw [E.out]; try omega), rfl⟩

theorem of_none (a b : Int) (w : World) (ha : U a) (hb : U b) :
    Calls Tryz.prog 140 #[.agg #[.func (.func 139) #[] #[]], .int .u64 a, .int .u64 b, .int .u64 0] w fun e w' => e = .returned (.tuple #[.int .u64 0, .int .i64 2]) ∧ Below w.heap.size w w' := by
  go_enter Tryz.func140, Tryz.ntmps140
  go_wp2_with (first
    | (go_at_call 141; refine (mul_any _ _ _ ha hb).mono ?_; rintro e w1 ⟨rfl, hb1⟩; obtain ⟨hc1, hf1⟩ := bcell hb1; have hz1 : w.heap.size < w1.heap.size := (by have := hb1.size; simp at this; omega); simp only [World.size_alloc] at hc1 hf1)
    | (go_at_call 142; refine (div_none _ _ _).mono ?_; rintro e w2 ⟨rfl, hb2⟩; obtain ⟨hc2, hf2⟩ := bcell hb2; have hz2 := hb2.size))
  go_ret2
  exact ⟨rfl, ((Below.refl _ _).alloc (Nat.le_refl _) _).trans ((hb1.mono (by simp)).trans (hb2.mono (by omega)))⟩

theorem of_word (a c : Int) (w : World) (ha : U a) (hc : 1 ≤ c) (hc' : U c) :
    Calls Tryz.prog 140 #[.agg #[.func (.func 139) #[] #[]], .int .u64 a, .int .u64 1, .int .u64 c] w fun e w' => e = .returned (.tuple #[.int .u64 (cap (ceil a c)), .int .i64 0]) ∧ Below w.heap.size w w' := by
  have h1 := hi_small ha
  have h2 := lo_small ha
  have h3 : U (1 : Int) := ⟨by decide, by decide⟩
  go_enter Tryz.func140, Tryz.ntmps140
  go_wp2_with (first
    | (go_at_call 141; refine (mul_any _ _ _ ha h3).mono ?_; rintro e w1 ⟨rfl, hb1⟩; obtain ⟨hc1, hf1⟩ := bcell hb1; have hz1 : w.heap.size < w1.heap.size := (by have := hb1.size; simp at this; omega); simp only [World.size_alloc] at hc1 hf1)
    | (go_at_call 142; refine (div_word _ _ _ hc hc' ha).mono ?_; rintro e w2 ⟨rfl, hb2⟩; obtain ⟨hc2, hf2⟩ := bcell hb2; have hz2 := hb2.size)
    | (go_at_call 139; refine (more_any _ _ (Int.emod_nonneg _ (by omega))).mono ?_; rintro e w3 ⟨rfl, rfl⟩)
    | (go_at_call 134; refine (rplus_any _ _ _ (div_U ha hc) (U_few (Int.emod_nonneg _ (by omega)))).mono ?_; rintro e w4 ⟨rfl, rfl⟩))
  go_ret2
  rw [ceil_eq hc]
  exact ⟨rfl, ((Below.refl _ _).alloc (Nat.le_refl _) _).trans ((hb1.mono (by simp)).trans (hb2.mono (by omega)))⟩

theorem up_none (a b : Int) (w : World) (ha : U a) (hb : U b) :
    Calls Tryz.prog 136 #[.int .u64 a, .int .u64 b, .int .u64 0] w fun e w' => e = .returned (.tuple #[.int .u64 0, .int .i64 2]) ∧ Below w.heap.size w w' := by
  go_enter Tryz.func136, Tryz.ntmps136
  go_wp2_with (go_at_call 140; refine (of_none _ _ _ ha hb).mono ?_; rintro e w1 ⟨rfl, hb1⟩)
  go_ret2
  exact ⟨rfl, hb1⟩

theorem up_word (a c : Int) (w : World) (ha : U a) (hc : 1 ≤ c) (hc' : U c) :
    Calls Tryz.prog 136 #[.int .u64 a, .int .u64 1, .int .u64 c] w fun e w' => e = .returned (.tuple #[.int .u64 (cap (ceil a c)), .int .i64 0]) ∧ Below w.heap.size w w' := by
  go_enter Tryz.func136, Tryz.ntmps136
  go_wp2_with (go_at_call 140; refine (of_word _ _ _ ha hc hc').mono ?_; rintro e w1 ⟨rfl, hb1⟩)
  go_ret2
  exact ⟨rfl, hb1⟩

end Go.Proofs.YtbnnkkojlclgjaaGreat
