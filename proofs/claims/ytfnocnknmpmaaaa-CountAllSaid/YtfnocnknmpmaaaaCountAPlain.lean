/-
  CountAll: the plain law.
-/
import Derived.Test.YtfnocnknmpmaaaaCountWPlain
namespace Go.Proofs.Ytfnocnknmpmaaaa
set_option linter.unusedVariables false
open Go.RowKit

/-- a field of the classes 1 to 60 together -/
def totF (B : Bk) (f : Nat) : Nat → Int
  | 0 => 0
  | n + 1 => totF B f n + getB B ((n : Int) + 1) f
theorem totF_same {B B' : Bk} {f : Nat} {c : Int} (h : ∀ j : Int, 1 ≤ j → j ≠ c → getB B' j f = getB B j f) (d : Int) (hd : getB B' c f = getB B c f + d) : ∀ n : Nat, totF B' f n = totF B f n + if 1 ≤ c ∧ c ≤ n then d else 0
  | 0 => by rw [if_neg (by omega)]; simp [totF]
  | n + 1 => by
    rw [totF, totF, totF_same h d hd n]
    by_cases e : ((n : Int) + 1) = c
    · rw [e, hd, if_neg (by omega), if_pos (by omega)]; omega
    · rw [h _ (by omega) e]
      by_cases h2 : 1 ≤ c ∧ c ≤ (n : Int)
      · rw [if_pos h2, if_pos (by omega)]; omega
      · rw [if_neg h2, if_neg (by omega)]; omega
theorem totF_nonneg {B : Bk} {f : Nat} (h : ∀ j : Int, 1 ≤ j → 0 ≤ getB B j f) : ∀ n : Nat, 0 ≤ totF B f n
  | 0 => by simp [totF]
  | n + 1 => by rw [totF]; have := totF_nonneg h n; have := h ((n : Int) + 1) (by omega); omega
theorem totF_ge {B : Bk} {f : Nat} (h : ∀ j : Int, 1 ≤ j → 0 ≤ getB B j f) (c : Int) (h1 : 1 ≤ c) : ∀ n : Nat, c ≤ n → getB B c f ≤ totF B f n
  | 0, h2 => by omega
  | n + 1, h2 => by
    rw [totF]
    by_cases e : ((n : Int) + 1) = c
    · rw [e]; have := totF_nonneg h n; omega
    · have := totF_ge h c h1 n (by omega); have := h ((n : Int) + 1) (by omega); omega

/-- a book, and what waits of each class -/
structure AS where
  B : Bk
  Q : Int → List CAct
def as0 : AS := ⟨[(0, st0)], fun _ => []⟩
def setQ (Q : Int → List CAct) (c : Int) (l : List CAct) : Int → List CAct := fun j => if j = c then l else Q j
/-- of an act that is chosen: the one that stood first -/
def headA (a q : CAct) : CAct := ⟨a.k, a.r, q.i, q.c, q.n, q.t⟩
def astep (s : AS) (a : CAct) : AS :=
  if a.k % 6 = 0 then ⟨tellA s.B a, setQ s.Q a.c (s.Q a.c ++ [a])⟩
  else if a.k % 6 = 2 then match s.Q a.c with
    | [] => s
    | q :: r => ⟨tellA s.B (headA a q), setQ s.Q a.c r⟩
  else ⟨tellA s.B a, s.Q⟩

structure AInv (k : Nat) (s : AS) : Prop where
  hQ : ∀ j, ∀ q ∈ s.Q j, fitB q = true ∧ q.c = j ∧ CFit q
  few : ∀ j, (s.Q j).length ≤ k
  c6 : ∀ j, 1 ≤ j → getB s.B j 6 = (s.Q j).length
  c7 : ∀ j, 1 ≤ j → getB s.B j 7 = sumN (s.Q j)
  all : ∀ f, f < 8 → getB s.B 0 f = totF s.B f 60
  lo : ∀ j f, f < 8 → 0 ≤ getB s.B j f
  up : ∀ j f, f < 8 → getB s.B j f ≤ 65535 * k
  out : ∀ j, j < 0 ∨ 60 < j → lookM s.B j = none
  rise : Rising s.B
  len : s.B.length ≤ 1 + 2 * k
theorem ainv0 : AInv 0 as0 := by
  have hg : ∀ j f, getB as0.B j f = 0 := by
    intro j f
    unfold as0 getB lookM
    dsimp only
    split
    · rfl
    · rfl
  refine ⟨fun j q hq => (by cases hq), fun j => (by simp [as0]), fun j _ => (by rw [hg]; simp [as0]), fun j _ => (by rw [hg]; simp [as0, sumN]), fun f _ => ?_, fun j f _ => (by rw [hg]; omega), fun j f _ => (by rw [hg]; omega), fun j h => ?_, rising0, (by simp [as0])⟩
  · rw [hg]
    have : ∀ n, totF as0.B f n = 0 := by
      intro n
      induction n with
      | zero => rfl
      | succ n ih => rw [totF, ih, hg]; omega
    rw [this]
  · unfold as0 lookM
    dsimp only
    rw [if_neg (by omega)]; rfl
theorem get_tellB' (B : Bk) (c j : Int) (L : List Stp) (hc : 1 ≤ c) : getB (tellB B c L) j = if j = 0 then stepsS (getB B 0) L else if j = c then stepsS (getB B c) L else getB B j := by
  rw [get_look, look_tellB _ _ _ _ hc]
  split
  · rfl
  · split <;> rfl
/-- steps that add the same to a class and to all -/
theorem ainv_tell {k : Nat} {s : AS} (h : AInv k s) {c : Int} {L : List Stp} {l : List CAct} (d : Nat → Int) (hc : 1 ≤ c) (hc2 : c ≤ 60)
    (e0 : ∀ f, f < 8 → stepsS (getB s.B 0) L f = getB s.B 0 f + d f) (e1 : ∀ f, f < 8 → stepsS (getB s.B c) L f = getB s.B c f + d f)
    (hd : ∀ f, f < 8 → d f ≤ 65535) (hlo : ∀ f, f < 8 → 0 ≤ getB s.B c f + d f)
    (hl : ∀ q ∈ l, fitB q = true ∧ q.c = c ∧ CFit q) (hfew : l.length ≤ k + 1) (d6 : ((s.Q c).length : Int) + d 6 = l.length) (d7 : sumN (s.Q c) + d 7 = sumN l) : AInv (k + 1) ⟨tellB s.B c L, setQ s.Q c l⟩ := by
  have hg : ∀ j f, f < 8 → getB (tellB s.B c L) j f = if j = 0 then getB s.B 0 f + d f else if j = c then getB s.B c f + d f else getB s.B j f := by
    intro j f hf
    rw [get_tellB' _ _ _ _ hc]
    split
    · exact e0 f hf
    · split
      · exact e1 f hf
      · rfl
  have htot : ∀ f, f < 8 → totF (tellB s.B c L) f 60 = totF s.B f 60 + d f := by
    intro f hf
    rw [totF_same (B := s.B) (c := c) (fun j hj hne => by rw [hg j f hf, if_neg (by omega), if_neg hne]) (d f) (by rw [hg c f hf, if_neg (by omega), if_pos rfl]) 60, if_pos ⟨hc, by simp; omega⟩]
  have hlo2 : ∀ j f, f < 8 → 1 ≤ j → 0 ≤ getB (tellB s.B c L) j f := by
    intro j f hf hj
    rw [hg j f hf, if_neg (by omega)]
    split
    · exact hlo f hf
    · exact h.lo j f hf
  refine ⟨?_, ?_, ?_, ?_, ?_, ?_, ?_, ?_, rising_tellB h.rise c L, ?_⟩
  · intro j q hq
    dsimp only [setQ] at hq
    split at hq
    · rename_i e; rw [e]; exact hl q hq
    · exact h.hQ j q hq
  · intro j
    dsimp only [setQ]
    split
    · exact hfew
    · have := h.few j; omega
  · intro j hj
    dsimp only [setQ]
    rw [hg j 6 (by omega), if_neg (by omega)]
    split
    · have := h.c6 c hc; omega
    · exact h.c6 j hj
  · intro j hj
    dsimp only [setQ]
    rw [hg j 7 (by omega), if_neg (by omega)]
    split
    · have := h.c7 c hc; omega
    · exact h.c7 j hj
  · intro f hf
    dsimp only
    rw [htot f hf, hg 0 f hf, if_pos rfl, h.all f hf]
  · intro j f hf
    dsimp only
    by_cases hj : 1 ≤ j
    · exact hlo2 j f hf hj
    · by_cases hj0 : j = 0
      · subst hj0
        rw [hg 0 f hf, if_pos rfl, h.all f hf, ← htot f hf]
        exact totF_nonneg (fun j hj => hlo2 j f hf hj) 60
      · rw [hg j f hf, if_neg hj0, if_neg (by omega)]; exact h.lo j f hf
  · intro j f hf
    dsimp only
    rw [hg j f hf]
    have h0 := h.up 0 f hf; have h1 := h.up c f hf; have h2 := h.up j f hf; have h3 := hd f hf
    split
    · omega
    · split <;> omega
  · intro j hj
    dsimp only
    rw [look_tellB _ _ _ _ hc, if_neg (by omega), if_neg (by omega)]
    exact h.out j hj
  · have := len_tellB s.B c L; have := h.len
    dsimp only; omega
theorem ainv_idle {k : Nat} {s : AS} (h : AInv k s) : AInv (k + 1) s :=
  ⟨h.hQ, fun j => by have := h.few j; omega, h.c6, h.c7, h.all, h.lo, fun j f hf => by have := h.up j f hf; omega, h.out, h.rise, by have := h.len; omega⟩
theorem setQ_self (Q : Int → List CAct) (c : Int) : setQ Q c (Q c) = Q := by
  funext j; unfold setQ; split
  · rename_i h; rw [h]
  · rfl
theorem ainv_step {k : Nat} {s : AS} {a : CAct} (h : AInv k s) (ha : fitB a = true) (hw : CFit a) (hk : k < 200) : AInv (k + 1) (astep s a) := by
  have ha' := ha
  unfold fitB at ha'
  obtain ⟨f1, f2, f3, f4⟩ := of_decide_eq_true ha'
  have hm : max a.n 0 = a.n := by omega
  have hu0 := fun f hf => h.up 0 f hf
  have hu1 := fun f hf => h.up a.c f hf
  unfold astep
  split
  · rename_i hk0
    rw [tellA_eq, show stL a = some (cameL a.n) by unfold stL; rw [if_pos hk0]]
    have e : ∀ j f, f < 8 → getB s.B j f ≤ 65535 * k → stepsS (getB s.B j) (cameL a.n) f = getB s.B j f + (if f = 0 then 1 else if f = 6 then 1 else if f = 7 then a.n else 0) := by
      intro j f hf hj
      have e1 : ∀ f, f < 8 → sumv (getB s.B j f) false 1 = getB s.B j f + 1 := fun f hf => sumv_up (by have := h.up j f hf; omega)
      have e2 : ∀ f, f < 8 → sumv (getB s.B j f) false a.n = getB s.B j f + a.n := fun f hf => sumv_up (by have := h.up j f hf; omega)
      rcases (by omega : f = 0 ∨ f = 1 ∨ f = 2 ∨ f = 3 ∨ f = 4 ∨ f = 5 ∨ f = 6 ∨ f = 7) with rfl | rfl | rfl | rfl | rfl | rfl | rfl | rfl <;> simp [stepsS, cameL, step1, setS, hm, e1, e2]
    refine ainv_tell h (fun f => if f = 0 then 1 else if f = 6 then 1 else if f = 7 then a.n else 0) f1 f2 (fun f hf => e 0 f hf (hu0 f hf)) (fun f hf => e a.c f hf (hu1 f hf)) (fun f hf => ?_) (fun f hf => ?_) (fun q hq => ?_) ?_ ?_ ?_
    · (try dsimp only); repeat' split
      all_goals omega
    · have := h.lo a.c f hf; (try dsimp only); repeat' split
      all_goals omega
    · rcases List.mem_append.1 hq with hq | hq
      · exact h.hQ _ q hq
      · simp at hq; rw [hq]; exact ⟨ha, rfl, hw⟩
    · have := h.few a.c; simp; omega
    · simp
    · rw [sumN_app]; simp
  · rename_i hk0
    split
    · rename_i hk2
      cases hQ : s.Q a.c with
      | nil => dsimp only; exact ainv_idle h
      | cons q r =>
        dsimp only
        obtain ⟨q1, q2, q3⟩ := h.hQ a.c q (by rw [hQ]; simp)
        have q1' := q1
        unfold fitB at q1'
        obtain ⟨g1, g2, g3, g4⟩ := of_decide_eq_true q1'
        have hqm : max q.n 0 = q.n := by omega
        have hsr := sumN_pos (l := r) fun x hx => (h.hQ a.c x (by rw [hQ]; simp [hx])).1
        have c6 := h.c6 a.c f1; have c7 := h.c7 a.c f1
        rw [hQ] at c6 c7
        rw [sumN_cons] at c7
        simp only [List.length_cons] at c6
        have hr6 : 1 ≤ getB s.B 0 6 := by
          rw [h.all 6 (by omega)]
          have := totF_ge (fun j _ => h.lo j 6 (by omega)) a.c f1 60 (by simp; omega)
          omega
        have hr7 : q.n ≤ getB s.B 0 7 := by
          rw [h.all 7 (by omega)]
          have := totF_ge (fun j _ => h.lo j 7 (by omega)) a.c f1 60 (by simp; omega)
          omega
        rw [tellA_eq, show stL (headA a q) = some (chosenL q.n a.r) by unfold stL headA; rw [if_neg hk0, if_neg (by dsimp only; omega), if_pos hk2]]
        dsimp only
        rw [show (headA a q).c = a.c from q2]
        have e : ∀ j f, f < 8 → 1 ≤ getB s.B j 6 → q.n ≤ getB s.B j 7 → stepsS (getB s.B j) (chosenL q.n a.r) f = getB s.B j f + (if f = (if a.r = 1 then 4 else 5) then q.n else if f = 6 then -1 else if f = 7 then -q.n else 0) := by
          intro j f hf h6 h7
          have e2 : ∀ f, f < 8 → sumv (getB s.B j f) false q.n = getB s.B j f + q.n := fun f hf => sumv_up (by have := h.up j f hf; omega)
          have e3 : sumv (getB s.B j 6) true 1 = getB s.B j 6 + -1 := by unfold sumv; simp; omega
          have e4 : sumv (getB s.B j 7) true q.n = getB s.B j 7 + -q.n := by unfold sumv; simp; omega
          by_cases hr : a.r = 1 <;> rcases (by omega : f = 0 ∨ f = 1 ∨ f = 2 ∨ f = 3 ∨ f = 4 ∨ f = 5 ∨ f = 6 ∨ f = 7) with rfl | rfl | rfl | rfl | rfl | rfl | rfl | rfl <;> simp [stepsS, chosenL, step1, setS, hqm, e2, e3, e4, hr]
        refine ainv_tell h (fun f => if f = (if a.r = 1 then 4 else 5) then q.n else if f = 6 then -1 else if f = 7 then -q.n else 0) f1 f2 (fun f hf => e 0 f hf hr6 hr7) (fun f hf => e a.c f hf (by omega) (by omega)) (fun f hf => ?_) (fun f hf => ?_) (fun x hx => h.hQ _ x (by rw [hQ]; simp [hx])) ?_ ?_ ?_
        · (try dsimp only); repeat' split
          all_goals omega
        · have := h.lo a.c f hf
          by_cases h6 : f = 6
          · subst h6; by_cases hr : a.r = 1 <;> simp [hr] <;> omega
          · by_cases h7 : f = 7
            · subst h7; by_cases hr : a.r = 1 <;> simp [hr] <;> omega
            · (try dsimp only); rw [if_neg h6, if_neg h7]; repeat' split
              all_goals omega
        · have := h.few a.c; rw [hQ] at this; simp at this; omega
        · rw [hQ]; by_cases hr : a.r = 1 <;> simp [hr] <;> omega
        · rw [hQ, sumN_cons]; by_cases hr : a.r = 1 <;> simp [hr] <;> omega
    · rename_i hk2
      rw [tellA_eq]
      by_cases hk1 : a.k % 6 = 1
      · rw [show stL a = some refusedL by unfold stL; rw [if_neg hk0, if_pos hk1]]
        dsimp only
        have e : ∀ j f, f < 8 → stepsS (getB s.B j) refusedL f = getB s.B j f + (if f = 1 then 1 else 0) := by
          intro j f hf
          have e1 : ∀ f, f < 8 → sumv (getB s.B j f) false 1 = getB s.B j f + 1 := fun f hf => sumv_up (by have := h.up j f hf; omega)
          rcases (by omega : f = 0 ∨ f = 1 ∨ f = 2 ∨ f = 3 ∨ f = 4 ∨ f = 5 ∨ f = 6 ∨ f = 7) with rfl | rfl | rfl | rfl | rfl | rfl | rfl | rfl <;> simp [stepsS, refusedL, step1, setS, e1]
        have := ainv_tell h (l := s.Q a.c) (fun f => if f = 1 then 1 else 0) f1 f2 (fun f hf => e 0 f hf) (fun f hf => e a.c f hf) (fun f hf => by (try dsimp only); split <;> omega) (fun f hf => by have := h.lo a.c f hf; (try dsimp only); split <;> omega) (fun q hq => h.hQ _ q hq) (by have := h.few a.c; omega) (by simp) (by simp)
        rw [setQ_self] at this
        exact this
      · by_cases hk3 : a.k % 6 = 3
        · rw [show stL a = some (throughL a.n) by unfold stL; rw [if_neg hk0, if_neg hk1, if_neg hk2, if_pos hk3]]
          dsimp only
          have e : ∀ j f, f < 8 → stepsS (getB s.B j) (throughL a.n) f = getB s.B j f + (if f = 2 then 1 else if f = 3 then a.n else 0) := by
            intro j f hf
            have e1 : ∀ f, f < 8 → sumv (getB s.B j f) false 1 = getB s.B j f + 1 := fun f hf => sumv_up (by have := h.up j f hf; omega)
            have e2 : ∀ f, f < 8 → sumv (getB s.B j f) false a.n = getB s.B j f + a.n := fun f hf => sumv_up (by have := h.up j f hf; omega)
            rcases (by omega : f = 0 ∨ f = 1 ∨ f = 2 ∨ f = 3 ∨ f = 4 ∨ f = 5 ∨ f = 6 ∨ f = 7) with rfl | rfl | rfl | rfl | rfl | rfl | rfl | rfl <;> simp [stepsS, throughL, step1, setS, hm, e1, e2]
          have := ainv_tell h (l := s.Q a.c) (fun f => if f = 2 then 1 else if f = 3 then a.n else 0) f1 f2 (fun f hf => e 0 f hf) (fun f hf => e a.c f hf) (fun f hf => (by (try dsimp only); split <;> (try split) <;> omega)) (fun f hf => (by have := h.lo a.c f hf; (try dsimp only); split <;> (try split) <;> omega)) (fun q hq => h.hQ _ q hq) (by have := h.few a.c; omega) (by simp) (by simp)
          rw [setQ_self] at this
          exact this
        · rw [show stL a = none by unfold stL; rw [if_neg hk0, if_neg hk1, if_neg hk2, if_neg hk3]]
          exact ainv_idle h

/-! ## the sum over all that are told of -/
def idSum (B : Bk) (l : List Int) (f : Nat) : Int := (l.map fun j => getB B j f).sum
def upto60 : Nat → List Int
  | 0 => []
  | n + 1 => upto60 n ++ [(n : Int) + 1]
theorem upto_mem {j : Int} : ∀ {n : Nat}, j ∈ upto60 n ↔ 1 ≤ j ∧ j ≤ n
  | 0 => by simp [upto60]; omega
  | n + 1 => by rw [upto60, List.mem_append, upto_mem (n := n)]; simp; omega
theorem upto_strict : ∀ n : Nat, (upto60 n).Pairwise (· < ·)
  | 0 => by simp [upto60]
  | n + 1 => by
    rw [upto60, List.pairwise_append]
    refine ⟨upto_strict n, by simp, fun x hx y hy => ?_⟩
    have := (upto_mem.1 hx).2
    simp at hy; omega
theorem tot_upto (B : Bk) (f : Nat) : ∀ n : Nat, totF B f n = idSum B (upto60 n) f
  | 0 => rfl
  | n + 1 => by rw [totF, tot_upto B f n, upto60]; simp [idSum]
theorem sum_filter (φ : Int → Int) (p : Int → Bool) : ∀ l : List Int, (∀ j ∈ l, p j = false → φ j = 0) → ((l.filter p).map φ).sum = (l.map φ).sum
  | [], _ => rfl
  | x :: l, h => by
    have ih := sum_filter φ p l fun j hj => h j (by simp [hj])
    rw [List.filter_cons]
    split
    · simp [ih]
    · rename_i hp
      have := h x (by simp) (by simpa using hp)
      simp [ih, this]
theorem all_sum {k : Nat} {s : AS} (h : AInv k s) {f : Nat} (hf : f < 8) : idSum s.B (idsB s.B) f = getB s.B 0 f := by
  rw [h.all f hf, tot_upto]
  have e : idsB s.B = (upto60 60).filter fun j => decide (j ∈ idsB s.B) := by
    refine strict_ext (ids_strict h.rise) ((upto_strict 60).filter _) fun x => ?_
    rw [List.mem_filter, upto_mem]
    constructor
    · intro hx
      refine ⟨?_, by simpa using hx⟩
      obtain ⟨h1, h2⟩ := ids_mem.1 hx
      by_cases h3 : x < 0
      · rw [h.out x (.inl h3)] at h2; cases h2
      · by_cases h4 : 60 < x
        · rw [h.out x (.inr h4)] at h2; cases h2
        · simp; omega
    · rintro ⟨_, hx⟩; simpa using hx
  unfold idSum
  rw [e]
  refine sum_filter _ _ _ fun j hj hp => ?_
  have hj1 := (upto_mem.1 hj).1
  have hn : j ∉ idsB s.B := by simpa using hp
  rw [ids_mem] at hn
  have : lookM s.B j = none := by
    cases e2 : lookM s.B j with
    | none => rfl
    | some x => exact absurd ⟨by omega, by rw [e2]; rfl⟩ hn
  rw [get_look, this]; rfl
theorem id_range {k : Nat} {s : AS} (h : AInv k s) {x : Int} (hx : x ∈ idsB s.B) : 1 ≤ x ∧ x ≤ 60 := by
  obtain ⟨h1, h2⟩ := ids_mem.1 hx
  by_cases h3 : x < 0
  · rw [h.out x (.inl h3)] at h2; cases h2
  · by_cases h4 : 60 < x
    · rw [h.out x (.inr h4)] at h2; cases h2
    · omega
theorem idSum_range {k : Nat} {s : AS} (h : AInv k s) {f : Nat} (hf : f < 8) (j : Nat) (hk : k ≤ 200) : 0 ≤ idSum s.B ((idsB s.B).take j) f ∧ idSum s.B ((idsB s.B).take j) f ≤ 4611686018427387904 := by
  have hb : ∀ l : List Int, 0 ≤ idSum s.B l f ∧ idSum s.B l f ≤ 65535 * k * l.length := by
    intro l
    induction l with
    | nil => simp [idSum]
    | cons x l ih =>
      have h1 := h.lo x f hf; have h2 := h.up x f hf
      have e : idSum s.B (x :: l) f = getB s.B x f + idSum s.B l f := by simp [idSum]
      rw [e, List.length_cons, Int.natCast_add, Int.mul_add]
      omega
  have h1 := hb ((idsB s.B).take j)
  have h2 : ((idsB s.B).take j).length ≤ 401 := by
    have a1 := List.length_take_le j (idsB s.B)
    have a2 := List.length_filter_le (fun x : Int => !decide (x = 0)) (s.B.map (·.1))
    have a3 := h.len
    simp only [List.length_map] at a2
    have a4 : (idsB s.B).length = ((s.B.map (·.1)).filter fun x => !decide (x = 0)).length := rfl
    have a5 : ((idsB s.B).take j).length ≤ (idsB s.B).length := by rw [List.length_take]; omega
    omega
  refine ⟨h1.1, Int.le_trans h1.2 ?_⟩
  have h3 : (65535 * (k : Int)) * (((idsB s.B).take j).length : Int) ≤ (65535 * 200) * 401 := Int.mul_le_mul (by omega) (by omega) (by omega) (by omega)
  omega
theorem idSum_take (B : Bk) (l : List Int) (f n : Nat) (x : Int) (h : l[n]? = some x) : idSum B (l.take (n + 1)) f = idSum B (l.take n) f + getB B x f := by
  unfold idSum; rw [List.take_add_one, h]; simp
end Go.Proofs.Ytfnocnknmpmaaaa
