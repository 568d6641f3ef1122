/-
  The plain law of a sagging run: of the copies that are kept, one has no more than each that started; and its line is no higher. No program in sight.
-/
import Derived.Test.YtipiajnaechadaaMath
namespace Go.Proofs.Ytipiajnaechadaa
set_option linter.unusedVariables false

/-- a copy: from .2 on, at the tick .1: what it has, and its line, without an end -/
def hasK (F L R : Int) (k : Int × Int) (t : Int) : Int := k.2 + W F L R (t - k.1)
def lineK (R : Int) (k : Int × Int) (t : Int) : Int := k.2 + R * (t - k.1)

/-- how far the line is above -/
def gapK (F L R u : Int) : Int := (R - F) * min u L

theorem W_gap (F L R u : Int) : W F L R u = R * u - gapK F L R u := by
  unfold W gapK
  rw [Int.mul_sub, Int.sub_mul]
  omega
theorem line_gap (F L R : Int) (k : Int × Int) (t : Int) : lineK R k t = hasK F L R k t + gapK F L R (t - k.1) := by
  unfold lineK hasK
  rw [W_gap]
  omega

/-- a curve that sags, or is straight -/
structure SagC (F L R : Int) : Prop where
  may : MayC F L R
  sag : L = 0 ∨ F ≤ R

theorem gap_mono {F L R a b : Int} (h : SagC F L R) (hb : 0 ≤ b) (hab : b ≤ a) : gapK F L R b ≤ gapK F L R a := by
  unfold gapK
  rcases h.sag with h0 | h0
  · rw [h0, Int.min_eq_right hb, Int.min_eq_right (Int.le_trans hb hab)]; exact Int.le_refl _
  · exact Int.mul_le_mul_of_nonneg_left (by omega) (by omega)
theorem gap_conc {F L R a b d : Int} (h : SagC F L R) (hb : 0 ≤ b) (hab : b ≤ a) (hd : 0 ≤ d) : gapK F L R (a + d) - gapK F L R a ≤ gapK F L R (b + d) - gapK F L R b := by
  unfold gapK
  rcases h.sag with h0 | h0
  · rw [h0, Int.min_eq_right hb, Int.min_eq_right (Int.le_trans hb hab), Int.min_eq_right (by omega), Int.min_eq_right (by omega)]; exact Int.le_refl _
  · rw [← Int.mul_sub, ← Int.mul_sub]
    exact Int.mul_le_mul_of_nonneg_left (by omega) (by omega)
theorem gap_nonneg {F L R a : Int} (h : SagC F L R) (ha : 0 ≤ a) : 0 ≤ gapK F L R a := by
  have := gap_mono h (Int.le_refl 0) ha
  unfold gapK at *
  rw [Int.min_eq_left h.may.l0] at this
  omega
theorem gap_le {F L R a : Int} (h : SagC F L R) (ha : 0 ≤ a) : gapK F L R a ≤ (if L = 0 then 0 else (R - F) * L) := by
  unfold gapK
  rcases h.sag with h0 | h0
  · rw [if_pos h0, h0, Int.min_eq_right ha]; omega
  · split
    · rename_i h1; rw [h1, Int.min_eq_right ha]; omega
    · exact Int.mul_le_mul_of_nonneg_left (by omega) (by omega)
theorem gap_late {F L R a : Int} (h : SagC F L R) (ha : L ≤ a) : gapK F L R a = (if L = 0 then 0 else (R - F) * L) := by
  unfold gapK
  rw [Int.min_eq_right ha]
  split
  · rename_i h1; rw [h1, Int.mul_zero]
  · rfl

theorem line_add (R : Int) (k : Int × Int) (s t : Int) : lineK R k t = lineK R k s + R * (t - s) := by
  unfold lineK
  have : R * (t - k.1) = R * (s - k.1) + R * (t - s) := by rw [← Int.mul_add]; congr 1; omega
  omega

/-- from s on a has no more than b, and its line is no higher -/
def Beats (F L R : Int) (a b : Int × Int) (s : Int) : Prop := ∀ t, s ≤ t → hasK F L R a t ≤ hasK F L R b t ∧ lineK R a t ≤ lineK R b t

theorem Beats.refl {F L R : Int} (a : Int × Int) (s : Int) : Beats F L R a a s := fun _ _ => ⟨Int.le_refl _, Int.le_refl _⟩
theorem Beats.trans {F L R s : Int} {a b c : Int × Int} (h : Beats F L R a b s) (k : Beats F L R b c s) : Beats F L R a c s :=
  fun t ht => ⟨Int.le_trans (h t ht).1 (k t ht).1, Int.le_trans (h t ht).2 (k t ht).2⟩
theorem Beats.mono {F L R s s' : Int} {a b : Int × Int} (h : Beats F L R a b s) (hs : s ≤ s') : Beats F L R a b s' := fun t ht => h t (Int.le_trans hs ht)

theorem later_beats {F L R s : Int} {o k : Int × Int} (h : SagC F L R) (hok : o.1 ≤ k.1) (hks : k.1 ≤ s) (hh : hasK F L R k s ≤ hasK F L R o s) : Beats F L R k o s := by
  intro t ht
  have e1 := line_gap F L R k s; have e2 := line_gap F L R o s
  have e3 := line_gap F L R k t; have e4 := line_gap F L R o t
  have a1 := line_add R k s t; have a2 := line_add R o s t
  have c := gap_conc (a := s - o.1) (b := s - k.1) (d := t - s) h (by omega) (by omega) (by omega)
  have m := gap_mono (a := s - o.1) (b := s - k.1) h (by omega) (by omega)
  rw [show s - o.1 + (t - s) = t - o.1 by omega, show s - k.1 + (t - s) = t - k.1 by omega] at c
  exact ⟨by omega, by omega⟩
theorem earlier_beats {F L R s : Int} {o k : Int × Int} (h : SagC F L R) (hok : o.1 ≤ k.1) (hks : k.1 ≤ s) (hh : lineK R o s ≤ lineK R k s) : Beats F L R o k s := by
  intro t ht
  have e3 := line_gap F L R k t; have e4 := line_gap F L R o t
  have a1 := line_add R k s t; have a2 := line_add R o s t
  have m := gap_mono (a := t - o.1) (b := t - k.1) h (by omega) (by omega)
  exact ⟨by omega, by omega⟩

/-- the copies that are left when the last ones that v says go, of the first n -/
def popN (v : Int × Int → Bool) (l : List (Int × Int)) : Nat → List (Int × Int)
  | 0 => []
  | n + 1 => if (match l[n]? with | some o => v o | none => false) then popN v l n else l.take (n + 1)

theorem popN_spec (v : Int × Int → Bool) (l : List (Int × Int)) : ∀ n, ∃ m, m ≤ n ∧ popN v l n = l.take m ∧ (∀ j o, m ≤ j → j < n → l[j]? = some o → v o = true) ∧ (∀ j o, m = j + 1 → l[j]? = some o → v o = false) := by
  intro n
  induction n with
  | zero => exact ⟨0, Nat.le_refl _, by simp [popN], fun j o h1 h2 => by omega, fun j o h => by omega⟩
  | succ n ih =>
    unfold popN
    by_cases hc : (match l[n]? with | some o => v o | none => false) = true
    · rw [if_pos hc]
      obtain ⟨m, hm, he, h1, h2⟩ := ih
      refine ⟨m, by omega, he, fun j o hj hj2 ho => ?_, h2⟩
      by_cases hjn : j = n
      · subst hjn; rw [ho] at hc; exact hc
      · exact h1 j o hj (by omega) ho
    · rw [if_neg hc]
      refine ⟨n + 1, Nat.le_refl _, rfl, fun j o h1 h2 => by omega, fun j o hj ho => ?_⟩
      obtain rfl : j = n := by omega
      rw [ho] at hc
      simpa using hc

/-- one more copy is tried, at the tick s -/
def push1 (F L R s : Int) (out : List (Int × Int)) (k : Int × Int) : List (Int × Int) :=
  let o := popN (fun o => decide (hasK F L R k s ≤ hasK F L R o s)) out out.length
  match o.getLast? with
  | some p => if lineK R p s ≤ lineK R k s then o else o ++ [k]
  | none => o ++ [k]

def startK (F L R s : Int) (K : List (Int × Int)) (k : Int × Int) : List (Int × Int) := (K ++ [k]).foldl (push1 F L R s) []

/-- each of A is beaten by one of K -/
def Cov (F L R s : Int) (K A : List (Int × Int)) : Prop := ∀ a ∈ A, ∃ k ∈ K, Beats F L R k a s

theorem push1_ok {F L R s : Int} {out P : List (Int × Int)} {k : Int × Int} (h : SagC F L R) (hok : ∀ o ∈ out, o.1 ≤ k.1) (hks : k.1 ≤ s) (hsub : out.Sublist P) (hc : Cov F L R s out P) :
    (push1 F L R s out k).Sublist (P ++ [k]) ∧ Cov F L R s (push1 F L R s out k) (P ++ [k]) := by
  obtain ⟨m, hm, he, h1, h2⟩ := popN_spec (fun o => decide (hasK F L R k s ≤ hasK F L R o s)) out out.length
  unfold push1
  rw [he]
  have hts : (out.take m).Sublist P := (List.take_sublist _ _).trans hsub
  -- what is popped is beaten by k
  have hp : ∀ o ∈ out, o ∈ out.take m ∨ Beats F L R k o s := by
    intro o ho
    obtain ⟨j, hj, rfl⟩ := List.mem_iff_getElem.1 ho
    by_cases hjm : j < m
    · exact .inl (List.mem_iff_getElem.2 ⟨j, by rw [List.length_take]; omega, by rw [List.getElem_take]⟩)
    · have := h1 j out[j] (by omega) hj (by simp [hj])
      exact .inr (later_beats h (hok _ ho) hks (of_decide_eq_true this))
  have happ : (out.take m ++ [k]).Sublist (P ++ [k]) ∧ Cov F L R s (out.take m ++ [k]) (P ++ [k]) := by
    refine ⟨hts.append (List.Sublist.refl _), fun a ha => ?_⟩
    rcases List.mem_append.1 ha with ha | ha
    · obtain ⟨o, ho, hb⟩ := hc a ha
      rcases hp o ho with h3 | h3
      · exact ⟨o, List.mem_append_left _ h3, hb⟩
      · exact ⟨k, by simp, h3.trans hb⟩
    · obtain rfl : a = k := by simpa using ha
      exact ⟨a, by simp, Beats.refl _ _⟩
  cases hl : (out.take m).getLast? with
  | none => simpa [hl] using happ
  | some p =>
    simp only [hl]
    by_cases hline : lineK R p s ≤ lineK R k s
    · rw [if_pos hline]
      have hpm : p ∈ out.take m := List.mem_of_getLast? hl
      have hpo : p ∈ out := List.mem_of_mem_take hpm
      have hb := earlier_beats h (hok p hpo) hks hline
      refine ⟨hts.trans (List.sublist_append_left _ _), fun a ha => ?_⟩
      rcases List.mem_append.1 ha with ha | ha
      · obtain ⟨o, ho, hb2⟩ := hc a ha
        rcases hp o ho with h3 | h3
        · exact ⟨o, h3, hb2⟩
        · exact ⟨p, hpm, (hb.trans h3).trans hb2⟩
      · obtain rfl : a = k := by simpa using ha
        exact ⟨p, hpm, hb⟩
    · rw [if_neg hline]; exact happ

theorem fold_ok {F L R s : Int} (h : SagC F L R) : ∀ (l P out : List (Int × Int)), (P ++ l).Pairwise (fun a b => a.1 ≤ b.1) → (∀ k ∈ l, k.1 ≤ s) → out.Sublist P → Cov F L R s out P →
    (l.foldl (push1 F L R s) out).Sublist (P ++ l) ∧ Cov F L R s (l.foldl (push1 F L R s) out) (P ++ l)
  | [], P, out, _, _, hsub, hc => by simpa using ⟨hsub, hc⟩
  | k :: l, P, out, hp, hs, hsub, hc => by
    have hle : ∀ o ∈ out, o.1 ≤ k.1 := fun o ho => (List.pairwise_append.1 hp).2.2 o (hsub.subset ho) k (by simp)
    have h1 := push1_ok h hle (hs k (by simp)) hsub hc
    have h2 := fold_ok h l (P ++ [k]) (push1 F L R s out k) (by simpa using hp) (fun x hx => hs x (by simp [hx])) h1.1 h1.2
    simpa using h2

/-- what a run knows: K are kept of the copies A that started, the last one at s -/
structure Run (F L R s : Int) (K A : List (Int × Int)) : Prop where
  sub : K.Sublist A
  cov : Cov F L R s K A
  sort : A.Pairwise (fun a b => a.1 ≤ b.1)
  le : ∀ a ∈ A, a.1 ≤ s

theorem Run.nil (F L R s : Int) : Run F L R s [] [] := ⟨List.Sublist.refl _, (by intro a ha; simp at ha), List.Pairwise.nil, (by intro a ha; simp at ha)⟩
theorem Run.start {F L R s s' y : Int} {K A : List (Int × Int)} (h : SagC F L R) (r : Run F L R s K A) (hs : s ≤ s') : Run F L R s' (startK F L R s' K (s', y)) (A ++ [(s', y)]) := by
  have hsub : (K ++ [(s', y)]).Sublist (A ++ [(s', y)]) := r.sub.append (List.Sublist.refl _)
  have hle : ∀ a ∈ A ++ [(s', y)], a.1 ≤ s' := by
    intro a ha
    rcases List.mem_append.1 ha with ha | ha
    · exact Int.le_trans (r.le a ha) hs
    · obtain rfl : a = (s', y) := by simpa using ha
      exact Int.le_refl _
  have hsort : (A ++ [(s', y)]).Pairwise (fun a b => a.1 ≤ b.1) := by
    refine List.pairwise_append.2 ⟨r.sort, by simp, fun a ha b hb => ?_⟩
    obtain rfl : b = (s', y) := by simpa using hb
    exact Int.le_trans (r.le a ha) hs
  have h1 := fold_ok (s := s') h (K ++ [(s', y)]) [] [] (by simpa using hsort.sublist hsub) (fun k hk => hle k (hsub.subset hk)) (List.Sublist.refl _) (by intro a ha; simp at ha)
  simp only [List.nil_append] at h1
  refine ⟨h1.1.trans hsub, fun a ha => ?_, hsort, hle⟩
  have hcov : ∃ k ∈ K ++ [(s', y)], Beats F L R k a s' := by
    rcases List.mem_append.1 ha with ha | ha
    · obtain ⟨k, hk, hb⟩ := r.cov a ha
      exact ⟨k, List.mem_append_left _ hk, hb.mono hs⟩
    · exact ⟨a, List.mem_append_right _ ha, Beats.refl _ _⟩
  obtain ⟨k, hk, hb⟩ := hcov
  obtain ⟨k2, hk2, hb2⟩ := h1.2 k hk
  exact ⟨k2, hk2, hb2.trans hb⟩

/-- the least of g, and of m -/
def minF (g : Int × Int → Int) (m : Int) (l : List (Int × Int)) : Int := l.foldl (fun m k => min m (g k)) m
theorem minF_le_start (g : Int × Int → Int) : ∀ (l : List (Int × Int)) (m : Int), minF g m l ≤ m
  | [], m => Int.le_refl _
  | k :: l, m => by
    have := minF_le_start g l (min m (g k))
    unfold minF at *
    simp only [List.foldl_cons]
    omega
theorem minF_le (g : Int × Int → Int) : ∀ (l : List (Int × Int)) (m : Int) (k : Int × Int), k ∈ l → minF g m l ≤ g k
  | x :: l, m, k, hk => by
    have h1 := minF_le_start g l (min m (g x))
    rcases List.mem_cons.1 hk with rfl | hk
    · unfold minF at *; simp only [List.foldl_cons]; omega
    · have := minF_le g l (min m (g x)) k hk
      unfold minF at *; simp only [List.foldl_cons]; omega
theorem le_minF (g : Int × Int → Int) (b : Int) : ∀ (l : List (Int × Int)) (m : Int), b ≤ m → (∀ k ∈ l, b ≤ g k) → b ≤ minF g m l
  | [], m, hm, _ => hm
  | k :: l, m, hm, h => by
    have h1 := h k (by simp)
    have := le_minF g b l (min m (g k)) (by omega) (fun x hx => h x (by simp [hx]))
    unfold minF at *; simpa using this
theorem minF_eq (g : Int × Int → Int) (m : Int) {K A : List (Int × Int)} (h1 : ∀ k ∈ K, k ∈ A) (h2 : ∀ a ∈ A, ∃ k ∈ K, g k ≤ g a) : minF g m K = minF g m A := by
  apply Int.le_antisymm
  · refine le_minF g _ A m (minF_le_start g K m) fun a ha => ?_
    obtain ⟨k, hk, hg⟩ := h2 a ha
    exact Int.le_trans (minF_le g K m k hk) hg
  · exact le_minF g _ K m (minF_le_start g A m) fun k hk => minF_le g A m k (h1 k hk)

/-- what a run has, and its line: as the program tells them -/
def atK (F L R t : Int) (k : Int × Int) : Int := cap (k.2 + cap (W F L R (t - k.1)))
def linK (R t : Int) (k : Int × Int) : Int := cap (k.2 + cap (R * (t - k.1)))
theorem atK_has {F L R t : Int} {k : Int × Int} (h : 0 ≤ k.2) : atK F L R t k = cap (hasK F L R k t) := by unfold atK hasK cap; omega
theorem linK_line {R t : Int} {k : Int × Int} (h : 0 ≤ k.2) : linK R t k = cap (lineK R k t) := by unfold linK lineK cap; omega
theorem cap_mono {a b : Int} (h : a ≤ b) : cap a ≤ cap b := by unfold cap; omega

theorem Run.least {F L R s t : Int} {K A : List (Int × Int)} (r : Run F L R s K A) (hy : ∀ a ∈ A, 0 ≤ a.2) (ht : s ≤ t) :
    minF (atK F L R t) 4611686018427387904 K = minF (atK F L R t) 4611686018427387904 A ∧ minF (linK R t) 4611686018427387904 K = minF (linK R t) 4611686018427387904 A := by
  constructor
  · refine minF_eq _ _ (fun k hk => r.sub.subset hk) fun a ha => ?_
    obtain ⟨k, hk, hb⟩ := r.cov a ha
    refine ⟨k, hk, ?_⟩
    rw [atK_has (hy _ (r.sub.subset hk)), atK_has (hy _ ha)]
    exact cap_mono (hb t ht).1
  · refine minF_eq _ _ (fun k hk => r.sub.subset hk) fun a ha => ?_
    obtain ⟨k, hk, hb⟩ := r.cov a ha
    refine ⟨k, hk, ?_⟩
    rw [linK_line (hy _ (r.sub.subset hk)), linK_line (hy _ ha)]
    exact cap_mono (hb t ht).2

theorem Run.some {F L R s : Int} {K A : List (Int × Int)} (r : Run F L R s K A) (hA : A ≠ []) : 1 ≤ K.length ∧ K.length ≤ A.length := by
  refine ⟨?_, r.sub.length_le⟩
  obtain ⟨a, ha⟩ := List.exists_mem_of_ne_nil A hA
  obtain ⟨k, hk, _⟩ := r.cov a ha
  exact List.length_pos_of_mem hk

/-- where all corners are behind just one is kept -/
theorem push1_one {F L R s : Int} {out : List (Int × Int)} {k : Int × Int} (h : SagC F L R) (hout : out.length ≤ 1) (ho : ∀ o ∈ out, L ≤ s - o.1) (hk : L ≤ s - k.1) : (push1 F L R s out k).length = 1 := by
  have e1 := line_gap F L R k s
  rw [gap_late h hk] at e1
  match out, hout with
  | [], _ => rfl
  | [o], _ =>
    have e2 := line_gap F L R o s
    rw [gap_late h (ho o (by simp))] at e2
    by_cases hh : hasK F L R k s ≤ hasK F L R o s
    · simp [push1, popN, hh]
    · have : lineK R o s ≤ lineK R k s := by omega
      simp [push1, popN, hh, this]
theorem push1_mem {F L R s : Int} {out : List (Int × Int)} {k o : Int × Int} (h : o ∈ push1 F L R s out k) : o ∈ out ∨ o = k := by
  obtain ⟨m, _, he, _, _⟩ := popN_spec (fun o => decide (hasK F L R k s ≤ hasK F L R o s)) out out.length
  unfold push1 at h
  rw [he] at h
  have hin : o ∈ out.take m ++ [k] → o ∈ out ∨ o = k := fun h => by
    rcases List.mem_append.1 h with h | h
    · exact .inl (List.mem_of_mem_take h)
    · exact .inr (by simpa using h)
  cases hl : (out.take m).getLast? with
  | none => simp only [hl] at h; exact hin h
  | some p =>
    simp only [hl] at h
    split at h
    · exact .inl (List.mem_of_mem_take h)
    · exact hin h
theorem fold_one {F L R s : Int} (h : SagC F L R) : ∀ (l out : List (Int × Int)), out.length ≤ 1 → (∀ o ∈ out, L ≤ s - o.1) → (∀ k ∈ l, L ≤ s - k.1) → (l.foldl (push1 F L R s) out).length ≤ 1
  | [], out, h1, _, _ => h1
  | k :: l, out, h1, h2, h3 => by
    refine fold_one h l _ (Nat.le_of_eq (push1_one h h1 h2 (h3 k (by simp)))) (fun o ho => ?_) (fun x hx => h3 x (by simp [hx]))
    rcases push1_mem ho with ho | rfl
    · exact h2 o ho
    · exact h3 _ (by simp)
theorem start_one {F L R s : Int} {K : List (Int × Int)} {k : Int × Int} (h : SagC F L R) (hK : ∀ o ∈ K, L ≤ s - o.1) (hk : L ≤ s - k.1) : (startK F L R s K k).length ≤ 1 :=
  fold_one h _ [] (by simp) (by intro o ho; simp at ho) (by
    intro o ho
    rcases List.mem_append.1 ho with ho | ho
    · exact hK o ho
    · obtain rfl : o = k := by simpa using ho
      exact hk)

end Go.Proofs.Ytipiajnaechadaa
