/-
  The plain law of how many copies are kept: those that none beats (of equals the last one), and those that the program keeps, are as many. No program in sight.
-/
import Derived.Test.YtipiajnaechadaaSagPlain
namespace Go.Proofs.Ytipiajnaechadaa
set_option linter.unusedVariables false

/-- what they have rises, their lines fall -/
def Stk (F L R s : Int) (K : List (Int × Int)) : Prop := K.Pairwise (fun a b => hasK F L R a s < hasK F L R b s ∧ lineK R b s < lineK R a s)
theorem push1_stk {F L R s : Int} {out : List (Int × Int)} (k : Int × Int) (h : Stk F L R s out) : Stk F L R s (push1 F L R s out k) := by
  obtain ⟨m, hm, he, h1, h2⟩ := popN_spec (fun o => decide (hasK F L R k s ≤ hasK F L R o s)) out out.length
  unfold push1
  rw [he]
  have ht : Stk F L R s (out.take m) := List.Pairwise.sublist (List.take_sublist _ _) h
  cases hl : (out.take m).getLast? with
  | none =>
    have : out.take m = [] := List.getLast?_eq_none_iff.1 hl
    simp [this, Stk]
  | some p =>
    simp only [hl]
    by_cases hline : lineK R p s ≤ lineK R k s
    · rw [if_pos hline]; exact ht
    · rw [if_neg hline]
      obtain ⟨j, rfl⟩ : ∃ j, m = j + 1 := by
        rcases m with _ | j
        · simp at hl
        · exact ⟨j, rfl⟩
      have hjl : j < out.length := by omega
      have hp : out[j]? = some p := by
        have h3 : (out.take (j + 1)).getLast? = out[j]? := by
          rw [List.getLast?_eq_getElem?, List.length_take, Nat.min_eq_left (by omega), Nat.add_sub_cancel, List.getElem?_take_of_lt (by omega)]
        rw [← h3]; exact hl
      have hh := h2 j p rfl hp
      have hh2 : hasK F L R p s < hasK F L R k s := by simpa using hh
      refine List.pairwise_append.2 ⟨ht, by simp, fun a ha b hb => ?_⟩
      obtain rfl : b = k := by simpa using hb
      obtain ⟨i, hi, rfl⟩ := List.mem_iff_getElem.1 ha
      rw [List.length_take] at hi
      rw [List.getElem_take]
      have hpj : out[j] = p := by rw [List.getElem?_eq_getElem hjl] at hp; exact Option.some.inj hp
      by_cases hij : i = j
      · subst hij; rw [hpj]; exact ⟨hh2, by omega⟩
      · have h4 := List.pairwise_iff_getElem.1 h i j (by omega) hjl (by omega)
        rw [hpj] at h4
        exact ⟨by omega, by omega⟩
theorem startK_stk (F L R s : Int) (K : List (Int × Int)) (k : Int × Int) : Stk F L R s (startK F L R s K k) := by
  unfold startK
  have : ∀ (l out : List (Int × Int)), Stk F L R s out → Stk F L R s (l.foldl (push1 F L R s) out) := by
    intro l
    induction l with
    | nil => intro out h; exact h
    | cons x l ih => intro out h; exact ih _ (push1_stk x h)
  exact this _ _ List.Pairwise.nil
theorem Stk.same {F L R s : Int} {K : List (Int × Int)} (h : Stk F L R s K) {a b : Int × Int} (ha : a ∈ K) (hb : b ∈ K) (hab : Beats F L R a b s) : a = b := by
  obtain ⟨i, hi, rfl⟩ := List.mem_iff_getElem.1 ha
  obtain ⟨j, hj, rfl⟩ := List.mem_iff_getElem.1 hb
  have h1 := hab s (Int.le_refl _)
  rcases Nat.lt_trichotomy i j with hlt | heq | hgt
  · have := List.pairwise_iff_getElem.1 h i j hi hj hlt; omega
  · subst heq; rfl
  · have := List.pairwise_iff_getElem.1 h j i hj hi hgt; omega

/-- the ticks at which the document compares two copies; has one at most what the other one has, less at some -/
def ticksK (L s : Int) (a b : Int × Int) : List Int := [s, max s (a.1 + L), max s (b.1 + L), s + L, s + L + 1]
def isK (F L R s : Int) (a b : Int × Int) : Bool := (ticksK L s a b).all fun t => decide (hasK F L R a t ≤ hasK F L R b t)
def lessK (F L R s : Int) (a b : Int × Int) : Bool := (ticksK L s a b).any fun t => decide (hasK F L R a t < hasK F L R b t)
/-- the i-th one has the k-th one not kept -/
def killB (i k : Nat) (is less : Bool) : Bool := (decide (k < i) && is) || (decide (i < k) && is && less)
def atA (A : List (Int × Int)) (i : Nat) : Int × Int := A.getD i (0, 0)
def killK (F L R s : Int) (A : List (Int × Int)) (i k : Nat) : Bool := killB i k (isK F L R s (atA A i) (atA A k)) (lessK F L R s (atA A i) (atA A k))
def keptB (F L R s : Int) (A : List (Int × Int)) (k : Nat) : Bool := (List.range A.length).all fun i => !killK F L R s A i k
def keptN (F L R s : Int) (A : List (Int × Int)) : Nat := ((List.range A.length).filter (keptB F L R s A)).length

section
variable {F L R s : Int} {K A : List (Int × Int)}
theorem atA_mem {i : Nat} (hi : i < A.length) : atA A i ∈ A := by
  unfold atA
  rw [List.getD_eq_getElem?_getD, List.getElem?_eq_getElem hi]
  exact List.getElem_mem hi
theorem atA_sort (h : A.Pairwise (fun a b => a.1 ≤ b.1)) {i j : Nat} (hij : i < j) (hj : j < A.length) : (atA A i).1 ≤ (atA A j).1 := by
  have hi : i < A.length := by omega
  have h1 := List.pairwise_iff_getElem.1 h i j hi hj hij
  unfold atA
  rw [List.getD_eq_getElem?_getD, List.getD_eq_getElem?_getD, List.getElem?_eq_getElem hi, List.getElem?_eq_getElem hj]
  exact h1
theorem ticks_ge (h : SagC F L R) {a b : Int × Int} {t : Int} (ht : t ∈ ticksK L s a b) : s ≤ t := by
  have := h.may.l0
  unfold ticksK at ht
  simp only [List.mem_cons, List.not_mem_nil, or_false] at ht
  omega
theorem is_of_beats (h : SagC F L R) {a b : Int × Int} (hb : Beats F L R a b s) : isK F L R s a b = true := by
  unfold isK
  rw [List.all_eq_true]
  intro t ht
  exact decide_eq_true (hb t (ticks_ge h ht)).1
theorem is_later (h : SagC F L R) {a b : Int × Int} (hba : b.1 ≤ a.1) (has : a.1 ≤ s) : isK F L R s a b = true ↔ Beats F L R a b s := by
  refine ⟨fun hi => ?_, is_of_beats h⟩
  unfold isK at hi
  rw [List.all_eq_true] at hi
  exact later_beats h hba has (of_decide_eq_true (hi s (by simp [ticksK])))
theorem is_earlier (h : SagC F L R) {a b : Int × Int} (hab : a.1 ≤ b.1) (hbs : b.1 ≤ s) : isK F L R s a b = true ↔ Beats F L R a b s := by
  refine ⟨fun hi => ?_, is_of_beats h⟩
  unfold isK at hi
  rw [List.all_eq_true] at hi
  have h1 := of_decide_eq_true (hi (s + L + 1) (by simp [ticksK]))
  have e1 := line_gap F L R a (s + L + 1); have e2 := line_gap F L R b (s + L + 1)
  have g1 := gap_late (F := F) (L := L) (R := R) (a := s + L + 1 - a.1) h (by omega)
  have g2 := gap_late (F := F) (L := L) (R := R) (a := s + L + 1 - b.1) h (by omega)
  have a1 := line_add R a s (s + L + 1); have a2 := line_add R b s (s + L + 1)
  refine earlier_beats h hab hbs ?_
  rw [g1] at e1; rw [g2] at e2
  omega
theorem kill_iff (h : SagC F L R) (r : Run F L R s K A) {i k : Nat} (hi : i < A.length) (hk : k < A.length) :
    killK F L R s A i k = true ↔ (k < i ∧ Beats F L R (atA A i) (atA A k) s) ∨ (i < k ∧ Beats F L R (atA A i) (atA A k) s ∧ ¬ Beats F L R (atA A k) (atA A i) s) := by
  have hsi := r.le _ (atA_mem hi); have hsk := r.le _ (atA_mem hk)
  unfold killK killB
  rcases Nat.lt_trichotomy i k with hlt | heq | hgt
  · have hs := atA_sort r.sort hlt hk
    rw [decide_eq_false (show ¬ k < i by omega), decide_eq_true hlt]
    simp only [Bool.false_and, Bool.false_or, Bool.true_and, Bool.and_eq_true]
    rw [is_earlier h hs hsk]
    constructor
    · rintro ⟨h1, h2⟩
      refine .inr ⟨hlt, h1, fun h3 => ?_⟩
      unfold lessK at h2
      rw [List.any_eq_true] at h2
      obtain ⟨t, ht, h4⟩ := h2
      have h5 := of_decide_eq_true h4
      have := (h3 t (ticks_ge h ht)).1
      omega
    · rintro (⟨h1, _⟩ | ⟨_, h1, h2⟩)
      · omega
      · refine ⟨h1, ?_⟩
        unfold lessK
        rw [List.any_eq_true]
        refine ⟨s, by simp [ticksK], decide_eq_true ?_⟩
        rcases Int.lt_or_le (hasK F L R (atA A i) s) (hasK F L R (atA A k) s) with h3 | h3
        · exact h3
        · exact absurd (later_beats h hs hsk h3) h2
  · subst heq
    simp
  · have hs := atA_sort r.sort hgt hi
    rw [decide_eq_true hgt, decide_eq_false (show ¬ i < k by omega)]
    simp only [Bool.true_and, Bool.false_and, Bool.or_false]
    rw [is_later h hs hsi]
    constructor
    · intro h1; exact .inl ⟨hgt, h1⟩
    · rintro (⟨_, h1⟩ | ⟨h1, _⟩)
      · exact h1
      · omega
theorem kept_iff (h : SagC F L R) (r : Run F L R s K A) {k : Nat} (hk : k < A.length) :
    keptB F L R s A k = true ↔ ∀ i, i < A.length → (k < i → ¬ Beats F L R (atA A i) (atA A k) s) ∧ (i < k → Beats F L R (atA A i) (atA A k) s → Beats F L R (atA A k) (atA A i) s) := by
  unfold keptB
  rw [List.all_eq_true]
  constructor
  · intro h1 i hi
    have h2 := h1 i (List.mem_range.2 hi)
    have h3 : ¬ killK F L R s A i k = true := by simpa using h2
    rw [kill_iff h r hi hk] at h3
    refine ⟨fun hki hb => h3 (.inl ⟨hki, hb⟩), fun hik hb => ?_⟩
    exact Classical.byContradiction fun hn => h3 (.inr ⟨hik, hb, hn⟩)
  · intro h1 i hi
    have hi := List.mem_range.1 hi
    have h3 : ¬ killK F L R s A i k = true := by
      rw [kill_iff h r hi hk]
      rintro (⟨h4, h5⟩ | ⟨h4, h5, h6⟩)
      · exact (h1 i hi).1 h4 h5
      · exact h6 ((h1 i hi).2 h4 h5)
    simpa using h3
theorem nodup_le {l m : List Int} : l.Nodup → (∀ x ∈ l, x ∈ m) → l.length ≤ m.length := by
  induction l generalizing m with
  | nil => intro _ _; simp
  | cons a l ih =>
    intro hn hs
    have ha := hs a (by simp)
    have hn2 := List.nodup_cons.1 hn
    have h1 := ih (m := m.erase a) hn2.2 (fun x hx => (List.mem_erase_of_ne (by rintro rfl; exact hn2.1 hx)).2 (hs x (by simp [hx])))
    rw [List.length_erase_of_mem ha] at h1
    have : 0 < m.length := List.length_pos_of_mem ha
    simp; omega
theorem last_of (P : Nat → Prop) (n : Nat) : ∀ d j, n - j ≤ d → j < n → P j → ∃ i, i < n ∧ P i ∧ ∀ m, i < m → m < n → ¬ P m := by
  intro d
  induction d with
  | zero => intro j h1 h2; omega
  | succ d ih =>
    intro j h1 h2 hP
    by_cases hx : ∃ m, j < m ∧ m < n ∧ P m
    · obtain ⟨m, hm1, hm2, hm3⟩ := hx
      exact ih m (by omega) hm2 hm3
    · exact ⟨j, h2, hP, fun m hm1 hm2 hm3 => hx ⟨m, hm1, hm2, hm3⟩⟩
theorem kept_count (h : SagC F L R) (r : Run F L R s K A) (hs : Stk F L R s K) : keptN F L R s A = K.length := by
  have hidx : ∀ a ∈ A, ∃ i, i < A.length ∧ atA A i = a := fun a ha => by
    obtain ⟨i, hi, rfl⟩ := List.mem_iff_getElem.1 ha
    exact ⟨i, hi, by unfold atA; rw [List.getD_eq_getElem?_getD, List.getElem?_eq_getElem hi]; rfl⟩
  have hm1 : ((List.range A.length).filter (keptB F L R s A)).map (fun k => hasK F L R (atA A k) s) |>.Nodup := by
    refine List.Pairwise.map _ (fun _ _ h => h) ?_
    refine List.Pairwise.imp_of_mem (R := (· < ·)) ?_ (List.Pairwise.filter _ List.pairwise_lt_range)
    intro k1 k2 hk1 hk2 hlt heq
    obtain ⟨hk1r, hk1k⟩ := List.mem_filter.1 hk1
    obtain ⟨hk2r, hk2k⟩ := List.mem_filter.1 hk2
    have l1 := List.mem_range.1 hk1r; have l2 := List.mem_range.1 hk2r
    exact ((kept_iff h r l1).1 hk1k k2 l2).1 hlt (later_beats h (atA_sort r.sort hlt l2) (r.le _ (atA_mem l2)) (by omega))
  have hm2 : (K.map (fun k => hasK F L R k s)).Nodup := by
    refine List.Pairwise.map _ (fun _ _ h => h) ?_
    exact List.Pairwise.imp (fun {a b} hab => by omega) hs
  have s1 : ∀ x ∈ ((List.range A.length).filter (keptB F L R s A)).map (fun k => hasK F L R (atA A k) s), x ∈ K.map (fun k => hasK F L R k s) := by
    intro x hx
    obtain ⟨k, hk, rfl⟩ := List.mem_map.1 hx
    obtain ⟨hkr, hkk⟩ := List.mem_filter.1 hk
    have lk := List.mem_range.1 hkr
    obtain ⟨c, hc, hb⟩ := r.cov _ (atA_mem lk)
    obtain ⟨j, lj, hj⟩ := hidx c (r.sub.subset hc)
    refine List.mem_map.2 ⟨c, hc, ?_⟩
    have hkj := (kept_iff h r lk).1 hkk j lj
    rw [hj] at hkj
    rcases Nat.lt_trichotomy j k with hlt | heq | hgt
    · have h1 := (hb s (Int.le_refl _)).1; have h2 := (hkj.2 hlt hb s (Int.le_refl _)).1; omega
    · subst heq; rw [hj]
    · exact absurd hb (hkj.1 hgt)
  have s2 : ∀ x ∈ K.map (fun k => hasK F L R k s), x ∈ ((List.range A.length).filter (keptB F L R s A)).map (fun k => hasK F L R (atA A k) s) := by
    intro x hx
    obtain ⟨c, hc, rfl⟩ := List.mem_map.1 hx
    obtain ⟨j0, lj0, hj0⟩ := hidx c (r.sub.subset hc)
    obtain ⟨j, lj, hPj, hlast⟩ := last_of (fun j => Beats F L R (atA A j) c s) A.length A.length j0 (by omega) lj0 (by rw [hj0]; exact Beats.refl _ _)
    have back : ∀ i, i < A.length → Beats F L R (atA A i) c s → Beats F L R c (atA A i) s := fun i li hb => by
      obtain ⟨c', hc', hb'⟩ := r.cov _ (atA_mem li)
      have := hs.same hc' hc (hb'.trans hb)
      subst this
      exact hb'
    refine List.mem_map.2 ⟨j, List.mem_filter.2 ⟨List.mem_range.2 lj, (kept_iff h r lj).2 fun i li => ⟨fun hji hb => hlast i hji li (hb.trans hPj), fun hij hb => hPj.trans (back i li (hb.trans hPj))⟩⟩, ?_⟩
    have h1 := (hPj s (Int.le_refl _)).1; have h2 := (back j lj hPj s (Int.le_refl _)).1
    omega
  have l1 := nodup_le hm1 s1
  have l2 := nodup_le hm2 s2
  simp only [List.length_map] at l1 l2
  unfold keptN
  omega
end

end Go.Proofs.Ytipiajnaechadaa
