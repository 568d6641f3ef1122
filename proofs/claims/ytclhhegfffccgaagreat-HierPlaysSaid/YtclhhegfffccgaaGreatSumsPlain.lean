/-
  Curves together, in plain arithmetic: what they have, their corners, when they are late first, what is spare, what is below what. No program in sight.
-/
import Derived.Test.YtclhhegfffccgaaGreatCurveMay
namespace Go.Proofs.YtclhhegfffccgaaGreat

/-- a curve: First, Length, Rest -/
abbrev Cv := Int × Int × Int
def okC (c : Cv) : Bool := mayB c.1 c.2.1 c.2.2
def vC (c : Cv) (t : Int) : Int := W c.1 c.2.1 c.2.2 t
/-- words all -/
def NN (l : List Cv) : Prop := ∀ c ∈ l, 0 ≤ c.1 ∧ 0 ≤ c.2.1 ∧ 0 ≤ c.2.2
/-- what they have together -/
def vS : List Cv → Int → Int
  | [], _ => 0
  | c :: l, t => (if okC c then vC c t else 0) + vS l t
def restS : List Cv → Int
  | [] => 0
  | c :: l => (if okC c then c.2.2 else 0) + restS l

theorem vS_append (a b : List Cv) (t : Int) : vS (a ++ b) t = vS a t + vS b t := by
  induction a with
  | nil => simp [vS]
  | cons c a ih => simp only [List.cons_append, vS, ih]; omega
theorem vS_filter (l : List Cv) (t : Int) : vS (l.filter okC) t = vS l t := by
  induction l with
  | nil => rfl
  | cons c l ih =>
    by_cases h : okC c
    · rw [List.filter_cons_of_pos h]; simp only [vS, ih]
    · rw [List.filter_cons_of_neg h]; simp only [vS, ih, h]; simp
theorem vS_reverse (l : List Cv) (t : Int) : vS l.reverse t = vS l t := by
  induction l with
  | nil => rfl
  | cons c l ih => rw [List.reverse_cons, vS_append, ih]; simp only [vS]; omega

/-- no corner strictly between -/
def Gap (l : List Cv) (a b : Int) : Prop := ∀ c ∈ l, okC c = true → c.2.1 ≤ a ∨ b ≤ c.2.1

theorem W_line {F L R a b : Int} (h : L ≤ a ∨ b ≤ L) : ∃ A B : Int, ∀ t, a ≤ t → t ≤ b → W F L R t = A + B * t := by
  rcases h with h | h
  · refine ⟨F * L - R * L, R, fun t h1 h2 => ?_⟩
    unfold W; rw [Int.min_eq_right (by omega), Int.mul_sub]; omega
  · refine ⟨0, F, fun t h1 h2 => ?_⟩
    unfold W; rw [Int.min_eq_left (by omega), Int.sub_self, Int.mul_zero]; omega

theorem vS_line {l : List Cv} {a b : Int} (h : Gap l a b) : ∃ A B : Int, ∀ t, a ≤ t → t ≤ b → vS l t = A + B * t := by
  induction l with
  | nil => exact ⟨0, 0, fun t _ _ => by simp [vS]⟩
  | cons c l ih =>
    obtain ⟨A, B, hl⟩ := ih fun d hd => h d (.tail _ hd)
    by_cases hc : okC c = true
    · obtain ⟨A', B', h'⟩ := W_line (F := c.1) (R := c.2.2) (h c (.head _) hc)
      refine ⟨A' + A, B' + B, fun t h1 h2 => ?_⟩
      simp only [vS, hc, if_true, vC, hl t h1 h2, h' t h1 h2, Int.add_mul]; omega
    · exact ⟨A, B, fun t h1 h2 => by simp [vS, hc, hl t h1 h2]⟩

/-- are they late at a tick? -/
def Lt (l : List Cv) (r t : Int) : Prop := r * t < vS l t
instance (l : List Cv) (r t : Int) : Decidable (Lt l r t) := inferInstanceAs (Decidable (_ < _))

theorem late_up {l : List Cv} {r a b x y : Int} (h : Gap l a b) (ha : ¬ Lt l r a) (hx : Lt l r x) (h1 : a ≤ x) (h2 : x ≤ y) (h3 : y ≤ b) : Lt l r y := by
  obtain ⟨A, B, hl⟩ := vS_line h
  unfold Lt at *
  rw [hl a (by omega) (by omega)] at ha
  rw [hl x h1 (by omega)] at hx
  rw [hl y (by omega) h3]
  have hB : r ≤ B := by
    by_cases hlt : B < r
    · have := Int.mul_le_mul_of_nonneg_right (show 1 ≤ r - B by omega) (show 0 ≤ x - a by omega)
      rw [Int.sub_mul, Int.mul_sub, Int.mul_sub, Int.mul_sub] at this
      omega
    · omega
  have := Int.mul_nonneg (show 0 ≤ B - r by omega) (show 0 ≤ y - x by omega)
  rw [Int.sub_mul, Int.mul_sub, Int.mul_sub] at this
  omega
theorem late_no {l : List Cv} {r a b x : Int} (h : Gap l a b) (ha : ¬ Lt l r a) (hb : ¬ Lt l r b) (h1 : a ≤ x) (h2 : x ≤ b) : ¬ Lt l r x :=
  fun hx => hb (late_up h ha hx h1 h2 (by omega))

theorem vS_zero {l : List Cv} (h : NN l) : vS l 0 = 0 := by
  induction l with
  | nil => rfl
  | cons c l ih =>
    have h0 := h c (.head _)
    simp only [vS, ih fun d hd => h d (.tail _ hd), vC]
    have : W c.1 c.2.1 c.2.2 0 = 0 := by unfold W; rw [Int.min_eq_left h0.2.1]; simp
    rw [this]; simp
theorem late_zero {l : List Cv} {r : Int} (h : NN l) : ¬ Lt l r 0 := by unfold Lt; rw [vS_zero h]; simp

/-- the first tick at which they are late -/
def IsLate (l : List Cv) (r n : Int) : Prop :=
  (n = 9223372036854775808 ∧ ∀ t, 0 ≤ t → t < 9223372036854775808 → ¬ Lt l r t) ∨
  (0 < n ∧ n < 9223372036854775808 ∧ Lt l r n ∧ ∀ t, 0 ≤ t → t < n → ¬ Lt l r t)

theorem IsLate.unique {l : List Cv} {r n m : Int} (h : IsLate l r n) (h' : IsLate l r m) : n = m := by
  rcases h with ⟨h1, h2⟩ | ⟨h1, h2, h3, h4⟩ <;> rcases h' with ⟨k1, k2⟩ | ⟨k1, k2, k3, k4⟩
  · omega
  · exact absurd k3 (h2 m (by omega) k2)
  · exact absurd h3 (k2 n (by omega) h2)
  · by_cases c1 : n < m
    · exact absurd h3 (k4 n (by omega) c1)
    · by_cases c2 : m < n
      · exact absurd k3 (h4 m (by omega) c2)
      · omega
theorem IsLate.congr {l k : List Cv} {r n : Int} (e : ∀ t, vS l t = vS k t) (h : IsLate l r n) : IsLate k r n := by
  unfold IsLate Lt at *
  simpa only [e] using h
/-- can they be kept? -/
def Keep (l : List Cv) (r : Int) : Prop := ∀ t, 0 ≤ t → t < 9223372036854775808 → ¬ Lt l r t
theorem IsLate.keep {l : List Cv} {r n : Int} (h : IsLate l r n) : n = 9223372036854775808 ↔ Keep l r := by
  rcases h with ⟨h1, h2⟩ | ⟨h1, h2, h3, h4⟩
  · exact ⟨fun _ => h2, fun _ => h1⟩
  · exact ⟨fun e => by omega, fun k => absurd h3 (k n (by omega) h2)⟩

/-- the corners -/
structure IsCorn (l : List Cv) (k : List Int) : Prop where
  up : (0 :: k).Pairwise (· < ·)
  mem : ∀ n, n ∈ k ↔ ∃ c ∈ l, okC c = true ∧ c.2.1 ≠ 0 ∧ c.2.1 = n

theorem sorted_unique {a b : List Int} (ha : a.Pairwise (· < ·)) (hb : b.Pairwise (· < ·)) (h : ∀ n, n ∈ a ↔ n ∈ b) : a = b := by
  induction a generalizing b with
  | nil =>
    cases b with
    | nil => rfl
    | cons y b => exact absurd ((h y).2 (.head _)) List.not_mem_nil
  | cons x a ih =>
    cases b with
    | nil => exact absurd ((h x).1 (.head _)) List.not_mem_nil
    | cons y b =>
      have ha' := List.pairwise_cons.1 ha
      have hb' := List.pairwise_cons.1 hb
      have hxy : x = y := by
        rcases List.mem_cons.1 ((h x).1 (.head _)) with e | e
        · exact e
        · rcases List.mem_cons.1 ((h y).2 (.head _)) with e' | e'
          · exact e'.symm
          · have h1 := hb'.1 x e; have h2 := ha'.1 y e'; omega
      subst hxy
      congr 1
      refine ih ha'.2 hb'.2 fun n => ⟨fun hn => ?_, fun hn => ?_⟩
      · rcases List.mem_cons.1 ((h n).1 (.tail _ hn)) with e | e
        · have := ha'.1 n hn; omega
        · exact e
      · rcases List.mem_cons.1 ((h n).2 (.tail _ hn)) with e | e
        · have := hb'.1 n hn; omega
        · exact e
theorem IsCorn.unique {l : List Cv} {a b : List Int} (ha : IsCorn l a) (hb : IsCorn l b) : a = b :=
  sorted_unique (List.pairwise_cons.1 ha.up).2 (List.pairwise_cons.1 hb.up).2 fun n => by rw [ha.mem, hb.mem]

/-- ends, each with no corner between it and the one ahead -/
def Chain (l : List Cv) : Int → List Int → Prop
  | _, [] => True
  | a, b :: k => a < b ∧ Gap l a b ∧ Chain l b k

theorem chain_of {l : List Cv} {e : Int} (k : List Int) (a : Int) (up : (a :: k).Pairwise (· < ·)) (he : ∀ x ∈ a :: k, x < e)
    (mem : ∀ c ∈ l, okC c = true → c.2.1 ≤ a ∨ c.2.1 ∈ k) : Chain l a (k ++ [e]) := by
  induction k generalizing a with
  | nil =>
    refine ⟨he a (.head _), fun c hc ho => ?_, trivial⟩
    rcases mem c hc ho with h | h
    · exact .inl h
    · exact absurd h List.not_mem_nil
  | cons b k ih =>
    have hu := List.pairwise_cons.1 up
    refine ⟨hu.1 b (.head _), fun c hc ho => ?_, ih b hu.2 (fun x hx => he x (.tail _ hx)) fun c hc ho => ?_⟩
    · rcases mem c hc ho with h | h
      · exact .inl h
      · rcases List.mem_cons.1 h with h | h
        · exact .inr (by omega)
        · exact .inr (by have := (List.pairwise_cons.1 hu.2).1 _ h; omega)
    · rcases mem c hc ho with h | h
      · exact .inl (by have := hu.1 b (.head _); omega)
      · rcases List.mem_cons.1 h with h | h
        · exact .inl (by omega)
        · exact .inr h

theorem okC_L {c : Cv} (h : okC c = true) : c.2.1 ≤ 1099511627776 := by
  unfold okC mayB at h
  simp only [Bool.and_eq_true, decide_eq_true_eq] at h
  exact h.1.2
theorem IsCorn.le {l : List Cv} {k : List Int} (h : IsCorn l k) : ∀ x ∈ 0 :: k, 0 ≤ x ∧ x ≤ 1099511627776 := by
  intro x hx
  rcases List.mem_cons.1 hx with e | e
  · omega
  · obtain ⟨c, hc, ho, _, e'⟩ := (h.mem x).1 e
    have h1 := okC_L ho
    have := (List.pairwise_cons.1 h.up).1 x e
    omega
theorem IsCorn.chain {l : List Cv} {k : List Int} (h : IsCorn l k) : Chain l 0 (k ++ [9223372036854775807]) :=
  chain_of k 0 h.up (fun x hx => by have := h.le x hx; omega) fun c hc ho => by
    by_cases e : c.2.1 = 0
    · exact .inl (by omega)
    · exact .inr ((h.mem _).2 ⟨c, hc, ho, e, rfl⟩)

theorem chain_no {l : List Cv} {r e : Int} (k : List Int) (a : Int) (h : Chain l a (k ++ [e])) (ha : ¬ Lt l r a) (hk : ∀ x ∈ k, ¬ Lt l r x) (he : ¬ Lt l r e) :
    ∀ t, a ≤ t → t ≤ e → ¬ Lt l r t := by
  induction k generalizing a with
  | nil => exact fun t h1 h2 => late_no h.2.1 ha he h1 h2
  | cons b k ih =>
    intro t h1 h2
    by_cases c : t ≤ b
    · exact late_no h.2.1 ha (hk b (.head _)) h1 c
    · exact ih b h.2.2 (hk b (.head _)) (fun x hx => hk x (.tail _ hx)) t (by omega) h2

theorem vS_far {l : List Cv} {m t : Int} (h : ∀ c ∈ l, okC c = true → c.2.1 ≤ m) (hm : m ≤ t) : vS l t = vS l m + restS l * (t - m) := by
  induction l with
  | nil => simp [vS, restS]
  | cons c l ih =>
    have h' := ih fun d hd => h d (.tail _ hd)
    by_cases hc : okC c = true
    · have hL := h c (.head _) hc
      have e : vC c t = vC c m + c.2.2 * (t - m) := by
        unfold vC W
        rw [Int.min_eq_right (by omega), Int.min_eq_right hL, show t - c.2.1 = (m - c.2.1) + (t - m) by omega, Int.mul_add]; omega
      simp only [vS, restS, hc, if_true, h', e, Int.add_mul]; omega
    · simp [vS, restS, hc, h']

theorem last_ge {k : List Int} {a : Int} (up : (a :: k).Pairwise (· < ·)) : ∀ x ∈ a :: k, x ≤ (a :: k).getLast (List.cons_ne_nil _ _) := by
  induction k generalizing a with
  | nil =>
    intro x hx
    rcases List.mem_cons.1 hx with e | e
    · simp [e]
    · exact absurd e List.not_mem_nil
  | cons b k ih =>
    have hu := List.pairwise_cons.1 up
    intro x hx
    rw [List.getLast_cons (List.cons_ne_nil _ _)]
    have h1 := ih hu.2
    rcases List.mem_cons.1 hx with e | e
    · have := hu.1 b (.head _); have := h1 b (.head _); omega
    · exact h1 x e

theorem okC_may {c : Cv} (h : okC c = true) : c.1 ≤ 1048576 ∧ c.2.2 ≤ 1048576 := by
  unfold okC mayB at h
  simp only [Bool.and_eq_true, decide_eq_true_eq] at h
  exact h.1.1

theorem vS_nonneg {l : List Cv} (h : NN l) {t : Int} (ht : 0 ≤ t) : 0 ≤ vS l t := by
  induction l with
  | nil => simp [vS]
  | cons c l ih =>
    have h0 := h c (.head _)
    have h1 := ih fun d hd => h d (.tail _ hd)
    have h2 : 0 ≤ vC c t := by
      unfold vC W
      have a1 := Int.mul_nonneg h0.1 (show 0 ≤ min t c.2.1 by omega)
      have a2 := Int.mul_nonneg h0.2.2 (show 0 ≤ t - min t c.2.1 by omega)
      omega
    simp only [vS]
    split <;> omega

theorem keep_corners {l : List Cv} {k : List Int} {r : Int} (hn : NN l) (hk : IsCorn l k) (r0 : 0 ≤ r) (r1 : r ≤ 1048576) :
    Keep l r ↔ (∀ x ∈ 0 :: k, ¬ Lt l r x) ∧ restS l ≤ r := by
  constructor
  · intro h
    refine ⟨fun x hx => h x (hk.le x hx).1 (by have := hk.le x hx; omega), ?_⟩
    by_cases c : restS l ≤ r
    · exact c
    · have h1 := h 9223372036854775807 (by decide) (by decide)
      have h2 := vS_far (l := l) (m := 1099511627776) (t := 9223372036854775807) (fun c _ hc => okC_L hc) (by decide)
      have h3 := vS_nonneg hn (t := 1099511627776) (by decide)
      unfold Lt at h1
      omega
  · rintro ⟨h1, h2⟩ t t0 t1
    have hl := last_ge hk.up
    refine chain_no k 0 hk.chain (h1 0 (.head _)) (fun x hx => h1 x (.tail _ hx)) ?_ t t0 (by omega)
    have h3 := h1 _ (List.getLast_mem (List.cons_ne_nil 0 k))
    have h4 := (hk.le _ (List.getLast_mem (List.cons_ne_nil 0 k)))
    generalize (0 :: k).getLast (List.cons_ne_nil _ _) = m at *
    have h5 := vS_far (l := l) (m := m) (t := 9223372036854775807) (fun c hc ho => by
      by_cases e : c.2.1 = 0
      · omega
      · exact hl _ (.tail _ ((hk.mem _).2 ⟨c, hc, ho, e, rfl⟩))) (by omega)
    unfold Lt at *
    have h6 := Int.mul_le_mul_of_nonneg_right h2 (show 0 ≤ 9223372036854775807 - m by omega)
    rw [Int.mul_sub r] at h6
    omega

/-- with a straight curve beside -/
theorem vS_straight {l : List Cv} {n t : Int} (h1 : n ≤ 1048576) (ht : 0 ≤ t) : vS (l ++ [(0, 0, n)]) t = vS l t + n * t := by
  rw [vS_append]
  have : okC (0, 0, n) = true := by simp [okC, mayB, h1]
  simp only [vS, this, if_true, vC]
  unfold W
  rw [Int.min_eq_right ht]; simp
theorem keep_straight {l : List Cv} {r n m : Int} (h : Keep (l ++ [(0, 0, n)]) r) (hm : m ≤ n) (h1 : n ≤ 1048576) : Keep (l ++ [(0, 0, m)]) r := by
  intro t t0 t1
  have := h t t0 t1
  unfold Lt at *
  rw [vS_straight h1 t0] at this
  rw [vS_straight (by omega) t0]
  have := Int.mul_le_mul_of_nonneg_right hm t0
  omega
theorem keep_straight0 {l : List Cv} {r : Int} : Keep (l ++ [(0, 0, 0)]) r ↔ Keep l r := by
  constructor <;> intro h t t0 t1 <;> have h1 := h t t0 t1 <;> unfold Lt at * <;> rw [vS_straight (by omega) t0] at * <;> omega
/-- what is spare -/
structure IsSpare (l : List Cv) (r n : Int) : Prop where
  n0 : 0 ≤ n
  n1 : n ≤ 1048576
  keep : Keep (l ++ [(0, 0, n)]) r
  most : n = 1048576 ∨ ¬ Keep (l ++ [(0, 0, n + 1)]) r
theorem IsSpare.unique {l : List Cv} {r n m : Int} (h : IsSpare l r n) (h' : IsSpare l r m) : n = m := by
  have := h.n1; have := h'.n1
  by_cases c1 : n < m
  · rcases h.most with e | e
    · omega
    · exact absurd (keep_straight h'.keep (show n + 1 ≤ m by omega) h'.n1) e
  · by_cases c2 : m < n
    · rcases h'.most with e | e
      · omega
      · exact absurd (keep_straight h.keep (show m + 1 ≤ n by omega) h.n1) e
    · omega

/-- is a curve below another one? -/
def Under (a b : Cv) : Prop := ∀ t, 0 ≤ t → vC a t ≤ vC b t
theorem seg {a b : Cv} {x y t : Int} (ga : a.2.1 ≤ x ∨ y ≤ a.2.1) (gb : b.2.1 ≤ x ∨ y ≤ b.2.1) (hx : vC a x ≤ vC b x) (hy : vC a y ≤ vC b y) (h1 : x ≤ t) (h2 : t ≤ y) : vC a t ≤ vC b t := by
  obtain ⟨A, B, ha⟩ := W_line (F := a.1) (R := a.2.2) ga
  obtain ⟨C, D, hb⟩ := W_line (F := b.1) (R := b.2.2) gb
  unfold vC at *
  rw [ha x (by omega) (by omega), hb x (by omega) (by omega)] at hx
  rw [ha y (by omega) (by omega), hb y (by omega) (by omega)] at hy
  rw [ha t h1 h2, hb t h1 h2]
  by_cases c : B ≤ D
  · have := Int.mul_nonneg (show 0 ≤ D - B by omega) (show 0 ≤ t - x by omega)
    rw [Int.sub_mul, Int.mul_sub, Int.mul_sub] at this
    omega
  · have := Int.mul_nonneg (show 0 ≤ B - D by omega) (show 0 ≤ y - t by omega)
    rw [Int.sub_mul, Int.mul_sub, Int.mul_sub] at this
    omega
theorem vC_far {c : Cv} {m t : Int} (h : c.2.1 ≤ m) (hm : m ≤ t) : vC c t = vC c m + c.2.2 * (t - m) := by
  unfold vC W
  rw [Int.min_eq_right (by omega), Int.min_eq_right h, show t - c.2.1 = (m - c.2.1) + (t - m) by omega, Int.mul_add]; omega
theorem vC_zero {c : Cv} (h : 0 ≤ c.2.1) : vC c 0 = 0 := by unfold vC W; rw [Int.min_eq_left h]; simp
theorem under_of {a b : Cv} (ha : 0 ≤ a.2.1) (hb : 0 ≤ b.2.1) (hR : a.2.2 ≤ b.2.2) (h1 : vC a a.2.1 ≤ vC b a.2.1) (h2 : vC a b.2.1 ≤ vC b b.2.1) : Under a b := by
  intro t ht
  have h0 : vC a 0 ≤ vC b 0 := by rw [vC_zero ha, vC_zero hb]; omega
  have far : ∀ m, a.2.1 ≤ m → b.2.1 ≤ m → vC a m ≤ vC b m → m ≤ t → vC a t ≤ vC b t := fun m k1 k2 k3 k4 => by
    rw [vC_far k1 k4, vC_far k2 k4]
    have := Int.mul_le_mul_of_nonneg_right hR (show 0 ≤ t - m by omega)
    omega
  by_cases c : a.2.1 ≤ b.2.1
  · by_cases c1 : t ≤ a.2.1
    · exact seg (x := 0) (.inr (Int.le_refl _)) (.inr c) h0 h1 ht c1
    · by_cases c2 : t ≤ b.2.1
      · exact seg (.inl (Int.le_refl _)) (.inr (Int.le_refl _)) h1 h2 (by omega) c2
      · exact far _ c (Int.le_refl _) h2 (by omega)
  · by_cases c1 : t ≤ b.2.1
    · exact seg (x := 0) (.inr (by omega)) (.inr (Int.le_refl _)) h0 h2 ht c1
    · by_cases c2 : t ≤ a.2.1
      · exact seg (.inr (Int.le_refl _)) (.inl (Int.le_refl _)) h2 h1 (by omega) c2
      · exact far _ (Int.le_refl _) (by omega) h1 (by omega)
theorem okC_nn_top {c : Cv} (h : okC c = true) (_ : 0 ≤ c.1) (h1 : 0 ≤ c.2.1) (_ : 0 ≤ c.2.2) : vC c 1099511627776 ≤ 1152921504606846976 := by
  have hL := okC_L h
  have hm := okC_may h
  unfold vC W
  rw [Int.min_eq_right hL]
  have a1 := Int.mul_le_mul_of_nonneg_right hm.1 h1
  have a2 := Int.mul_le_mul_of_nonneg_right hm.2 (show 0 ≤ 1099511627776 - c.2.1 by omega)
  omega
theorem under_rest {a b : Cv} (oa : okC a = true) (ob : okC b = true) (na : 0 ≤ a.1 ∧ 0 ≤ a.2.1 ∧ 0 ≤ a.2.2) (nb : 0 ≤ b.1 ∧ 0 ≤ b.2.1 ∧ 0 ≤ b.2.2)
    (h : vC a 9223372036854775807 ≤ vC b 9223372036854775807) : a.2.2 ≤ b.2.2 := by
  have h1 := vC_far (c := a) (m := 1099511627776) (t := 9223372036854775807) (okC_L oa) (by decide)
  have h2 := vC_far (c := b) (m := 1099511627776) (t := 9223372036854775807) (okC_L ob) (by decide)
  have h3 := okC_nn_top ob nb.1 nb.2.1 nb.2.2
  have h4 : 0 ≤ vC a 1099511627776 := by
    unfold vC W
    have a1 := Int.mul_nonneg na.1 (show 0 ≤ min 1099511627776 a.2.1 by omega)
    have a2 := Int.mul_nonneg na.2.2 (show 0 ≤ 1099511627776 - min 1099511627776 a.2.1 by omega)
    omega
  omega
theorem under_iff {a b : Cv} (oa : okC a = true) (ob : okC b = true) (na : 0 ≤ a.1 ∧ 0 ≤ a.2.1 ∧ 0 ≤ a.2.2) (nb : 0 ≤ b.1 ∧ 0 ≤ b.2.1 ∧ 0 ≤ b.2.2) :
    Under a b ↔ vC a a.2.1 ≤ vC b a.2.1 ∧ vC a b.2.1 ≤ vC b b.2.1 ∧ vC a 9223372036854775807 ≤ vC b 9223372036854775807 :=
  ⟨fun h => ⟨h _ na.2.1, h _ nb.2.1, h _ (by decide)⟩, fun ⟨h1, h2, h3⟩ => under_of na.2.1 nb.2.1 (under_rest oa ob na nb h3) h1 h2⟩

end Go.Proofs.YtclhhegfffccgaaGreat
