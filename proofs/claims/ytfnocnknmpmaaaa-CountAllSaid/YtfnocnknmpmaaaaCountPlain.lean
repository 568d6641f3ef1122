/-
  The counters: the plain laws.
-/
import Derived.Test.YtfnocnknmpmaaaaCountActs
namespace Go.Proofs.Ytfnocnknmpmaaaa
set_option linter.unusedVariables false
open Go.RowKit

/-- what an act does to a class's counters; none: nothing is told -/
def stL (a : CAct) : Option (List Stp) :=
  if a.k % 6 = 0 then some (cameL a.n) else if a.k % 6 = 1 then some refusedL else if a.k % 6 = 2 then some (chosenL a.n a.r) else if a.k % 6 = 3 then some (throughL a.n) else none
theorem tellA_eq (B : Bk) (a : CAct) : tellA B a = match stL a with | some L => tellB B a.c L | none => B := by
  unfold tellA stL
  repeat' split
  all_goals first | rfl | (simp_all)
theorem look_tell0 (B : Bk) (k j : Int) (L : List Stp) : lookM (tell0 B k L) j = if j = k then some (stepsS (getB B k) L) else lookM B j := by
  unfold tell0
  split
  · rename_i h; subst h; exact look_put_same _ _ _
  · rename_i h; exact look_put_other _ h _
theorem get_look (B : Bk) (j : Int) : getB B j = (lookM B j).getD st0 := rfl
theorem look_tellB (B : Bk) (c j : Int) (L : List Stp) (hc : 1 ≤ c) : lookM (tellB B c L) j = if j = 0 then some (stepsS (getB B 0) L) else if j = c then some (stepsS (getB B c) L) else lookM B j := by
  unfold tellB
  rw [if_neg (by omega), look_tell0]
  by_cases h0 : j = 0
  · subst h0
    rw [if_neg (by omega), if_pos rfl, look_tell0, if_pos rfl]
  · rw [if_neg h0]
    by_cases h1 : j = c
    · subst h1
      rw [if_pos rfl, if_pos rfl, get_look (tell0 B 0 L), look_tell0, if_neg h0]; rfl
    · rw [if_neg h1, if_neg h1, look_tell0, if_neg h0]
theorem rising_tell0 {B : Bk} (h : Rising B) (k : Int) (L : List Stp) : Rising (tell0 B k L) := rising_put _ _ h
theorem rising_tellB {B : Bk} (h : Rising B) (c : Int) (L : List Stp) : Rising (tellB B c L) := by
  unfold tellB; split
  · exact rising_tell0 h _ _
  · exact rising_tell0 (rising_tell0 h _ _) _ _
theorem rising_tellA {B : Bk} (h : Rising B) (a : CAct) : Rising (tellA B a) := by
  rw [tellA_eq]; split
  · exact rising_tellB h _ _
  · exact h
theorem rising_fold : ∀ (l : List CAct) {B : Bk}, Rising B → Rising (l.foldl tellA B)
  | [], _, h => h
  | a :: l, _, h => rising_fold l (rising_tellA h a)
theorem len_tell0 (B : Bk) (k : Int) (L : List Stp) : (tell0 B k L).length ≤ B.length + 1 := put_length _ _ _
theorem len_tellB (B : Bk) (c : Int) (L : List Stp) : (tellB B c L).length ≤ B.length + 2 := by
  unfold tellB
  have h1 := len_tell0 B 0 L
  have h2 := len_tell0 (tell0 B 0 L) c L
  split <;> omega
theorem len_tellA (B : Bk) (a : CAct) : (tellA B a).length ≤ B.length + 2 := by
  rw [tellA_eq]; split
  · exact len_tellB _ _ _
  · omega
theorem len_fold : ∀ (l : List CAct) (B : Bk), (l.foldl tellA B).length ≤ B.length + 2 * l.length
  | [], B => by simp
  | a :: l, B => by
    have := len_fold l (tellA B a); have := len_tellA B a
    simp only [List.foldl_cons, List.length_cons]; omega

/-- an act on a class's counters -/
def stO (o : Option St) (a : CAct) : Option St := match stL a with | some L => some (stepsS (o.getD st0) L) | none => o
def stA (s : St) (a : CAct) : St := match stL a with | some L => stepsS s L | none => s
theorem look_fold (j : Int) (hj : 1 ≤ j) : ∀ (l : List CAct) (B : Bk), (∀ a ∈ l, 1 ≤ a.c) → lookM (l.foldl tellA B) j = (l.filter fun a => decide (a.c = j)).foldl stO (lookM B j)
  | [], B, _ => rfl
  | a :: l, B, h => by
    have hc := h a (by simp)
    rw [List.foldl_cons, look_fold j hj l _ (fun q hq => h q (by simp [hq])), List.filter_cons, tellA_eq]
    by_cases e : a.c = j
    · rw [if_pos (by simpa using e), List.foldl_cons]
      congr 1
      unfold stO
      cases stL a with
      | none => rfl
      | some L => rw [look_tellB _ _ _ _ hc, if_neg (by omega), if_pos e.symm, e]; rfl
    · rw [if_neg (by simpa using e)]
      congr 1
      cases stL a with
      | none => rfl
      | some L => rw [look_tellB _ _ _ _ hc, if_neg (by omega), if_neg (fun x => e x.symm)]
theorem get_fold0 : ∀ (l : List CAct) (B : Bk), (∀ a ∈ l, 1 ≤ a.c) → getB (l.foldl tellA B) 0 = l.foldl stA (getB B 0)
  | [], B, _ => rfl
  | a :: l, B, h => by
    have hc := h a (by simp)
    rw [List.foldl_cons, get_fold0 l _ (fun q hq => h q (by simp [hq])), List.foldl_cons]
    congr 1
    rw [tellA_eq]
    unfold stA
    cases stL a with
    | none => rfl
    | some L => rw [get_look, look_tellB _ _ _ _ hc, if_pos rfl]; rfl

/-- by how much an act raises a field that is never lowered -/
def inc (f : Nat) (a : CAct) : Int :=
  if a.k % 6 = 0 then (if f = 0 then 1 else 0) else if a.k % 6 = 1 then (if f = 1 then 1 else 0) else if a.k % 6 = 2 then (if f = (if a.r = 1 then 4 else 5) then a.n else 0)
  else if a.k % 6 = 3 then (if f = 2 then 1 else if f = 3 then a.n else 0) else 0
theorem inc_range {f : Nat} {a : CAct} (h : fitB a = true) : 0 ≤ inc f a ∧ inc f a ≤ 65535 := by
  unfold fitB at h
  obtain ⟨_, _, h1, h2⟩ := of_decide_eq_true h
  unfold inc
  repeat' split
  all_goals omega
theorem sumv_up {n x : Int} (h : n + x ≤ 4611686018427387904) : sumv n false x = n + x := by
  unfold sumv; simp; omega
theorem stA_up {s : St} {a : CAct} {f : Nat} (hf : f < 6) (ha : fitB a = true) (h0 : 0 ≤ s f) (h1 : s f + 65535 ≤ 4611686018427387904) : stA s a f = s f + inc f a := by
  unfold fitB at ha
  obtain ⟨_, _, hn, hn2⟩ := of_decide_eq_true ha
  have hm : max a.n 0 = a.n := by omega
  have e1 := sumv_up (n := s f) (x := 1) (by omega)
  have e2 := sumv_up (n := s f) (x := a.n) (by omega)
  unfold stA stL inc
  rcases (by omega : a.k % 6 = 0 ∨ a.k % 6 = 1 ∨ a.k % 6 = 2 ∨ a.k % 6 = 3 ∨ a.k % 6 = 4 ∨ a.k % 6 = 5) with h | h | h | h | h | h
  · rcases (by omega : f = 0 ∨ f = 1 ∨ f = 2 ∨ f = 3 ∨ f = 4 ∨ f = 5) with rfl | rfl | rfl | rfl | rfl | rfl <;> simp [h, stepsS, cameL, step1, setS, e1]
  · rcases (by omega : f = 0 ∨ f = 1 ∨ f = 2 ∨ f = 3 ∨ f = 4 ∨ f = 5) with rfl | rfl | rfl | rfl | rfl | rfl <;> simp [h, stepsS, refusedL, step1, setS, e1]
  · by_cases hr : a.r = 1 <;> rcases (by omega : f = 0 ∨ f = 1 ∨ f = 2 ∨ f = 3 ∨ f = 4 ∨ f = 5) with rfl | rfl | rfl | rfl | rfl | rfl <;> simp [h, stepsS, chosenL, step1, setS, e2, hr, hm]
  · rcases (by omega : f = 0 ∨ f = 1 ∨ f = 2 ∨ f = 3 ∨ f = 4 ∨ f = 5) with rfl | rfl | rfl | rfl | rfl | rfl <;> simp [h, stepsS, throughL, step1, setS, e1, e2, hm]
  · simp [h]
  · simp [h]
theorem fold_up {f : Nat} (hf : f < 6) : ∀ (l : List CAct) (s : St), (∀ a ∈ l, fitB a = true) → 0 ≤ s f → s f + 65535 * l.length ≤ 4611686018427387904 → (l.foldl stA s) f = s f + (l.map (inc f)).sum
  | [], s, _, _, _ => by simp
  | a :: l, s, h, h0, h1 => by
    have ha := h a (by simp)
    have hi := inc_range (f := f) ha
    simp only [List.length_cons] at h1
    have e := stA_up (s := s) hf ha h0 (by omega)
    rw [List.foldl_cons, fold_up hf l _ (fun q hq => h q (by simp [hq])) (by rw [e]; omega) (by rw [e]; omega), e]
    simp only [List.map_cons, List.sum_cons]; omega

/-! ## class by class -/
def L2 (l : List CAct) : Nat → List CAct
  | 0 => []
  | j + 1 => L2 l j ++ l.filter fun a => decide (a.c = 60 - (j : Int))
def descB (l : List CAct) : Nat → Bk
  | 0 => [(0, st0)]
  | j + 1 => (l.filter fun a => decide (a.c = 60 - (j : Int))).foldl tellA (descB l j)
theorem descB_eq (l : List CAct) : ∀ j, descB l j = (L2 l j).foldl tellA [(0, st0)]
  | 0 => rfl
  | j + 1 => by rw [descB, L2, List.foldl_append, descB_eq l j]
theorem L2_mem {l : List CAct} : ∀ {j : Nat} {a : CAct}, a ∈ L2 l j → a ∈ l
  | 0, _, h => by cases h
  | j + 1, a, h => by
    rw [L2, List.mem_append] at h
    rcases h with h | h
    · exact L2_mem h
    · exact (List.mem_filter.1 h).1
theorem L2_sum (l : List CAct) (g : CAct → Int) (hc : ∀ a ∈ l, a.c ≤ 60) : ∀ j : Nat, ((L2 l j).map g).sum = (l.map fun a => if 60 - (j : Int) < a.c then g a else 0).sum
  | 0 => by
    rw [L2]
    induction l with
    | nil => rfl
    | cons a l ih =>
      have h1 := hc a (by simp)
      rw [List.map_cons, List.sum_cons, if_neg (by simp; omega), ← ih fun q hq => hc q (by simp [hq])]
      simp
  | j + 1 => by
    rw [L2, List.map_append, List.sum_append, L2_sum l g hc j]
    clear hc
    induction l with
    | nil => rfl
    | cons a l ih =>
      rw [List.map_cons, List.sum_cons, List.map_cons, List.sum_cons]
      by_cases h : a.c = 60 - (j : Int)
      · rw [List.filter_cons_of_pos (by simpa using h), List.map_cons, List.sum_cons, if_neg (show ¬ 60 - (j : Int) < a.c by omega), if_pos (show 60 - ((j + 1 : Nat) : Int) < a.c by omega)]
        omega
      · rw [List.filter_cons_of_neg (by simp; omega)]
        by_cases h2 : 60 - (j : Int) < a.c
        · rw [if_pos h2, if_pos (show 60 - ((j + 1 : Nat) : Int) < a.c by omega)]; omega
        · rw [if_neg h2, if_neg (show ¬ 60 - ((j + 1 : Nat) : Int) < a.c by omega)]; omega
theorem L2_filter (l : List CAct) (x : Int) (hx : x ≤ 60) : ∀ j : Nat, (L2 l j).filter (fun a => decide (a.c = x)) = if 60 - (j : Int) < x then l.filter (fun a => decide (a.c = x)) else []
  | 0 => by simp [L2]; omega
  | j + 1 => by
    rw [L2, List.filter_append, L2_filter l x hx j, List.filter_filter]
    by_cases h : x = 60 - (j : Int)
    · subst h
      rw [if_neg (by omega), if_pos (by simp; omega)]
      simp
    · have : l.filter (fun a => decide (a.c = x) && decide (a.c = 60 - (j : Int))) = [] := by
        rw [List.filter_eq_nil_iff]
        intro a _
        simp
        omega
      rw [this, List.append_nil]
      by_cases h2 : 60 - (j : Int) < x
      · rw [if_pos h2, if_pos (by simp; omega)]
      · rw [if_neg h2, if_neg (by simp; omega)]

/-! ## who was told something -/
theorem mem_keys {α : Type} {k : Int} : ∀ {M : List (Int × α)}, k ∈ M.map (·.1) ↔ (lookM M k).isSome = true
  | [] => by simp [lookM]
  | p :: r => by
    rw [List.map_cons, List.mem_cons, lookM]
    by_cases h : p.1 = k
    · simp [h]
    · rw [if_neg h, ← mem_keys (M := r)]
      constructor
      · rintro (e | e)
        · exact absurd e.symm h
        · exact e
      · exact .inr
theorem strict_ext : ∀ {a b : List Int}, a.Pairwise (· < ·) → b.Pairwise (· < ·) → (∀ x, x ∈ a ↔ x ∈ b) → a = b
  | [], [], _, _, _ => rfl
  | [], y :: b, _, _, h => by have := (h y).2 (by simp); cases this
  | x :: a, [], _, _, h => by have := (h x).1 (by simp); cases this
  | x :: a, y :: b, ha, hb, h => by
    have ha' := List.pairwise_cons.1 ha
    have hb' := List.pairwise_cons.1 hb
    have e : x = y := by
      have h1 := (h x).1 (by simp)
      have h2 := (h y).2 (by simp)
      rcases List.mem_cons.1 h1 with e | h1
      · exact e
      · rcases List.mem_cons.1 h2 with e | h2
        · exact e.symm
        · have := ha'.1 y h2; have := hb'.1 x h1; omega
    subst e
    rw [strict_ext ha'.2 hb'.2 fun z => ?_]
    have hz := h z
    simp only [List.mem_cons] at hz
    constructor
    · intro h1
      rcases hz.1 (.inr h1) with e | h2
      · have := ha'.1 z h1; omega
      · exact h2
    · intro h1
      rcases hz.2 (.inr h1) with e | h2
      · have := hb'.1 z h1; omega
      · exact h2
theorem ids_strict {B : Bk} (h : Rising B) : (idsB B).Pairwise (· < ·) := by
  unfold idsB
  refine List.Pairwise.filter _ ?_
  rw [List.pairwise_map]; exact h
theorem ids_mem {B : Bk} {x : Int} : x ∈ idsB B ↔ x ≠ 0 ∧ (lookM B x).isSome = true := by
  unfold idsB
  rw [List.mem_filter, mem_keys]
  simp [and_comm]
theorem ids_ext {A B : Bk} (hA : Rising A) (hB : Rising B) (h : ∀ j, j ≠ 0 → lookM A j = lookM B j) : idsB A = idsB B :=
  strict_ext (ids_strict hA) (ids_strict hB) fun x => by
    rw [ids_mem, ids_mem]
    constructor
    · rintro ⟨h1, h2⟩; exact ⟨h1, by rw [← h x h1]; exact h2⟩
    · rintro ⟨h1, h2⟩; exact ⟨h1, by rw [h x h1]; exact h2⟩

theorem look_fold_low (j : Int) (hj : j < 0) : ∀ (l : List CAct) (B : Bk), (∀ a ∈ l, 1 ≤ a.c) → lookM (l.foldl tellA B) j = lookM B j
  | [], B, _ => rfl
  | a :: l, B, h => by
    have hc := h a (by simp)
    rw [List.foldl_cons, look_fold_low j hj l _ (fun q hq => h q (by simp [hq])), tellA_eq]
    cases stL a with
    | none => rfl
    | some L => rw [look_tellB _ _ _ _ hc, if_neg (by omega), if_neg (by omega)]

theorem fit_c {a : CAct} (h : fitB a = true) : 1 ≤ a.c ∧ a.c ≤ 60 := by
  unfold fitB at h
  obtain ⟨h1, h2, _, _⟩ := of_decide_eq_true h
  exact ⟨h1, h2⟩
/-- the law -/
theorem turned_look (l : List CAct) (h : ∀ a ∈ l, fitB a = true) (j : Int) (hj : j ≠ 0) : lookM (l.foldl tellA [(0, st0)]) j = lookM (descB l 60) j := by
  have h1 : ∀ a ∈ l, 1 ≤ a.c := fun a ha => (fit_c (h a ha)).1
  have h2 : ∀ a ∈ L2 l 60, 1 ≤ a.c := fun a ha => h1 a (L2_mem ha)
  rw [descB_eq]
  by_cases hp : 1 ≤ j
  · rw [look_fold j hp l _ h1, look_fold j hp _ _ h2]
    by_cases hh : j ≤ 60
    · rw [L2_filter l j hh 60, if_pos (by simp; omega)]
    · have e1 : ∀ (z : List CAct), (∀ a ∈ z, a.c ≤ 60) → z.filter (fun a => decide (a.c = j)) = [] := by
        intro z hz
        rw [List.filter_eq_nil_iff]
        intro a ha
        have := hz a ha
        simp; omega
      rw [e1 _ fun a ha => (fit_c (h a ha)).2, e1 _ fun a ha => (fit_c (h a (L2_mem ha))).2]
  · rw [look_fold_low j (by omega) l _ h1, look_fold_low j (by omega) _ _ h2]
theorem turned_get (l : List CAct) (h : ∀ a ∈ l, fitB a = true) (j : Int) (hj : j ≠ 0) : getB (l.foldl tellA [(0, st0)]) j = getB (descB l 60) j := by
  rw [get_look, get_look, turned_look l h j hj]
theorem L2_len (l : List CAct) : ∀ j, (L2 l j).length ≤ j * l.length
  | 0 => by simp [L2]
  | j + 1 => by
    rw [L2, List.length_append]
    have := L2_len l j
    have := List.length_filter_le (fun a : CAct => decide (a.c = 60 - (j : Int))) l
    rw [Nat.succ_mul]; omega
theorem turned_all (l : List CAct) (h : ∀ a ∈ l, fitB a = true) (hl : l.length ≤ 200) (f : Nat) (hf : f < 6) : getB (l.foldl tellA [(0, st0)]) 0 f = getB (descB l 60) 0 f := by
  have h1 : ∀ a ∈ l, 1 ≤ a.c := fun a ha => (fit_c (h a ha)).1
  have h2 : ∀ a ∈ L2 l 60, 1 ≤ a.c := fun a ha => h1 a (L2_mem ha)
  have h3 := L2_len l 60
  have e0 : getB [(0, st0)] 0 f = 0 := rfl
  rw [descB_eq, get_fold0 l _ h1, get_fold0 _ _ h2, fold_up hf l _ h (by rw [e0]; omega) (by rw [e0]; omega), fold_up hf _ _ (fun a ha => h a (L2_mem ha)) (by rw [e0]; omega) (by rw [e0]; omega),
    L2_sum l (inc f) (fun a ha => (fit_c (h a ha)).2) 60]
  congr 2
  apply List.map_congr_left
  intro a ha
  rw [if_pos (by have := h1 a ha; simp; omega)]
theorem rising0 : Rising ([(0, st0)] : Bk) := by simp [Rising]
theorem turned_ids (l : List CAct) (h : ∀ a ∈ l, fitB a = true) : idsB (l.foldl tellA [(0, st0)]) = idsB (descB l 60) :=
  ids_ext (rising_fold l rising0) (by rw [descB_eq]; exact rising_fold _ rising0) (turned_look l h)
end Go.Proofs.Ytfnocnknmpmaaaa
