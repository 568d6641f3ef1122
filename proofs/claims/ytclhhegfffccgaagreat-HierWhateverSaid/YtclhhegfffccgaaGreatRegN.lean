/-
  The law of XRegM for large regions: of each operation of the middle its slot and which others it looks at are told, and reckoned once; the goals then name neither the region's array nor its lookups.
-/
import Derived.Test.YtclhhegfffccgaaGreatRegM
namespace Go.Proofs.YtclhhegfffccgaaGreat
set_option linter.unusedVariables false
open Go.RowKit

/-- an operation of the middle: its number, its slot, which others it looks at, what is true of its value -/
structure Mid where
  k : Nat
  t : Tmp
  nd : List Nat
  T : Value → World → Prop
def midOf (ms : List Mid) (k : Nat) : Option Mid := ms.find? fun p => p.k == k
def putE (vs : Nat → Value) : List Mid → Act → Act
  | [], a => a
  | p :: r, a => putE vs r (a.put (some p.t) (vs p.k))
def FitsN (ms : List Mid) (vs : Nat → Value) (W : World) : List Nat → Prop
  | [] => True
  | j :: r => (match midOf ms j with | some p => p.T (vs j) W | none => True) ∧ FitsN ms vs W r
/-- the goals, one each operation, in order -/
def MidsW (P : Program) (ops : Array Oper) (w : World) (A : Act) (ms : List Mid) : Nat → List Oper → Prop
  | _, [] => True
  | k, o :: rest => (match midOf ms k with | some p => ∀ vs W, Below w.heap.size w W → FitsN ms vs W p.nd → TStep P ops o (putE vs ms A) W p.T | none => True) ∧ MidsW P ops w A ms (k + 1) rest
theorem midsW_skip {P : Program} {ops : Array Oper} {w : World} {A : Act} {ms : List Mid} {k : Nat} {o : Oper} {rest : List Oper} (h : (midOf ms k).isNone = true) (hr : MidsW P ops w A ms (k + 1) rest) : MidsW P ops w A ms k (o :: rest) := by
  unfold MidsW
  cases hm : midOf ms k with
  | none => exact ⟨trivial, hr⟩
  | some p => rw [hm] at h; cases h
theorem midsW_step {P : Program} {ops : Array Oper} {w : World} {A : Act} {ms : List Mid} {k : Nat} {o : Oper} {rest : List Oper} (p : Mid) (h : midOf ms k = some p)
    (hm : ∀ vs W, Below w.heap.size w W → FitsN ms vs W p.nd → TStep P ops o (putE vs ms A) W p.T) (hr : MidsW P ops w A ms (k + 1) rest) : MidsW P ops w A ms k (o :: rest) := by
  unfold MidsW
  rw [h]
  exact ⟨hm, hr⟩
theorem midsW_nil {P : Program} {ops : Array Oper} {w : World} {A : Act} {ms : List Mid} {k : Nat} : MidsW P ops w A ms k [] := trivial

/-- slots and lookups are as told -/
def toldB (ops : Array Oper) (ms : List Mid) : Bool :=
  ms.all fun p => (slotOf ops p.k == some p.t) && (match ops[p.k]? with | some o => p.nd.all fun j => needsB ops o j | none => false) && (midOf ms p.k).isSome
def msOf (ms : List Mid) : List (Nat × (Value → World → Prop)) := ms.map fun p => (p.k, p.T)

theorem putHd_told {ops : Array Oper} {vs : Nat → Value} : ∀ (ms : List Mid) (a : Act), (∀ p ∈ ms, slotOf ops p.k = some p.t) → putHd ops vs ((msOf ms).map (·.1)) a = putE vs ms a
  | [], _, _ => rfl
  | p :: r, a, h => by
    show putHd ops vs ((msOf r).map (·.1)) (a.put (slotOf ops p.k) (vs p.k)) = putE vs r (a.put (some p.t) (vs p.k))
    rw [h p (by simp)]
    exact putHd_told r _ fun q hq => h q (by simp [hq])
theorem fitsM_mem {vs : Nat → Value} {W : World} : ∀ {l : List (Nat × (Value → World → Prop))} {q}, FitsM l vs W → q ∈ l → q.2 (vs q.1) W
  | p :: r, q, h, hq => by
    rcases List.mem_cons.1 hq with rfl | hq
    · exact h.1
    · exact fitsM_mem h.2 hq
theorem fitsN_of {ms : List Mid} {vs : Nat → Value} {W : World} : ∀ {nd : List Nat}, (∀ j ∈ nd, ∀ p, midOf ms j = some p → p.T (vs j) W) → FitsN ms vs W nd
  | [], _ => trivial
  | j :: r, h => ⟨by
      cases hm : midOf ms j with
      | none => trivial
      | some p => exact h j (by simp) p hm, fitsN_of fun i hi => h i (by simp [hi])⟩
theorem midOf_mem {ms : List Mid} {j : Nat} {p : Mid} (h : midOf ms j = some p) : p ∈ ms ∧ p.k = j :=
  ⟨List.mem_of_find?_eq_some h, by have := List.find?_some h; simpa using this⟩
theorem midsW_get {P : Program} {ops : Array Oper} {w : World} {A : Act} {ms : List Mid} : ∀ {l : List Oper} {k : Nat}, MidsW P ops w A ms k l → ∀ (i : Nat) (o : Oper) (p : Mid), l[i]? = some o → midOf ms (k + i) = some p →
    ∀ vs W, Below w.heap.size w W → FitsN ms vs W p.nd → TStep P ops o (putE vs ms A) W p.T
  | [], k, _, i, o, p, hi, _ => by simp at hi
  | o' :: rest, k, h, 0, o, p, hi, hm => by
    obtain rfl : o' = o := by simpa using hi
    have := h.1
    rw [Nat.add_zero] at hm
    rw [hm] at this
    exact this
  | o' :: rest, k, h, i + 1, o, p, hi, hm => midsW_get (l := rest) (k := k + 1) h.2 i o p (by simpa using hi) (by rw [show k + 1 + i = k + (i + 1) by omega]; exact hm)

theorem mid_inj : ∀ {ms : List Mid}, (ms.map (·.k)).Nodup → ∀ {p q : Mid}, p ∈ ms → q ∈ ms → p.k = q.k → p = q
  | x :: r, h, p, q, hp, hq, e => by
    rw [List.map_cons, List.nodup_cons] at h
    rcases List.mem_cons.1 hp with hp2 | hp2 <;> rcases List.mem_cons.1 hq with hq2 | hq2
    · rw [hp2, hq2]
    · subst hp2; exact absurd (show p.k ∈ r.map (·.k) from List.mem_map.2 ⟨q, hq2, e.symm⟩) h.1
    · subst hq2; exact absurd (show q.k ∈ r.map (·.k) from List.mem_map.2 ⟨p, hp2, e⟩) h.1
    · exact mid_inj h.2 hp2 hq2 e
theorem midsOKg_told {P : Program} {w : World} {A : Act} {l : List Oper} {ms : List Mid} {n : Nat} (ht : toldB l.toArray ms = true) (hd : (ms.map (·.k)).Nodup) (hn : ∀ p ∈ ms, p.k < n) (h : MidsW P l.toArray w A ms 0 (l.take n)) : MidsOKg P l.toArray w A (msOf ms) (msOf ms) := by
  have ht' := List.all_eq_true.1 ht
  simp only [Bool.and_eq_true, beq_iff_eq] at ht'
  have hput := fun vs => putHd_told (ops := l.toArray) (vs := vs) ms A fun p hp => (ht' p hp).1.1
  suffices key : ∀ ks : List Mid, (∀ p ∈ ks, p ∈ ms) → MidsOKg P l.toArray w A (msOf ms) (msOf ks) from key ms fun _ h => h
  intro ks
  induction ks with
  | nil => intro _; trivial
  | cons p r ih =>
    intro hp
    refine ⟨?_, ih fun q hq => hp q (by simp [hq])⟩
    have hpm := hp p (by simp)
    obtain ⟨⟨h1, h2⟩, h3⟩ := ht' p hpm
    show (match l.toArray[p.k]? with | some o => _ | none => True)
    cases ho : l.toArray[p.k]? with
    | none => trivial
    | some o =>
      rw [ho] at h2
      have h2' := List.all_eq_true.1 h2
      intro vs W hb hf
      rw [hput vs]
      have hk : midOf ms p.k = some p := by
        obtain ⟨q, hq⟩ := Option.isSome_iff_exists.1 h3
        obtain ⟨hqm, hqk⟩ := midOf_mem hq
        rw [hq]
        congr 1
        exact mid_inj hd hqm hpm hqk
      refine midsW_get h p.k o p ?_ (by rw [Nat.zero_add]; exact hk) vs W hb (fitsN_of fun j hj q hq => ?_)
      · rw [List.getElem?_take_of_lt (hn p hpm)]; simpa using ho
      · obtain ⟨hqm, hqk⟩ := midOf_mem hq
        have hmem : (q.k, q.T) ∈ (msOf ms).filter fun x => needsB l.toArray o x.1 := List.mem_filter.2 ⟨List.mem_map.2 ⟨q, hqm, rfl⟩, by simp only [hqk]; exact h2' j hj⟩
        have := fitsM_mem hf hmem
        rw [← hqk]; exact this

theorem fitsN_told {ms : List Mid} {vs : Nat → Value} {W : World} (h : FitsM (msOf ms) vs W) (nd : List Nat) : FitsN ms vs W nd :=
  fitsN_of fun j _ p hp => by
    obtain ⟨hm, hk⟩ := midOf_mem hp
    have := fitsM_mem h (List.mem_map.2 ⟨p, hm, rfl⟩)
    rw [← hk]; exact this

/-- last: which of the middle the tail looks at -/
theorem wp_region_told {P : Program} {w : World} {id : Nat} {Q : Exit → Act → World → Prop} {a : Act} {l : List Oper} (n g : Nat) (last mids : List Nat) (ms : List Mid) (hmids : ms.map (·.k) = mids) (fls : List (Tmp × Value)) (hm : P.follows .mixedOrders = true)
    (hB : midBg l.toArray n g (ms.map (·.k)) = true) (ht : toldB l.toArray ms = true) (hlt : (ms.all fun p => decide (p.k < n)) = true) (hd : decide (ms.map (·.k)).Nodup = true) (hfls : flOf l.toArray (l.length - (n + g)) (n + g) = fls) (hsz : slotsB l.toArray a.tmps.size = true) (hQ : ∀ c a d v w, Q (.panic c) (Act.put a (some d) v) w → Q (.panic c) a w)
    (hst : StableM (msOf ms))
    (h : ∀ L : Act → Prop, (∀ A, MidsW P l.toArray w A ms 0 (l.take n) → (∀ vs W, Below w.heap.size w W → FitsN ms vs W last → wpList P l.toArray Q ((l.drop n).take g) (putE vs ms A) W) → L A) →
      wpHead P l.toArray w mids L 0 (l.take n) (putL fls a)) :
    (Code.region id l.toArray true).wp P Q a w := by
  subst hmids
  have hd' := of_decide_eq_true hd
  have hlt' := List.all_eq_true.1 hlt
  simp only [decide_eq_true_eq] at hlt'
  have ht' := List.all_eq_true.1 ht
  simp only [Bool.and_eq_true, beq_iff_eq] at ht'
  refine wp_region_midg n g (ms.map (·.k)) fls (msOf ms) (by simp [msOf]) hm hB hfls hsz hQ hst fun L hL => h L fun A hA htl => hL A (midsOKg_told ht hd' hlt' hA) fun vs W hb hf => ?_
  have e : ms.map (·.k) = (msOf ms).map (·.1) := by simp [msOf]
  rw [e, putHd_told ms A fun p hp => (ht' p hp).1.1]
  exact htl vs W hb (fitsN_told hf last)
end Go.Proofs.YtclhhegfffccgaaGreat
