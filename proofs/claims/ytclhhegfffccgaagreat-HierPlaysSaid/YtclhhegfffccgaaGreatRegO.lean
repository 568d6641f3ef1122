/-
  The law of XRegP, with what a value owns in a world told by a relation. (Printed by wip/mkrego.py out of XRegP.)
-/
import Derived.Test.YtclhhegfffccgaaGreatRegM
namespace Go.Proofs.YtclhhegfffccgaaGreat
set_option linter.unusedVariables false
open Go.RowKit

section
variable {P : Program} {ops : Array Oper} {md : Region.Mode} {w : World}

/-- what the value owns is new -/
def FreshO (O : Value → World → Nat → Prop) (W : World) (v : Value) (W' : World) : Prop := ∀ b, O v W' b → W.heap.size ≤ b ∧ b < W'.heap.size
def ApsO (O : Value → World → Nat → Prop) (ops : Array Oper) (fr : List Nat) (listed : Array Bool) (a : Act) (W : World) : Prop :=
  (∀ k ∈ fr, listed.getD k false = true → ∀ t v, slotOf ops k = some t → a.tmps[t]? = some v → ∀ b, O v W b → b < W.heap.size) ∧
  (∀ j ∈ fr, ∀ k ∈ fr, j ≠ k → listed.getD j false = true → listed.getD k false = true → ∀ s t u v, slotOf ops j = some s → slotOf ops k = some t → a.tmps[s]? = some u → a.tmps[t]? = some v → ∀ b, O u W b → O v W b → False)
def ApartO (O : Value → World → Nat → Prop) (fr : List Nat) (vs : Nat → Value) (W : World) : Prop := ∀ j ∈ fr, ∀ k ∈ fr, j ≠ k → ∀ b, O (vs j) W b → O (vs k) W b → False
theorem ApsO.step {O : Value → World → Nat → Prop} {n g k : Nat} {fr : List Nat} {T : Nat → Value → World → Prop} {a0 : Act} {listed : Array Bool} {a : Act} {W W' : World} {ok : Oper} {v : Value} (J : ApsO O ops fr listed a W) (S : StatM md ops n g) (hfr : ∀ k ∈ fr, k < n) (hO : ∀ k ∈ fr, ∀ v W W' b, T k v W → Below W.heap.size W W' → O v W' b → O v W b) (I : InvM md ops n g T a0 w listed a W) (hun : listed.getD k true = false) (hkn : k < n) (hok : ops[k]? = some ok) (hb : Below W.heap.size W W') (hf : k ∈ fr → FreshO O W v W') :
    ApsO O ops fr (listed.setIfInBounds k true) (a.put ok.dst v) W' := by
  have hsk : slotOf ops k = ok.dst := by unfold slotOf; rw [hok]; rfl
  have old : ∀ j ∈ fr, j ≠ k → (listed.setIfInBounds k true).getD j false = true → listed.getD j false = true := fun j _ hne hl => by
    rwa [getD_set_ne false (Ne.symm hne)] at hl
  have val : ∀ j ∈ fr, j ≠ k → ∀ t u, slotOf ops j = some t → (a.put ok.dst v).tmps[t]? = some u → a.tmps[t]? = some u := fun j hj hne t u hs h => by
    rw [put_tmps, if_neg] at h
    · exact h
    · rintro ⟨h1, _⟩
      exact S.uniq k j t hkn (hfr j hj) (Ne.symm hne) (by rw [hsk]; exact h1) hs
  have own : ∀ t u, slotOf ops k = some t → (a.put ok.dst v).tmps[t]? = some u → u = v := fun t u hs h => by
    rw [put_tmps] at h
    rw [hsk] at hs
    by_cases ht : t < a.tmps.size
    · rw [if_pos ⟨hs, ht⟩] at h; exact (Option.some.inj h).symm
    · rw [if_neg (fun h => ht h.2), Array.getElem?_eq_none (Nat.le_of_not_lt ht)] at h; cases h
  have back : ∀ j ∈ fr, listed.getD j false = true → ∀ t u, slotOf ops j = some t → a.tmps[t]? = some u → ∀ b, O u W' b → O u W b := fun j hj hl t u hs hu b hbo => by
    have ht : t < a0.tmps.size := by rw [← I.sz]; exact (Array.getElem?_eq_some_iff.1 hu).1
    obtain ⟨x, hx, hT⟩ := I.val j t (hfr j hj) hl hs ht
    rw [hu] at hx
    cases hx
    exact hO j hj u W W' b hT hb hbo
  refine ⟨fun j hj hl t u hs hu b hbo => ?_, fun i hi j hj hne hli hlj s t u x hs ht hu hx b h1 h2 => ?_⟩
  · by_cases e : j = k
    · subst e
      rw [own t u hs hu] at hbo
      exact (hf hj b hbo).2
    · exact Nat.lt_of_lt_of_le (J.1 j hj (old j hj e hl) t u hs (val j hj e t u hs hu) b (back j hj (old j hj e hl) t u hs (val j hj e t u hs hu) b hbo)) hb.size
  · by_cases ei : i = k
    · subst ei
      rw [own s u hs hu] at h1
      have hjk : j ≠ i := Ne.symm hne
      have := J.1 j hj (old j hj hjk hlj) t x ht (val j hj hjk t x ht hx) b (back j hj (old j hj hjk hlj) t x ht (val j hj hjk t x ht hx) b h2)
      have := (hf hi b h1).1
      omega
    · by_cases ej : j = k
      · subst ej
        rw [own t x ht hx] at h2
        have := J.1 i hi (old i hi ei hli) s u hs (val i hi ei s u hs hu) b (back i hi (old i hi ei hli) s u hs (val i hi ei s u hs hu) b h1)
        have := (hf hj b h2).1
        omega
      · exact J.2 i hi j hj hne (old i hi ei hli) (old j hj ej hlj) s t u x hs ht (val i hi ei s u hs hu) (val j hj ej t x ht hx) b (back i hi (old i hi ei hli) s u hs (val i hi ei s u hs hu) b h1) (back j hj (old j hj ej hlj) t x ht (val j hj ej t x ht hx) b h2)

theorem phaseO {O : Value → World → Nat → Prop} {n g : Nat} (S : StatM md ops n g) {T : Nat → Value → World → Prop} {fr : List Nat} (hfr : ∀ k ∈ fr, k < n) (hO : ∀ k ∈ fr, ∀ v W W' b, T k v W → Below W.heap.size W W' → O v W' b → O v W b) {a0 : Act} {Q : Exit → Act → World → Prop} (hst : ∀ k, k < n → ∀ v W W', T k v W → Below W.heap.size W W' → T k v W')
    (hstep : ∀ k ok, k < n → ops[k]? = some ok → ∀ a W, SeesM md ops n T a0 w ok a W → TStep P ops ok a W (fun u W' => T k u W' ∧ (k ∈ fr → FreshO O W u W')))
    (hfin : ∀ listed a W, InvM md ops n g T a0 w listed a W → ApsO O ops fr listed a W → (∀ k, k < n → listed.getD k false = true) → wpList P ops Q ((ops.toList.drop n).take g) a W) :
    ∀ (c : Nat) (listed : Array Bool) (a : Act) (W : World), left n listed = c → InvM md ops n g T a0 w listed a W → ApsO O ops fr listed a W → wpAny P md ops Q (c + g) listed a W := by
  intro c
  induction c with
  | zero =>
    intro listed a W hc I J
    have hall := left_zero hc
    have hL : listed = Array.ofFn fun i : Fin ops.size => decide (i.val < n ∨ n + g ≤ i.val) := by
      apply Array.ext
      · simp [I.size]
      · intro i hi hi'
        have hio : i < ops.size := by rw [← I.size]; exact hi
        simp only [Array.getElem_ofFn]
        by_cases h : i < n
        · have := hall i h; simp [hi] at this; simp [this, h]
        · by_cases h2 : n + g ≤ i
          · have := I.fl i h2 hio; simp [hi] at this; simp [this, h2]
          · have := I.tail i (by omega) (by omega); simp [hi] at this; simp [this, h, h2]
    have hlen : ((ops.toList.drop n).take g).length = g := by have := S.le; simp; omega
    have h := seqList (P := P) (md := md) (ops := ops) (Q' := Q) ((ops.toList.drop n).take g) n listed a W (fun j hj => by
      rw [hlen] at hj
      rw [List.getElem?_take_of_lt hj, List.getElem?_drop]; simp) (by rw [hlen, hL]; exact S.seq) (hfin listed a W I J hall)
    rw [hlen] at h
    rw [Nat.zero_add]; exact h
  | succ c ih =>
    intro listed a W hc I J
    rw [show c + 1 + g = (c + g) + 1 by omega]
    refine ⟨fun h0 => absurd h0 (some_ready S I (by omega)), fun k hk => ?_⟩
    obtain ⟨hun, ok, hok, hall⟩ := mem_ready.1 hk
    have hks : k < ops.size := (Array.getElem?_eq_some_iff.1 hok).1
    have hkn : k < n := by
      rcases Nat.lt_or_ge k n with h | h
      · exact h
      · exfalso
        have h1 := tail_not S I hk h
        have : left n listed = 0 := by
          unfold left
          rw [List.length_eq_zero_iff, List.filter_eq_nil_iff]
          intro i hi
          have := h1 i (List.mem_range.1 hi)
          simp [this]
        omega
    have hsee : SeesM md ops n T a0 w ok a W := ⟨I.below, fun t _ hno => I.same t fun j hj _ => hno j hj, fun t ht j hj hs hsz => by
      obtain ⟨e, he, hb, hon⟩ := waitsOn_spec (S.slots k ok hkn hok t ht j hj hs)
      exact I.val j t hj (by rw [← hon]; exact hall e he hb) hs hsz, I.sz⟩
    have h := hstep k ok hkn hok a W hsee
    have hlf := left_set (n := n) (by rw [I.size]; exact hks) (getD_both hun) hkn
    have go : ∀ v W', Below W.heap.size W W' → (T k v W' ∧ (k ∈ fr → FreshO O W v W')) → wpAny P md ops Q (c + g) (listed.setIfInBounds k true) (a.put ok.dst v) W' := fun v W' hb hT =>
      ih _ _ _ (by omega) (I.step S hst hk hkn hok hb hT.1) (J.step S hfr hO I hun hkn hok hb hT.2)
    unfold TStep at h
    unfold wpOp
    simp only [hok]
    split
    · rename_i hw
      simp only [hw, if_true] at h
      left
      unfold midAt at h
      unfold Oper.wp
      generalize (execOp a.eval ok).run P W = r at *
      cases r with
      | ok x w' =>
        cases x <;> simp only [midUpon] at h <;> simp only [Oper.upon]
        case value u => exact go u _ h.1 h.2
        case skip => exact go undef _ h.1 h.2
        case enter f args =>
          obtain ⟨e1, hc⟩ := h
          rw [e1]
          exact hc.mono fun e w'' ⟨v, he, hb, hT⟩ => by subst he; exact go v _ hb hT
      | halt x w' => simp only [midUpon] at h
    · rename_i hw
      simp only [hw] at h
      exact go undef W (Below.refl _ _) h

/-- as MidsOKg; those of fr make a row that is new -/
def MidsOKo (O : Value → World → Nat → Prop) (P : Program) (ops : Array Oper) (w : World) (A : Act) (ms : List (Nat × (Value → World → Prop))) (fr : List Nat) : List (Nat × (Value → World → Prop)) → Prop
  | [] => True
  | p :: r => (match ops[p.1]? with
      | some o => ∀ vs W, Below w.heap.size w W → FitsM (ms.filter fun q => needsB ops o q.1) vs W → TStep P ops o (putHd ops vs (ms.map (·.1)) A) W (fun u W' => p.2 u W' ∧ (p.1 ∈ fr → FreshO O W u W'))
      | none => True) ∧ MidsOKo O P ops w A ms fr r
theorem midsOKo_mem {O : Value → World → Nat → Prop} {A : Act} {ms : List (Nat × (Value → World → Prop))} {fr : List Nat} : ∀ {l : List (Nat × (Value → World → Prop))} {p}, p ∈ l → MidsOKo O P ops w A ms fr l → ∀ o, ops[p.1]? = some o → ∀ vs W, Below w.heap.size w W → FitsM (ms.filter fun q => needsB ops o q.1) vs W → TStep P ops o (putHd ops vs (ms.map (·.1)) A) W (fun u W' => p.2 u W' ∧ (p.1 ∈ fr → FreshO O W u W'))
  | q :: r, p, hp, h, o, ho, vs, W, hb, hf => by
    rcases List.mem_cons.1 hp with rfl | hp
    · have h1 := h.1
      rw [ho] at h1
      exact h1 vs W hb hf
    · exact midsOKo_mem hp h.2 o ho vs W hb hf

theorem wp_region_mido (O : Value → World → Nat → Prop) {id : Nat} {Q : Exit → Act → World → Prop} {a : Act} {l : List Oper} (n g : Nat) (mids fr : List Nat) (hfrm : ∀ k ∈ fr, k ∈ mids) (fls : List (Tmp × Value)) (ms : List (Nat × (Value → World → Prop))) (hmids : ms.map (·.1) = mids) (hm : P.follows .mixedOrders = true)
    (hB : midBg l.toArray n g mids = true) (hfls : flOf l.toArray (l.length - (n + g)) (n + g) = fls) (hsz : slotsB l.toArray a.tmps.size = true) (hQ : ∀ c a d v w, Q (.panic c) (Act.put a (some d) v) w → Q (.panic c) a w) (hst : StableM ms) (hO : ∀ q ∈ ms, q.1 ∈ fr → ∀ v W W' b, q.2 v W → Below W.heap.size W W' → O v W' b → O v W b)
    (h : ∀ L : Act → Prop, (∀ A, MidsOKo O P l.toArray w A ms fr ms → (∀ vs W, Below w.heap.size w W → FitsM ms vs W → ApartO O fr vs W → wpList P l.toArray Q ((l.drop n).take g) (putHd l.toArray vs mids A) W) → L A) →
      wpHead P l.toArray w mids L 0 (l.take n) (putL fls a)) :
    (Code.region id l.toArray true).wp P Q a w := by
  subst hmids
  have hle0 : n + g ≤ l.length := by
    simp only [midBg, Bool.and_eq_true, decide_eq_true_eq] at hB
    simpa using hB.1.1.1.1.1.1.1.1.1.2
  have h := h _ (fun A h1 h2 => (show MidsOKo O P l.toArray w A ms fr ms ∧ ∀ vs W, Below w.heap.size w W → FitsM ms vs W → ApartO O fr vs W → wpList P l.toArray Q ((l.drop n).take g) (putHd l.toArray vs (ms.map (·.1)) A) W from ⟨h1, h2⟩))
  have h := quietR_of_head _ _ _ (fun j hj => by
    have : j < n := by simp at hj; omega
    simp [List.getElem?_take_of_lt this]) h
  rw [← hfls, ← putFl_eq, show (l.take n).length = n by simp; omega, ← List.range_eq_range'] at h
  change wpQuietR P l.toArray w _ ((headOf n (ms.map (·.1))).filterMap (l.toArray[·]?)) _ at h
  clear hfls
  simp only [midBg, Bool.and_eq_true, decide_eq_true_eq] at hB
  obtain ⟨⟨⟨⟨⟨⟨⟨⟨⟨⟨hsel, hle⟩, hk⟩, hsink⟩, hchain⟩, hseq⟩, hhd⟩, hoff⟩, hmid⟩, hnd⟩, hfl⟩ := hB
  generalize hops : l.toArray = ops at *
  have hl : l = ops.toList := by rw [← hops]
  subst hl
  have hmk : ∀ k ok, k < n → ops[k]? = some ok → (∀ e ∈ ok.after, Region.binds .any e = true → e.on < k) ∧ ∀ j t, j < n → slotOf ops j = some t → (t ∈ ok.looksAt ops → waitsOn .any ok j = true) ∧ (j ≠ k → slotOf ops k ≠ some t) := by
    intro k ok hkn hok
    have h1 := List.all_eq_true.1 hk k (List.mem_range.2 hkn)
    rw [hok] at h1
    simp only [Bool.and_eq_true] at h1
    refine ⟨fun e he hb => ?_, fun j t hj hs => ?_⟩
    · have := Array.all_eq_true'.1 h1.1 e he
      simpa [hb] using this
    · have h2 := List.all_eq_true.1 h1.2 j (List.mem_range.2 hj)
      rw [hs] at h2
      simp only [Bool.and_eq_true, Bool.or_eq_true, Bool.not_eq_true', beq_iff_eq, bne_iff_ne] at h2
      refine ⟨fun ht => h2.1.resolve_left (by simpa using ht), fun hne => h2.2.resolve_left hne⟩
  have S : StatM .any ops n g := {
    sel := hsel, le := hle
    down := fun k ok hkn hok => (hmk k ok hkn hok).1
    slots := fun k ok hkn hok t ht j hj hs => ((hmk k ok hkn hok).2 j t hj hs).1 ht
    uniq := fun i j t hi hj hne hs => by
      have hjs : j < ops.size := by omega
      exact ((hmk j ops[j] hj (Array.getElem?_eq_getElem hjs)).2 i t hi hs).2 hne
    sink := fun hg i hi => by
      rcases Bool.or_eq_true _ _ ▸ hsink with h0 | h0
      · have : g = 0 := by simpa using h0
        omega
      · obtain ⟨j, hj, h2⟩ := List.any_eq_true.1 (List.all_eq_true.1 h0 i (List.mem_range.2 hi))
        simp only [Bool.and_eq_true, decide_eq_true_eq] at h2
        exact ⟨j, h2.1, by have := List.mem_range.1 hj; omega, h2.2⟩
    chain := fun t h1 h2 => by
      have := List.all_eq_true.1 hchain t (List.mem_range.2 h2)
      simp only [Bool.or_eq_true, decide_eq_true_eq] at this
      exact this.resolve_left (by omega)
    seq := hseq }
  obtain ⟨vals, ⟨hmo, htl⟩, hy⟩ := head_table hsel (headOf n (ms.map (·.1))) _ hhd h
  generalize ha0 : putFl ops (ops.toList.length - (n + g)) (n + g) a = a0 at *
  have hsz0 : a0.tmps.size = a.tmps.size := by
    rw [← ha0]
    have : ∀ f t (a : Act), (putFl ops f t a).tmps.size = a.tmps.size := by
      intro f
      induction f with
      | zero => intro t a; rfl
      | succ f ih => intro t a; unfold putFl; rw [ih]; split <;> simp [put_size]
    exact this _ _ _
  have hin : ∀ k t, slotOf ops k = some t → t < a0.tmps.size := by
    intro k t hs
    unfold slotOf at hs
    cases ho : ops[k]? with
    | none => rw [ho] at hs; cases hs
    | some o =>
      rw [ho] at hs
      have h1 := Array.all_eq_true'.1 hsz o (Array.mem_of_getElem? ho)
      simp only [Option.bind_some] at hs
      rw [hs] at h1
      rw [hsz0]; simpa using h1
  generalize hA : putHd ops vals (headOf n (ms.map (·.1))) a0 = A at *
  have hAsz : A.tmps.size = a0.tmps.size := by rw [← hA]; exact putHd_size _ _ _
  have hAdf : A.defers = a0.defers := by rw [← hA]; exact putHd_defers _ _ _
  have memH : ∀ k, k ∈ headOf n (ms.map (·.1)) ↔ k < n ∧ k ∉ ms.map (·.1) := by
    intro k; unfold headOf; rw [List.mem_filter, List.mem_range]; simp
  have hAs : ∀ k t, k ∈ headOf n (ms.map (·.1)) → slotOf ops k = some t → A.tmps[t]? = some (vals k) := by
    intro k t hkh hs
    rw [← hA]
    exact putHd_slot vals t k hs _ _ hkh (fun j hj hne => S.uniq k j t ((memH k).1 hkh).1 ((memH j).1 hj).1 (Ne.symm hne) hs) (hin k t hs)
  have hAo : ∀ t, (∀ k, k < n → slotOf ops k ≠ some t) → A.tmps[t]? = a0.tmps[t]? := by
    intro t ht
    rw [← hA]
    exact putHd_other vals t _ _ fun k hk => ht k ((memH k).1 hk).1
  have hmid' : ∀ k ∈ ms.map (·.1), k < n ∧ ∃ o, ops[k]? = some o ∧ ∃ d, o.dst = some d := by
    intro k hk
    have h1 := List.all_eq_true.1 hmid k hk
    simp only [Bool.and_eq_true, decide_eq_true_eq] at h1
    refine ⟨h1.1, ?_⟩
    cases ho : ops[k]? with
    | none => rw [ho] at h1; cases h1.2
    | some o =>
      rw [ho] at h1
      exact ⟨o, rfl, Option.isSome_iff_exists.1 h1.2⟩
  -- the frame with the middle's values
  have hF : ∀ (vs : Nat → Value) (t : Tmp), (∀ k t, k ∈ ms.map (·.1) → slotOf ops k = some t → (putHd ops vs (ms.map (·.1)) A).tmps[t]? = some (vs k)) ∧ ((∀ k ∈ ms.map (·.1), slotOf ops k ≠ some t) → (putHd ops vs (ms.map (·.1)) A).tmps[t]? = A.tmps[t]?) := by
    intro vs t
    refine ⟨fun k t hk hs => putHd_slot vs t k hs _ _ hk (fun j hj hne => S.uniq k j t (hmid' k hk).1 (hmid' j hj).1 (Ne.symm hne) hs) (by rw [hAsz]; exact hin k t hs), fun h => putHd_other vs t _ _ h⟩
  let T : Nat → Value → World → Prop := fun k v W => if k ∈ ms.map (·.1) then tOf ms k v W else v = vals k
  have hT : ∀ k, k ∉ ms.map (·.1) → ∀ v W, T k v W ↔ v = vals k := fun k hk v W => by show (if _ then _ else _) ↔ _; rw [if_neg hk]
  have hTm : ∀ k, k ∈ ms.map (·.1) → ∀ v W, T k v W ↔ tOf ms k v W := fun k hk v W => by show (if _ then _ else _) ↔ _; rw [if_pos hk]
  have hstT : ∀ k, k < n → ∀ v W W', T k v W → Below W.heap.size W W' → T k v W' := by
    intro k _ v W W' h1 h2
    by_cases hk : k ∈ ms.map (·.1)
    · rw [hTm k hk] at h1 ⊢
      obtain ⟨p, hp, rfl⟩ := List.mem_map.1 hk
      rw [tOf_mem hp hnd] at h1 ⊢
      exact stableM_mem hp hst v W W' h1 h2
    · rw [hT k hk] at h1 ⊢; exact h1
  have valOf : ∀ (b : Act) (W : World) (o : Oper), SeesM .any ops n T a0 w o b W → ∀ t ∈ o.looksAt ops, (∀ j ∈ ms.map (·.1), slotOf ops j ≠ some t) → b.tmps[t]? = A.tmps[t]? := by
    intro b W o hse t ht hno
    by_cases hex : ∃ j, j < n ∧ slotOf ops j = some t
    · obtain ⟨j, hj, hs⟩ := hex
      have hjm : j ∉ ms.map (·.1) := fun hm => hno j hm hs
      obtain ⟨v, hv, hTv⟩ := hse.val t ht j hj hs (hin j t hs)
      rw [hT j hjm] at hTv
      rw [hv, hTv, hAs j t ((memH j).2 ⟨hj, hjm⟩) hs]
    · have hno' : ∀ k, k < n → slotOf ops k ≠ some t := fun k hk hs => hex ⟨k, hk, hs⟩
      rw [hse.same t ht hno', hAo t hno']
  have hstep : ∀ k ok, k < n → ops[k]? = some ok → ∀ b W, SeesM .any ops n T a0 w ok b W → TStep P ops ok b W (fun u W' => T k u W' ∧ (k ∈ fr → FreshO O W u W')) := by
    intro k ok hkn hok b W hse
    have hs := fun cs b => Region.noSelect_spec hsel k ok cs b hok
    by_cases hk : k ∈ ms.map (·.1)
    · obtain ⟨p, hp, rfl⟩ := List.mem_map.1 hk
      obtain ⟨_, o', ho', _⟩ := hmid' p.1 hk
      have : o' = ok := Option.some.inj (ho'.symm.trans hok)
      subst this
      have hvs : ∃ vs : Nat → Value, vs = fun j => (match slotOf ops j with | some t => b.tmps.getD t undef | none => undef) := ⟨_, rfl⟩
      obtain ⟨vs, hvs⟩ := hvs
      have hfit : FitsM (ms.filter fun q => needsB ops o' q.1) vs W := by
        refine fitsM_of fun q hq => ?_
        obtain ⟨hqm, hqn⟩ := List.mem_filter.1 hq
        have hqk : q.1 ∈ ms.map (·.1) := List.mem_map.2 ⟨q, hqm, rfl⟩
        unfold needsB at hqn
        cases hsq : slotOf ops q.1 with
        | none => rw [hsq] at hqn; cases hqn
        | some t =>
          rw [hsq] at hqn
          obtain ⟨v, hv, hTv⟩ := hse.val t (by simpa using hqn) q.1 (hmid' _ hqk).1 hsq (hin _ t hsq)
          rw [hTm _ hqk, tOf_mem hqm hnd] at hTv
          have : vs q.1 = v := by rw [hvs]; simp only [hsq, Array.getD_eq_getD_getElem?, hv, Option.getD_some]
          rw [this]; exact hTv
      have hmid2 := midsOKo_mem hp hmo o' hok vs W hse.below hfit
      have hag : ∀ t ∈ o'.looksAt ops, b.tmps[t]? = (putHd ops vs (ms.map (·.1)) A).tmps[t]? := by
        intro t ht
        by_cases hex : ∃ j, j ∈ ms.map (·.1) ∧ slotOf ops j = some t
        · obtain ⟨j, hj, hsj⟩ := hex
          obtain ⟨v, hv, _⟩ := hse.val t ht j (hmid' j hj).1 hsj (hin j t hsj)
          rw [(hF vs t).1 j t hj hsj, hv, hvs]
          simp only [hsj, Array.getD_eq_getD_getElem?, hv, Option.getD_some]
        · have hno : ∀ j ∈ ms.map (·.1), slotOf ops j ≠ some t := fun j hj hsj => hex ⟨j, hj, hsj⟩
          rw [(hF vs t).2 hno, valOf b W o' hse t ht hno]
      obtain ⟨e1, e2⟩ := agree_exec hs hag
      have e3 : T p.1 = p.2 := by funext v W; exact propext (by rw [hTm _ hk, tOf_mem hp hnd])
      rw [e3]
      unfold TStep midAt at *
      rw [e1, e2]; exact hmid2
    · have hkh := (memH k).2 ⟨hkn, hk⟩
      have hyk := hy k hkh ok hok
      have hof := offB_spec (List.all_eq_true.1 hoff k hkh)
      obtain ⟨o2, ho2, hof⟩ := hof
      have : o2 = ok := Option.some.inj (ho2.symm.trans hok)
      subst this
      have hag : ∀ t ∈ o2.looksAt ops, b.tmps[t]? = A.tmps[t]? := fun t ht => valOf b W o2 hse t ht fun j hj hsj => hof j hj t hsj ht
      obtain ⟨e1, e2⟩ := agree_exec hs hag
      have e3 : (fun u W' => T k u W' ∧ (k ∈ fr → FreshO O W u W')) = fun v _ => v = vals k := by
        funext v W'
        refine propext ⟨fun h => (hT k hk v W').1 h.1, fun h => ⟨(hT k hk v W').2 h, fun hf => absurd (hfrm k hf) hk⟩⟩
      unfold TStep
      rw [e3, e2]
      rcases hyk with ⟨hw, hq⟩ | ⟨hw, hu⟩
      · rw [if_pos hw]
        have h1 := hq W
        rw [← eq_over hse.below] at h1
        unfold midAt
        rw [e1]
        unfold quietAtR at h1
        generalize (execOp A.eval o2).run P W = r at *
        cases r with
        | halt x w' => simp only [quietUponR] at h1
        | ok x w' =>
          cases x <;> simp only [quietUponR] at h1 <;> simp only [midUpon]
          case value u => exact ⟨by rw [h1.1]; exact Below.refl _ _, h1.2⟩
          case skip => exact ⟨by rw [h1.1]; exact Below.refl _ _, h1.2.symm⟩
          case enter f args => exact ⟨h1.1, h1.2.mono fun e W'' ⟨he, hb⟩ => ⟨_, he, hb, rfl⟩⟩
      · rw [if_neg (by rw [hw]; simp)]
        exact hu.symm
  have hfin : ∀ listed b W, InvM .any ops n g T a0 w listed b W → ApsO O ops fr listed b W → (∀ k, k < n → listed.getD k false = true) → wpList P ops Q ((ops.toList.drop n).take g) b W := by
    intro listed b W I J hall
    have hvs : ∃ vs : Nat → Value, vs = fun j => (match slotOf ops j with | some t => b.tmps.getD t undef | none => undef) := ⟨_, rfl⟩
    obtain ⟨vs, hvs⟩ := hvs
    have hval : ∀ k, k ∈ ms.map (·.1) → ∀ t, slotOf ops k = some t → b.tmps[t]? = some (vs k) ∧ tOf ms k (vs k) W := by
      intro k hk t hs
      obtain ⟨v, hv, hTv⟩ := I.val k t (hmid' k hk).1 (hall k (hmid' k hk).1) hs (hin k t hs)
      have : vs k = v := by rw [hvs]; simp only [hs, Array.getD_eq_getD_getElem?, hv, Option.getD_some]
      rw [this, ← hTm k hk]; exact ⟨hv, hTv⟩
    have hfit : FitsM ms vs W := fitsM_of fun q hq => by
      have hqk : q.1 ∈ ms.map (·.1) := List.mem_map.2 ⟨q, hq, rfl⟩
      obtain ⟨_, o, ho, d, hd⟩ := hmid' _ hqk
      have := (hval _ hqk d (by unfold slotOf; rw [ho]; exact hd)).2
      rw [tOf_mem hq hnd] at this
      exact this
    have hb : b = putHd ops vs (ms.map (·.1)) A := by
      have ht : b.tmps = (putHd ops vs (ms.map (·.1)) A).tmps := by
        apply Array.ext_getElem?
        intro t
        by_cases hex : ∃ j, j ∈ ms.map (·.1) ∧ slotOf ops j = some t
        · obtain ⟨j, hj, hsj⟩ := hex
          rw [(hval j hj t hsj).1, (hF vs t).1 j t hj hsj]
        · have hno : ∀ j ∈ ms.map (·.1), slotOf ops j ≠ some t := fun j hj hsj => hex ⟨j, hj, hsj⟩
          rw [(hF vs t).2 hno]
          by_cases hex2 : ∃ j, j < n ∧ slotOf ops j = some t
          · obtain ⟨j, hj, hs⟩ := hex2
            have hjm : j ∉ ms.map (·.1) := fun hm => hno j hm hs
            obtain ⟨v, hv, hTv⟩ := I.val j t hj (hall j hj) hs (hin j t hs)
            rw [hT j hjm] at hTv
            rw [hv, hTv, hAs j t ((memH j).2 ⟨hj, hjm⟩) hs]
          · have hno' : ∀ k, k < n → slotOf ops k ≠ some t := fun k hk hs => hex2 ⟨k, hk, hs⟩
            rw [I.same t fun k hk _ => hno' k hk, hAo t hno']
      have hd : b.defers = (putHd ops vs (ms.map (·.1)) A).defers := by rw [putHd_defers, hAdf]; exact I.defers
      cases b
      generalize putHd ops vs (ms.map (·.1)) A = F at *
      cases F
      simp only at ht hd
      subst ht; subst hd; rfl
    have hap : ApartO O fr vs W := fun j hj k hk hne x h1 h2 => by
      have hjm := hfrm j hj; have hkm := hfrm k hk
      obtain ⟨hjn, oj, hoj, dj, hdj⟩ := hmid' _ hjm
      obtain ⟨hkn, ok, hok, dk, hdk⟩ := hmid' _ hkm
      have sj : slotOf ops j = some dj := by unfold slotOf; rw [hoj]; exact hdj
      have sk : slotOf ops k = some dk := by unfold slotOf; rw [hok]; exact hdk
      exact J.2 j hj k hk hne (hall j hjn) (hall k hkn) dj dk _ _ sj sk (hval j hjm dj sj).1 (hval k hkm dk sk).1 x h1 h2
    rw [hb]
    exact htl vs W I.below hfit hap
  refine wp_region_any hm ?_
  have hsum : n + g + (ops.toList.length - (n + g)) = ops.size := by simp; omega
  have I0 : InvM .any ops n g T a0 w (listFl (ops.toList.length - (n + g)) (n + g) (Array.replicate ops.size false)) a0 w.drew := by
    refine ⟨by rw [listFl_size]; simp, ?_, ?_, ?_, (Below.refl _ w).drew, rfl, rfl, fun t _ => rfl, ?_⟩
    · intro j oj hj _ hl
      rw [listFl_low _ _ _ _ _ (by omega), getD_replicate_false] at hl
      cases hl
    · intro t h1 h2
      rw [listFl_low _ _ _ _ _ h2]
      exact getD_in (by simp; omega) (getD_replicate_false _ _)
    · intro t h1 h2
      exact listFl_in _ _ _ t h1 (by omega) (by simp; omega)
    · intro k t hk hl
      rw [listFl_low _ _ _ _ _ (by omega), getD_replicate_false] at hl
      cases hl
  have hleft : left n (listFl (ops.toList.length - (n + g)) (n + g) (Array.replicate ops.size false)) = n := by
    unfold left
    rw [List.filter_eq_self.2, List.length_range]
    intro k hk
    rw [listFl_low _ _ _ _ _ (by have := List.mem_range.1 hk; omega), getD_replicate_false]
    rfl
  have J0 : ApsO O ops fr (listFl (ops.toList.length - (n + g)) (n + g) (Array.replicate ops.size false)) a0 w.drew := by
    have hno : ∀ k ∈ fr, (listFl (ops.toList.length - (n + g)) (n + g) (Array.replicate ops.size false)).getD k false = false := fun k hk => by
      rw [listFl_low _ _ _ _ _ (by have := (hmid' k (hfrm k hk)).1; omega), getD_replicate_false]
    exact ⟨fun k hk hl => by rw [hno k hk] at hl; (cases hl), fun j hj k hk _ hl => by rw [hno j hj] at hl; (cases hl)⟩
  have hOT : ∀ k ∈ fr, ∀ v W W' b, T k v W → Below W.heap.size W W' → O v W' b → O v W b := fun k hk v W W' b hT hb ho => by
    have hk' := hfrm k hk
    obtain ⟨p, hp, rfl⟩ := List.mem_map.1 hk'
    exact hO p hp hk v W W' b (by have h := hT; rw [hTm _ hk', tOf_mem hp hnd] at h; exact h) hb ho
  have h1 := phaseO (Q := Q) S (fun k hk => (hmid' k (hfrm k hk)).1) hOT hstT hstep hfin n _ a0 w.drew hleft I0 J0
  rw [← ha0] at h1
  have h2 := take_floats hsel hQ (n + g) _ _ _ a (by rw [show ops.toList.length = ops.size by simp]; exact hfl) h1
  rw [hsum] at h2
  exact h2

end
end Go.Proofs.YtclhhegfffccgaaGreat
