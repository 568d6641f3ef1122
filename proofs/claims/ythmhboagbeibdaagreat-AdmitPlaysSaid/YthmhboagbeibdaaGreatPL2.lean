/- Lemmas of the claim, merged: RegP, RbCopy, AdmTell, AdmDrop, AdmO. No conditions beyond those that each states. -/
import Derived.Test.YthmhboagbeibdaaGreatRegM
import Derived.Test.YthmhboagbeibdaaGreatPL1
import Derived.Test.YthmhboagbeibdaaGreatAdmPut
/-
  The law of XRegM, and beside it: the rows that some operations of the middle make are new each, so no two of them are one block. (Printed by wip/mkregp.py out of XRegM.)
-/
namespace Go.Proofs.YthmhboagbeibdaaGreat
set_option linter.unusedVariables false
open Go.RowKit

section
variable {P : Program} {ops : Array Oper} {md : Region.Mode} {w : World}

/-- the value's row is new -/
def FreshIn (W : World) (v : Value) (W' : World) : Prop := ∀ b, v.ownBlock = some b → W.heap.size ≤ b ∧ b < W'.heap.size
def Aps (ops : Array Oper) (fr : List Nat) (listed : Array Bool) (a : Act) (W : World) : Prop :=
  (∀ k ∈ fr, listed.getD k false = true → ∀ t v, slotOf ops k = some t → a.tmps[t]? = some v → ∀ b, v.ownBlock = some b → b < W.heap.size) ∧
  (∀ j ∈ fr, ∀ k ∈ fr, j ≠ k → listed.getD j false = true → listed.getD k false = true → ∀ s t u v, slotOf ops j = some s → slotOf ops k = some t → a.tmps[s]? = some u → a.tmps[t]? = some v → ∀ b, u.ownBlock = some b → v.ownBlock = some b → False)
def Apart (fr : List Nat) (vs : Nat → Value) : Prop := ∀ j ∈ fr, ∀ k ∈ fr, j ≠ k → ∀ b, (vs j).ownBlock = some b → (vs k).ownBlock = some b → False
theorem Aps.step {n g k : Nat} {fr : List Nat} {T : Nat → Value → World → Prop} {a0 : Act} {listed : Array Bool} {a : Act} {W W' : World} {ok : Oper} {v : Value} (J : Aps ops fr listed a W) (S : StatM md ops n g) (hfr : ∀ k ∈ fr, k < n) (I : InvM md ops n g T a0 w listed a W) (hun : listed.getD k true = false) (hkn : k < n) (hok : ops[k]? = some ok) (hb : Below W.heap.size W W') (hf : k ∈ fr → FreshIn W v W') :
    Aps ops fr (listed.setIfInBounds k true) (a.put ok.dst v) W' := by
  have hsk : slotOf ops k = ok.dst := by unfold slotOf; rw [hok]; rfl
  have old : ∀ j ∈ fr, j ≠ k → (listed.setIfInBounds k true).getD j false = true → listed.getD j false = true := fun j _ hne hl => by
    rwa [getD_set_ne false (Ne.symm hne)] at hl
  have val : ∀ j ∈ fr, j ≠ k → ∀ t u, slotOf ops j = some t → (a.put ok.dst v).tmps[t]? = some u → a.tmps[t]? = some u := fun j hj hne t u hs h => by
    rw [put_tmps, if_neg] at h
    · exact h
    · rintro ⟨h1, _⟩
      exact S.uniq k j t hkn (hfr j hj) (Ne.symm hne) (by rw [hsk]; exact h1) hs
  have own : ∀ t u, slotOf ops k = some t → (a.put ok.dst v).tmps[t]? = some u → u = v := fun t u hs h => by
    rw [put_tmps] at h
    rw [hsk] at hs
    by_cases ht : t < a.tmps.size
    · rw [if_pos ⟨hs, ht⟩] at h; exact (Option.some.inj h).symm
    · rw [if_neg (fun h => ht h.2), Array.getElem?_eq_none (Nat.le_of_not_lt ht)] at h; cases h
  refine ⟨fun j hj hl t u hs hu b hbo => ?_, fun i hi j hj hne hli hlj s t u x hs ht hu hx b h1 h2 => ?_⟩
  · by_cases e : j = k
    · subst e
      rw [own t u hs hu] at hbo
      exact (hf hj b hbo).2
    · exact Nat.lt_of_lt_of_le (J.1 j hj (old j hj e hl) t u hs (val j hj e t u hs hu) b hbo) hb.size
  · by_cases ei : i = k
    · subst ei
      rw [own s u hs hu] at h1
      have hjk : j ≠ i := Ne.symm hne
      have := J.1 j hj (old j hj hjk hlj) t x ht (val j hj hjk t x ht hx) b h2
      have := (hf hi b h1).1
      omega
    · by_cases ej : j = k
      · subst ej
        rw [own t x ht hx] at h2
        have := J.1 i hi (old i hi ei hli) s u hs (val i hi ei s u hs hu) b h1
        have := (hf hj b h2).1
        omega
      · exact J.2 i hi j hj hne (old i hi ei hli) (old j hj ej hlj) s t u x hs ht (val i hi ei s u hs hu) (val j hj ej t x ht hx) b h1 h2

theorem phaseP {n g : Nat} (S : StatM md ops n g) {T : Nat → Value → World → Prop} {fr : List Nat} (hfr : ∀ k ∈ fr, k < n) {a0 : Act} {Q : Exit → Act → World → Prop} (hst : ∀ k, k < n → ∀ v W W', T k v W → Below W.heap.size W W' → T k v W')
    (hstep : ∀ k ok, k < n → ops[k]? = some ok → ∀ a W, SeesM md ops n T a0 w ok a W → TStep P ops ok a W (fun u W' => T k u W' ∧ (k ∈ fr → FreshIn W u W')))
    (hfin : ∀ listed a W, InvM md ops n g T a0 w listed a W → Aps ops fr listed a W → (∀ k, k < n → listed.getD k false = true) → wpList P ops Q ((ops.toList.drop n).take g) a W) :
    ∀ (c : Nat) (listed : Array Bool) (a : Act) (W : World), left n listed = c → InvM md ops n g T a0 w listed a W → Aps ops fr listed a W → wpAny P md ops Q (c + g) listed a W := by
  intro c
  induction c with
  | zero =>
    intro listed a W hc I J
    have hall := left_zero hc
    have hL : listed = Array.ofFn fun i : Fin ops.size => decide (i.val < n ∨ n + g ≤ i.val) := by
      apply Array.ext
      · simp [I.size]
      · intro i hi hi'
        have hio : i < ops.size := by rw [← I.size]; exact hi
        simp only [Array.getElem_ofFn]
        by_cases h : i < n
        · have := hall i h; simp [hi] at this; simp [this, h]
        · by_cases h2 : n + g ≤ i
          · have := I.fl i h2 hio; simp [hi] at this; simp [this, h2]
          · have := I.tail i (by omega) (by omega); simp [hi] at this; simp [this, h, h2]
    have hlen : ((ops.toList.drop n).take g).length = g := by have := S.le; simp; omega
    have h := seqList (P := P) (md := md) (ops := ops) (Q' := Q) ((ops.toList.drop n).take g) n listed a W (fun j hj => by
      rw [hlen] at hj
      rw [List.getElem?_take_of_lt hj, List.getElem?_drop]; simp) (by rw [hlen, hL]; exact S.seq) (hfin listed a W I J hall)
    rw [hlen] at h
    rw [Nat.zero_add]; exact h
  | succ c ih =>
    intro listed a W hc I J
    rw [show c + 1 + g = (c + g) + 1 by omega]
    refine ⟨fun h0 => absurd h0 (some_ready S I (by omega)), fun k hk => ?_⟩
    obtain ⟨hun, ok, hok, hall⟩ := mem_ready.1 hk
    have hks : k < ops.size := (Array.getElem?_eq_some_iff.1 hok).1
    have hkn : k < n := by
      rcases Nat.lt_or_ge k n with h | h
      · exact h
      · exfalso
        have h1 := tail_not S I hk h
        have : left n listed = 0 := by
          unfold left
          rw [List.length_eq_zero_iff, List.filter_eq_nil_iff]
          intro i hi
          have := h1 i (List.mem_range.1 hi)
          simp [this]
        omega
    have hsee : SeesM md ops n T a0 w ok a W := ⟨I.below, fun t _ hno => I.same t fun j hj _ => hno j hj, fun t ht j hj hs hsz => by
      obtain ⟨e, he, hb, hon⟩ := waitsOn_spec (S.slots k ok hkn hok t ht j hj hs)
      exact I.val j t hj (by rw [← hon]; exact hall e he hb) hs hsz, I.sz⟩
    have h := hstep k ok hkn hok a W hsee
    have hlf := left_set (n := n) (by rw [I.size]; exact hks) (getD_both hun) hkn
    have go : ∀ v W', Below W.heap.size W W' → (T k v W' ∧ (k ∈ fr → FreshIn W v W')) → wpAny P md ops Q (c + g) (listed.setIfInBounds k true) (a.put ok.dst v) W' := fun v W' hb hT =>
      ih _ _ _ (by omega) (I.step S hst hk hkn hok hb hT.1) (J.step S hfr I hun hkn hok hb hT.2)
    unfold TStep at h
    unfold wpOp
    simp only [hok]
    split
    · rename_i hw
      simp only [hw, if_true] at h
      left
      unfold midAt at h
      unfold Oper.wp
      generalize (execOp a.eval ok).run P W = r at *
      cases r with
      | ok x w' =>
        cases x <;> simp only [midUpon] at h <;> simp only [Oper.upon]
        case value u => exact go u _ h.1 h.2
        case skip => exact go undef _ h.1 h.2
        case enter f args =>
          obtain ⟨e1, hc⟩ := h
          rw [e1]
          exact hc.mono fun e w'' ⟨v, he, hb, hT⟩ => by subst he; exact go v _ hb hT
      | halt x w' => simp only [midUpon] at h
    · rename_i hw
      simp only [hw] at h
      exact go undef W (Below.refl _ _) h

/-- as MidsOKg; those of fr make a row that is new -/
def MidsOKp (P : Program) (ops : Array Oper) (w : World) (A : Act) (ms : List (Nat × (Value → World → Prop))) (fr : List Nat) : List (Nat × (Value → World → Prop)) → Prop
  | [] => True
  | p :: r => (match ops[p.1]? with
      | some o => ∀ vs W, Below w.heap.size w W → FitsM (ms.filter fun q => needsB ops o q.1) vs W → TStep P ops o (putHd ops vs (ms.map (·.1)) A) W (fun u W' => p.2 u W' ∧ (p.1 ∈ fr → FreshIn W u W'))
      | none => True) ∧ MidsOKp P ops w A ms fr r
theorem midsOKp_mem {A : Act} {ms : List (Nat × (Value → World → Prop))} {fr : List Nat} : ∀ {l : List (Nat × (Value → World → Prop))} {p}, p ∈ l → MidsOKp P ops w A ms fr l → ∀ o, ops[p.1]? = some o → ∀ vs W, Below w.heap.size w W → FitsM (ms.filter fun q => needsB ops o q.1) vs W → TStep P ops o (putHd ops vs (ms.map (·.1)) A) W (fun u W' => p.2 u W' ∧ (p.1 ∈ fr → FreshIn W u W'))
  | q :: r, p, hp, h, o, ho, vs, W, hb, hf => by
    rcases List.mem_cons.1 hp with rfl | hp
    · have h1 := h.1
      rw [ho] at h1
      exact h1 vs W hb hf
    · exact midsOKp_mem hp h.2 o ho vs W hb hf

theorem wp_region_midp {id : Nat} {Q : Exit → Act → World → Prop} {a : Act} {l : List Oper} (n g : Nat) (mids fr : List Nat) (hfrm : ∀ k ∈ fr, k ∈ mids) (fls : List (Tmp × Value)) (ms : List (Nat × (Value → World → Prop))) (hmids : ms.map (·.1) = mids) (hm : P.follows .mixedOrders = true)
    (hB : midBg l.toArray n g mids = true) (hfls : flOf l.toArray (l.length - (n + g)) (n + g) = fls) (hsz : slotsB l.toArray a.tmps.size = true) (hQ : ∀ c a d v w, Q (.panic c) (Act.put a (some d) v) w → Q (.panic c) a w) (hst : StableM ms)
    (h : ∀ L : Act → Prop, (∀ A, MidsOKp P l.toArray w A ms fr ms → (∀ vs W, Below w.heap.size w W → FitsM ms vs W → Apart fr vs → wpList P l.toArray Q ((l.drop n).take g) (putHd l.toArray vs mids A) W) → L A) →
      wpHead P l.toArray w mids L 0 (l.take n) (putL fls a)) :
    (Code.region id l.toArray true).wp P Q a w := by
  subst hmids
  have hle0 : n + g ≤ l.length := by
    simp only [midBg, Bool.and_eq_true, decide_eq_true_eq] at hB
    simpa using hB.1.1.1.1.1.1.1.1.1.2
  have h := h _ (fun A h1 h2 => (show MidsOKp P l.toArray w A ms fr ms ∧ ∀ vs W, Below w.heap.size w W → FitsM ms vs W → Apart fr vs → wpList P l.toArray Q ((l.drop n).take g) (putHd l.toArray vs (ms.map (·.1)) A) W from ⟨h1, h2⟩))
  have h := quietR_of_head _ _ _ (fun j hj => by
    have : j < n := by simp at hj; omega
    simp [List.getElem?_take_of_lt this]) h
  rw [← hfls, ← putFl_eq, show (l.take n).length = n by simp; omega, ← List.range_eq_range'] at h
  change wpQuietR P l.toArray w _ ((headOf n (ms.map (·.1))).filterMap (l.toArray[·]?)) _ at h
  clear hfls
  simp only [midBg, Bool.and_eq_true, decide_eq_true_eq] at hB
  obtain ⟨⟨⟨⟨⟨⟨⟨⟨⟨⟨hsel, hle⟩, hk⟩, hsink⟩, hchain⟩, hseq⟩, hhd⟩, hoff⟩, hmid⟩, hnd⟩, hfl⟩ := hB
  generalize hops : l.toArray = ops at *
  have hl : l = ops.toList := by rw [← hops]
  subst hl
  have hmk : ∀ k ok, k < n → ops[k]? = some ok → (∀ e ∈ ok.after, Region.binds .any e = true → e.on < k) ∧ ∀ j t, j < n → slotOf ops j = some t → (t ∈ ok.looksAt ops → waitsOn .any ok j = true) ∧ (j ≠ k → slotOf ops k ≠ some t) := by
    intro k ok hkn hok
    have h1 := List.all_eq_true.1 hk k (List.mem_range.2 hkn)
    rw [hok] at h1
    simp only [Bool.and_eq_true] at h1
    refine ⟨fun e he hb => ?_, fun j t hj hs => ?_⟩
    · have := Array.all_eq_true'.1 h1.1 e he
      simpa [hb] using this
    · have h2 := List.all_eq_true.1 h1.2 j (List.mem_range.2 hj)
      rw [hs] at h2
      simp only [Bool.and_eq_true, Bool.or_eq_true, Bool.not_eq_true', beq_iff_eq, bne_iff_ne] at h2
      refine ⟨fun ht => h2.1.resolve_left (by simpa using ht), fun hne => h2.2.resolve_left hne⟩
  have S : StatM .any ops n g := {
    sel := hsel, le := hle
    down := fun k ok hkn hok => (hmk k ok hkn hok).1
    slots := fun k ok hkn hok t ht j hj hs => ((hmk k ok hkn hok).2 j t hj hs).1 ht
    uniq := fun i j t hi hj hne hs => by
      have hjs : j < ops.size := by omega
      exact ((hmk j ops[j] hj (Array.getElem?_eq_getElem hjs)).2 i t hi hs).2 hne
    sink := fun hg i hi => by
      rcases Bool.or_eq_true _ _ ▸ hsink with h0 | h0
      · have : g = 0 := by simpa using h0
        omega
      · obtain ⟨j, hj, h2⟩ := List.any_eq_true.1 (List.all_eq_true.1 h0 i (List.mem_range.2 hi))
        simp only [Bool.and_eq_true, decide_eq_true_eq] at h2
        exact ⟨j, h2.1, by have := List.mem_range.1 hj; omega, h2.2⟩
    chain := fun t h1 h2 => by
      have := List.all_eq_true.1 hchain t (List.mem_range.2 h2)
      simp only [Bool.or_eq_true, decide_eq_true_eq] at this
      exact this.resolve_left (by omega)
    seq := hseq }
  obtain ⟨vals, ⟨hmo, htl⟩, hy⟩ := head_table hsel (headOf n (ms.map (·.1))) _ hhd h
  generalize ha0 : putFl ops (ops.toList.length - (n + g)) (n + g) a = a0 at *
  have hsz0 : a0.tmps.size = a.tmps.size := by
    rw [← ha0]
    have : ∀ f t (a : Act), (putFl ops f t a).tmps.size = a.tmps.size := by
      intro f
      induction f with
      | zero => intro t a; rfl
      | succ f ih => intro t a; unfold putFl; rw [ih]; split <;> simp [put_size]
    exact this _ _ _
  have hin : ∀ k t, slotOf ops k = some t → t < a0.tmps.size := by
    intro k t hs
    unfold slotOf at hs
    cases ho : ops[k]? with
    | none => rw [ho] at hs; cases hs
    | some o =>
      rw [ho] at hs
      have h1 := Array.all_eq_true'.1 hsz o (Array.mem_of_getElem? ho)
      simp only [Option.bind_some] at hs
      rw [hs] at h1
      rw [hsz0]; simpa using h1
  generalize hA : putHd ops vals (headOf n (ms.map (·.1))) a0 = A at *
  have hAsz : A.tmps.size = a0.tmps.size := by rw [← hA]; exact putHd_size _ _ _
  have hAdf : A.defers = a0.defers := by rw [← hA]; exact putHd_defers _ _ _
  have memH : ∀ k, k ∈ headOf n (ms.map (·.1)) ↔ k < n ∧ k ∉ ms.map (·.1) := by
    intro k; unfold headOf; rw [List.mem_filter, List.mem_range]; simp
  have hAs : ∀ k t, k ∈ headOf n (ms.map (·.1)) → slotOf ops k = some t → A.tmps[t]? = some (vals k) := by
    intro k t hkh hs
    rw [← hA]
    exact putHd_slot vals t k hs _ _ hkh (fun j hj hne => S.uniq k j t ((memH k).1 hkh).1 ((memH j).1 hj).1 (Ne.symm hne) hs) (hin k t hs)
  have hAo : ∀ t, (∀ k, k < n → slotOf ops k ≠ some t) → A.tmps[t]? = a0.tmps[t]? := by
    intro t ht
    rw [← hA]
    exact putHd_other vals t _ _ fun k hk => ht k ((memH k).1 hk).1
  have hmid' : ∀ k ∈ ms.map (·.1), k < n ∧ ∃ o, ops[k]? = some o ∧ ∃ d, o.dst = some d := by
    intro k hk
    have h1 := List.all_eq_true.1 hmid k hk
    simp only [Bool.and_eq_true, decide_eq_true_eq] at h1
    refine ⟨h1.1, ?_⟩
    cases ho : ops[k]? with
    | none => rw [ho] at h1; cases h1.2
    | some o =>
      rw [ho] at h1
      exact ⟨o, rfl, Option.isSome_iff_exists.1 h1.2⟩
  -- the frame with the middle's values
  have hF : ∀ (vs : Nat → Value) (t : Tmp), (∀ k t, k ∈ ms.map (·.1) → slotOf ops k = some t → (putHd ops vs (ms.map (·.1)) A).tmps[t]? = some (vs k)) ∧ ((∀ k ∈ ms.map (·.1), slotOf ops k ≠ some t) → (putHd ops vs (ms.map (·.1)) A).tmps[t]? = A.tmps[t]?) := by
    intro vs t
    refine ⟨fun k t hk hs => putHd_slot vs t k hs _ _ hk (fun j hj hne => S.uniq k j t (hmid' k hk).1 (hmid' j hj).1 (Ne.symm hne) hs) (by rw [hAsz]; exact hin k t hs), fun h => putHd_other vs t _ _ h⟩
  let T : Nat → Value → World → Prop := fun k v W => if k ∈ ms.map (·.1) then tOf ms k v W else v = vals k
  have hT : ∀ k, k ∉ ms.map (·.1) → ∀ v W, T k v W ↔ v = vals k := fun k hk v W => by show (if _ then _ else _) ↔ _; rw [if_neg hk]
  have hTm : ∀ k, k ∈ ms.map (·.1) → ∀ v W, T k v W ↔ tOf ms k v W := fun k hk v W => by show (if _ then _ else _) ↔ _; rw [if_pos hk]
  have hstT : ∀ k, k < n → ∀ v W W', T k v W → Below W.heap.size W W' → T k v W' := by
    intro k _ v W W' h1 h2
    by_cases hk : k ∈ ms.map (·.1)
    · rw [hTm k hk] at h1 ⊢
      obtain ⟨p, hp, rfl⟩ := List.mem_map.1 hk
      rw [tOf_mem hp hnd] at h1 ⊢
      exact stableM_mem hp hst v W W' h1 h2
    · rw [hT k hk] at h1 ⊢; exact h1
  have valOf : ∀ (b : Act) (W : World) (o : Oper), SeesM .any ops n T a0 w o b W → ∀ t ∈ o.looksAt ops, (∀ j ∈ ms.map (·.1), slotOf ops j ≠ some t) → b.tmps[t]? = A.tmps[t]? := by
    intro b W o hse t ht hno
    by_cases hex : ∃ j, j < n ∧ slotOf ops j = some t
    · obtain ⟨j, hj, hs⟩ := hex
      have hjm : j ∉ ms.map (·.1) := fun hm => hno j hm hs
      obtain ⟨v, hv, hTv⟩ := hse.val t ht j hj hs (hin j t hs)
      rw [hT j hjm] at hTv
      rw [hv, hTv, hAs j t ((memH j).2 ⟨hj, hjm⟩) hs]
    · have hno' : ∀ k, k < n → slotOf ops k ≠ some t := fun k hk hs => hex ⟨k, hk, hs⟩
      rw [hse.same t ht hno', hAo t hno']
  have hstep : ∀ k ok, k < n → ops[k]? = some ok → ∀ b W, SeesM .any ops n T a0 w ok b W → TStep P ops ok b W (fun u W' => T k u W' ∧ (k ∈ fr → FreshIn W u W')) := by
    intro k ok hkn hok b W hse
    have hs := fun cs b => Region.noSelect_spec hsel k ok cs b hok
    by_cases hk : k ∈ ms.map (·.1)
    · obtain ⟨p, hp, rfl⟩ := List.mem_map.1 hk
      obtain ⟨_, o', ho', _⟩ := hmid' p.1 hk
      have : o' = ok := Option.some.inj (ho'.symm.trans hok)
      subst this
      have hvs : ∃ vs : Nat → Value, vs = fun j => (match slotOf ops j with | some t => b.tmps.getD t undef | none => undef) := ⟨_, rfl⟩
      obtain ⟨vs, hvs⟩ := hvs
      have hfit : FitsM (ms.filter fun q => needsB ops o' q.1) vs W := by
        refine fitsM_of fun q hq => ?_
        obtain ⟨hqm, hqn⟩ := List.mem_filter.1 hq
        have hqk : q.1 ∈ ms.map (·.1) := List.mem_map.2 ⟨q, hqm, rfl⟩
        unfold needsB at hqn
        cases hsq : slotOf ops q.1 with
        | none => rw [hsq] at hqn; cases hqn
        | some t =>
          rw [hsq] at hqn
          obtain ⟨v, hv, hTv⟩ := hse.val t (by simpa using hqn) q.1 (hmid' _ hqk).1 hsq (hin _ t hsq)
          rw [hTm _ hqk, tOf_mem hqm hnd] at hTv
          have : vs q.1 = v := by rw [hvs]; simp only [hsq, Array.getD_eq_getD_getElem?, hv, Option.getD_some]
          rw [this]; exact hTv
      have hmid2 := midsOKp_mem hp hmo o' hok vs W hse.below hfit
      have hag : ∀ t ∈ o'.looksAt ops, b.tmps[t]? = (putHd ops vs (ms.map (·.1)) A).tmps[t]? := by
        intro t ht
        by_cases hex : ∃ j, j ∈ ms.map (·.1) ∧ slotOf ops j = some t
        · obtain ⟨j, hj, hsj⟩ := hex
          obtain ⟨v, hv, _⟩ := hse.val t ht j (hmid' j hj).1 hsj (hin j t hsj)
          rw [(hF vs t).1 j t hj hsj, hv, hvs]
          simp only [hsj, Array.getD_eq_getD_getElem?, hv, Option.getD_some]
        · have hno : ∀ j ∈ ms.map (·.1), slotOf ops j ≠ some t := fun j hj hsj => hex ⟨j, hj, hsj⟩
          rw [(hF vs t).2 hno, valOf b W o' hse t ht hno]
      obtain ⟨e1, e2⟩ := agree_exec hs hag
      have e3 : T p.1 = p.2 := by funext v W; exact propext (by rw [hTm _ hk, tOf_mem hp hnd])
      rw [e3]
      unfold TStep midAt at *
      rw [e1, e2]; exact hmid2
    · have hkh := (memH k).2 ⟨hkn, hk⟩
      have hyk := hy k hkh ok hok
      have hof := offB_spec (List.all_eq_true.1 hoff k hkh)
      obtain ⟨o2, ho2, hof⟩ := hof
      have : o2 = ok := Option.some.inj (ho2.symm.trans hok)
      subst this
      have hag : ∀ t ∈ o2.looksAt ops, b.tmps[t]? = A.tmps[t]? := fun t ht => valOf b W o2 hse t ht fun j hj hsj => hof j hj t hsj ht
      obtain ⟨e1, e2⟩ := agree_exec hs hag
      have e3 : (fun u W' => T k u W' ∧ (k ∈ fr → FreshIn W u W')) = fun v _ => v = vals k := by
        funext v W'
        refine propext ⟨fun h => (hT k hk v W').1 h.1, fun h => ⟨(hT k hk v W').2 h, fun hf => absurd (hfrm k hf) hk⟩⟩
      unfold TStep
      rw [e3, e2]
      rcases hyk with ⟨hw, hq⟩ | ⟨hw, hu⟩
      · rw [if_pos hw]
        have h1 := hq W
        rw [← eq_over hse.below] at h1
        unfold midAt
        rw [e1]
        unfold quietAtR at h1
        generalize (execOp A.eval o2).run P W = r at *
        cases r with
        | halt x w' => simp only [quietUponR] at h1
        | ok x w' =>
          cases x <;> simp only [quietUponR] at h1 <;> simp only [midUpon]
          case value u => exact ⟨by rw [h1.1]; exact Below.refl _ _, h1.2⟩
          case skip => exact ⟨by rw [h1.1]; exact Below.refl _ _, h1.2.symm⟩
          case enter f args => exact ⟨h1.1, h1.2.mono fun e W'' ⟨he, hb⟩ => ⟨_, he, hb, rfl⟩⟩
      · rw [if_neg (by rw [hw]; simp)]
        exact hu.symm
  have hfin : ∀ listed b W, InvM .any ops n g T a0 w listed b W → Aps ops fr listed b W → (∀ k, k < n → listed.getD k false = true) → wpList P ops Q ((ops.toList.drop n).take g) b W := by
    intro listed b W I J hall
    have hvs : ∃ vs : Nat → Value, vs = fun j => (match slotOf ops j with | some t => b.tmps.getD t undef | none => undef) := ⟨_, rfl⟩
    obtain ⟨vs, hvs⟩ := hvs
    have hval : ∀ k, k ∈ ms.map (·.1) → ∀ t, slotOf ops k = some t → b.tmps[t]? = some (vs k) ∧ tOf ms k (vs k) W := by
      intro k hk t hs
      obtain ⟨v, hv, hTv⟩ := I.val k t (hmid' k hk).1 (hall k (hmid' k hk).1) hs (hin k t hs)
      have : vs k = v := by rw [hvs]; simp only [hs, Array.getD_eq_getD_getElem?, hv, Option.getD_some]
      rw [this, ← hTm k hk]; exact ⟨hv, hTv⟩
    have hfit : FitsM ms vs W := fitsM_of fun q hq => by
      have hqk : q.1 ∈ ms.map (·.1) := List.mem_map.2 ⟨q, hq, rfl⟩
      obtain ⟨_, o, ho, d, hd⟩ := hmid' _ hqk
      have := (hval _ hqk d (by unfold slotOf; rw [ho]; exact hd)).2
      rw [tOf_mem hq hnd] at this
      exact this
    have hb : b = putHd ops vs (ms.map (·.1)) A := by
      have ht : b.tmps = (putHd ops vs (ms.map (·.1)) A).tmps := by
        apply Array.ext_getElem?
        intro t
        by_cases hex : ∃ j, j ∈ ms.map (·.1) ∧ slotOf ops j = some t
        · obtain ⟨j, hj, hsj⟩ := hex
          rw [(hval j hj t hsj).1, (hF vs t).1 j t hj hsj]
        · have hno : ∀ j ∈ ms.map (·.1), slotOf ops j ≠ some t := fun j hj hsj => hex ⟨j, hj, hsj⟩
          rw [(hF vs t).2 hno]
          by_cases hex2 : ∃ j, j < n ∧ slotOf ops j = some t
          · obtain ⟨j, hj, hs⟩ := hex2
            have hjm : j ∉ ms.map (·.1) := fun hm => hno j hm hs
            obtain ⟨v, hv, hTv⟩ := I.val j t hj (hall j hj) hs (hin j t hs)
            rw [hT j hjm] at hTv
            rw [hv, hTv, hAs j t ((memH j).2 ⟨hj, hjm⟩) hs]
          · have hno' : ∀ k, k < n → slotOf ops k ≠ some t := fun k hk hs => hex2 ⟨k, hk, hs⟩
            rw [I.same t fun k hk _ => hno' k hk, hAo t hno']
      have hd : b.defers = (putHd ops vs (ms.map (·.1)) A).defers := by rw [putHd_defers, hAdf]; exact I.defers
      cases b
      generalize putHd ops vs (ms.map (·.1)) A = F at *
      cases F
      simp only at ht hd
      subst ht; subst hd; rfl
    have hap : Apart fr vs := fun j hj k hk hne x h1 h2 => by
      have hjm := hfrm j hj; have hkm := hfrm k hk
      obtain ⟨hjn, oj, hoj, dj, hdj⟩ := hmid' _ hjm
      obtain ⟨hkn, ok, hok, dk, hdk⟩ := hmid' _ hkm
      have sj : slotOf ops j = some dj := by unfold slotOf; rw [hoj]; exact hdj
      have sk : slotOf ops k = some dk := by unfold slotOf; rw [hok]; exact hdk
      exact J.2 j hj k hk hne (hall j hjn) (hall k hkn) dj dk _ _ sj sk (hval j hjm dj sj).1 (hval k hkm dk sk).1 x h1 h2
    rw [hb]
    exact htl vs W I.below hfit hap
  refine wp_region_any hm ?_
  have hsum : n + g + (ops.toList.length - (n + g)) = ops.size := by simp; omega
  have I0 : InvM .any ops n g T a0 w (listFl (ops.toList.length - (n + g)) (n + g) (Array.replicate ops.size false)) a0 w.drew := by
    refine ⟨by rw [listFl_size]; simp, ?_, ?_, ?_, (Below.refl _ w).drew, rfl, rfl, fun t _ => rfl, ?_⟩
    · intro j oj hj _ hl
      rw [listFl_low _ _ _ _ _ (by omega), getD_replicate_false] at hl
      cases hl
    · intro t h1 h2
      rw [listFl_low _ _ _ _ _ h2]
      exact getD_in (by simp; omega) (getD_replicate_false _ _)
    · intro t h1 h2
      exact listFl_in _ _ _ t h1 (by omega) (by simp; omega)
    · intro k t hk hl
      rw [listFl_low _ _ _ _ _ (by omega), getD_replicate_false] at hl
      cases hl
  have hleft : left n (listFl (ops.toList.length - (n + g)) (n + g) (Array.replicate ops.size false)) = n := by
    unfold left
    rw [List.filter_eq_self.2, List.length_range]
    intro k hk
    rw [listFl_low _ _ _ _ _ (by have := List.mem_range.1 hk; omega), getD_replicate_false]
    rfl
  have J0 : Aps ops fr (listFl (ops.toList.length - (n + g)) (n + g) (Array.replicate ops.size false)) a0 w.drew := by
    have hno : ∀ k ∈ fr, (listFl (ops.toList.length - (n + g)) (n + g) (Array.replicate ops.size false)).getD k false = false := fun k hk => by
      rw [listFl_low _ _ _ _ _ (by have := (hmid' k (hfrm k hk)).1; omega), getD_replicate_false]
    exact ⟨fun k hk hl => by rw [hno k hk] at hl; (cases hl), fun j hj k hk _ hl => by rw [hno j hj] at hl; (cases hl)⟩
  have h1 := phaseP (Q := Q) S (fun k hk => (hmid' k (hfrm k hk)).1) hstT hstep hfin n _ a0 w.drew hleft I0 J0
  rw [← ha0] at h1
  have h2 := take_floats hsel hQ (n + g) _ _ _ a (by rw [show ops.toList.length = ops.size by simp]; exact hfl) h1
  rw [hsum] at h2
  exact h2

end
end Go.Proofs.YthmhboagbeibdaaGreat
/-
  The document's book of curves: where an Id stands, a copy whose rows are its own. (Printed by wip/mkrbdrop.py.)
-/
namespace Go.Proofs.YthmhboagbeibdaaGreat
set_option linter.unusedVariables false
open Go.RowKit
attribute [local go_sem ↓] Go.wp_at_zero Go.wp_at_succ
attribute [local go_sem] quietR quietAtR quietUponR midAt midUpon
attribute [local irreducible] TStep HStep

def RatW (w : World) (I : List Int) (id : Int) (e : Ending) (w' : World) : Prop :=
  ((∃ k : Nat, e = .returned (.int .i64 k) ∧ I[k]? = some id ∧ k < I.length) ∨ (e = .returned (.int .i64 (-1)) ∧ id ∉ I)) ∧ Below w.heap.size w w'
set_option maxRecDepth 100000 in
theorem rat2_any (id : Int) (p : Nat) (r : Int) (I : List Int) (V G : List Cv) (vi vl vg : Value) (w : World) (h : RbAt w p r I V G vi vl vg) :
    Calls Tryz.prog 23 #[.pointer (some ⟨p, 0, none⟩), .int .i64 id] w (RatW w I id) := by
  obtain ⟨ai, ci, rfl⟩ : ∃ a cap, vi = .slice a I.length cap := by obtain ⟨_, a, cap, e, _⟩ := h.ids; exact ⟨a, cap, e⟩
  have hIl : I.length ≤ 100000 := by have h1 := h.same; have h2 := h.few; omega
  have y1 := h.blk.cell 1
  simp only [List.getElem?_toArray, List.getElem?_cons_zero, List.getElem?_cons_succ] at y1
  have H := Lib.hid h
  clear h
  go_enter Tryz.func23, Tryz.ntmps23
  go_wp2_with fail
  go_loopw [5] (fun v5 W => ∃ k : Nat, v5 = .int .i64 k ∧ k ≤ I.length ∧ W = w ∧ id ∉ I.take k) (fun v5 _ => (I.length - Go.RowKit.intOf v5).toNat)
  case atStart => exact ⟨0, rfl, Nat.zero_le _, rfl, by simp⟩
  case round =>
    obtain ⟨k, rfl, hk, rfl, hno⟩ := hrel
    have HNO := Lib.hid hno
    clear hno
    by_cases hlt : k < I.length
    · obtain ⟨x, hx⟩ : ∃ x, I[k]? = some x := ⟨_, List.getElem?_eq_getElem hlt⟩
      obtain ⟨b, off, hab, hcx⟩ : ∃ b off, ai = some ⟨b, off, none⟩ ∧ wr.cell? ⟨b, off + k, none⟩ = some (.int .i64 x) := by
        obtain ⟨_, a', cap', e, h3⟩ := H.out.ids
        cases e
        rcases h3 with h3 | ⟨b, off, rfl, _, _, hcc⟩
        · rw [h3] at hlt; simp at hlt
        · exact ⟨b, off, rfl, hcc k x hx⟩
      subst hab
      have hT : I.take (k + 1) = I.take k ++ [x] := by rw [List.take_add_one, hx]; rfl
      have HT := Lib.hid hT; have HX := Lib.hid hx
      clear hT hx
      by_cases hxi : x = id
      · subst hxi
        go_wp2_with fail
        go_ret
        exact ⟨.inl ⟨k, rfl, HX.out, hlt⟩, Below.refl _ _⟩
      · have hxb : (x == id) = false := by simpa using hxi
        go_wp2_with fail
        go_roundw
        case measure => (simp [Go.RowKit.intOf]; try omega)
        case rel =>
          refine ⟨k + 1, by go_num, by omega, by first | rfl | trivial, fun hm => ?_⟩
          rw [HT.out] at hm
          rcases List.mem_append.1 hm with hm | hm
          · exact HNO.out hm
          · simp at hm; exact hxi hm.symm
    · obtain rfl : k = I.length := by omega
      go_wp2_with fail
      go_ret
      exact ⟨.inr ⟨rfl, by have := HNO.out; rwa [List.take_length] at this⟩, Below.refl _ _⟩

/-- all of a row, laid behind an empty literal; what is laid is new -/
theorem app_allF (ty : TypeId) {l : List Cv} {w : World} {v : Value} {base g : Nat} (h : CvAt w v l) (hown : w.ownsRow base 25 3 (.slice (some ⟨g, 0, none⟩) 0 0) 0 []) (hb : base ≤ w.heap.size) :
    ∃ v' w', (Builtin.append_ #[45, 45] ty #[.slice (some ⟨g, 0, none⟩) 0 0, v]).run Tryz.prog w = .ok v' w' ∧ w'.ownsRow base 25 3 v' l.length (cvCells l) ∧ Below w.heap.size w w' ∧ (l ≠ [] → FreshIn w v' w') ∧ (l = [] → v' = .slice (some ⟨g, 0, none⟩) 0 0) := by
  obtain ⟨i0, hi0, hz0, hz1, hz2⟩ := info_parts info_curve
  obtain ⟨a, cap, rfl⟩ : ∃ a cap, v = .slice a l.length cap := by obtain ⟨_, _, a, cap, e, _⟩ := h; exact ⟨a, cap, e⟩
  by_cases hne : l = []
  · subst hne
    refine ⟨_, _, run_append_nothing w _ _ ty _ i0 Tryz.underlying45 hi0 _ 0 0 (Nat.le_refl _) _ ?_, hown, Below.refl _ _, fun h => absurd rfl h, fun _ => rfl⟩
    cases a with
    | none => exact Src.ofNil w Tryz.underlying45 cap
    | some ad => exact Src.ofSlice w Tryz.underlying45 ad 0 cap [] (by simp) (fun j u hj => by simp at hj) (fun u hu => by simp at hu)
  · obtain ⟨ad, rfl, hc⟩ := h.cells hne
    have hl0 : 0 < l.length := List.length_pos_iff.2 hne
    have hl := h.2.1
    obtain ⟨v', w', hr, ho, hg⟩ := run_append_arg_grows (P := Tryz.prog) w 45 ty 25 i0 _ 3 24 Tryz.underlying45 hi0 hz0 hz1 hz2 rfl (by decide) ⟨g, 0, none⟩ 0 0 [] (by simp) (fun j u hj => by simp at hj) ad l.length cap (cvCells l) (cvCells_length l) hc (by omega) (by unfold maxLen; omega) (by omega)
    have h0 : w'.ownsRow w.heap.size 25 3 v' l.length (cvCells l) := by simpa using ho
    exact ⟨v', w', hr, owns_base h0 hb, ⟨hg.os, hg.tape, hg.output, hg.size, fun k hk => hg.block k hk (by simp)⟩, fun _ b hb => h0.lt b hb, fun e => absurd e hne⟩

/-- a copy, its rows its own -/
def RcO (w : World) (r : Int) (I : List Int) (V G : List Cv) (e : Ending) (w' : World) : Prop :=
  ∃ q bi ci bl cl bg cg, e = .returned (.pointer (some ⟨q, 0, none⟩)) ∧ Blk w' q 47 #[.int .u64 r, .slice bi I.length ci, .slice bl V.length cl, .slice bg G.length cg] ∧
    w'.ownsRow w.heap.size 3 1 (.slice bi I.length ci) I.length (I.map (Value.int .i64)) ∧ w'.ownsRow w.heap.size 25 3 (.slice bl V.length cl) V.length (cvCells V) ∧ w'.ownsRow w.heap.size 25 3 (.slice bg G.length cg) G.length (cvCells G) ∧
    (∀ b, (Value.slice bl V.length cl).ownBlock = some b → (Value.slice bg G.length cg).ownBlock = some b → False) ∧ w.heap.size ≤ q ∧ Below w.heap.size w w' ∧
    (∀ b, (Value.slice bi I.length ci).ownBlock = some b → b < q) ∧ (∀ b, (Value.slice bl V.length cl).ownBlock = some b → b < q) ∧ (∀ b, (Value.slice bg G.length cg).ownBlock = some b → b < q)

set_option maxRecDepth 100000 in
set_option maxHeartbeats 4000000 in
theorem rcopyO_any (p : Nat) (r : Int) (I : List Int) (V G : List Cv) (vi vl vg : Value) (w0 : World) (h : RbAt w0 p r I V G vi vl vg) (fr : List Nat) (hfr : ∀ k ∈ fr, k = 15 ∨ k = 21) (hVne : V ≠ []) (hGne : 21 ∈ fr → G ≠ []) (hfull : G ≠ [] → 15 ∈ fr ∧ 21 ∈ fr) :
    Calls Tryz.prog 14 #[.pointer (some ⟨p, 0, none⟩)] w0 (RcO w0 r I V G) := by
  obtain ⟨ai, ci, rfl⟩ : ∃ a cap, vi = .slice a I.length cap := by obtain ⟨_, a, cap, e, _⟩ := h.ids; exact ⟨a, cap, e⟩
  obtain ⟨al, cl, rfl⟩ : ∃ a cap, vl = .slice a V.length cap := by obtain ⟨_, _, a, cap, e, _⟩ := h.live; exact ⟨a, cap, e⟩
  obtain ⟨ag, cg, rfl⟩ : ∃ a cap, vg = .slice a G.length cap := by obtain ⟨_, _, a, cap, e, _⟩ := h.gh; exact ⟨a, cap, e⟩
  have HSAME := Lib.hid h.same; have hfew := h.few
  have l0 := h.blk.lt
  have o0 := fun e => (over_cell (w := w0) (e := e) (o := 0) l0).trans (h.blk.cell 0)
  have o1 := fun e => (over_cell (w := w0) (e := e) (o := 1) l0).trans (h.blk.cell 1)
  have o2 := fun e => (over_cell (w := w0) (e := e) (o := 2) l0).trans (h.blk.cell 2)
  have o3 := fun e => (over_cell (w := w0) (e := e) (o := 3) l0).trans (h.blk.cell 3)
  simp only [List.getElem?_toArray, List.getElem?_cons_zero, List.getElem?_cons_succ] at o0 o1 o2 o3
  have hno4 : 4 ∉ fr := fun hk => by rcases hfr _ hk with h | h <;> cases h
  have hno9 : 9 ∉ fr := fun hk => by rcases hfr _ hk with h | h <;> cases h
  have hno10 : 10 ∉ fr := fun hk => by rcases hfr _ hk with h | h <;> cases h
  have hno16 : 16 ∉ fr := fun hk => by rcases hfr _ hk with h | h <;> cases h
  have H0 := Lib.hid h
  clear h
  go_enter Tryz.func14, Tryz.ntmps14
  go_upto_region 1 with fail
  refine wp_region_midp (w := w0) 22 3 [4, 9, 10, 15, 16, 21] fr (fun k hk => by rcases hfr k hk with rfl | rfl <;> decide) [] [(4, fun u W' => ∃ g, u = .slice (some ⟨g, 0, none⟩) 0 0 ∧ W'.ownsRow w0.heap.size 3 1 u 0 []), (9, fun u W' => W'.ownsRow w0.heap.size 3 1 u (I).length ((I).map (Value.int .i64))), (10, fun u W' => ∃ g, u = .slice (some ⟨g, 0, none⟩) 0 0 ∧ W'.ownsRow w0.heap.size 25 3 u 0 []), (15, fun u W' => W'.ownsRow w0.heap.size 25 3 u (V).length (cvCells (V))), (16, fun u W' => ∃ g, u = .slice (some ⟨g, 0, none⟩) 0 0 ∧ W'.ownsRow w0.heap.size 25 3 u 0 []), (21, fun u W' => W'.ownsRow w0.heap.size 25 3 u (G).length (cvCells (G)) ∧ (G = [] → ∃ g, u = .slice (some ⟨g, 0, none⟩) 0 0))] rfl (by kernel_rfl) (by kernel_rfl) (by kernel_rfl) (by kernel_rfl) (fun _ _ _ _ _ h => h) ⟨fun v W1 W2 ⟨b, h1, h2⟩ hb => ⟨b, h1, owns_later h2 hb⟩, fun v W1 W2 h hb => owns_later h hb, fun v W1 W2 ⟨b, h1, h2⟩ hb => ⟨b, h1, owns_later h2 hb⟩, fun v W1 W2 h hb => owns_later h hb, fun v W1 W2 ⟨b, h1, h2⟩ hb => ⟨b, h1, owns_later h2 hb⟩, fun v W1 W2 h hb => ⟨owns_later h.1 hb, h.2⟩, trivial⟩ ?_
  intro LL hL
  have HL := Lib.hid hL
  clear hL
  simp only [List.take_succ_cons, List.take_zero, putL]
  iterate 22 (first | refine wpHead_skip (by decide) ?_ | (refine wpHead_step (by decide) (fun K hK => ?_); go_simp; refine hK _ ?_; clear hK K))
  refine wpHead_nil (HL.out _ ⟨?_, ?_, ?_, ?_, ?_, ?_, trivial⟩ ?_)
  · intro vs W2 hb2 hf
    clear HL
    change TStep _ _ _ (Act.put (Act.put (Act.put (Act.put (Act.put (Act.put _ (some 7) (vs 4)) (some 12) (vs 9)) (some 13) (vs 10)) (some 18) (vs 15)) (some 19) (vs 16)) (some 24) (vs 21)) _ _
    refine tstep_yes (by kernel_rfl) ?_
    go_simp
    exact ⟨(Below.refl _ _).alloc (Nat.le_refl _) _, World.ownsRow_made (base := w0.heap.size) (e := 3) (size := 1) W2 #[] 0 hb2.size (by decide) rfl⟩
  · intro vs W2 hb2 hf
    have hf := fits_cast (q := (∃ g, (vs 4) = .slice (some ⟨g, 0, none⟩) 0 0 ∧ W2.ownsRow w0.heap.size 3 1 (vs 4) 0 []) ∧ True) hf (by kernel_rfl)
    clear HL
    refine Exists.elim hf.1 fun B4 hB4 => ?_
    change TStep _ _ _ (Act.put (Act.put (Act.put (Act.put (Act.put (Act.put _ (some 7) (vs 4)) (some 12) (vs 9)) (some 13) (vs 10)) (some 18) (vs 15)) (some 19) (vs 16)) (some 24) (vs 21)) _ _
    have hown := hB4.2
    rw [hB4.1] at hown
    have happ := app_ints0 44 (H0.out.ids.later hb2) hown hb2.size
    refine Exists.elim happ fun v' ha1 => ?_
    refine Exists.elim ha1 fun w' ha2 => ?_
    rw [hB4.1]
    refine tstep_yes (by kernel_rfl) ?_
    exact midAt_app rfl (by kernel_rfl) (by kernel_rfl) ha2.1 ha2.2.2 ⟨ha2.2.1, fun hk => absurd hk hno9⟩
  · intro vs W2 hb2 hf
    clear HL
    change TStep _ _ _ (Act.put (Act.put (Act.put (Act.put (Act.put (Act.put _ (some 7) (vs 4)) (some 12) (vs 9)) (some 13) (vs 10)) (some 18) (vs 15)) (some 19) (vs 16)) (some 24) (vs 21)) _ _
    refine tstep_yes (by kernel_rfl) ?_
    go_simp
    exact ⟨(Below.refl _ _).alloc (Nat.le_refl _) _, World.ownsRow_made (base := w0.heap.size) (e := 25) (size := 3) W2 #[] 0 hb2.size (by decide) rfl⟩
  · intro vs W2 hb2 hf
    have hf := fits_cast (q := (∃ g, (vs 10) = .slice (some ⟨g, 0, none⟩) 0 0 ∧ W2.ownsRow w0.heap.size 25 3 (vs 10) 0 []) ∧ True) hf (by kernel_rfl)
    clear HL
    refine Exists.elim hf.1 fun B10 hB10 => ?_
    change TStep _ _ _ (Act.put (Act.put (Act.put (Act.put (Act.put (Act.put _ (some 7) (vs 4)) (some 12) (vs 9)) (some 13) (vs 10)) (some 18) (vs 15)) (some 19) (vs 16)) (some 24) (vs 21)) _ _
    have hown := hB10.2
    rw [hB10.1] at hown
    have happ := app_allF 45 (H0.out.live.later hb2) hown hb2.size
    refine Exists.elim happ fun v' ha1 => ?_
    refine Exists.elim ha1 fun w' ha2 => ?_
    rw [hB10.1]
    refine tstep_yes (by kernel_rfl) ?_
    exact midAt_app rfl (by kernel_rfl) (by kernel_rfl) ha2.1 ha2.2.2.1 ⟨ha2.2.1, fun _ => ha2.2.2.2.1 hVne⟩
  · intro vs W2 hb2 hf
    clear HL
    change TStep _ _ _ (Act.put (Act.put (Act.put (Act.put (Act.put (Act.put _ (some 7) (vs 4)) (some 12) (vs 9)) (some 13) (vs 10)) (some 18) (vs 15)) (some 19) (vs 16)) (some 24) (vs 21)) _ _
    refine tstep_yes (by kernel_rfl) ?_
    go_simp
    exact ⟨(Below.refl _ _).alloc (Nat.le_refl _) _, World.ownsRow_made (base := w0.heap.size) (e := 25) (size := 3) W2 #[] 0 hb2.size (by decide) rfl⟩
  · intro vs W2 hb2 hf
    have hf := fits_cast (q := (∃ g, (vs 16) = .slice (some ⟨g, 0, none⟩) 0 0 ∧ W2.ownsRow w0.heap.size 25 3 (vs 16) 0 []) ∧ True) hf (by kernel_rfl)
    clear HL
    refine Exists.elim hf.1 fun B16 hB16 => ?_
    change TStep _ _ _ (Act.put (Act.put (Act.put (Act.put (Act.put (Act.put _ (some 7) (vs 4)) (some 12) (vs 9)) (some 13) (vs 10)) (some 18) (vs 15)) (some 19) (vs 16)) (some 24) (vs 21)) _ _
    have hown := hB16.2
    rw [hB16.1] at hown
    have happ := app_allF 45 (H0.out.gh.later hb2) hown hb2.size
    refine Exists.elim happ fun v' ha1 => ?_
    refine Exists.elim ha1 fun w' ha2 => ?_
    rw [hB16.1]
    refine tstep_yes (by kernel_rfl) ?_
    exact midAt_app rfl (by kernel_rfl) (by kernel_rfl) ha2.1 ha2.2.2.1 ⟨⟨ha2.2.1, fun h0 => ⟨_, ha2.2.2.2.2 h0⟩⟩, fun hk => ha2.2.2.2.1 (hGne hk)⟩
  · intro vs W2 hb2 hf hap
    have hf := fits_cast (q := (∃ g, vs 4 = .slice (some ⟨g, 0, none⟩) 0 0 ∧ W2.ownsRow w0.heap.size 3 1 (vs 4) 0 []) ∧ (W2.ownsRow w0.heap.size 3 1 (vs 9) (I).length ((I).map (Value.int .i64))) ∧ (∃ g, vs 10 = .slice (some ⟨g, 0, none⟩) 0 0 ∧ W2.ownsRow w0.heap.size 25 3 (vs 10) 0 []) ∧ (W2.ownsRow w0.heap.size 25 3 (vs 15) (V).length (cvCells (V))) ∧ (∃ g, vs 16 = .slice (some ⟨g, 0, none⟩) 0 0 ∧ W2.ownsRow w0.heap.size 25 3 (vs 16) 0 []) ∧ (W2.ownsRow w0.heap.size 25 3 (vs 21) (G).length (cvCells (G)) ∧ (G = [] → ∃ g, vs 21 = .slice (some ⟨g, 0, none⟩) 0 0)) ∧ True) hf (by kernel_rfl)
    clear HL
    change wpList _ _ _ _ (Act.put (Act.put (Act.put (Act.put (Act.put (Act.put _ (some 7) (vs 4)) (some 12) (vs 9)) (some 13) (vs 10)) (some 18) (vs 15)) (some 19) (vs 16)) (some 24) (vs 21)) _
    have hap2 : ∀ b, (vs 15).ownBlock = some b → (vs 21).ownBlock = some b → False := fun b h1 h2 => by
      by_cases hG : G = []
      · obtain ⟨g, e⟩ := hf.2.2.2.2.2.1.2 hG
        have ho := hf.2.2.2.2.2.1.1
        rw [e] at ho h2
        cases h2
        rcases ho.2 with ⟨e2, _⟩ | ⟨g', c', cur, e2, _, q2, _, _, q5, _⟩
        · cases e2
        · simp only [Value.slice.injEq, Option.some.injEq, Addr.mk.injEq, and_true] at e2
          obtain ⟨rfl, _, rfl⟩ := e2
          rcases hf.2.2.2.1.2 with ⟨e3, h0⟩ | ⟨g3, c3, cur3, e3, _, q3, q4, _, q6, _⟩
          · exact hVne (List.eq_nil_of_length_eq_zero h0)
          · rw [e3] at h1
            cases h1
            have := q2.symm.trans q3
            cases this
            have := List.length_pos_iff.2 hVne
            omega
      · exact hap 15 (hfull hG).1 21 (hfull hG).2 (by decide) b h1 h2
    refine Exists.elim (owns_slice hf.2.1) fun b1 x1 => ?_
    refine Exists.elim x1 fun d1 y1 => ?_
    refine Exists.elim (owns_slice hf.2.2.2.1) fun b2 x2 => ?_
    refine Exists.elim x2 fun d2 y2 => ?_
    refine Exists.elim (owns_slice hf.2.2.2.2.2.1.1) fun b3 x3 => ?_
    refine Exists.elim x3 fun d3 y3 => ?_
    have hi := hf.2.1; have hv := hf.2.2.2.1; have hg := hf.2.2.2.2.2.1.1
    rw [y1] at hi; rw [y2] at hv hap2; rw [y3] at hg hap2
    rw [y1, y2, y3]
    have HI := Lib.hid (And.intro hi (And.intro hv (And.intro hg hb2))); have HAP := Lib.hid hap2
    clear hf hi hv hg hb2 hap hap2 o0 o1 o2 o3 l0 x1 x2 x3 y1 y2 y3
    simp only [List.drop_succ_cons, List.drop_zero, List.take_succ_cons, List.take_zero]
    go_wp2_with fail
    go_ret
    have hbn := (Below.refl W2.heap.size W2).alloc (Nat.le_refl _) (.cells #[.int .u64 r, .slice b1 I.length d1, .slice b2 V.length d2, .slice b3 G.length d3] 47)
    exact ⟨_, _, _, _, _, _, _, rfl, Blk.new _ _ _, owns_later HI.out.1 hbn, owns_later HI.out.2.1 hbn, owns_later HI.out.2.2.1 hbn, HAP.out, HI.out.2.2.2.size, HI.out.2.2.2.trans (hbn.mono HI.out.2.2.2.size), fun b hb => (HI.out.1.lt b hb).2, fun b hb => (HI.out.2.1.lt b hb).2, fun b hb => (HI.out.2.2.1.lt b hb).2⟩

theorem rcopyO (p : Nat) (r : Int) (I : List Int) (V G : List Cv) (vi vl vg : Value) (w0 : World) (h : RbAt w0 p r I V G vi vl vg) (hV : V ≠ []) :
    Calls Tryz.prog 14 #[.pointer (some ⟨p, 0, none⟩)] w0 (RcO w0 r I V G) := by
  by_cases hG : G = []
  · exact rcopyO_any p r I V G vi vl vg w0 h [] (fun k hk => by cases hk) hV (fun hk => by cases hk) (fun h => absurd hG h)
  · exact rcopyO_any p r I V G vi vl vg w0 h [15, 21] (fun k hk => by simpa using hk) hV (fun _ => hG) (fun _ => ⟨by simp, by simp⟩)
end Go.Proofs.YthmhboagbeibdaaGreat
/-
  The book of curves: Live, Ids, Ghosts, Settle.
-/
namespace Go.Proofs.YthmhboagbeibdaaGreat
set_option linter.unusedVariables false
open Go.RowKit Go.Maps Go.Sort

def LiveW (w : World) (L : List (Int × Cv)) (id : Int) (e : Ending) (w' : World) : Prop :=
  e = .returned (.tuple #[cvV ((lookM L id).getD (0, 0, 0)), .bool (lookM L id).isSome]) ∧ Below w.heap.size w w'
set_option maxRecDepth 100000 in
theorem live_any (id : Int) (g m : Nat) (r : Int) (L : List (Int × Cv)) (G : List Cv) (vg : Value) (w : World) (hid : (Lit.int .i64 id).wf = true) (h : BkAt w g m r L G vg) :
    Calls Tryz.prog 36 #[.pointer (some ⟨g, 0, none⟩), .int .i64 id] w (LiveW w L id) := by
  have hb0 := (Below.refl w.heap.size w).alloc (Nat.le_refl _) (.cells #[.int .u64 0, .int .u64 0, .int .u64 0] 25)
  have h0 := h.later hb0
  have hn := bnone_no g r _ (h0.blk.cell 0) h.rate.1
  have hlook := h0.map.look_ok (k := id) (E := 25) (T := 53) (z := cvV (0, 0, 0)) Tryz.underlying3 Tryz.underlying53 (by exact Tryz.zeroValue25 _) hid
  have y1 := h0.blk.cell 1
  have hB := Blk.new w 25 #[.int .u64 0, .int .u64 0, .int .u64 0]
  have z0 := hB.cell 0; have z1 := hB.cell 1; have z2 := hB.cell 2; have f0 := hB.frozen 0; have f1 := hB.frozen 1; have f2 := hB.frozen 2
  simp only [List.getElem?_toArray, List.getElem?_cons_zero, List.getElem?_cons_succ] at y1 z0 z1 z2
  have hval : (lookM (mapV cvV L) id).getD (cvV (0, 0, 0)) = cvV ((lookM L id).getD (0, 0, 0)) := by rw [look_map]; cases lookM L id <;> rfl
  have hsm : (lookM (mapV cvV L) id).isSome = (lookM L id).isSome := by rw [look_map]; cases lookM L id <;> rfl
  rw [hval, hsm] at hlook
  unfold LiveW
  generalize (lookM L id).isSome = bs at hlook ⊢
  generalize (lookM L id).getD (0, 0, 0) = c at hlook ⊢
  obtain ⟨CF, CL, CR⟩ := c
  unfold cvV at hlook ⊢
  dsimp only at hlook ⊢
  have HB := Lib.hid (And.intro hb0 hB)
  clear h h0 hval hsm hb0 hB
  go_enter Tryz.func36, Tryz.ntmps36
  go_wp2_with (go_at_call 17; refine hn.mono ?_; rintro e w1 ⟨rfl, rfl⟩)
  have hE := (Blk.new w 25 #[.int .u64 CF, .int .u64 CL, .int .u64 CR]).alloc (.cells #[.int .u64 CF, .int .u64 CL, .int .u64 CR] 25)
  have q0 := hE.cell 0; have q1 := hE.cell 1; have q2 := hE.cell 2
  simp only [List.getElem?_toArray, List.getElem?_cons_zero, List.getElem?_cons_succ] at q0 q1 q2
  refine bodyPost_ret (v := .tuple #[.agg #[.int .u64 CF, .int .u64 CL, .int .u64 CR], .bool bs]) (by simp [results, Tryz.results36, go_sem, q0, q1, q2]) rfl ⟨rfl, ((Below.refl w.heap.size w).alloc (Nat.le_refl _) _).alloc (by simp) _⟩
theorem ids_any (g m : Nat) (r : Int) (L : List (Int × Cv)) (G : List Cv) (vg : Value) (w : World) (h : BkAt w g m r L G vg) :
    Calls Tryz.prog 29 #[.pointer (some ⟨g, 0, none⟩)] w (KeysW w (L.map (·.1))) := by
  have hk := keys_any m (mapV cvV L) w h.map (by rw [mapV_length]; have := h.few; omega)
  rw [mapV_keys] at hk
  have hn := bnone_no g r w (h.blk.cell 0) h.rate.1
  have y1 := h.blk.cell 1
  simp only [List.getElem?_toArray, List.getElem?_cons_zero, List.getElem?_cons_succ] at y1
  clear h
  go_enter Tryz.func29, Tryz.ntmps29
  go_wp2_with (go_at_call 17; refine hn.mono ?_; rintro e w1 ⟨rfl, rfl⟩)
  refine hk.mono ?_
  clear hk y1
  rintro e w2 ⟨v, rfl, ho, hb⟩
  go_wp2_with fail
  go_ret
  exact ⟨v, rfl, ho, hb⟩
theorem ghosts_any (g m : Nat) (r : Int) (L : List (Int × Cv)) (G : List Cv) (vg : Value) (w : World) (h : BkAt w g m r L G vg) :
    Calls Tryz.prog 30 #[.pointer (some ⟨g, 0, none⟩)] w (CloneW w w G) := by
  obtain ⟨ag, cg, rfl⟩ : ∃ a cap, vg = .slice a G.length cap := by obtain ⟨_, _, a, cap, e, _⟩ := h.gh; exact ⟨a, cap, e⟩
  have hk := clone_row w w _ G h.gh (Nat.le_refl _)
  have hn := bnone_no g r w (h.blk.cell 0) h.rate.1
  have y1 := h.blk.cell 2
  simp only [List.getElem?_toArray, List.getElem?_cons_zero, List.getElem?_cons_succ] at y1
  clear h
  go_enter Tryz.func30, Tryz.ntmps30
  go_wp2_with (go_at_call 17; refine hn.mono ?_; rintro e w1 ⟨rfl, rfl⟩)
  refine hk.mono ?_
  clear hk y1
  rintro e w2 ⟨v, rfl, ho, hb⟩
  go_wp2_with fail
  go_ret
  exact ⟨v, rfl, ho, hb⟩

theorem grown_at (W : World) (q o : Nat) (v : Value) : W.grownBy (W.setCell ⟨q, o, none⟩ v) (some q) :=
  ⟨rfl, rfl, rfl, by simp [World.setCell], fun k hk hne => Below.heap_setCell W ⟨q, o, none⟩ v k (by show k ≠ q; rintro rfl; exact hne rfl)⟩
def SettleW (w : World) (g m : Nat) (r : Int) (L : List (Int × Cv)) (G : List Cv) (e : Ending) (w' : World) : Prop :=
  e = .returned (.int .i64 G.length) ∧ BkAt w' g m r L [] (.slice none 0 0) ∧ w.grownBy w' (some g)
theorem settle_any (g m : Nat) (r : Int) (L : List (Int × Cv)) (G : List Cv) (vg : Value) (w : World) (h : BkAt w g m r L G vg) :
    Calls Tryz.prog 13 #[.pointer (some ⟨g, 0, none⟩)] w (SettleW w g m r L G) := by
  obtain ⟨ag, cg, rfl⟩ : ∃ a cap, vg = .slice a G.length cap := by obtain ⟨_, _, a, cap, e, _⟩ := h.gh; exact ⟨a, cap, e⟩
  have hn := bnone_no g r w (h.blk.cell 0) h.rate.1
  have y1 := h.blk.cell 2; have z1 := h.blk.frozen 2
  simp only [List.getElem?_toArray, List.getElem?_cons_zero, List.getElem?_cons_succ] at y1
  have hg := grown_at w g 2 (.slice none 0 0)
  have hfin : BkAt (w.setCell ⟨g, 2, none⟩ (.slice none 0 0)) g m r L [] (.slice none 0 0) :=
    ⟨by simpa using h.blk.set_ 2 (.slice none 0 0), h.map.kept hg (by simpa using (Ne.symm h.ne)), ⟨fun c hc => by simp at hc, by simp, none, 0, rfl, .inl rfl⟩, h.u, h.wf, by have := h.few; simp; omega, h.rate⟩
  have HF := Lib.hid (And.intro hfin hg)
  clear h hfin hg
  go_enter Tryz.func13, Tryz.ntmps13
  go_wp2_with (go_at_call 17; refine hn.mono ?_; rintro e w1 ⟨rfl, rfl⟩)
  go_ret
  exact ⟨rfl, HF.out.1, HF.out.2⟩
end Go.Proofs.YthmhboagbeibdaaGreat
/-
  The book of curves, its ghosts a row of its own: Drop.
-/
namespace Go.Proofs.YthmhboagbeibdaaGreat
set_option linter.unusedVariables false
open Go.RowKit Go.Maps Go.Sort
attribute [local go_sem ↓] Go.wp_at_zero Go.wp_at_succ
attribute [local go_sem] quietR quietAtR quietUponR midAt midUpon
attribute [local irreducible] TStep HStep

/-- a world's beginning: what no call of the book's changes -/
def cutW (w : World) (B : Nat) : World := { w with heap := w.heap.extract 0 B }
theorem cutW_size {w : World} {B : Nat} (h : B ≤ w.heap.size) : (cutW w B).heap.size = B := by simp [cutW]; omega
theorem below_cut {w W : World} {B : Nat} (hB : B ≤ w.heap.size) (h : Below B w W) : Below (cutW w B).heap.size (cutW w B) W := by
  rw [cutW_size hB]
  refine ⟨h.os, h.tape, h.output, ?_, fun k hk => ?_⟩
  · rw [cutW_size hB]; exact Nat.le_trans hB h.size
  · rw [h.block k hk]
    simp [cutW, Array.getElem?_extract]
    omega
theorem cut_below {w W : World} {B : Nat} (hB : B ≤ w.heap.size) (hs : w.heap.size ≤ W.heap.size) (h : Below (cutW w B).heap.size (cutW w B) W) : Below B w W := by
  rw [cutW_size hB] at h
  refine ⟨h.os, h.tape, h.output, hs, fun k hk => ?_⟩
  rw [h.block k hk]
  simp [cutW, Array.getElem?_extract]
  omega

/-- a book whose ghosts are a row of its own -/
structure BkO (w : World) (base g m : Nat) (r : Int) (L : List (Int × Cv)) (G : List Cv) (vg : Value) : Prop where
  bk : BkAt w g m r L G vg
  own : w.ownsRow base 25 3 vg G.length (cvCells G)
  gb : base ≤ g
  mb : base ≤ m
theorem BkO.later {w w' : World} {base g m : Nat} {r : Int} {L : List (Int × Cv)} {G : List Cv} {vg : Value} (h : BkO w base g m r L G vg) (hb : Below w.heap.size w w') : BkO w' base g m r L G vg :=
  ⟨h.bk.later hb, owns_later h.own hb, h.gb, h.mb⟩
theorem BkO.base_le {w : World} {base g m : Nat} {r : Int} {L : List (Int × Cv)} {G : List Cv} {vg : Value} (h : BkO w base g m r L G vg) : base ≤ w.heap.size := by
  have h1 := h.gb; have h2 := h.bk.blk.lt; omega
theorem own_map {w : World} {base m n sz : Nat} {e : TypeId} {v : Value} {xs : List Value} {M : List (Int × Value)} (h : w.ownsRow base e sz v n xs) (hM : MapI Tryz.prog 3 w m M) : v.ownBlock = none ∨ v.ownBlock ≠ some m := by
  rcases h.2 with ⟨rfl, _⟩ | ⟨g, c, cur, rfl, _, h3, _⟩
  · exact .inl rfl
  · refine .inr fun he => ?_
    simp [Value.ownBlock] at he
    subst he
    obtain ⟨es, clock, h1, _⟩ := hM
    rw [h3] at h1; cases h1
theorem own_blk {w : World} {base g n sz : Nat} {e t : TypeId} {v : Value} {xs : List Value} {cs : Array Value} (h : w.ownsRow base e sz v n xs) (hB : Blk w g t cs) (hne : e ≠ t) : v.ownBlock = none ∨ v.ownBlock ≠ some g := by
  rcases h.2 with ⟨rfl, _⟩ | ⟨g', c, cur, rfl, _, h3, _⟩
  · exact .inl rfl
  · refine .inr fun he => ?_
    simp [Value.ownBlock] at he
    subst he
    unfold Blk at hB
    rw [h3] at hB
    cases hB
    exact hne rfl

/-- what no call of the book's changes: all blocks but its own -/
def Spare (w w' : World) (g m : Nat) (vg : Value) : Prop := w.heap.size ≤ w'.heap.size ∧ ∀ k, k < w.heap.size → k ≠ g → k ≠ m → vg.ownBlock ≠ some k → w'.heap[k]? = w.heap[k]?
theorem Spare.refl (w : World) (g m : Nat) (vg : Value) : Spare w w g m vg := ⟨Nat.le_refl _, fun _ _ _ _ _ => rfl⟩
theorem Spare.trans {a b c : World} {g m : Nat} {vg : Value} (h : Spare a b g m vg) (k : Spare b c g m vg) : Spare a c g m vg := ⟨Nat.le_trans h.1 k.1, fun i hi h1 h2 h3 => (k.2 i (Nat.lt_of_lt_of_le hi h.1) h1 h2 h3).trans (h.2 i hi h1 h2 h3)⟩
theorem Spare.below {w w' : World} (g m : Nat) (vg : Value) (h : Below w.heap.size w w') : Spare w w' g m vg := ⟨h.size, fun i hi _ _ _ => h.block i hi⟩
theorem Spare.atG {w w' : World} (g m : Nat) (vg : Value) (h : w.grownBy w' (some g)) : Spare w w' g m vg := ⟨h.size, fun i hi h1 _ _ => h.block i hi (by simpa using h1)⟩
theorem Spare.atM {w w' : World} (g m : Nat) (vg : Value) (h : w.grownBy w' (some m)) : Spare w w' g m vg := ⟨h.size, fun i hi _ h1 _ => h.block i hi (by simpa using h1)⟩
theorem Spare.atV {w w' : World} (g m : Nat) (vg : Value) (h : w.grownBy w' vg.ownBlock) : Spare w w' g m vg := ⟨h.size, fun i hi _ _ h1 => h.block i hi (fun e => h1 e.symm)⟩
theorem Spare.blk {w w' : World} {g m b : Nat} {vg : Value} {t : TypeId} {cs : Array Value} (h : Spare w w' g m vg) (hB : Blk w b t cs) (h1 : b ≠ g) (h2 : b ≠ m) (h3 : vg.ownBlock ≠ some b) : Blk w' b t cs := (h.2 b hB.lt h1 h2 h3).trans hB

/-- a row that is the elder one's or new -/
def Fr (w : World) (v v' : Value) : Prop := v'.ownBlock = v.ownBlock ∨ ∃ k, v'.ownBlock = some k ∧ w.heap.size ≤ k
theorem Fr.refl (w : World) (v : Value) : Fr w v v := .inl rfl
def DropW (w : World) (base g m : Nat) (r : Int) (L : List (Int × Cv)) (G : List Cv) (vg : Value) (id : Int) (keep : Bool) (e : Ending) (w' : World) : Prop :=
  e = .returned (.bool (lookM L id).isSome) ∧ (∃ vg', BkO w' base g m r (delM L id) (if keep then G ++ (lookM L id).toList else G) vg' ∧ (keep = false → vg' = vg) ∧ Fr w vg vg') ∧ Below base w w' ∧ Spare w w' g m vg

theorem look_u {L : List (Int × Cv)} {id : Int} {c : Cv} (hu : UU (L.map (·.2))) (h : lookM L id = some c) : U c.1 ∧ U c.2.1 ∧ U c.2.2 := by
  have hm : ∀ {M : List (Int × Cv)}, lookM M id = some c → ∃ p ∈ M, p.2 = c := by
    intro M
    induction M with
    | nil => intro h; cases h
    | cons p r ih =>
      intro h
      unfold lookM at h
      split at h
      · cases h; exact ⟨p, by simp, rfl⟩
      · obtain ⟨q, hq, e⟩ := ih h; exact ⟨q, by simp [hq], e⟩
  obtain ⟨p, hp, rfl⟩ := hm h
  exact hu _ (List.mem_map.2 ⟨p, hp, rfl⟩)
/-- behind the ghosts' append -/
structure Mid7 (W w1 : World) (base g m : Nat) (r : Int) (L : List (Int × Cv)) (G : List Cv) (vg u : Value) : Prop where
  blk : Blk W g 55 #[.int .u64 r, .map (some m), vg]
  map : MapI Tryz.prog 3 W m (mapV cvV L)
  own : W.ownsRow base 25 3 u G.length (cvCells G)
  sp : Spare w1 W g m vg
  fr : u.ownBlock = vg.ownBlock ∨ ∃ k, u.ownBlock = some k ∧ w1.heap.size ≤ k
theorem Mid7.later {W W' w1 : World} {base g m : Nat} {r : Int} {L : List (Int × Cv)} {G : List Cv} {vg u : Value} (h : Mid7 W w1 base g m r L G vg u) (hb : Below W.heap.size W W') : Mid7 W' w1 base g m r L G vg u :=
  ⟨h.blk.below hb h.blk.lt, h.map.kept (grown_none hb) (by simp), owns_later h.own hb, h.sp.trans (Spare.below g m vg hb), h.fr⟩

/-- the map behind the ghosts: what is dropped -/
theorem BkO.drop {w : World} {base g m : Nat} {r : Int} {L : List (Int × Cv)} {G : List Cv} {vg : Value} (h : BkO w base g m r L G vg) (id : Int) (hid : (Lit.int .i64 id).wf = true) :
    ∃ w', (Builtin.delete_ #[53, 3] 0 #[.map (some m), .int .i64 id]).run Tryz.prog w = .ok (.tuple #[]) w' ∧ BkO w' base g m r (delM L id) G vg ∧ Below base w w' ∧ w.grownBy w' (some m) := by
  obtain ⟨w', hr, hM, ht⟩ := h.bk.map.drop (k := id) (E := 25) (T := 53) Tryz.underlying3 Tryz.underlying53 hid 0
  rw [del_map] at hM
  refine ⟨w', hr, ⟨⟨h.bk.blk.grown ht.grown (by simp [h.bk.ne]), hM, cv_turned h.bk.gh ht, fun d hd => ?_, fun p hp => h.bk.wf p (List.mem_filter.1 hp).1, by have := del_length id L; have := h.bk.few; omega, h.bk.rate⟩, h.own.kept ht.grown (own_map h.own h.bk.map), h.gb, h.mb⟩, (Below.refl base w).grown ht.grown h.base_le (fun k e => by cases e; exact h.mb), ht.grown⟩
  obtain ⟨p, hp, rfl⟩ := List.mem_map.1 hd
  exact h.bk.u _ (List.mem_map.2 ⟨p, (List.mem_filter.1 hp).1, rfl⟩)

set_option maxRecDepth 100000 in
set_option maxHeartbeats 4000000 in
theorem drop_any (id : Int) (keep : Bool) (base g m : Nat) (r : Int) (L : List (Int × Cv)) (G : List Cv) (vg : Value) (w : World) (hid : (Lit.int .i64 id).wf = true) (h : BkO w base g m r L G vg) (hfew : L.length + G.length < 100000) :
    Calls Tryz.prog 12 #[.pointer (some ⟨g, 0, none⟩), .int .i64 id, .bool keep] w (DropW w base g m r L G vg id keep) := by
  obtain ⟨ag, cg, rfl⟩ : ∃ a cap, vg = .slice a G.length cap := by obtain ⟨_, _, a, cap, e, _⟩ := h.bk.gh; exact ⟨a, cap, e⟩
  have hn := bnone_no g r w (h.bk.blk.cell 0) h.bk.rate.1
  have hlook := h.bk.map.look_ok (k := id) (E := 25) (T := 53) (z := cvV (0, 0, 0)) Tryz.underlying3 Tryz.underlying53 (by exact Tryz.zeroValue25 _) hid
  have hval : (lookM (mapV cvV L) id).getD (cvV (0, 0, 0)) = cvV ((lookM L id).getD (0, 0, 0)) := by rw [look_map]; cases lookM L id <;> rfl
  have hsm : (lookM (mapV cvV L) id).isSome = (lookM L id).isSome := by rw [look_map]; cases lookM L id <;> rfl
  rw [hval, hsm] at hlook
  have y1 := h.bk.blk.cell 1
  simp only [List.getElem?_toArray, List.getElem?_cons_zero, List.getElem?_cons_succ] at y1
  have H := Lib.hid h
  clear h hval hsm
  cases hl : lookM L id with
  | none =>
    rw [hl] at hlook
    simp only [Option.getD_none, Option.isSome_none, cvV] at hlook
    have HL := Lib.hid hl
    clear hl
    have hb1 := (Below.refl w.heap.size w).alloc (Nat.le_refl _) (.cells #[.int .u64 0, .int .u64 0, .int .u64 0] 25)
    obtain ⟨w', hr, hbo, hbb, hgr⟩ := (H.out.later hb1).drop id hid
    have HF := Lib.hid (And.intro hbo (And.intro ((hb1.mono H.out.base_le).trans hbb) ((Spare.below g m (.slice ag G.length cg) hb1).trans (Spare.atM g m _ hgr))))
    have y2 := (H.out.later hb1).bk.blk.cell 1
    simp only [List.getElem?_toArray, List.getElem?_cons_zero, List.getElem?_cons_succ] at y2
    clear hbo hbb hb1 hgr
    go_enter Tryz.func12, Tryz.ntmps12
    go_wp2_with (go_at_call 17; refine hn.mono ?_; rintro e w1 ⟨rfl, rfl⟩)
    go_ret
    have e1 : delM L id = L := delM_none id L (look_none.1 HL.out)
    exact ⟨by rw [HL.out]; rfl, ⟨_, by rw [HL.out]; cases keep <;> simpa using HF.out.1, fun _ => rfl, Fr.refl _ _⟩, HF.out.2⟩
  | some c =>
    obtain ⟨CF, CL, CR⟩ := c
    rw [hl] at hlook
    simp only [Option.getD_some, Option.isSome_some, cvV] at hlook
    have huc : U CF ∧ U CL ∧ U CR := by
      have hs : (lookM L id).isSome = true := by rw [hl]; rfl
      exact look_u H.out.bk.u hl
    have HL := Lib.hid hl
    clear hl
    have hb1 := (Below.refl w.heap.size w).alloc (Nat.le_refl _) (.cells #[.int .u64 CF, .int .u64 CL, .int .u64 CR] 25)
    have h1 := H.out.later hb1
    have y2 := h1.bk.blk.cell 1
    simp only [List.getElem?_toArray, List.getElem?_cons_zero, List.getElem?_cons_succ] at y2
    cases keep
    · obtain ⟨w', hr, hbo, hbb, hgr⟩ := h1.drop id hid
      have HF := Lib.hid (And.intro hbo (And.intro ((hb1.mono H.out.base_le).trans hbb) ((Spare.below g m (.slice ag G.length cg) hb1).trans (Spare.atM g m _ hgr))))
      clear hbo hbb hb1 h1 hgr
      go_enter Tryz.func12, Tryz.ntmps12
      go_wp2_with (go_at_call 17; refine hn.mono ?_; rintro e w1 ⟨rfl, rfl⟩)
      go_ret
      exact ⟨by rw [HL.out]; rfl, ⟨_, by simpa using HF.out.1, fun _ => rfl, Fr.refl _ _⟩, HF.out.2⟩
    · have hBx := Blk.new w 25 #[.int .u64 CF, .int .u64 CL, .int .u64 CR]
      have H1 := Lib.hid (And.intro h1 (And.intro hBx hb1))
      clear h1 hBx hb1
      go_enter Tryz.func12, Tryz.ntmps12
      go_upto_region 5 with (go_at_call 17; refine hn.mono ?_; rintro e w1 ⟨rfl, rfl⟩)
      generalize w.alloc (.cells #[.int .u64 CF, .int .u64 CL, .int .u64 CR] 25) = w1 at H1 y2 ⊢
      clear y1 y2 hlook hn
      have hbl : base ≤ w1.heap.size := H1.out.1.base_le
      refine wp_region_hot0 (w := cutW w1 base) (ws := w1) 10 1 [4, 5, 6, 7] [] [(4, fun u W' => u = .slice ag G.length cg), (5, fun u W' => u = .agg #[.int .u64 CF, .int .u64 CL, .int .u64 CR]), (6, fun u W' => ∃ B, u = .slice (some ⟨B, 0, none⟩) 1 1 ∧ Blk W' B 25 #[.int .u64 CF, .int .u64 CL, .int .u64 CR]), (7, fun u W' => Mid7 W' w1 base g m r L (G ++ [(CF, CL, CR)]) (.slice ag G.length cg) u)] [(6, 7)] [7] [4, 5] rfl (by decide) (by decide) (below_cut hbl (Below.refl _ _)) (J := fun W => BkO W base g m r L G (.slice ag G.length cg) ∧ Blk W w.heap.size 25 #[.int .u64 CF, .int .u64 CL, .int .u64 CR] ∧ Spare w1 W g m (.slice ag G.length cg)) (jend := 7) ⟨H1.out.1, H1.out.2.1, Spare.refl _ _ _ _⟩ (fun W W' h hb => ⟨h.1.later hb, h.2.1.below hb h.2.1.lt, h.2.2.trans (Spare.below g m _ hb)⟩) (.inr (by kernel_rfl)) (by kernel_rfl) (by kernel_rfl) (by kernel_rfl) (by kernel_rfl) (by kernel_rfl) (fun _ _ _ _ _ h => h) ⟨fun v W1 W2 h hb => h, fun v W1 W2 h hb => h, fun v W1 W2 ⟨b, h1, h2⟩ hb => ⟨b, h1, h2.below hb h2.lt⟩, fun v W1 W2 h hb => h.later hb, trivial⟩ ⟨fun _ v W1 W2 h => h, fun _ v W1 W2 h => h, fun h => by simp at h, fun h => by simp at h, trivial⟩ ?_
      intro LL hL
      have HL2 := Lib.hid hL
      clear hL
      simp only [List.take_succ_cons, List.take_zero, putL]
      iterate 10 (first | refine wpHead_skip (by decide) ?_ | (refine wpHead_step (by decide) (fun K hK => ?_); go_simp; refine hK _ ?_; clear hK K))
      refine wpHead_nil (HL2.out _ ⟨?_, ?_, ?_, ?_, trivial⟩ ?_)
      · intro vs W2 hb2 hf hj
        clear HL2 hf
        have hjj := hj (.inr ⟨by decide, by kernel_rfl⟩)
        have x2 := hjj.1.bk.blk.cell 2
        simp only [List.getElem?_toArray, List.getElem?_cons_zero, List.getElem?_cons_succ] at x2
        clear hj hjj
        change TStep _ _ _ (Act.put (Act.put (Act.put (Act.put _ (some 28) (vs 4)) (some 29) (vs 5)) (some 30) (vs 6)) (some 31) (vs 7)) _ _
        refine tstep_yes (by kernel_rfl) ?_
        go_simp
        exact Below.refl _ _
      · intro vs W2 hb2 hf hj
        clear HL2 hf
        have hjj := hj (.inr ⟨by decide, by kernel_rfl⟩)
        have x0 := hjj.2.1.cell 0; have x1 := hjj.2.1.cell 1; have x2 := hjj.2.1.cell 2
        simp only [List.getElem?_toArray, List.getElem?_cons_zero, List.getElem?_cons_succ] at x0 x1 x2
        clear hj hjj
        change TStep _ _ _ (Act.put (Act.put (Act.put (Act.put _ (some 28) (vs 4)) (some 29) (vs 5)) (some 30) (vs 6)) (some 31) (vs 7)) _ _
        refine tstep_yes (by kernel_rfl) ?_
        go_simp
        exact Below.refl _ _
      · intro vs W2 hb2 hf _
        have hf := fits_cast (q := (vs 5 = .agg #[.int .u64 CF, .int .u64 CL, .int .u64 CR]) ∧ True) hf (by kernel_rfl)
        clear HL2
        change TStep _ _ _ (Act.put (Act.put (Act.put (Act.put _ (some 28) (vs 4)) (some 29) (vs 5)) (some 30) (vs 6)) (some 31) (vs 7)) _ _
        rw [hf.1]
        refine tstep_yes (by kernel_rfl) ?_
        go_simp
        exact ⟨(Below.refl _ _).alloc (Nat.le_refl _) _, Blk.new _ _ _⟩
      · intro vs W2 hb2 hf hj
        have hf := fits_cast (q := (vs 4 = .slice ag G.length cg) ∧ (∃ B, vs 6 = .slice (some ⟨B, 0, none⟩) 1 1 ∧ Blk W2 B 25 #[.int .u64 CF, .int .u64 CL, .int .u64 CR]) ∧ True) hf (by kernel_rfl)
        clear HL2
        have hjj := hj (.inl rfl)
        refine Exists.elim hf.2.1 fun B hB => ?_
        change HStep _ _ _ _ (Act.put (Act.put (Act.put (Act.put _ (some 28) (vs 4)) (some 29) (vs 5)) (some 30) (vs 6)) (some 31) (vs 7)) _ _
        rw [hf.1, hB.1]
        have happ := app_more3 45 (A := G) (cvat_lit (c := (CF, CL, CR)) hB.2 huc) hjj.1.own hjj.1.base_le (by simp only [List.length_cons, List.length_nil]; omega)
        refine Exists.elim happ fun v' ha1 => ?_
        refine Exists.elim ha1 fun w' ha2 => ?_
        refine hstep_yes (by kernel_rfl) ?_
        exact hotUpon_app rfl (by kernel_rfl) (by kernel_rfl) ha2.1 (hb2.trans (by rw [cutW_size hbl]; exact ha2.2.2.1)) ⟨hjj.1.bk.blk.grown ha2.2.2.2.1 (by rcases own_blk hjj.1.own hjj.1.bk.blk (by decide) with h | h; (rw [h]; simp); exact fun e => h e.symm), hjj.1.bk.map.kept ha2.2.2.2.1 (by rcases own_map hjj.1.own hjj.1.bk.map with h | h; (rw [h]; simp); exact fun e => h e.symm), ha2.2.1, hjj.2.2.trans (Spare.atV g m _ ha2.2.2.2.1), ha2.2.2.2.2.imp (fun h => h) fun e => ⟨_, e, hjj.2.2.1⟩⟩
      · intro vs W2 hb2 hf
        have hf := fits_cast (q := (vs 4 = .slice ag G.length cg) ∧ (vs 5 = .agg #[.int .u64 CF, .int .u64 CL, .int .u64 CR]) ∧ (Mid7 W2 w1 base g m r L (G ++ [(CF, CL, CR)]) (.slice ag G.length cg) (vs 7)) ∧ True) hf (by kernel_rfl)
        clear HL2
        change wpList _ _ _ _ (Act.put (Act.put (Act.put (Act.put _ (some 28) (vs 4)) (some 29) (vs 5)) (some 30) (vs 6)) (some 31) (vs 7)) _
        have h7 := hf.2.2.1
        refine Exists.elim (owns_slice h7.own) fun b1 x1 => ?_
        refine Exists.elim x1 fun d1 y1 => ?_
        refine Exists.elim (⟨_, rfl⟩ : ∃ n1, (G ++ [(CF, CL, CR)]).length = n1) fun n1 hn1 => ?_
        rw [hn1] at y1
        have hu : UU (G ++ [(CF, CL, CR)]) := fun d hd => by
          rcases List.mem_append.1 hd with hd | hd
          · exact H1.out.1.bk.gh.1 d hd
          · simp at hd; subst hd; exact huc
        have hg := grown_at W2 g 2 (.slice b1 n1 d1)
        rw [y1] at h7
        have HFR := Lib.hid (show Fr w (.slice ag G.length cg) (.slice b1 n1 d1) from h7.fr.imp (fun h => h) fun ⟨k, e, hk⟩ => ⟨k, e, Nat.le_trans H1.out.2.2.size hk⟩)
        have hbk : BkO (W2.setCell ⟨g, 2, none⟩ (.slice b1 n1 d1)) base g m r L (G ++ [(CF, CL, CR)]) (.slice b1 n1 d1) :=
          have hown := h7.own.kept hg (own_blk h7.own h7.blk (by decide))
          ⟨⟨by simpa using h7.blk.set_ 2 (.slice b1 n1 d1), h7.map.kept hg (by simpa using (Ne.symm H1.out.1.bk.ne)), CvAt.of_owns hown hu (by simp; omega), H1.out.1.bk.u, H1.out.1.bk.wf, by simp; omega, H1.out.1.bk.rate⟩, hown, H1.out.1.gb, H1.out.1.mb⟩
        have hbb3 : Below base w1 (W2.setCell ⟨g, 2, none⟩ (.slice b1 n1 d1)) := (cut_below hbl h7.sp.1 hb2).setCell (p := ⟨g, 2, none⟩) H1.out.1.gb _
        have z1 := h7.blk.frozen 2; have z2 := h7.blk.cell 2
        refine Exists.elim (hbk.drop id hid) fun w' hx => ?_
        have hr := hx.1; have hbo := hx.2.1; have hbb := hx.2.2.1
        have hspa := ((Spare.below g m (.slice ag G.length cg) H1.out.2.2).trans h7.sp).trans ((Spare.atG g m _ hg).trans (Spare.atM g m _ hx.2.2.2))
        have y3 := hbk.bk.blk.cell 1
        have HF := Lib.hid (And.intro hbo (And.intro ((H1.out.2.2.mono H.out.base_le).trans (hbb3.trans hbb)) hspa))
        rw [hf.1, hf.2.1, y1]
        clear hf h7 x1 y1 hn1 hu hg hbk hbb3 hbo hbb hb2 hx hspa
        simp only [List.getElem?_toArray, List.getElem?_cons_zero, List.getElem?_cons_succ] at y3
        simp only [List.drop_succ_cons, List.drop_zero, List.take_succ_cons, List.take_zero]
        go_wp2_with fail
        go_ret
        exact ⟨by rw [HL.out]; rfl, ⟨_, by rw [HL.out]; simpa using HF.out.1, (fun h => by cases h), HFR.out⟩, HF.out.2⟩
end Go.Proofs.YthmhboagbeibdaaGreat
/-
  The book whose ghosts are a row of its own: New, Put, Settle.
-/
namespace Go.Proofs.YthmhboagbeibdaaGreat
set_option linter.unusedVariables false
open Go.RowKit Go.Maps Go.Sort

theorem BkO.grownM {w w' : World} {base g m : Nat} {r : Int} {L L' : List (Int × Cv)} {G : List Cv} {vg : Value} (h : BkO w base g m r L G vg) (hb : BkAt w' g m r L' G vg) (hg : w.grownBy w' (some m)) : BkO w' base g m r L' G vg ∧ Below base w w' :=
  ⟨⟨hb, h.own.kept hg (own_map h.own h.bk.map), h.gb, h.mb⟩, (Below.refl base w).grown hg h.base_le (fun k e => by cases e; exact h.mb)⟩

def PutO (w : World) (base g m : Nat) (r : Int) (L : List (Int × Cv)) (G : List Cv) (vg : Value) (id : Int) (c : Cv) (e : Ending) (w' : World) : Prop :=
  e = .returned (.int .i64 (putC L G id c r)) ∧ BkO w' base g m r (putBk L G id c r) G vg ∧ Below base w w' ∧ Spare w w' g m vg
theorem putO_any (F0 L0 R0 id : Int) (base g m : Nat) (r : Int) (L : List (Int × Cv)) (G : List Cv) (vg : Value) (w : World) (hc : U F0 ∧ U L0 ∧ U R0) (hid : (Lit.int .i64 id).wf = true) (h : BkO w base g m r L G vg) (hf : L.length + G.length < 100000) :
    Calls Tryz.prog 7 #[.pointer (some ⟨g, 0, none⟩), .int .i64 id, .agg #[.int .u64 F0, .int .u64 L0, .int .u64 R0]] w (PutO w base g m r L G vg id (F0, L0, R0)) :=
  (put_any F0 L0 R0 id g m r L G vg w hc hid h.bk hf).mono fun e w' hp => ⟨hp.1, (h.grownM hp.2.1 hp.2.2).1, (h.grownM hp.2.1 hp.2.2).2, Spare.atM g m vg hp.2.2⟩

def SettleO (w : World) (base g m : Nat) (r : Int) (L : List (Int × Cv)) (G : List Cv) (vg : Value) (e : Ending) (w' : World) : Prop :=
  e = .returned (.int .i64 G.length) ∧ BkO w' base g m r L [] (.slice none 0 0) ∧ Below base w w' ∧ Spare w w' g m vg
theorem settleO_any (base g m : Nat) (r : Int) (L : List (Int × Cv)) (G : List Cv) (vg : Value) (w : World) (h : BkO w base g m r L G vg) :
    Calls Tryz.prog 13 #[.pointer (some ⟨g, 0, none⟩)] w (SettleO w base g m r L G vg) :=
  (settle_any g m r L G vg w h.bk).mono fun e w' hp => ⟨hp.1, ⟨hp.2.1, World.ownsRow_nil _ _ _ _, h.gb, h.mb⟩, (Below.refl base w).grown hp.2.2 h.base_le (fun k e => by cases e; exact h.gb), Spare.atG g m vg hp.2.2⟩
end Go.Proofs.YthmhboagbeibdaaGreat
