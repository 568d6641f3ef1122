/-
  Maps with keys of the kind int, of whatever values: what a look-up, a store and a delete do, on lists of pairs that rise by their keys.
  No conditions beyond those that each theorem names.
-/
import Derived.Test.YtclhhegfffccgaaGreatProg
import Derived.WalkKit
import Derived.ProofKit
import Derived.OpenShut
import Derived.Maps.OwnSet
import Derived.Maps.OwnOps
import Derived.Maps.Ext
import Derived.Lib.SlKeysI
namespace Go.Proofs.YtclhhegfffccgaaGreat
set_option linter.unusedVariables false
open Go.RowKit Go.Maps

/-- how a value reads: as itself -/
def asIs (v : Value) : Option (DataW Value × List MemPlace) := some (.held v, [])
theorem asIs_inv {v u : Value} {ps : List MemPlace} (h : asIs v = some (.held u, ps)) : v = u := by
  simp only [asIs, Option.some.injEq, Prod.mk.injEq, DataW.held.injEq] at h; exact h.1

/-- pairs as a map's datum -/
def encP (p : Int × Value) : Lit × DataW Value := (.int .i64 p.1, .held p.2)
def toD (M : List (Int × Value)) : DataW Value := .map (M.map encP)

/-- what stands at k -/
def lookM {α : Type} : List (Int × α) → Int → Option α
  | [], _ => none
  | p :: r, k => if p.1 = k then some p.2 else lookM r k
/-- v is put at k -/
def putM {α : Type} : List (Int × α) → Int → α → List (Int × α)
  | [], k, v => [(k, v)]
  | p :: r, k, v => if k < p.1 then (k, v) :: p :: r else if p.1 = k then (k, v) :: r else p :: putM r k v
/-- k goes -/
def delM {α : Type} (M : List (Int × α)) (k : Int) : List (Int × α) := M.filter fun p => !decide (p.1 = k)
def Rising {α : Type} (M : List (Int × α)) : Prop := M.Pairwise fun p q => p.1 < q.1

theorem same_int (a b : Int) : (Lit.int .i64 a).sameKey (.int .i64 b) = decide (a = b) := by
  by_cases h : a = b
  · subst h; simp [Lit.sameKey]
  · simp [Lit.sameKey, h]
theorem before_int (a b : Int) : (Lit.int .i64 a).before (.int .i64 b) = decide (a < b) := rfl

theorem toD_at (k : Int) (z : Value) : ∀ M : List (Int × Value), (toD M).atKey (.int .i64 k) (.held z) = .held ((lookM M k).getD z) := by
  intro M
  unfold toD DataW.atKey
  induction M with
  | nil => rfl
  | cons p r ih =>
    have hs : (encP p).1.sameKey (.int .i64 k) = decide (p.1 = k) := same_int _ _
    by_cases h : p.1 = k
    · have hs : (encP p).1.sameKey (.int .i64 k) = true := by rw [hs]; simp [h]
      simp only [List.map_cons, List.find?_cons, hs, lookM, h, if_true]
      rfl
    · have hs : (encP p).1.sameKey (.int .i64 k) = false := by rw [hs]; simp [h]
      simp only [List.map_cons, List.find?_cons, hs, lookM, h, if_false]
      exact ih
theorem toD_has (k : Int) : ∀ M : List (Int × Value), Maps.has (toD M) (.int .i64 k) = (lookM M k).isSome := by
  intro M
  show (M.map encP).any (fun p => p.1.sameKey (.int .i64 k)) = _
  induction M with
  | nil => rfl
  | cons p r ih =>
    rw [List.map_cons, List.any_cons, ih, lookM]
    show ((Lit.int .i64 p.1).sameKey (.int .i64 k) || _) = _
    rw [same_int]
    by_cases h : p.1 = k <;> simp [h]
theorem toD_del (k : Int) : ∀ M : List (Int × Value), (toD M).del (.int .i64 k) = toD (delM M k) := by
  intro M
  show DataW.map ((M.map encP).filter fun p => !p.1.sameKey (.int .i64 k)) = _
  rw [List.filter_map]
  have : ((fun p : Lit × DataW Value => !p.1.sameKey (.int .i64 k)) ∘ encP) = fun p : Int × Value => !decide (p.1 = k) := by
    funext p
    show (!(Lit.int .i64 p.1).sameKey (.int .i64 k)) = _
    rw [same_int]
  rw [this]
  rfl
theorem delM_none {α : Type} (k : Int) : ∀ M : List (Int × α), (∀ p ∈ M, p.1 ≠ k) → delM M k = M := by
  intro M h
  rw [delM, List.filter_eq_self]
  intro p hp; simp [h p hp]
theorem putM_ins (k : Int) (v : Value) : ∀ M : List (Int × Value), Rising M → (putM M k v).map encP = DataW.insert (encP (k, v)) ((delM M k).map encP)
  | [], _ => rfl
  | p :: r, h => by
    have hr : Rising r := (List.pairwise_cons.1 h).2
    have hp := (List.pairwise_cons.1 h).1
    by_cases h1 : k < p.1
    · rw [delM_none k (p :: r) (by
        intro q hq
        rcases List.mem_cons.1 hq with rfl | hq
        · omega
        · have := hp q hq; omega)]
      simp only [putM, h1, if_true, List.map_cons]
      show _ = DataW.insert (encP (k, v)) (encP p :: r.map encP)
      rw [DataW.insert]
      have : (encP (k, v)).1.before (encP p).1 = true := by show (Lit.int .i64 k).before (.int .i64 p.1) = true; rw [before_int]; simp [h1]
      rw [if_pos this]
    · by_cases h2 : p.1 = k
      · have e : delM (p :: r) k = r := by
          have : delM (p :: r) k = delM r k := by simp [delM, h2]
          rw [this]
          exact delM_none k r (fun q hq => by have := hp q hq; omega)
        have e2 : putM (p :: r) k v = (k, v) :: r := by rw [putM, if_neg h1, if_pos h2]
        rw [e, e2]
        cases r with
        | nil => rfl
        | cons q r =>
          have := hp q (by simp)
          rw [List.map_cons, List.map_cons, DataW.insert]
          have : (encP (k, v)).1.before (encP q).1 = true := by show (Lit.int .i64 k).before (.int .i64 q.1) = true; rw [before_int]; simp; omega
          rw [if_pos this]
      · have e : delM (p :: r) k = p :: delM r k := by simp [delM, h2]
        rw [e]
        simp only [putM, h1, h2, if_false, List.map_cons]
        rw [DataW.insert]
        have : ¬ (encP (k, v)).1.before (encP p).1 = true := by show ¬ (Lit.int .i64 k).before (.int .i64 p.1) = true; rw [before_int]; simp; omega
        rw [if_neg this, putM_ins k v r hr]
theorem toD_put (k : Int) (v : Value) {M : List (Int × Value)} (h : Rising M) : (toD M).put (.int .i64 k) (.held v) = toD (putM M k v) := by
  show DataW.map (DataW.insert (encP (k, v)) ((M.map encP).filter fun p => !p.1.sameKey (.int .i64 k))) = DataW.map _
  rw [putM_ins k v M h]
  have := toD_del k M
  injection this with this
  rw [← this]

/-! ## the pure laws of pairs -/
theorem rising_del {α : Type} {M : List (Int × α)} (h : Rising M) (k : Int) : Rising (delM M k) := h.filter _
theorem putM_mem {α : Type} {k : Int} {v : α} : ∀ {M : List (Int × α)} {p : Int × α}, p ∈ putM M k v → p = (k, v) ∨ p ∈ M
  | [], p, h => by simpa [putM] using h
  | q :: r, p, h => by
    rw [putM] at h
    split at h
    · rcases List.mem_cons.1 h with h | h
      · exact .inl h
      · exact .inr h
    · split at h
      · rcases List.mem_cons.1 h with h | h
        · exact .inl h
        · exact .inr (List.mem_cons_of_mem _ h)
      · rcases List.mem_cons.1 h with h | h
        · exact .inr (h ▸ List.mem_cons_self ..)
        · rcases putM_mem h with h | h
          · exact .inl h
          · exact .inr (List.mem_cons_of_mem _ h)
theorem rising_put {α : Type} (k : Int) (v : α) : ∀ {M : List (Int × α)}, Rising M → Rising (putM M k v)
  | [], _ => by simp [putM, Rising]
  | p :: r, h => by
    have hr : Rising r := (List.pairwise_cons.1 h).2
    have hp := (List.pairwise_cons.1 h).1
    rw [putM]
    split
    · refine List.pairwise_cons.2 ⟨?_, h⟩
      intro q hq
      rcases List.mem_cons.1 hq with rfl | hq
      · assumption
      · have := hp q hq; show k < q.1; omega
    · split
      · refine List.pairwise_cons.2 ⟨?_, hr⟩
        intro q hq; have := hp q hq; show k < q.1; omega
      · refine List.pairwise_cons.2 ⟨?_, rising_put k v hr⟩
        intro q hq
        rcases putM_mem hq with rfl | hq
        · show p.1 < k; omega
        · exact hp q hq
theorem look_put_same {α : Type} (k : Int) (v : α) : ∀ M : List (Int × α), lookM (putM M k v) k = some v
  | [] => by simp [putM, lookM]
  | p :: r => by
    rw [putM]
    split
    · simp [lookM]
    · split
      · simp [lookM]
      · rename_i h; simp [lookM, h, look_put_same k v r]
theorem look_put_other {α : Type} {k j : Int} (v : α) (hj : j ≠ k) : ∀ M : List (Int × α), lookM (putM M k v) j = lookM M j
  | [] => by simp [putM, lookM, hj.symm]
  | p :: r => by
    rw [putM]
    split
    · simp [lookM, hj.symm]
    · split
      · rename_i h; simp [lookM, h, hj.symm]
      · simp [lookM, look_put_other v hj r]
theorem look_del_same {α : Type} (k : Int) : ∀ M : List (Int × α), lookM (delM M k) k = none
  | [] => rfl
  | p :: r => by
    have := look_del_same k r
    by_cases h : p.1 = k
    · simpa [delM, h] using this
    · simpa [delM, h, lookM] using this
theorem look_del_other {α : Type} {k j : Int} (hj : j ≠ k) : ∀ M : List (Int × α), lookM (delM M k) j = lookM M j
  | [] => rfl
  | p :: r => by
    have := look_del_other hj r
    by_cases h : p.1 = k
    · have hne : ¬ p.1 = j := by omega
      simp only [lookM, hne, if_false, ← this]
      simp [delM, h]
    · simp only [delM, List.filter_cons, h, decide_false, Bool.not_false, if_true, lookM] at this ⊢
      rw [this]
theorem look_none {α : Type} {k : Int} : ∀ {M : List (Int × α)}, lookM M k = none ↔ ∀ p ∈ M, p.1 ≠ k
  | [] => by simp [lookM]
  | p :: r => by
    rw [lookM]
    by_cases h : p.1 = k
    · simp [h]
    · simp [h, look_none (M := r)]
theorem put_length {α : Type} (k : Int) (v : α) : ∀ M : List (Int × α), (putM M k v).length ≤ M.length + 1
  | [] => by simp [putM]
  | p :: r => by
    rw [putM]
    split
    · simp
    · split
      · simp
      · have := put_length k v r; simp; omega
theorem del_length {α : Type} (k : Int) (M : List (Int × α)) : (delM M k).length ≤ M.length := List.length_filter_le _ _
/-- the same pairs, their values turned -/
def mapV {α β : Type} (f : α → β) (M : List (Int × α)) : List (Int × β) := M.map fun p => (p.1, f p.2)
theorem mapV_keys {α β : Type} (f : α → β) (M : List (Int × α)) : (mapV f M).map (·.1) = M.map (·.1) := by simp [mapV]
theorem mapV_length {α β : Type} (f : α → β) (M : List (Int × α)) : (mapV f M).length = M.length := by simp [mapV]
theorem look_map {α β : Type} (f : α → β) (k : Int) : ∀ M : List (Int × α), lookM (mapV f M) k = (lookM M k).map f
  | [] => rfl
  | p :: r => by
    have := look_map f k r
    simp only [mapV, List.map_cons, lookM] at this ⊢
    split
    · rfl
    · exact this
theorem put_map {α β : Type} (f : α → β) (k : Int) (v : α) : ∀ M : List (Int × α), putM (mapV f M) k (f v) = mapV f (putM M k v)
  | [] => rfl
  | p :: r => by
    have := put_map f k v r
    simp only [mapV, List.map_cons, putM] at this ⊢
    split
    · simp
    · split
      · simp
      · simp [this]
theorem del_map {α β : Type} (f : α → β) (k : Int) (M : List (Int × α)) : delM (mapV f M) k = mapV f (delM M k) := by
  simp only [delM, mapV, List.filter_map]; rfl

/-! ## in memory -/
section
variable {P : Program} {K : TypeId}

/-- block b of w is the map of M -/
def MapI (P : Program) (K : TypeId) (w : World) (b : Nat) (M : List (Int × Value)) : Prop := w.ownsMap P K asIs b M.length (toD M)

theorem owns_size {R : Value → Option (DataW Value × List MemPlace)} {w : World} {b n : Nat} {D : DataW Value} (h : w.ownsMap P K R b n D) : w.ownsMap P K R b (Maps.size D) D := by
  obtain ⟨es, clock, hb, F, hs, rfl⟩ := h
  exact ⟨es, clock, hb, F, by simp [Maps.size, length_sorted], rfl⟩
theorem size_toD (M : List (Int × Value)) : Maps.size (toD M) = M.length := by simp [toD, Maps.size]
theorem MapI.of {w : World} {b n : Nat} {M : List (Int × Value)} (h : w.ownsMap P K asIs b n (toD M)) : MapI P K w b M := by
  have := owns_size h; rw [size_toD] at this; exact this
theorem MapI.rising {w : World} {b : Nat} {M : List (Int × Value)} (h : MapI P K w b M) (hK : Keyed P K) : Rising M := by
  obtain ⟨es, he, hs, _⟩ := World.ownsMap.canon h hK
  injection he with he
  rw [← he, List.pairwise_map] at hs
  exact hs.imp (fun {p q} h => by
    have : (Lit.int .i64 p.1).before (.int .i64 q.1) = true := h
    rw [before_int] at this
    exact of_decide_eq_true this)
theorem MapI.kept {w w' : World} {b : Nat} {M : List (Int × Value)} {row : Option Nat} (h : MapI P K w b M) (hg : w.grownBy w' row) (hne : some b ≠ row) : MapI P K w' b M :=
  World.ownsMap.kept h hg hne
theorem MapI.lt {w : World} {b : Nat} {M : List (Int × Value)} (h : MapI P K w b M) : b < w.heap.size := World.ownsMap.lt h
theorem MapI.heap {w w' : World} {b : Nat} {M : List (Int × Value)} (h : MapI P K w b M) (hb : w'.heap[b]? = w.heap[b]?) : MapI P K w' b M := by
  obtain ⟨es, clock, h1, F, hs, hD⟩ := h
  exact ⟨es, clock, hb.trans h1, F, hs, hD⟩
theorem keyOf_mk (hu : P.underlying K = some (.int .i64)) {k : Int} (hk : (Lit.int .i64 k).wf = true) : keyOf P K (.int .i64 k) = some (.int .i64 k) := keyOf_int_mk hu hk

theorem MapI.look {w : World} {b : Nat} {M : List (Int × Value)} {T E : TypeId} {z : Value} {k : Int} (h : MapI P K w b M) (hu : P.underlying K = some (.int .i64)) (hT : P.underlying T = some (.map K E)) (hz : (zeroValue E).run P w = .ok z w)
    (hk : (Lit.int .i64 k).wf = true) : (Instr.lookup T (.map (some b)) (.int .i64 k) false).run P w = .ok ((lookM M k).getD z) w := by
  obtain ⟨v, ps, hr, hv⟩ := World.ownsMap.lookup h (int_keyed hu) hT hz (zd := .held z) (zp := []) rfl (keyOf_mk hu hk)
  rw [toD_at] at hv
  rw [hr, asIs_inv hv]
theorem MapI.look_ok {w : World} {b : Nat} {M : List (Int × Value)} {T E : TypeId} {z : Value} {k : Int} (h : MapI P K w b M) (hu : P.underlying K = some (.int .i64)) (hT : P.underlying T = some (.map K E)) (hz : (zeroValue E).run P w = .ok z w)
    (hk : (Lit.int .i64 k).wf = true) : (Instr.lookup T (.map (some b)) (.int .i64 k) true).run P w = .ok (.tuple #[(lookM M k).getD z, .bool (lookM M k).isSome]) w := by
  obtain ⟨v, ps, hr, hv⟩ := World.ownsMap.look_ok h (int_keyed hu) hT hz (zd := .held z) (zp := []) rfl (keyOf_mk hu hk)
  rw [toD_at] at hv
  rw [hr, asIs_inv hv, toD_has]
theorem MapI.store {w : World} {b : Nat} {M : List (Int × Value)} {T E : TypeId} {k : Int} (h : MapI P K w b M) (hu : P.underlying K = some (.int .i64)) (hT : P.underlying T = some (.map K E))
    (hk : (Lit.int .i64 k).wf = true) (hn : M.length < maxLen) (v : Value) : ∃ w', (Instr.mapUpdate T (.map (some b)) (.int .i64 k) v).run P w = .ok () w' ∧ MapI P K w' b (putM M k v) ∧ w.mapTurned w' b := by
  obtain ⟨w', hr, ho, ht⟩ := World.ownsMap.store h (int_keyed hu) hT hn (keyOf_mk hu hk) (d := .held v) (ps := []) (val := v) rfl
  rw [toD_put k v (h.rising (int_keyed hu))] at ho
  exact ⟨w', hr, .of ho, ht⟩
theorem MapI.drop {w : World} {b : Nat} {M : List (Int × Value)} {T E : TypeId} {k : Int} (h : MapI P K w b M) (hu : P.underlying K = some (.int .i64)) (hT : P.underlying T = some (.map K E))
    (hk : (Lit.int .i64 k).wf = true) (ty : TypeId) : ∃ w', (Builtin.delete_ #[T, K] ty #[.map (some b), .int .i64 k]).run P w = .ok (.tuple #[]) w' ∧ MapI P K w' b (delM M k) ∧ w.mapTurned w' b := by
  obtain ⟨w', hr, ho, ht⟩ := World.ownsMap.drop h (int_keyed hu) hT (keyOf_mk hu hk) ty
  rw [toD_del] at ho
  exact ⟨w', hr, .of ho, ht⟩
theorem MapI.len {w : World} {b : Nat} {M : List (Int × Value)} {T E : TypeId} (h : MapI P K w b M) (hT : P.underlying T = some (.map K E)) (ty : TypeId) : (Builtin.len_ #[T] ty #[.map (some b)]).run P w = .ok (.int .i64 M.length) w := by
  have := World.ownsMap.len h hT ty; rw [size_toD] at this; exact this
theorem MapI.made (w : World) : MapI P K (w.alloc (.map #[] 0)) w.heap.size [] := World.ownsMap_made w P K asIs
theorem intKeys_toD (M : List (Int × Value)) : intKeys (toD M) = M.map (·.1) := by
  simp [intKeys, toD, encP, List.map_map, Function.comp_def, intOf]
theorem sorted_keys {M : List (Int × Value)} (h : Rising M) {ss : List Int} (hp : ss.Perm (M.map (·.1))) : ss.mergeSort (fun x y => decide (x ≤ y)) = M.map (·.1) := by
  have e : ∀ x ∈ ss, ∀ y ∈ ss, True := fun _ _ _ _ => trivial
  have h1 : (ss.mergeSort (fun x y => decide (x ≤ y))).Pairwise (fun x y => decide (x ≤ y) = true) := List.pairwise_mergeSort (le := fun x y : Int => decide (x ≤ y)) (fun a b c => by simp; omega) (fun a b => by simp; omega) ss
  have h2 : (M.map (·.1)).Pairwise (fun x y => decide (x ≤ y) = true) := by
    rw [List.pairwise_map]; exact h.imp (fun {p q} hpq => by simp; omega)
  exact List.Perm.eq_of_pairwise (fun a b _ _ h1 h2 => by simp at h1 h2; omega) h1 h2 ((List.mergeSort_perm ..).trans hp)
end
end Go.Proofs.YtclhhegfffccgaaGreat
