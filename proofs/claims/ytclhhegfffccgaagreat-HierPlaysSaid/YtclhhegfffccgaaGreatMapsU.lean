/-
  Maps with keys of the kind uint64, of whatever values: as XMaps does for keys of the kind int.
-/
import Derived.Test.YtclhhegfffccgaaGreatMaps
namespace Go.Proofs.YtclhhegfffccgaaGreat
set_option linter.unusedVariables false
open Go.RowKit Go.Maps

/-- pairs as a map's datum -/
def encU (p : Int × Value) : Lit × DataW Value := (.int .u64 p.1, .held p.2)
def toU (M : List (Int × Value)) : DataW Value := .map (M.map encU)

theorem same_word (a b : Int) : (Lit.int .u64 a).sameKey (.int .u64 b) = decide (a = b) := by
  by_cases h : a = b
  · subst h; simp [Lit.sameKey]
  · simp [Lit.sameKey, h]
theorem before_word (a b : Int) : (Lit.int .u64 a).before (.int .u64 b) = decide (a < b) := rfl

theorem toU_at (k : Int) (z : Value) : ∀ M : List (Int × Value), (toU M).atKey (.int .u64 k) (.held z) = .held ((lookM M k).getD z) := by
  intro M
  unfold toU DataW.atKey
  induction M with
  | nil => rfl
  | cons p r ih =>
    have hs : (encU p).1.sameKey (.int .u64 k) = decide (p.1 = k) := same_word _ _
    by_cases h : p.1 = k
    · have hs : (encU p).1.sameKey (.int .u64 k) = true := by rw [hs]; simp [h]
      simp only [List.map_cons, List.find?_cons, hs, lookM, h, if_true]
      rfl
    · have hs : (encU p).1.sameKey (.int .u64 k) = false := by rw [hs]; simp [h]
      simp only [List.map_cons, List.find?_cons, hs, lookM, h, if_false]
      exact ih
theorem toU_has (k : Int) : ∀ M : List (Int × Value), Maps.has (toU M) (.int .u64 k) = (lookM M k).isSome := by
  intro M
  show (M.map encU).any (fun p => p.1.sameKey (.int .u64 k)) = _
  induction M with
  | nil => rfl
  | cons p r ih =>
    rw [List.map_cons, List.any_cons, ih, lookM]
    show ((Lit.int .u64 p.1).sameKey (.int .u64 k) || _) = _
    rw [same_word]
    by_cases h : p.1 = k <;> simp [h]
theorem toU_del (k : Int) : ∀ M : List (Int × Value), (toU M).del (.int .u64 k) = toU (delM M k) := by
  intro M
  show DataW.map ((M.map encU).filter fun p => !p.1.sameKey (.int .u64 k)) = _
  rw [List.filter_map]
  have : ((fun p : Lit × DataW Value => !p.1.sameKey (.int .u64 k)) ∘ encU) = fun p : Int × Value => !decide (p.1 = k) := by
    funext p
    show (!(Lit.int .u64 p.1).sameKey (.int .u64 k)) = _
    rw [same_word]
  rw [this]
  rfl
theorem putM_insU (k : Int) (v : Value) : ∀ M : List (Int × Value), Rising M → (putM M k v).map encU = DataW.insert (encU (k, v)) ((delM M k).map encU)
  | [], _ => rfl
  | p :: r, h => by
    have hr : Rising r := (List.pairwise_cons.1 h).2
    have hp := (List.pairwise_cons.1 h).1
    by_cases h1 : k < p.1
    · rw [delM_none k (p :: r) (by
        intro q hq
        rcases List.mem_cons.1 hq with rfl | hq
        · omega
        · have := hp q hq; omega)]
      simp only [putM, h1, if_true, List.map_cons]
      show _ = DataW.insert (encU (k, v)) (encU p :: r.map encU)
      rw [DataW.insert]
      have : (encU (k, v)).1.before (encU p).1 = true := by show (Lit.int .u64 k).before (.int .u64 p.1) = true; rw [before_word]; simp [h1]
      rw [if_pos this]
    · by_cases h2 : p.1 = k
      · have e : delM (p :: r) k = r := by
          have : delM (p :: r) k = delM r k := by simp [delM, h2]
          rw [this]
          exact delM_none k r (fun q hq => by have := hp q hq; omega)
        have e2 : putM (p :: r) k v = (k, v) :: r := by rw [putM, if_neg h1, if_pos h2]
        rw [e, e2]
        cases r with
        | nil => rfl
        | cons q r =>
          have := hp q (by simp)
          rw [List.map_cons, List.map_cons, DataW.insert]
          have : (encU (k, v)).1.before (encU q).1 = true := by show (Lit.int .u64 k).before (.int .u64 q.1) = true; rw [before_word]; simp; omega
          rw [if_pos this]
      · have e : delM (p :: r) k = p :: delM r k := by simp [delM, h2]
        rw [e]
        simp only [putM, h1, h2, if_false, List.map_cons]
        rw [DataW.insert]
        have : ¬ (encU (k, v)).1.before (encU p).1 = true := by show ¬ (Lit.int .u64 k).before (.int .u64 p.1) = true; rw [before_word]; simp; omega
        rw [if_neg this, putM_insU k v r hr]
theorem toU_put (k : Int) (v : Value) {M : List (Int × Value)} (h : Rising M) : (toU M).put (.int .u64 k) (.held v) = toU (putM M k v) := by
  show DataW.map (DataW.insert (encU (k, v)) ((M.map encU).filter fun p => !p.1.sameKey (.int .u64 k))) = DataW.map _
  rw [putM_insU k v M h]
  have := toU_del k M
  injection this with this
  rw [← this]

/-! ## in memory -/
section
variable {P : Program} {K : TypeId}

/-- block b of w is the map of M -/
def MapU (P : Program) (K : TypeId) (w : World) (b : Nat) (M : List (Int × Value)) : Prop := w.ownsMap P K asIs b M.length (toU M)

theorem size_toU (M : List (Int × Value)) : Maps.size (toU M) = M.length := by simp [toU, Maps.size]
theorem MapU.of {w : World} {b n : Nat} {M : List (Int × Value)} (h : w.ownsMap P K asIs b n (toU M)) : MapU P K w b M := by
  have := owns_size h; rw [size_toU] at this; exact this
theorem MapU.rising {w : World} {b : Nat} {M : List (Int × Value)} (h : MapU P K w b M) (hK : Keyed P K) : Rising M := by
  obtain ⟨es, he, hs, _⟩ := World.ownsMap.canon h hK
  injection he with he
  rw [← he, List.pairwise_map] at hs
  exact hs.imp (fun {p q} h => by
    have : (Lit.int .u64 p.1).before (.int .u64 q.1) = true := h
    rw [before_word] at this
    exact of_decide_eq_true this)
theorem MapU.kept {w w' : World} {b : Nat} {M : List (Int × Value)} {row : Option Nat} (h : MapU P K w b M) (hg : w.grownBy w' row) (hne : some b ≠ row) : MapU P K w' b M :=
  World.ownsMap.kept h hg hne
theorem MapU.lt {w : World} {b : Nat} {M : List (Int × Value)} (h : MapU P K w b M) : b < w.heap.size := World.ownsMap.lt h
theorem MapU.heap {w w' : World} {b : Nat} {M : List (Int × Value)} (h : MapU P K w b M) (hb : w'.heap[b]? = w.heap[b]?) : MapU P K w' b M := by
  obtain ⟨es, clock, h1, F, hs, hD⟩ := h
  exact ⟨es, clock, hb.trans h1, F, hs, hD⟩
theorem keyOf_mkU (hu : P.underlying K = some (.int .u64)) {k : Int} (hk : (Lit.int .u64 k).wf = true) : keyOf P K (.int .u64 k) = some (.int .u64 k) := keyOf_int_mk hu hk

theorem MapU.look {w : World} {b : Nat} {M : List (Int × Value)} {T E : TypeId} {z : Value} {k : Int} (h : MapU P K w b M) (hu : P.underlying K = some (.int .u64)) (hT : P.underlying T = some (.map K E)) (hz : (zeroValue E).run P w = .ok z w)
    (hk : (Lit.int .u64 k).wf = true) : (Instr.lookup T (.map (some b)) (.int .u64 k) false).run P w = .ok ((lookM M k).getD z) w := by
  obtain ⟨v, ps, hr, hv⟩ := World.ownsMap.lookup h (int_keyed hu) hT hz (zd := .held z) (zp := []) rfl (keyOf_mkU hu hk)
  rw [toU_at] at hv
  rw [hr, asIs_inv hv]
theorem MapU.look_ok {w : World} {b : Nat} {M : List (Int × Value)} {T E : TypeId} {z : Value} {k : Int} (h : MapU P K w b M) (hu : P.underlying K = some (.int .u64)) (hT : P.underlying T = some (.map K E)) (hz : (zeroValue E).run P w = .ok z w)
    (hk : (Lit.int .u64 k).wf = true) : (Instr.lookup T (.map (some b)) (.int .u64 k) true).run P w = .ok (.tuple #[(lookM M k).getD z, .bool (lookM M k).isSome]) w := by
  obtain ⟨v, ps, hr, hv⟩ := World.ownsMap.look_ok h (int_keyed hu) hT hz (zd := .held z) (zp := []) rfl (keyOf_mkU hu hk)
  rw [toU_at] at hv
  rw [hr, asIs_inv hv, toU_has]
theorem MapU.store {w : World} {b : Nat} {M : List (Int × Value)} {T E : TypeId} {k : Int} (h : MapU P K w b M) (hu : P.underlying K = some (.int .u64)) (hT : P.underlying T = some (.map K E))
    (hk : (Lit.int .u64 k).wf = true) (hn : M.length < maxLen) (v : Value) : ∃ w', (Instr.mapUpdate T (.map (some b)) (.int .u64 k) v).run P w = .ok () w' ∧ MapU P K w' b (putM M k v) ∧ w.mapTurned w' b := by
  obtain ⟨w', hr, ho, ht⟩ := World.ownsMap.store h (int_keyed hu) hT hn (keyOf_mkU hu hk) (d := .held v) (ps := []) (val := v) rfl
  rw [toU_put k v (h.rising (int_keyed hu))] at ho
  exact ⟨w', hr, .of ho, ht⟩
theorem MapU.drop {w : World} {b : Nat} {M : List (Int × Value)} {T E : TypeId} {k : Int} (h : MapU P K w b M) (hu : P.underlying K = some (.int .u64)) (hT : P.underlying T = some (.map K E))
    (hk : (Lit.int .u64 k).wf = true) (ty : TypeId) : ∃ w', (Builtin.delete_ #[T, K] ty #[.map (some b), .int .u64 k]).run P w = .ok (.tuple #[]) w' ∧ MapU P K w' b (delM M k) ∧ w.mapTurned w' b := by
  obtain ⟨w', hr, ho, ht⟩ := World.ownsMap.drop h (int_keyed hu) hT (keyOf_mkU hu hk) ty
  rw [toU_del] at ho
  exact ⟨w', hr, .of ho, ht⟩
theorem MapU.len {w : World} {b : Nat} {M : List (Int × Value)} {T E : TypeId} (h : MapU P K w b M) (hT : P.underlying T = some (.map K E)) (ty : TypeId) : (Builtin.len_ #[T] ty #[.map (some b)]).run P w = .ok (.int .i64 M.length) w := by
  have := World.ownsMap.len h hT ty; rw [size_toU] at this; exact this
theorem MapU.made (w : World) : MapU P K (w.alloc (.map #[] 0)) w.heap.size [] := World.ownsMap_made w P K asIs
theorem wordKeys_toU (M : List (Int × Value)) : intKeys (toU M) = M.map (·.1) := by
  simp [intKeys, toU, encU, List.map_map, Function.comp_def, intOf]
end
end Go.Proofs.YtclhhegfffccgaaGreat
