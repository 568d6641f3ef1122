/- Lemmas of the claim, merged: Range. No conditions beyond those that each states. -/
import Derived.Test.YtclhhegfffccgaaGreatMaps
import Derived.Maps.RangeWalk
/-
  Ranging over a map with int keys, whose values a round may replace.
-/
namespace Go.Proofs.YtclhhegfffccgaaGreat
set_option linter.unusedVariables false
open Go.RowKit Go.Maps Go.ChangeMaps Go.MapKept Go.WideShapes
open Go.WideElems (Fit rd rg pl rd_key rd_val rg_of rd_mk other_key)

section
variable {P : Program} {K : TypeId} {w w' : World} {b r cnt : Nat} {M : List (Int × Value)} {left : Lit → Bool}
/-- under way: block r ranges over the map of M at b; which keys are still to come -/
def RanI (P : Program) (K : TypeId) (w : World) (b r : Nat) (M : List (Int × Value)) (left : Lit → Bool) (cnt : Nat) : Prop := ∃ n, w.ranges P K asIs b r n (toD M) left cnt
theorem RanI.owns (h : RanI P K w b r M left cnt) : MapI P K w b M := by
  obtain ⟨n, h⟩ := h
  exact .of h.owns
theorem RanI.left_eq (h : RanI P K w b r M left cnt) : w.rangeLeft b r = cnt := by
  obtain ⟨n, h⟩ := h
  exact h.left_eq
theorem RanI.lt (h : RanI P K w b r M left cnt) : r < w.heap.size := by
  obtain ⟨n, h⟩ := h
  exact h.lt
theorem RanI.ne (h : RanI P K w b r M left cnt) : r ≠ b := by
  obtain ⟨n, h⟩ := h
  exact h.ne
theorem RanI.heap (h : RanI P K w b r M left cnt) (hb : w'.heap[b]? = w.heap[b]?) (hr : w'.heap[r]? = w.heap[r]?) : RanI P K w' b r M left cnt := by
  obtain ⟨n, es, clock, since, seen, c0, h1, F, hs, hD, h2, rest⟩ := h
  exact ⟨n, es, clock, since, seen, c0, hb.trans h1, F, hs, hD, hr.trans h2, rest⟩
theorem MapI.range {T E : TypeId} (h : MapI P K w b M) (hu : P.underlying K = some (.int .i64)) (hT : P.underlying T = some (.map K E)) :
    ∃ w' cnt, (Instr.range T (.map (some b))).run P w = .ok (.pointer (some ⟨w.heap.size, 0, none⟩)) w' ∧ RanI P K w' b w.heap.size M (Maps.has (toD M)) cnt ∧ Below w.heap.size w w' ∧ w'.heap.size = w.heap.size + 1 := by
  obtain ⟨w', hr, h1, h2, h3⟩ := World.ownsMap.range h (int_keyed hu) hT
  exact ⟨w', _, hr, ⟨_, h1⟩, ⟨h2.os, h2.tape, h2.output, h2.size, fun k hk => h2.block k hk (by simp)⟩, h3⟩
theorem RanI.next (h : RanI P K w b r M left cnt) (hu : P.underlying K = some (.int .i64)) (ty : TypeId) :
    (cnt = 0 ∧ (∀ k, left (.int .i64 k) = false) ∧ (Instr.next (.pointer (some ⟨r, 0, none⟩)) false ty).run P w = .ok (.tuple #[.bool false]) w) ∨
    ∃ x v w' cnt', (Lit.int .i64 x).wf = true ∧ left (.int .i64 x) = true ∧ lookM M x = some v ∧ (Instr.next (.pointer (some ⟨r, 0, none⟩)) false ty).run P w = .ok (.tuple #[.bool true, .int .i64 x, v]) w' ∧
      RanI P K w' b r M (fun z => left z && !z.sameKey (.int .i64 x)) cnt' ∧ cnt' < cnt ∧ w.grownBy w' (some r) ∧ w'.heap.size = w.heap.size ∧ (Instr.entry (.pointer (some ⟨r, 0, none⟩))).run P w' = .ok (.tuple #[.int .i64 x, v]) w' := by
  obtain ⟨n, h⟩ := h
  rcases h.next (int_keyed hu) ty with ⟨h0, hl, hrun⟩ | ⟨key, v, kl, y, w', cnt', hkey, hlk, hv, hat, hrun, hrg, hlt, hgr, hsz, hen⟩
  · exact .inl ⟨h0, fun k => hl _, hrun⟩
  · obtain ⟨x, rfl, rfl, hx⟩ := Maps.keyOf_int_inv hu hkey
    refine .inr ⟨x, v, w', cnt', hx, hlk, ?_, hrun, ⟨n, hrg⟩, hlt, hgr, hsz, hen⟩
    have e : y.1 = .held v := by
      simp only [asIs, Option.some.injEq] at hv
      rw [← hv]
    have h1 := hat (.held (.bool true))
    have h2 := hat (.held (.bool false))
    rw [toD_at, e] at h1 h2
    injection h1 with h1
    injection h2 with h2
    cases hl : lookM M x with
    | none =>
      rw [hl] at h1 h2
      have : Value.bool true = Value.bool false := h1.trans h2.symm
      cases this
    | some u =>
      rw [hl] at h1
      exact congrArg some h1
theorem RanI.iter (h : RanI P K w b r M left cnt) : ∃ s e c, w.heap[r]? = some (.mapIter (some b) s e c) := by
  obtain ⟨n, es, clock, since, seen, c0, h1, F, hs, hD, h2, rest⟩ := h
  exact ⟨_, _, _, h2⟩
theorem wpList_range_ranI {ops : Array Oper} {rest : List Oper} {o : Oper} {a : Act} {Q : Exit → Act → World → Prop} (hg : o.guard = none) (m : Operand) (t : TypeId) (hop : o.op = Op.range t m) {E : TypeId} (hu : P.underlying K = some (.int .i64)) (hT : P.underlying t = some (.map K E)) (hm : a.eval m = .map (some b)) (h : MapI P K w b M)
    (hK : ∀ w' cnt, RanI P K w' b w.heap.size M (Maps.has (toD M)) cnt → Below w.heap.size w w' → wpList P ops Q rest (a.put o.dst (.pointer (some ⟨w.heap.size, 0, none⟩))) w') : wpList P ops Q (o :: rest) a w := by
  refine wpList_plain hg fun K' hK' => ?_
  obtain ⟨w', cnt, hrun, r1, r2, r3⟩ := h.range hu hT
  unfold Oper.wp
  simp [execOp, hop, hm, hrun, Result.andThen]
  exact hK' _ _ (hK w' cnt r1 r2)
theorem wpList_next_ranI {ops : Array Oper} {rest : List Oper} {o : Oper} {a : Act} {Q : Exit → Act → World → Prop} (hg : o.guard = none) (it : Operand) (hop : o.op = Op.next it false) (hu : P.underlying K = some (.int .i64)) (hit : a.eval it = .pointer (some ⟨r, 0, none⟩)) (h : RanI P K w b r M left cnt)
    (hDone : (∀ k, left (.int .i64 k) = false) → wpList P ops Q rest (a.put o.dst (.tuple #[.bool false])) w)
    (hMore : ∀ (x : Int) (v : Value) (w' : World) (cnt' : Nat), (Lit.int .i64 x).wf = true → left (.int .i64 x) = true → lookM M x = some v → RanI P K w' b r M (fun z => left z && !z.sameKey (.int .i64 x)) cnt' → cnt' < cnt → w.grownBy w' (some r) → w'.heap.size = w.heap.size → (Instr.entry (.pointer (some ⟨r, 0, none⟩))).run P w' = .ok (.tuple #[.int .i64 x, v]) w' → wpList P ops Q rest (a.put o.dst (.tuple #[.bool true, .int .i64 x, v])) w') :
    wpList P ops Q (o :: rest) a w := by
  refine wpList_plain hg fun K' hK' => ?_
  unfold Oper.wp
  rcases h.next hu o.type with ⟨h0, hl, hrun⟩ | ⟨x, v, w', cnt', hx, hlk, hat, hrun, hrg, hlt, hgr, hsz, hen⟩
  · simp [execOp, hop, hit, hrun, Result.andThen]
    exact hK' _ _ (hDone hl)
  · simp [execOp, hop, hit, hrun, Result.andThen]
    exact hK' _ _ (hMore x v w' cnt' hx hlk hat hrg hlt hgr hsz hen)
/-- a value is replaced -/
theorem RanI.store (h : RanI P K w b r M left cnt) (hu : P.underlying K = some (.int .i64)) {T E : TypeId} (hT : P.underlying T = some (.map K E)) {k : Int} (hk : (Lit.int .i64 k).wf = true) (hin : (lookM M k).isSome = true) (hn : M.length < maxLen) (v : Value) :
    ∃ w', (Instr.mapUpdate T (.map (some b)) (.int .i64 k) v).run P w = .ok () w' ∧ RanI P K w' b r (putM M k v) left cnt ∧ w.mapTurned w' b := by
  have hris := h.owns.rising (int_keyed hu)
  have hM := h.owns
  have hne := h.ne
  obtain ⟨n, es, clock, since, seen, c0, hb, F, hs, hD, hr, hold, hc, hl1, hl2, hsc, hsk⟩ := h
  have hkey := keyOf_mk hu hk
  have KK : Keyed P K := int_keyed hu
  have hes : es.size < maxLen := by
    obtain ⟨es2, clock2, hb2, _, hs2, _⟩ := hM
    rw [hb] at hb2
    cases hb2
    omega
  have hv : asIs v = some (.held v, []) := rfl
  obtain ⟨es', clock', hrun, F', hput, _, _, hwho⟩ := Maps.fit_store (R' := asIs) KK hT hb F hes (fun _ _ _ _ hz => hz) hkey hv
  rcases KK.find w hkey es.toList F.keys with ⟨h1, h2⟩ | ⟨j, e0, h1, h2, h3⟩
  · exfalso
    have hhas := toD_has k M
    rw [hin, hD] at hhas
    obtain ⟨p, hp, hpk⟩ := List.any_eq_true.1 hhas
    obtain ⟨x, hx, rfl⟩ := List.mem_map.1 (mem_sorted.1 hp)
    obtain ⟨y, hy⟩ := F.reads x hx
    have m1 := rd_key hy
    have e1 := WideAt.sameKey_eq hpk
    rw [rg_of hy] at e1
    rw [e1] at m1
    exact h2 x hx (KK.inj m1 hkey)
  · have hj : es[j]? = some e0 := by simpa using h2
    have hrun2 : (Instr.mapUpdate T (.map (some b)) (.int .i64 k) v).run P w = .ok () (setBlock w b (.map (es.modify j (fun e' => { e' with key := .int .i64 k, val := v })) clock)) := by
      simp [Instr.mapUpdate, run_underlying hT, MapKept.run_getObj_map hb, KK.check w false hkey, h1, hj, h3, KK.stays w hkey, MapKept.run_setObj_map _ hb, Result.andThen, setBlock]
    rw [hrun] at hrun2
    have hw2 : setBlock w b (.map es' clock') = setBlock w b (.map (es.modify j (fun e' => { e' with key := .int .i64 k, val := v })) clock) := by simpa using hrun2
    have hh1 := heap_setBlock_same hb (.map es' clock')
    have hh2 := heap_setBlock_same hb (.map (es.modify j (fun e' => { e' with key := .int .i64 k, val := v })) clock)
    rw [hw2] at hh1
    rw [hh1] at hh2
    simp only [Option.some.injEq, Obj.map.injEq] at hh2
    obtain ⟨he', hc'⟩ := hh2
    have hlist : es'.toList = es.toList.set j { e0 with key := .int .i64 k, val := v } := by rw [he', Array.toList_modify, ChangeMaps.modify_eq_set _ _ _ _ h2]
    have hm0 : e0 ∈ es.toList := List.mem_of_getElem? h2
    obtain ⟨y0, hy0⟩ := F.reads e0 hm0
    have hk0 : (rg P K asIs e0).1 = .int .i64 k := by
      have m0 := rd_key hy0
      rw [h3, hkey] at m0
      rw [rg_of hy0]
      exact (Option.some.inj m0).symm
    have hkn : ∀ bn, (rg P K asIs ⟨.int .i64 k, v, bn⟩).1 = .int .i64 k := fun bn => by rw [rg_of (rd_mk hkey hv)]
    have hborn : es'.toList.map (·.born) = es.toList.map (·.born) := by
      rw [hlist, List.map_set]
      refine List.ext_getElem? fun i => ?_
      rw [List.getElem?_set]
      split
      · rename_i hij
        subst hij
        have hlt := (List.getElem?_eq_some_iff.1 h2).1
        rw [if_pos (by simpa using hlt), List.getElem?_map, h2]
        rfl
      · rfl
    have hcnt : ∀ a a' : Array MapEntry, a.toList.map (·.born) = a'.toList.map (·.born) → (leftOf a seen).size = (leftOf a' seen).size := fun a a' e => by
      have e1 : ∀ a : Array MapEntry, (leftOf a seen).size = ((a.toList.map (·.born)).filter fun n => !seen.contains n).length := fun a => by
        unfold leftOf
        rw [← Array.length_toList, Array.toList_filter, List.filter_map, List.length_map]
        rfl
      rw [e1, e1, e]
    have hsz : es'.size = es.size := by
      rw [← Array.length_toList, hlist, List.length_set, Array.length_toList]
    have who : ∀ x ∈ es'.toList, x = { e0 with key := .int .i64 k, val := v } ∨ x ∈ es.toList := fun x hx => by
      rw [hlist] at hx
      rcases List.mem_or_eq_of_mem_set hx with h | h
      · exact .inr h
      · exact .inl h
    refine ⟨_, hrun, ⟨n, es', clock', since, seen, c0, heap_setBlock_same hb _, F', by omega, ?_, (heap_setBlock_other hb _ hne).trans hr, fun x hx => ?_, (hcnt es' es hborn).trans hc, fun x hx => ?_, fun kl hkl => ?_, hsc, by omega⟩, ⟨es, clock, es', clock', hb, rfl⟩⟩
    · have := toD_put k v hris
      rw [← this, hD, DataW.put_eq, hput]
    · rcases who x hx with rfl | hx
      · exact hold e0 hm0
      · exact hold x hx
    · rcases who x hx with rfl | hx
      · rw [hkn, ← hk0]
        exact hl1 e0 hm0
      · exact hl1 x hx
    · obtain ⟨x, hx, rfl⟩ := hl2 kl hkl
      obtain ⟨i, hi⟩ := List.getElem?_of_mem hx
      by_cases hij : i = j
      · subst hij
        rw [h2] at hi
        cases hi
        refine ⟨{ e0 with key := .int .i64 k, val := v }, ?_, (hkn _).trans hk0.symm⟩
        rw [hlist]
        exact List.mem_iff_getElem?.2 ⟨i, by rw [List.getElem?_set, if_pos rfl, if_pos (List.getElem?_eq_some_iff.1 h2).1]⟩
      · refine ⟨x, ?_, rfl⟩
        rw [hlist]
        exact List.mem_iff_getElem?.2 ⟨i, by rw [List.getElem?_set, if_neg (fun h => hij h.symm)]; exact hi⟩
end
end Go.Proofs.YtclhhegfffccgaaGreat
