/-
  A tree of classes: the path of a class. (Printed by wip/mkhpath.py.)
-/
import Derived.Test.YtclhhegfffccgaaGreatHDepth
import Derived.Maps.AppendAt
import Derived.ArgAppend
import Derived.Deep.Upon
namespace Go.Proofs.YtclhhegfffccgaaGreat
set_option linter.unusedVariables false
open Go.RowKit Go.Maps
attribute [local go_sem ↓] Go.wp_at_zero Go.wp_at_succ
attribute [local go_sem] quietR quietAtR quietUponR midAt midUpon

theorem wpList_append_runH {P : Program} {w w' : World} {ops : Array Oper} {rest : List Oper} {o : Oper} {a : Act} {Q : Exit → Act → World → Prop} (hgd : o.guard = none) (s x : Operand) (t : TypeId)
    (ho : o.op = .call { callee := .builtin .append, args := #[s, x], argTypes := #[t, t] }) (va vx v : Value) (hs : a.eval s = va) (hx : a.eval x = vx)
    (hr : (Builtin.append_ #[t, t] o.type #[va, vx]).run P w = .ok v w') (h : wpList P ops Q rest (a.put o.dst v) w') : wpList P ops Q (o :: rest) a w :=
  wpList_plain hgd fun K hK => by
    unfold Oper.wp execOp
    simp only [ho, resolve, invoke, builtin, Sem.run_bind, Sem.run_pure, Result.andThen_ok, List.map_toArray, List.map_cons, List.map_nil, hs, hx, hr]
    exact hK _ _ h
theorem app_one (ty : TypeId) {A : List Int} {x : Int} {w : World} {v : Value} {base b : Nat} (hc : w.cell? ⟨b, 0, none⟩ = some (.int .i64 x)) (hown : w.ownsRow base 3 1 v A.length (A.map (Value.int .i64))) (hb : base ≤ w.heap.size) (hl : A.length ≤ 3000000) :
    ∃ v' w', (Builtin.append_ #[47, 47] ty #[v, .slice (some ⟨b, 0, none⟩) 1 1]).run Tryz.prog w = .ok v' w' ∧ w'.ownsRow base 3 1 v' (A ++ [x]).length ((A ++ [x]).map (Value.int .i64)) ∧ w.grownBy w' v.ownBlock := by
  obtain ⟨i0, hi0, hz0, hz1, hz2⟩ := info_parts info_int
  obtain ⟨v', w', hr, ho, hg, _⟩ := run_append_own (P := Tryz.prog) (w := w) base 47 ty 3 i0 _ 1 8 Tryz.underlying47 hi0 hz0 hz1 hz2 rfl (by decide) v A.length _ hown ⟨b, 0, none⟩ 1 1 ([x].map (Value.int .i64)) (by simp) (fun j u hj => by
        match j with
        | 0 => simp at hj; subst hj; simpa [Addr.add_lit] using hc
        | j + 1 => simp at hj) (by intro u hu; obtain ⟨x, _, rfl⟩ := List.mem_map.1 hu; rfl) (by unfold maxLen; omega) (by omega) hb
  exact ⟨v', w', hr, by simpa using ho, hg⟩
theorem pathF_le (M : Mp) : ∀ (n : Nat) (id : Int), (pathF M n id).length ≤ n
  | 0, _ => Nat.le_refl _
  | n + 1, id => by
    unfold pathF
    cases lookM M id with
    | none => simp
    | some c => have := pathF_le M n c.1.pa; simp; omega
theorem InvT.path_step {M : Mp} (h : InvT M) {id : Int} {c : Cl} (e : lookM M id = some c) : pathM M id = id :: pathM M c.1.pa := by
  unfold pathM
  rw [pathF_some e 7, h.pathF_more 7 8 fun c' hc' => by
    have o := h.ok _ _ e
    have := o.d8
    rcases o.up with ⟨h0, _⟩ | ⟨p, hp, _, hd⟩
    · rw [h0, h.zero] at hc'; cases hc'
    · rw [hp] at hc'; cases hc'; omega]
def dep (M : Mp) (x : Int) : Nat := ((lookM M x).map fun c => c.2.toNat).getD 0
theorem InvT.dep_lt {M : Mp} (h : InvT M) {id : Int} {c : Cl} (e : lookM M id = some c) : dep M c.1.pa < dep M id := by
  have o := h.ok _ _ e
  have := o.d1
  unfold dep
  rw [e]
  rcases o.up with ⟨h0, h1⟩ | ⟨p, hp, _, hd⟩
  · rw [h0, h.zero]; simp; omega
  · rw [hp]; have := (h.ok _ _ hp).d1; simp; omega
theorem InvT.pa_wf {M : Mp} (h : InvT M) {id : Int} {c : Cl} (e : lookM M id = some c) : (Lit.int .i64 c.1.pa).wf = true := (h.ok _ _ e).wf.1.2.1
def PathJ (w : World) (g : Nat) (M : Mp) (id : Int) (a' : Act) (w' : World) : Prop :=
  ∃ (A : List Int) (cur : Int) (v u2 u3 u6 u7 u8 u9 u10 u11 u12 u13 u14 u15 u16 u17 u18 u19 u20 u21 : Value), a' = { tmps := #[.pointer (some ⟨g, 0, none⟩), .int .i64 cur, u2, u3, .slice none 0 0, v, u6, u7, u8, u9, u10, u11, u12, u13, u14, u15, u16, u17, u18, u19, u20, u21], defers := [] } ∧ Below w.heap.size w w' ∧ w'.ownsRow w.heap.size 3 1 v A.length (A.map (Value.int .i64)) ∧ A ++ pathM M cur = pathM M id ∧ (Lit.int .i64 cur).wf = true

set_option maxRecDepth 100000 in
set_option maxHeartbeats 8000000 in
theorem tpath_any (id : Int) (base g ma mu : Nat) (U : List (Int × Value)) (M : Mp) (w : World) (hid : (Lit.int .i64 id).wf = true) (h : TreeX w base g ma mu U M) :
    Calls Tryz.prog 19 #[.pointer (some ⟨g, 0, none⟩), .int .i64 id] w (IdsW w (pathM M id)) := by
  have H := Lib.hid h
  clear h
  go_enter Tryz.func19, Tryz.ntmps19
  go_wp2
  refine wp_scope_jumps 0 (PathJ w g M id) (fun a' _ => dep M (Go.RowKit.intOf (a'.tmps.getD 1 undef))) rfl ?_ ?_
  · go_wp2_with fail
    go_step3
    have hget := tget_any id base g ma mu U M w hid (H.out.later (Below.refl w.heap.size w))
    unfold GetW getS spV spC at hget
    have HS := Lib.hid (And.intro (Below.refl w.heap.size w) (And.intro (show w.ownsRow w.heap.size 3 1 (.slice none 0 0) ([] : List Int).length (([] : List Int).map (Value.int .i64)) from World.ownsRow_nil _ _ _ _) (show ([] : List Int) ++ pathM M id = pathM M id from rfl)))
    cases e : lookM M id with
    | none =>
      rw [e] at hget
      unfold cl0 sp0 at hget
      dsimp only [Option.getD, Option.isSome] at hget
      have HE := Lib.hid e
      clear e
      go_wp2_with fail
      refine hget.mono ?_
      clear hget
      rintro e w1 ⟨rfl, hb1⟩
      have hw1 := HS.out.1.trans (hb1.mono HS.out.1.size)
      have ho1 := owns_laterH HS.out.2.1 hb1
      have hb2 := (Below.refl w1.heap.size w1).alloc (Nat.le_refl _) (.cells #[.int .i64 0, .int .i64 0, .bool false, .int .u64 0, .int .u64 0, .int .u64 0, .int .u64 0, .int .u64 0, .int .u64 0, .int .u64 0, .int .u64 0, .int .u64 0, .int .i64 0, .int .i64 0] 36)
      have HF := Lib.hid (And.intro (owns_laterH ho1 hb2) (hw1.trans (hb2.mono hw1.size)))
      clear hw1 ho1 hb2 hb1
      go_wp2_with fail
      simp only [Exit.jump]
      go_ret
      have hA := HS.out.2.2
      have hz : pathM M id = [] := pathF_none HE.out 8
      exact ⟨_, rfl, by rw [hz]; exact HF.out.1, HF.out.2⟩
    | some c =>
      have HP := Lib.hid (And.intro (H.out.inv.path_step e) (And.intro (H.out.inv.dep_lt e) (H.out.inv.pa_wf e)))
      rw [e] at hget
      obtain ⟨⟨i1, pa, i3, ⟨F1, L1, R1⟩, ⟨F2, L2, R2⟩, ⟨F3, L3, R3⟩, i4, i5⟩, d⟩ := c
      dsimp only [Option.getD, Option.isSome] at hget HP
      clear e
      go_wp2_with fail
      refine hget.mono ?_
      clear hget
      rintro e w1 ⟨rfl, hb1⟩
      have hw1 := HS.out.1.trans (hb1.mono HS.out.1.size)
      have ho1 := owns_laterH HS.out.2.1 hb1
      have hb2 := (Below.refl w1.heap.size w1).alloc (Nat.le_refl _) (.cells #[.int .i64 i1, .int .i64 pa, .bool i3, .int .u64 F1, .int .u64 L1, .int .u64 R1, .int .u64 F2, .int .u64 L2, .int .u64 R2, .int .u64 F3, .int .u64 L3, .int .u64 R3, .int .i64 i4, .int .i64 i5] 36)
      have hX := Blk.new w1 36 #[.int .i64 i1, .int .i64 pa, .bool i3, .int .u64 F1, .int .u64 L1, .int .u64 R1, .int .u64 F2, .int .u64 L2, .int .u64 R2, .int .u64 F3, .int .u64 L3, .int .u64 R3, .int .i64 i4, .int .i64 i5]
      have ho2 := owns_laterH ho1 hb2
      have hw2 := hw1.trans (hb2.mono hw1.size)
      have hvlt := fun k hk => (ho1.lt k hk).2
      have hx1 := hX.lt
      go_upto_region 3 with fail
      generalize w1.alloc (.cells #[.int .i64 i1, .int .i64 pa, .bool i3, .int .u64 F1, .int .u64 L1, .int .u64 R1, .int .u64 F2, .int .u64 L2, .int .u64 R2, .int .u64 F3, .int .u64 L3, .int .u64 R3, .int .i64 i4, .int .i64 i5] 36) = w2 at hX ho2 hw2 hx1 ⊢
      have hb3 := (Below.refl w2.heap.size w2).alloc (Nat.le_refl _) (.cells #[.int .i64 id] 3)
      have k2 := Blk.new w2 3 #[.int .i64 id]
      have hX3 := hX.below hb3 hX.lt
      have ho3 := owns_laterH ho2 hb3
      have hw3 := hw2.trans (hb3.mono hw2.size)
      have hAl : ([] : List Int).length ≤ 8 := by
        have h8 := pathF_le M 8 id
        have hA := congrArg List.length HS.out.2.2
        unfold pathM at hA
        simp only [List.length_append, List.length_nil] at hA ⊢
        omega
      obtain ⟨v', w', hr, ho', hg⟩ := app_one 47 (A := []) (k2.cell 0) ho3 hw3.size (by omega)
      have hX4 := hX3.grown hg (fun e => by have := hvlt _ e.symm; omega)
      have k1 := hX4.cell 1
      simp only [List.getElem?_toArray, List.getElem?_cons_zero, List.getElem?_cons_succ] at k1
      have hw4 := hw3.grown hg hw3.size fun k hk => (ho3.lt k hk).1
      have HF := Lib.hid (And.intro ho' hw4)
      clear hw1 ho1 hb2 hb1 hX ho2 hw2 hvlt hb3 k2 hX3 ho3 hw3 hAl ho' hg hX4 hw4 hx1
      go_wp2_with (at_builtin; refine wpList_append_runH rfl _ _ _ rfl _ _ _ rfl rfl hr ?_; clear hr)
      go_step3
      change _ ∧ PathJ w g M id _ _
      refine ⟨rfl, ?_⟩
      unfold PathJ
      refine ⟨[] ++ [id], pa, v', _, _, _, _, _, _, _, _, _, _, _, _, _, _, _, _, _, _, rfl, HF.out.2, HF.out.1, ?_, HP.out.2.2⟩
      rw [HP.out.1]; rfl
  · rintro a' w' ⟨A, cur, v, u2, u3, u6, u7, u8, u9, u10, u11, u12, u13, u14, u15, u16, u17, u18, u19, u20, u21, rfl, hbc, hoc, hac, hcc⟩
    have hget := tget_any cur base g ma mu U M w' hcc (H.out.later hbc)
    unfold GetW getS spV spC at hget
    have HS := Lib.hid (And.intro hbc (And.intro hoc hac))
    clear hbc hoc hac
    cases e : lookM M cur with
    | none =>
      rw [e] at hget
      unfold cl0 sp0 at hget
      dsimp only [Option.getD, Option.isSome] at hget
      have HE := Lib.hid e
      clear e
      go_wp2_with fail
      refine hget.mono ?_
      clear hget
      rintro e w1 ⟨rfl, hb1⟩
      have hw1 := HS.out.1.trans (hb1.mono HS.out.1.size)
      have ho1 := owns_laterH HS.out.2.1 hb1
      have hb2 := (Below.refl w1.heap.size w1).alloc (Nat.le_refl _) (.cells #[.int .i64 0, .int .i64 0, .bool false, .int .u64 0, .int .u64 0, .int .u64 0, .int .u64 0, .int .u64 0, .int .u64 0, .int .u64 0, .int .u64 0, .int .u64 0, .int .i64 0, .int .i64 0] 36)
      have HF := Lib.hid (And.intro (owns_laterH ho1 hb2) (hw1.trans (hb2.mono hw1.size)))
      clear hw1 ho1 hb2 hb1
      go_wp2_with fail
      simp only [Exit.jump]
      go_ret
      have hA := HS.out.2.2
      have hz : pathM M cur = [] := pathF_none HE.out 8
      rw [hz, List.append_nil] at hA; exact ⟨_, rfl, by rw [← hA]; exact HF.out.1, HF.out.2⟩
    | some c =>
      have HP := Lib.hid (And.intro (H.out.inv.path_step e) (And.intro (H.out.inv.dep_lt e) (H.out.inv.pa_wf e)))
      rw [e] at hget
      obtain ⟨⟨i1, pa, i3, ⟨F1, L1, R1⟩, ⟨F2, L2, R2⟩, ⟨F3, L3, R3⟩, i4, i5⟩, d⟩ := c
      dsimp only [Option.getD, Option.isSome] at hget HP
      clear e
      go_wp2_with fail
      refine hget.mono ?_
      clear hget
      rintro e w1 ⟨rfl, hb1⟩
      have hw1 := HS.out.1.trans (hb1.mono HS.out.1.size)
      have ho1 := owns_laterH HS.out.2.1 hb1
      have hb2 := (Below.refl w1.heap.size w1).alloc (Nat.le_refl _) (.cells #[.int .i64 i1, .int .i64 pa, .bool i3, .int .u64 F1, .int .u64 L1, .int .u64 R1, .int .u64 F2, .int .u64 L2, .int .u64 R2, .int .u64 F3, .int .u64 L3, .int .u64 R3, .int .i64 i4, .int .i64 i5] 36)
      have hX := Blk.new w1 36 #[.int .i64 i1, .int .i64 pa, .bool i3, .int .u64 F1, .int .u64 L1, .int .u64 R1, .int .u64 F2, .int .u64 L2, .int .u64 R2, .int .u64 F3, .int .u64 L3, .int .u64 R3, .int .i64 i4, .int .i64 i5]
      have ho2 := owns_laterH ho1 hb2
      have hw2 := hw1.trans (hb2.mono hw1.size)
      have hvlt := fun k hk => (ho1.lt k hk).2
      have hx1 := hX.lt
      go_upto_region 3 with fail
      generalize w1.alloc (.cells #[.int .i64 i1, .int .i64 pa, .bool i3, .int .u64 F1, .int .u64 L1, .int .u64 R1, .int .u64 F2, .int .u64 L2, .int .u64 R2, .int .u64 F3, .int .u64 L3, .int .u64 R3, .int .i64 i4, .int .i64 i5] 36) = w2 at hX ho2 hw2 hx1 ⊢
      have hb3 := (Below.refl w2.heap.size w2).alloc (Nat.le_refl _) (.cells #[.int .i64 cur] 3)
      have k2 := Blk.new w2 3 #[.int .i64 cur]
      have hX3 := hX.below hb3 hX.lt
      have ho3 := owns_laterH ho2 hb3
      have hw3 := hw2.trans (hb3.mono hw2.size)
      have hAl : A.length ≤ 8 := by
        have h8 := pathF_le M 8 id
        have hA := congrArg List.length HS.out.2.2
        unfold pathM at hA
        simp only [List.length_append, List.length_nil] at hA ⊢
        omega
      obtain ⟨v'', w'', hr, ho', hg⟩ := app_one 47 (A := A) (k2.cell 0) ho3 hw3.size (by omega)
      have hX4 := hX3.grown hg (fun e => by have := hvlt _ e.symm; omega)
      have k1 := hX4.cell 1
      simp only [List.getElem?_toArray, List.getElem?_cons_zero, List.getElem?_cons_succ] at k1
      have hw4 := hw3.grown hg hw3.size fun k hk => (ho3.lt k hk).1
      have HF := Lib.hid (And.intro ho' hw4)
      clear hw1 ho1 hb2 hb1 hX ho2 hw2 hvlt hb3 k2 hX3 ho3 hw3 hAl ho' hg hX4 hw4 hx1
      go_wp2_with (at_builtin; refine wpList_append_runH rfl _ _ _ rfl _ _ _ rfl rfl hr ?_; clear hr)
      go_step3
      change _ ∧ (PathJ w g M id _ _ ∧ _)
      refine ⟨rfl, ?_, ?_⟩
      unfold PathJ
      refine ⟨A ++ [cur], pa, v'', _, _, _, _, _, _, _, _, _, _, _, _, _, _, _, _, _, _, rfl, HF.out.2, HF.out.1, ?_, HP.out.2.2⟩
      · rw [← HS.out.2.2, HP.out.1, List.append_assoc]; rfl
      · exact HP.out.2.1
end Go.Proofs.YtclhhegfffccgaaGreat
