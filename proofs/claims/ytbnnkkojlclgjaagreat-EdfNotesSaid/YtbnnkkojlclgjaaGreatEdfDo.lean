/-
  A row of leaves: how it lies in memory; a leaf is noted, dropped.
-/
import Derived.Test.YtbnnkkojlclgjaaGreatEdfAsk
namespace Go.Proofs.YtbnnkkojlclgjaaGreat
set_option linter.unusedVariables false
open Go.RowKit Go.Maps
attribute [local go_sem ↓] Go.wp_at_zero Go.wp_at_succ
attribute [local go_sem] quietR quietAtR quietUponR midAt midUpon plain plainUpon

structure RowAt (w : World) (r q g m : Nat) (t : RB) (M : List (Int × Ky)) : Prop where
  row : Blk w r 51 #[.pointer (some ⟨q, 0, none⟩)]
  at_ : AugAt w q g m t M
theorem RowAt.later {w w' : World} {r q g m : Nat} {t : RB} {M : List (Int × Ky)} (h : RowAt w r q g m t M) (hb : Below w.heap.size w w') : RowAt w' r q g m t M := ⟨h.row.below hb h.row.lt, h.at_.later hb⟩
theorem RowAt.far {w : World} {r q g m : Nat} {t : RB} {M : List (Int × Ky)} (h : RowAt w r q g m t M) : ¬ ownA q g m t r := by
  have ne : ∀ {b : Nat} {t : TypeId} {cs : Array Value}, Blk w b t cs → t ≠ 51 → r ≠ b := fun hb ht e => by
    subst e
    have := hb.symm.trans h.row
    simp only [Option.some.injEq, Obj.cells.injEq] at this
    exact ht this.2.1
  rintro (e | e | e | hx)
  · exact ne h.at_.aug (by decide) e
  · exact ne h.at_.tr.tree (by decide) e
  · exact blk_mapA h.row h.at_.map e
  · exact RBAt.typed h.row (by decide) h.at_.tr.rb hx
/-- a row, the blocks that it owns, its leaves -/
def RowX (w : World) (r : Nat) (S : Nat → Prop) (L : List En) : Prop := ∃ q g m t M, RowAt w r q g m t M ∧ listT t = L ∧ ∀ b, S b ↔ b = r ∨ ownA q g m t b
theorem RowX.later {w w' : World} {r : Nat} {S : Nat → Prop} {L : List En} (h : RowX w r S L) (hb : Below w.heap.size w w') : RowX w' r S L := by
  obtain ⟨q, g, m, t, M, h1, h2, h3⟩ := h
  exact ⟨q, g, m, t, M, h1.later hb, h2, h3⟩
theorem RowX.lt {w : World} {r : Nat} {S : Nat → Prop} {L : List En} (h : RowX w r S L) : ∀ b, S b → b < w.heap.size := by
  obtain ⟨q, g, m, t, M, h1, h2, h3⟩ := h
  intro b hb
  rcases (h3 b).1 hb with rfl | hb
  · exact h1.row.lt
  · exact h1.at_.lt b hb
theorem RowX.fr {w w' : World} {r : Nat} {S T : Nat → Prop} {L : List En} (h : RowX w r S L) (hf : Fr T w w') (hn : ∀ b, S b → ¬ T b) : RowX w' r S L := by
  obtain ⟨q, g, m, t, M, h1, h2, h3⟩ := h
  exact ⟨q, g, m, t, M, ⟨h1.row.fr hf (hn r ((h3 r).2 (.inl rfl))), h1.at_.fr hf fun b hb => hn b ((h3 b).2 (.inr hb))⟩, h2, h3⟩
theorem RowX.inv {w : World} {r : Nat} {S : Nat → Prop} {L : List En} (h : RowX w r S L) : InvE L := by
  obtain ⟨q, g, m, t, M, h1, rfl, h3⟩ := h
  exact h1.at_.inv

def RNewW (w : World) (e : Ending) (w' : World) : Prop := ∃ r S, e = .returned (.pointer (some ⟨r, 0, none⟩)) ∧ RowX w' r S [] ∧ Below w.heap.size w w' ∧ ∀ b, S b → w.heap.size ≤ b
theorem rnew_any (w : World) : Calls Tryz.prog 4 #[] w (RNewW w) := by
  have hn := augnew_any w
  go_enter Tryz.func4, Tryz.ntmps4
  go_wp2_with fail
  refine hn.mono ?_
  clear hn
  rintro e w1 ⟨q, g, m, rfl, hA, hb, ho⟩
  have H := Lib.hid (And.intro hA (And.intro hb ho))
  clear hA hb ho
  go_wp2_with fail
  go_ret
  have hb1 := (Below.refl w1.heap.size w1).alloc (Nat.le_refl _) (.cells #[.pointer (some ⟨q, 0, none⟩)] 51)
  refine ⟨_, fun b => b = w1.heap.size ∨ ownA q g m .nil b, rfl, ⟨q, g, m, .nil, [], ⟨Blk.new w1 _ _, H.out.1.later hb1⟩, rfl, fun _ => Iff.rfl⟩, H.out.2.1.trans (hb1.mono H.out.2.1.size), ?_⟩
  rintro b (rfl | hb)
  · exact H.out.2.1.size
  · exact H.out.2.2 b hb
/-- a row turned: its leaves, what it owns is its own or new, nothing else changed -/
def TurnE (w : World) (r : Nat) (S : Nat → Prop) (L : List En) (w' : World) : Prop := ∃ S', RowX w' r S' L ∧ (∀ b, S' b → S b ∨ w.heap.size ≤ b) ∧ Fr S w w'
theorem turnE_of {w w' : World} {r q g m : Nat} {t t' : RB} {M M' : List (Int × Ky)} {S : Nat → Prop} (h : RowAt w r q g m t M) (hS : ∀ b, S b ↔ b = r ∨ ownA q g m t b) (hA : AugAt w' q g m t' M') (hsub : ∀ x ∈ addrs t', x ∈ addrs t ∨ w.heap.size ≤ x) (hf : Fr (ownA q g m t) w w') : TurnE w r S (listT t') w' := by
  refine ⟨fun b => b = r ∨ ownA q g m t' b, ⟨q, g, m, t', M', ⟨h.row.fr hf h.far, hA⟩, rfl, fun _ => Iff.rfl⟩, ?_, hf.weak fun b _ hb => (hS b).2 (.inr hb)⟩
  rintro b (rfl | rfl | rfl | rfl | hb)
  · exact .inl ((hS _).2 (.inl rfl))
  · exact .inl ((hS _).2 (.inr (.inl rfl)))
  · exact .inl ((hS _).2 (.inr (.inr (.inl rfl))))
  · exact .inl ((hS _).2 (.inr (.inr (.inr (.inl rfl)))))
  · rcases hsub b hb with hb | hb
    · exact .inl ((hS _).2 (.inr (.inr (.inr (.inr hb)))))
    · exact .inr hb
set_option maxRecDepth 100000 in
theorem put1_any (q g m b1 b2 b3 : Nat) (i a b : Int) (t : RB) (M : List (Int × Ky)) (w : World) (h : AugAt w q g m t M) (h1 : Blk w b1 3 #[.int .i64 i]) (h2 : Blk w b2 23 #[.int .u64 a]) (h3 : Blk w b3 23 #[.int .u64 b]) (hi : (Lit.int .i64 i).wf = true) (hfew : (listT t).length < 900000) :
    Calls Tryz.prog 60 (#[.pointer (some ⟨q, 0, none⟩)] ++ #[.pointer (some ⟨b1, 0, none⟩), .pointer (some ⟨b2, 0, none⟩), .pointer (some ⟨b3, 0, none⟩)]) w fun e w' => e = .returned (.bool true) ∧ ∃ t' M', AugAt w' q g m t' M' ∧ listT t' = putI (listT t) i a b ∧ (∀ x ∈ addrs t', x ∈ addrs t ∨ w.heap.size ≤ x) ∧ Fr (ownA q g m t) w w' := by
  have hp := aput_any q g m i a b t M w h hi hfew
  have c1 := h1.cell 0; have c2 := h2.cell 0; have c3 := h3.cell 0
  simp only [List.getElem?_toArray, List.getElem?_cons_zero, List.getElem?_cons_succ] at c1 c2 c3
  clear h h1 h2 h3
  simp only [List.append_toArray, List.cons_append, List.nil_append]
  go_enter Tryz.func60, Tryz.ntmps60
  go_wp2_with fail
  refine hp.mono ?_
  clear hp
  rintro e w1 ⟨t', M', rfl, hA, hl, hs, hf⟩
  have H := Lib.hid (And.intro hA (And.intro hl (And.intro hs hf)))
  clear hA hl hs hf
  go_wp2_with fail
  go_ret
  exact ⟨rfl, t', M', H.out⟩
set_option maxRecDepth 100000 in
theorem rput_any (r : Nat) (S : Nat → Prop) (L : List En) (i a b : Int) (w : World) (h : RowX w r S L) (hi : (Lit.int .i64 i).wf = true) (hfew : L.length < 900000) :
    Calls Tryz.prog 27 #[.pointer (some ⟨r, 0, none⟩), .int .i64 i, .int .u64 a, .int .u64 b] w fun e w' => e = .returned (.tuple #[]) ∧ TurnE w r S (putI L i a b) w' := by
  obtain ⟨q, g, m, t, M, hA, rfl, hS⟩ := h
  obtain ⟨W1, hW1, hb, k1, k2, k3⟩ : ∃ W1, ((w.alloc (.cells #[.int .i64 i] 3)).alloc (.cells #[.int .u64 a] 23)).alloc (.cells #[.int .u64 b] 23) = W1 ∧ Below w.heap.size w W1 ∧ Blk W1 w.heap.size 3 #[.int .i64 i] ∧ Blk W1 (w.heap.size + 1) 23 #[.int .u64 a] ∧ Blk W1 (w.heap.size + 1 + 1) 23 #[.int .u64 b] := by
    refine ⟨_, rfl, by go_grown, ?_⟩
    have h1 := (((Blk.new w 3 #[.int .i64 i]).alloc (.cells #[.int .u64 a] 23)).alloc (.cells #[.int .u64 b] 23))
    have h2 := ((Blk.new (w.alloc (.cells #[.int .i64 i] 3)) 23 #[.int .u64 a]).alloc (.cells #[.int .u64 b] 23))
    have h3 := (Blk.new ((w.alloc (.cells #[.int .i64 i] 3)).alloc (.cells #[.int .u64 a] 23)) 23 #[.int .u64 b])
    simp only [World.size_alloc] at h1 h2 h3
    exact ⟨h1, h2, h3⟩
  have hp := put1_any q g m _ _ _ i a b t M W1 (hA.at_.later hb) k1 k2 k3 hi hfew
  have hask := ask_bool r q _ _ false W1 _ (hA.row.below hb hA.row.lt) (enters_of Tryz.func60 (by kernel_rfl) rfl) hp (fun e W h => ⟨_, h.1⟩)
  have H := Lib.hid (And.intro hA (And.intro hb hS))
  clear hA hb hS k1 k2 k3 hp
  go_enter Tryz.func27, Tryz.ntmps27
  go_upto_region 1 with fail
  try simp only [World.size_alloc]
  try rw [hW1]
  clear hW1
  go_wp2_with fail
  refine hask.mono ?_
  clear hask
  rintro e w2 ⟨rfl, t', M', hA2, hl, hs, hf⟩
  have H2 := Lib.hid (And.intro hA2 (And.intro hl (And.intro hs hf)))
  clear hA2 hl hs hf
  go_wp2_with fail
  go_returns
  refine ⟨rfl, ?_⟩
  rw [← H2.out.2.1]
  exact turnE_of H.out.1 H.out.2.2 H2.out.1 (fun x hx => (H2.out.2.2.1 x hx).imp id fun h => Nat.le_trans H.out.2.1.size h) ((Fr.of_below H.out.2.1).trans H2.out.2.2.2)
set_option maxRecDepth 100000 in
theorem drop1_any (q g m b1 : Nat) (i : Int) (t : RB) (M : List (Int × Ky)) (w : World) (h : AugAt w q g m t M) (h1 : Blk w b1 3 #[.int .i64 i]) (hi : (Lit.int .i64 i).wf = true) (hfew : (listT t).length < 900000) :
    Calls Tryz.prog 58 (#[.pointer (some ⟨q, 0, none⟩)] ++ #[.pointer (some ⟨b1, 0, none⟩)]) w fun e w' => e = .returned (.bool (getE (listT t) i).isSome) ∧ ∃ t' M', AugAt w' q g m t' M' ∧ listT t' = dropI (listT t) i ∧ (∀ x ∈ addrs t', x ∈ addrs t ∨ w.heap.size ≤ x) ∧ Fr (ownA q g m t) w w' := by
  have hp := adrop_any q g m i t M w h hi (by omega)
  have c1 := h1.cell 0
  simp only [List.getElem?_toArray, List.getElem?_cons_zero, List.getElem?_cons_succ] at c1
  clear h h1
  simp only [List.append_toArray, List.cons_append, List.nil_append]
  go_enter Tryz.func58, Tryz.ntmps58
  go_wp2_with fail
  refine hp.mono ?_
  clear hp
  rintro e w1 ⟨t', M', rfl, hA, hl, hs, hf⟩
  have H := Lib.hid (And.intro hA (And.intro hl (And.intro hs hf)))
  clear hA hl hs hf
  go_wp2_with fail
  go_ret
  exact ⟨rfl, t', M', H.out⟩
set_option maxRecDepth 100000 in
theorem rdrop_any (r : Nat) (S : Nat → Prop) (L : List En) (i : Int) (w : World) (h : RowX w r S L) (hi : (Lit.int .i64 i).wf = true) (hfew : L.length < 900000) :
    Calls Tryz.prog 26 #[.pointer (some ⟨r, 0, none⟩), .int .i64 i] w fun e w' => e = .returned (.bool (getE L i).isSome) ∧ TurnE w r S (dropI L i) w' := by
  obtain ⟨q, g, m, t, M, hA, rfl, hS⟩ := h
  have hb : Below w.heap.size w (w.alloc (.cells #[.int .i64 i] 3)) := (Below.refl _ _).alloc (Nat.le_refl _) _
  have k1 := Blk.new w 3 #[.int .i64 i]
  have hp := drop1_any q g m _ i t M _ (hA.at_.later hb) k1 hi hfew
  have hask := ask_bool r q _ _ false _ _ (hA.row.below hb hA.row.lt) (enters_of Tryz.func58 (by kernel_rfl) rfl) hp (fun e W h => ⟨_, h.1⟩)
  have H := Lib.hid (And.intro hA (And.intro hb hS))
  clear hA hb hS k1 hp
  go_enter Tryz.func26, Tryz.ntmps26
  go_wp2_with fail
  refine hask.mono ?_
  clear hask
  rintro e w2 ⟨rfl, t', M', hA2, hl, hs, hf⟩
  have H2 := Lib.hid (And.intro hA2 (And.intro hl (And.intro hs hf)))
  clear hA2 hl hs hf
  go_wp2_with fail
  go_ret
  refine ⟨rfl, ?_⟩
  rw [← H2.out.2.1]
  exact turnE_of H.out.1 H.out.2.2 H2.out.1 (fun x hx => (H2.out.2.2.1 x hx).imp id fun h => Nat.le_trans H.out.2.1.size h) ((Fr.of_below H.out.2.1).trans H2.out.2.2.2)
end Go.Proofs.YtbnnkkojlclgjaaGreat
