/-
  The tree of ids by keys: how it lies in memory; its calls that only read.
-/
import Derived.Test.YtbnnkkojlclgjaaGreatRbUpto
import Derived.Test.YtbnnkkojlclgjaaGreatRbFirst
import Derived.Test.YtbnnkkojlclgjaaGreatRbGetT
import Derived.Test.YtbnnkkojlclgjaaGreatRbDoT
import Derived.Test.YtbnnkkojlclgjaaGreatMaps
namespace Go.Proofs.YtbnnkkojlclgjaaGreat
set_option linter.unusedVariables false
open Go.RowKit Go.Maps
attribute [local go_sem ↓] Go.wp_at_zero Go.wp_at_succ
attribute [local go_sem] quietR quietAtR quietUponR midAt midUpon plain plainUpon

theorem put_len_new {α : Type} {k : Int} (v : α) : ∀ {M : List (Int × α)}, lookM M k = none → (putM M k v).length = M.length + 1
  | [], _ => rfl
  | p :: r, h => by
    unfold lookM at h
    split at h
    · cases h
    · rename_i hne
      unfold putM
      split
      · rfl
      · first | rw [if_neg hne] | skip
        simp only [List.length_cons, put_len_new v h]
theorem del_len {α : Type} {k : Int} {v : α} : ∀ {M : List (Int × α)}, Rising M → lookM M k = some v → (delM M k).length + 1 = M.length
  | [], _, h => by cases h
  | p :: r, hr, h => by
    have hp := List.pairwise_cons.1 hr
    unfold lookM at h
    by_cases e : p.1 = k
    · have : delM (p :: r) k = r := by
        unfold delM
        rw [List.filter_cons_of_neg (by simpa using e)]
        rw [List.filter_eq_self]
        intro x hx
        have := hp.1 x hx
        simp only [Bool.not_eq_true', decide_eq_false_iff_not]
        omega
      rw [this]; rfl
    · rw [if_neg e] at h
      have : delM (p :: r) k = p :: delM r k := by
        unfold delM
        rw [List.filter_cons_of_pos (by simpa using e)]
      rw [this]
      simp only [List.length_cons, del_len hp.2 h]
structure AugAt (w : World) (q g m : Nat) (t : RB) (M : List (Int × Ky)) : Prop where
  aug : Blk w q 86 #[.pointer (some ⟨g, 0, none⟩), .map (some m)]
  tr : RbT w g t
  map : MapI Tryz.prog 3 w m (mapV kyV M)
  inv : InvE (listT t)
  look : ∀ i, lookM M i = (getE (listT t) i).map (·.1)
  len : M.length = (listT t).length
def ownA (q g m : Nat) (t : RB) (b : Nat) : Prop := b = q ∨ b = g ∨ b = m ∨ b ∈ addrs t
section
variable {w w' : World} {q g m : Nat} {t : RB} {M : List (Int × Ky)}
theorem AugAt.later (h : AugAt w q g m t M) (hb : Below w.heap.size w w') : AugAt w' q g m t M :=
  ⟨h.aug.below hb h.aug.lt, h.tr.later hb, h.map.heap (hb.block m h.map.lt), h.inv, h.look, h.len⟩
theorem AugAt.fr {S : Nat → Prop} (h : AugAt w q g m t M) (hf : Fr S w w') (hn : ∀ b, ownA q g m t b → ¬ S b) : AugAt w' q g m t M :=
  ⟨h.aug.fr hf (hn q (.inl rfl)), h.tr.fr hf (hn g (.inr (.inl rfl))) fun a ha => hn a (.inr (.inr (.inr ha))), h.map.heap (hf.block m h.map.lt (hn m (.inr (.inr (.inl rfl))))), h.inv, h.look, h.len⟩
theorem AugAt.lt (h : AugAt w q g m t M) : ∀ b, ownA q g m t b → b < w.heap.size := by
  rintro b (rfl | rfl | rfl | hb)
  · exact h.aug.lt
  · exact h.tr.tree.lt
  · exact h.map.lt
  · exact h.tr.rb.lt b hb
end
theorem blk_mapA {w : World} {g m : Nat} {t K : TypeId} {cs : Array Value} {N : List (Int × Value)} (h : Blk w g t cs) (hm : MapI Tryz.prog K w m N) : g ≠ m := by
  obtain ⟨es, clock, h1, F, hs, hD⟩ := hm
  intro e
  subst e
  have := h.symm.trans h1
  cases this
theorem node_mapA {w : World} {m : Nat} {K : TypeId} {N : List (Int × Value)} (hm : MapI Tryz.prog K w m N) : ∀ {t : RB}, RBAt w t → m ∉ addrs t
  | .nil, _ => by intro h; cases h
  | .node b k v s c l r, h => by
    intro hmm
    rcases List.mem_cons.1 hmm with rfl | hmm
    · exact blk_mapA h.1 hm rfl
    · rcases List.mem_append.1 hmm with hmm | hmm
      · exact node_mapA hm h.2.1 hmm
      · exact node_mapA hm h.2.2 hmm
theorem of_any (q g : Nat) (v : Value) (w : World) (h : Blk w q 86 #[.pointer (some ⟨g, 0, none⟩), v]) :
    Calls Tryz.prog 78 #[.pointer (some ⟨q, 0, none⟩)] w fun e w' => e = .returned (.pointer (some ⟨g, 0, none⟩)) ∧ w = w' := by
  have c0 := h.cell 0
  simp only [List.getElem?_toArray, List.getElem?_cons_zero, List.getElem?_cons_succ] at c0
  clear h
  go_enter Tryz.func78, Tryz.ntmps78
  go_wp2
  go_ret
  exact ⟨rfl, rfl⟩
def NewAW (w : World) (e : Ending) (w' : World) : Prop := ∃ q g m, e = .returned (.pointer (some ⟨q, 0, none⟩)) ∧ AugAt w' q g m .nil [] ∧ Below w.heap.size w w' ∧ ∀ b, ownA q g m .nil b → w.heap.size ≤ b
set_option maxRecDepth 100000 in
theorem augnew_any (w : World) : Calls Tryz.prog 15 #[] w (NewAW w) := by
  have hmm := @run_makeMap Tryz.prog
  have hnw := rbnew_any w
  go_enter Tryz.func15, Tryz.ntmps15
  go_wp2_with fail
  refine hnw.mono ?_
  clear hnw
  rintro e w1 ⟨g, rfl, hg, hT, hb⟩
  have H := Lib.hid (And.intro hg (And.intro hT hb))
  clear hg hT hb
  go_wp2_with fail
  go_ret
  have hm := (MapI.made (P := Tryz.prog) (K := 3) w1)
  have hb1 := (Below.refl w1.heap.size w1).alloc (Nat.le_refl _) (.map #[] 0)
  have hb2 := hb1.alloc (by simp) (.cells #[.pointer (some ⟨g, 0, none⟩), .map (some w1.heap.size)] 86)
  have hq := Blk.new (w1.alloc (.map #[] 0)) 86 #[.pointer (some ⟨g, 0, none⟩), .map (some w1.heap.size)]
  rw [World.size_alloc] at hq
  refine ⟨_, _, _, rfl, ⟨hq, H.out.2.1.later hb2, hm.heap (Below.heap_alloc _ _ _ (by simp)), InvE.nil, fun _ => rfl, rfl⟩, H.out.2.2.trans (hb2.mono H.out.2.2.size), ?_⟩
  have := H.out.2.2.size
  rintro b (rfl | rfl | rfl | hb)
  · omega
  · exact H.out.1
  · omega
  · cases hb
theorem alen_any (q g m : Nat) (t : RB) (M : List (Int × Ky)) (w : World) (h : AugAt w q g m t M) :
    Calls Tryz.prog 74 #[.pointer (some ⟨q, 0, none⟩)] w fun e w' => e = .returned (.int .i64 (listT t).length) ∧ w = w' := by
  have h1 := of_any q g _ w h.aug
  have h2 := rblen_any g t w h.tr
  clear h
  go_enter Tryz.func74, Tryz.ntmps74
  go_wp2_with fail
  refine h1.mono ?_
  clear h1
  rintro e w1 ⟨rfl, rfl⟩
  go_wp2_with fail
  refine h2.mono ?_
  clear h2
  rintro e w1 ⟨rfl, rfl⟩
  go_wp2_with fail
  go_ret
  exact ⟨rfl, rfl⟩
def IdW (w : World) (o : Option Int) (e : Ending) (w' : World) : Prop := e = .returned (.tuple #[.int .i64 (o.getD 0), .bool o.isSome]) ∧ Below w.heap.size w w'
set_option maxRecDepth 100000 in
theorem afirst_any (q g m : Nat) (t : RB) (M : List (Int × Ky)) (w : World) (h : AugAt w q g m t M) :
    Calls Tryz.prog 72 #[.pointer (some ⟨q, 0, none⟩)] w (IdW w (fstL (listT t))) := by
  have h1 := of_any q g _ w h.aug
  have h2 := first_any g _ t w h.tr.tree h.tr.rb
  clear h
  obtain ⟨o, ho⟩ : ∃ o, (listT t).head?.map (·.1) = o := ⟨_, rfl⟩
  have e1 : fstL (listT t) = o.map (·.2) := by rw [← ho]; unfold fstL; cases listT t <;> rfl
  have e2 : (!(listT t).isEmpty) = o.isSome := by rw [← ho]; cases listT t <;> rfl
  unfold FirstW at h2
  rw [ho, e2] at h2
  have HE := Lib.hid e1
  clear ho e1 e2
  obtain ⟨k, hk⟩ : ∃ k, o.getD (0, 0) = k := ⟨_, rfl⟩
  rw [hk] at h2
  have e3 : (o.map (·.2)).getD 0 = k.2 := by rw [← hk]; cases o <;> rfl
  have e4 : (o.map (·.2)).isSome = o.isSome := by cases o <;> rfl
  have HE3 := Lib.hid (And.intro e3 e4)
  clear e3 e4 hk
  go_enter Tryz.func72, Tryz.ntmps72
  go_wp2_with fail
  refine h1.mono ?_
  clear h1
  rintro e w1 ⟨rfl, rfl⟩
  go_wp2_with fail
  refine h2.mono ?_
  clear h2
  rintro e w1 ⟨rfl, hb⟩
  have HB := Lib.hid hb
  clear hb
  go_wp2_with fail
  go_ret2
  refine ⟨by rw [HE.out, HE3.out.1, HE3.out.2]; rfl, ?_⟩
  have hb := HB.out
  go_grown
  all_goals exact HB.out.size
set_option maxRecDepth 100000 in
theorem aleast_any (q g m : Nat) (num : Int) (t : RB) (M : List (Int × Ky)) (w : World) (h : AugAt w q g m t M) :
    Calls Tryz.prog 64 #[.pointer (some ⟨q, 0, none⟩), .int .u64 num] w (IdW w ((nextL num (listT t)).map (·.2))) := by
  have h1 := of_any q g _ w h.aug
  have h2 := upto_any g _ num t w h.tr.tree h.tr.rb
  rw [upto_next num h.tr.well.2.2.2 h.tr.well.2.2.1] at h2
  clear h
  obtain ⟨o, ho⟩ : ∃ o, nextL num (listT t) = o := ⟨_, rfl⟩
  unfold UptoW at h2
  rw [ho] at h2
  rw [ho]
  clear ho
  obtain ⟨k, hk⟩ : ∃ k, o.getD (0, 0) = k := ⟨_, rfl⟩
  rw [hk] at h2
  have e3 : (o.map (·.2)).getD 0 = k.2 := by rw [← hk]; cases o <;> rfl
  have e4 : (o.map (·.2)).isSome = o.isSome := by cases o <;> rfl
  have HE3 := Lib.hid (And.intro e3 e4)
  clear e3 e4 hk
  go_enter Tryz.func64, Tryz.ntmps64
  go_wp2_with fail
  refine h1.mono ?_
  clear h1
  rintro e w1 ⟨rfl, rfl⟩
  go_wp2_with fail
  refine h2.mono ?_
  clear h2
  rintro e w1 ⟨rfl, hb⟩
  have HB := Lib.hid hb
  clear hb
  go_wp2_with fail
  go_ret2
  refine ⟨by rw [HE3.out.1, HE3.out.2]; rfl, ?_⟩
  have hb := HB.out
  go_grown
  all_goals exact HB.out.size
end Go.Proofs.YtbnnkkojlclgjaaGreat
