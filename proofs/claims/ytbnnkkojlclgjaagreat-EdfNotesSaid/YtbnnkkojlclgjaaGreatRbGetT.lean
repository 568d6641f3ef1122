/-
  The tree: a value, how many.
-/
import Derived.Test.YtbnnkkojlclgjaaGreatRbT
namespace Go.Proofs.YtbnnkkojlclgjaaGreat
set_option linter.unusedVariables false
open Go.RowKit
attribute [local go_sem ↓] Go.wp_at_zero Go.wp_at_succ
attribute [local go_sem] quietR quietAtR quietUponR midAt midUpon plain plainUpon

def GetT (w : World) (v : Int) (e : Ending) (w' : World) : Prop := e = .returned (.tuple #[.int .u64 v, .bool true]) ∧ Below w.heap.size w w'
set_option maxRecDepth 100000 in
/-- a value of a key that is there -/
theorem rbget_any (g : Nat) (x : Ky) (v : Int) (t : RB) (w : World) (h : RbT w g t) (hx : (x, v) ∈ listT t) :
    Calls Tryz.prog 82 #[.pointer (some ⟨g, 0, none⟩), .agg #[.int .u64 x.1, .int .i64 x.2]] w (GetT w v) := by
  obtain ⟨a, s, c, l, r, hf⟩ : ∃ a s c l r, findT x t = .node a x v s c l r := by
    rcases find_ok x t h.well.2.2.2 with ⟨a, v', s, c, l, r, h1, h2⟩ | ⟨h1, h2⟩
    · refine ⟨a, s, c, l, r, ?_⟩
      have : v' = v := by
        have hs := h.well.2.2.2
        rcases List.mem_iff_getElem.1 hx with ⟨i, hi, ei⟩
        rcases List.mem_iff_getElem.1 h2 with ⟨j, hj, ej⟩
        have key : ∀ i j (hi : i < (listT t).length) (hj : j < (listT t).length), i < j → ((listT t)[i]).1 ≠ ((listT t)[j]).1 := fun i j hi hj hij => lessK_ne (List.pairwise_iff_getElem.1 hs i j hi hj hij)
        rcases Nat.lt_trichotomy i j with h3 | h3 | h3
        · exact absurd (by rw [ei, ej]) (key i j hi hj h3)
        · subst h3
          have := ei.symm.trans ej
          exact (congrArg Prod.snd this).symm
        · exact absurd (by rw [ei, ej]) (key j i hj hi h3)
      rw [h1, this]
    · exact absurd rfl (h2 _ hx)
  have hin : ∀ {t : RB} {w : World}, RBAt w t → RBAt w (findT x t) := fun {t w} => by
    induction t with
    | nil => exact fun h => h
    | node a k v s c l r ihl ihr =>
      intro h
      unfold findT
      split
      · exact h
      · split
        · exact ihl h.2.1
        · exact ihr h.2.2
  have hb0 := (Below.refl w.heap.size w).alloc (Nat.le_refl _) (.cells #[.int .u64 x.1, .int .i64 x.2] 131)
  have hat := rbat_any g x _ t _ (h.tree.below hb0 h.tree.lt) (h.rb.later hb0)
  have hr := hin (h.rb.later hb0)
  unfold AtW at hat
  rw [hf] at hr hat
  have H := Lib.hid (And.intro hr hb0)
  clear h hf hin hr hb0
  have ev : ptrV (.node a x v s c l r) = .pointer (some ⟨a, 0, none⟩) := rfl
  rw [ev] at hat
  clear ev
  go_enter Tryz.func82, Tryz.ntmps82
  go_wp2_with fail
  refine hat.mono ?_
  clear hat
  rintro e w2 ⟨rfl, hb⟩
  have hr2 := H.out.1.later hb
  have a2 := hr2.1.cell 2
  unfold nodeC at a2
  simp only [List.getElem?_toArray, List.getElem?_cons_zero, List.getElem?_cons_succ] at a2
  have HB := Lib.hid (H.out.2.trans (hb.mono H.out.2.size))
  clear hr2 H hb
  go_wp2_with fail
  go_ret2
  exact ⟨rfl, HB.out⟩
theorem rblen_any (g : Nat) (t : RB) (w : World) (h : RbT w g t) :
    Calls Tryz.prog 85 #[.pointer (some ⟨g, 0, none⟩)] w fun e w' => e = .returned (.int .i64 (listT t).length) ∧ w = w' := by
  have c3 := h.tree.cell 3
  unfold treeC at c3
  simp only [List.getElem?_toArray, List.getElem?_cons_zero, List.getElem?_cons_succ] at c3
  have hn := none_any g _ _ w h.tree
  clear h
  go_enter Tryz.func85, Tryz.ntmps85
  go_wp2_with (go_at_call 88; refine hn.mono ?_; rintro e w1 ⟨rfl, rfl⟩)
  go_ret
  exact ⟨rfl, rfl⟩
end Go.Proofs.YtbnnkkojlclgjaaGreat
