/-
  A box of Stats stored over a class of the document's book.
-/
import Derived.Test.YtclhhegfffccgaaCbTell
namespace Go.Proofs.Ytclhhegfffccgaa
set_option linter.unusedVariables false
open Go.RowKit Go.Maps

def set8 (W : World) (g o : Nat) (s : St) : World := (((((((W.setCell ⟨g, o, none⟩ (.int .u64 (s 0))).setCell ⟨g, o + 1, none⟩ (.int .u64 (s 1))).setCell ⟨g, o + 2, none⟩ (.int .u64 (s 2))).setCell ⟨g, o + 3, none⟩ (.int .u64 (s 3))).setCell ⟨g, o + 4, none⟩ (.int .u64 (s 4))).setCell ⟨g, o + 5, none⟩ (.int .u64 (s 5))).setCell ⟨g, o + 6, none⟩ (.int .u64 (s 6))).setCell ⟨g, o + 7, none⟩ (.int .u64 (s 7))
theorem set8_other {W : World} {g o : Nat} {s : St} {b : Nat} {t : TypeId} {cs : Array Value} (k : Blk W b t cs) (hne : b ≠ g) : Blk (set8 W g o s) b t cs := by
  unfold set8
  iterate 8 refine Blk.grown ?_ (grown_setC _ _ _ _) (by simpa using hne)
  exact k
theorem set8_below {base : Nat} {W0 W : World} {g o : Nat} {s : St} (h : Below base W0 W) (hg : base ≤ g) : Below base W0 (set8 W g o s) := by
  unfold set8
  exact (((((((h.setCell (p := ⟨g, o, none⟩) hg _).setCell (p := ⟨g, o + 1, none⟩) hg _).setCell (p := ⟨g, o + 2, none⟩) hg _).setCell (p := ⟨g, o + 3, none⟩) hg _).setCell (p := ⟨g, o + 4, none⟩) hg _).setCell (p := ⟨g, o + 5, none⟩) hg _).setCell (p := ⟨g, o + 6, none⟩) hg _).setCell (p := ⟨g, o + 7, none⟩) hg _
def arr8 (cs : Array Value) (o : Nat) (s : St) : Array Value := (((((((cs.setIfInBounds o (.int .u64 (s 0))).setIfInBounds (o + 1) (.int .u64 (s 1))).setIfInBounds (o + 2) (.int .u64 (s 2))).setIfInBounds (o + 3) (.int .u64 (s 3))).setIfInBounds (o + 4) (.int .u64 (s 4))).setIfInBounds (o + 5) (.int .u64 (s 5))).setIfInBounds (o + 6) (.int .u64 (s 6))).setIfInBounds (o + 7) (.int .u64 (s 7))
theorem set8_self {W : World} {g o : Nat} {s : St} {t : TypeId} {cs : Array Value} (k : Blk W g t cs) : Blk (set8 W g o s) g t (arr8 cs o s) :=
  (((((((k.set_ o _).set_ (o + 1) _).set_ (o + 2) _).set_ (o + 3) _).set_ (o + 4) _).set_ (o + 5) _).set_ (o + 6) _).set_ (o + 7) _
theorem arr8_size (cs : Array Value) (o : Nat) (s : St) : (arr8 cs o s).size = cs.size := by simp [arr8]
theorem arr8_out (cs : Array Value) (o : Nat) (s : St) (m : Nat) (h : m < o ∨ o + 8 ≤ m) : (arr8 cs o s)[m]? = cs[m]? := by
  unfold arr8
  iterate 8 rw [Array.getElem?_setIfInBounds, if_neg (by omega)]
theorem arr8_in (cs : Array Value) (o : Nat) (s : St) (h : o + 8 ≤ cs.size) : ∀ f, f < 8 → (arr8 cs o s)[o + f]? = some (.int .u64 (s f)) := by
  intro f hf
  unfold arr8
  rcases (show f = 0 ∨ f = 1 ∨ f = 2 ∨ f = 3 ∨ f = 4 ∨ f = 5 ∨ f = 6 ∨ f = 7 by omega) with rfl | rfl | rfl | rfl | rfl | rfl | rfl | rfl <;>
    (repeat (rw [Array.getElem?_setIfInBounds, if_neg (by omega)])) <;> (rw [Array.getElem?_setIfInBounds, if_pos (by omega), if_pos (by (try simp only [Array.size_setIfInBounds]); omega)])
theorem CbAt.put8 {W : World} {base p g cap j : Nat} {cur : Array Value} {B : Bk} {c : Int} {s s' : St} (h1 : Blk W p 63 #[.slice (some ⟨g, 0, none⟩) B.length cap]) (h2 : Blk W g 60 cur) (h3 : ClIn cur B) (h4 : B.length ≤ cap) (h5 : cur.size = cap * 9) (h6 : cap ≤ maxLen) (h7 : base ≤ g) (hpb : base ≤ p) (hok : OkB B) (hj : B[j]? = some (c, s)) (hs : OkS s') : CbAt (set8 W g (j * 9 + 1) s') base p (B.set j (c, s')) := by
  have hne : p ≠ g := by
    rintro rfl
    have := h1.symm.trans h2
    simp at this
  have hjl := (List.getElem?_eq_some_iff.1 hj).1
  have hsz := h3.1
  exact CbAt.put (W := W) (set8_other h1 hne) (set8_self h2) h3 h4 h5 h6 h7 hpb hok hj hs (arr8_size _ _ _) (fun m hm => arr8_out _ _ _ _ (by omega)) (arr8_in _ _ _ (by omega))
end Go.Proofs.Ytclhhegfffccgaa
