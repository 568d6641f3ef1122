/-
  One cell stored into the document's book of counters.
-/
import Derived.Test.YtclhhegfffccgaaCbTell
namespace Go.Proofs.Ytclhhegfffccgaa
set_option linter.unusedVariables false
open Go.RowKit Go.Maps

theorem raw_put1 {W : World} {p g cap j f n : Nat} {cur : Array Value} {B : Bk} {c : Int} {s : St} (x : Int) (h1 : Blk W p 63 #[.slice (some ⟨g, 0, none⟩) n cap]) (h2 : Blk W g 60 cur) (h3 : ClIn cur B) (hj : B[j]? = some (c, s)) (hf : f < 8) :
    Blk (W.setCell ⟨g, j * 9 + 1 + f, none⟩ (.int .u64 x)) p 63 #[.slice (some ⟨g, 0, none⟩) n cap] ∧
    Blk (W.setCell ⟨g, j * 9 + 1 + f, none⟩ (.int .u64 x)) g 60 (cur.setIfInBounds (j * 9 + 1 + f) (.int .u64 x)) ∧
    ClIn (cur.setIfInBounds (j * 9 + 1 + f) (.int .u64 x)) (B.set j (c, setS s f x)) ∧ (cur.setIfInBounds (j * 9 + 1 + f) (.int .u64 x)).size = cur.size := by
  have hne : p ≠ g := by
    rintro rfl
    have := h1.symm.trans h2
    simp at this
  have hjl := (List.getElem?_eq_some_iff.1 hj).1
  have hsz := h3.1
  refine ⟨h1.grown (grown_setC W g _ _) (by simpa using hne), h2.set_ _ _, h3.set hj (by simp) (fun m hm => ?_) (fun i hi => ?_), by simp⟩
  · rw [Array.getElem?_setIfInBounds, if_neg (by omega)]
  · rw [Array.getElem?_setIfInBounds]
    by_cases e : i = f
    · subst e
      rw [if_pos rfl, if_pos (by omega)]
      show _ = some (Value.int .u64 (if i = i then x else s i))
      rw [if_pos rfl]
    · rw [if_neg (by omega), (h3.2 j _ hj).2 i hi]
      show _ = some (Value.int .u64 (if i = f then x else s i))
      rw [if_neg e]
end Go.Proofs.Ytclhhegfffccgaa
