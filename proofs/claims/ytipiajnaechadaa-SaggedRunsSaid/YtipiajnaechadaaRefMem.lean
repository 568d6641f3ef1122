/-
  The document's copies in memory: two rows of numbers beside a curve.
-/
import Derived.Test.YtipiajnaechadaaRefPlain
import Derived.Test.YtipiajnaechadaaRefWide
import Derived.Test.YtipiajnaechadaaRunStarted
namespace Go.Proofs.Ytipiajnaechadaa
set_option linter.unusedVariables false
open Go.RowKit

/-- v holds the numbers xs, in memory from block base on -/
def RowU (w : World) (base : Nat) (v : Value) (xs : List Int) : Prop := w.ownsRow base 22 1 v xs.length (xs.map (Value.int .u64))
theorem RowU.below {w w' : World} {base : Nat} {v : Value} {xs : List Int} (h : RowU w base v xs) (hb : Below w.heap.size w w') : RowU w' base v xs :=
  h.kept (Below.grownNone hb) (Classical.em _)
theorem RowU.open_ {w : World} {base : Nat} {v : Value} {xs : List Int} (h : RowU w base v xs) (hne : xs ≠ []) :
    ∃ b cap, v = .slice (some ⟨b, 0, none⟩) xs.length cap ∧ base ≤ b ∧ b < w.heap.size ∧ xs.length ≤ cap ∧ ∀ j x, xs[j]? = some x → w.cell? ⟨b, j, none⟩ = some (.int .u64 x) := by
  have h' := h
  obtain ⟨hl, (⟨_, h0⟩ | ⟨b, cap, cur, hv, hb, hblk, hn, hc, hs, ht⟩)⟩ := h
  · exact absurd (List.length_eq_zero_iff.1 h0) hne
  · subst hv
    refine ⟨b, cap, rfl, hb, (Array.getElem?_eq_some_iff.1 hblk).1, hn, fun j x hj => ?_⟩
    have hjl : j < xs.length := (List.getElem?_eq_some_iff.1 hj).1
    have h1 := h'.cellAt j (by omega)
    rw [List.getElem?_map, hj] at h1
    exact h1

/-- the document's copies of the curve F, L, R: A, at block c -/
def CopiesAt (w : World) (c base : Nat) (F L R : Int) (A : List (Int × Int)) : Prop :=
  ∃ vx vy, Blk w c 77 #[.int .u64 F, .int .u64 L, .int .u64 R, vx, vy] ∧ RowU w base vx (A.map (·.1)) ∧ RowU w base vy (A.map (·.2))
theorem CopiesAt.below {w w' : World} {c base : Nat} {F L R : Int} {A : List (Int × Int)} (h : CopiesAt w c base F L R A) (hb : Below w.heap.size w w') : CopiesAt w' c base F L R A := by
  obtain ⟨vx, vy, h1, h2, h3⟩ := h
  exact ⟨vx, vy, h1.below hb h1.lt, h2.below hb, h3.below hb⟩

end Go.Proofs.Ytipiajnaechadaa
