/-
  The document's book of counters: New.
-/
import Derived.Test.YtclhhegfffccgaaCbStore
namespace Go.Proofs.Ytclhhegfffccgaa
set_option linter.unusedVariables false
open Go.RowKit Go.Maps

theorem ok_new : OkB [(0, st0)] := by
  intro q hq
  simp only [List.mem_singleton] at hq
  subst hq
  intro f
  simp [st0]
set_option maxRecDepth 100000 in
set_option maxHeartbeats 2000000 in
theorem rnew_any (w : World) : Calls Try.prog 7 #[] w fun e w' => ∃ p, e = .returned (.pointer (some ⟨p, 0, none⟩)) ∧ CbAt w' w.heap.size p [(0, st0)] ∧ Below w.heap.size w w' := by
  go_enter Try.func7, Try.ntmps7
  go_wp2
  go_ret
  have b1 := (Below.refl w.heap.size w).alloc (Nat.le_refl _) (.cells #[.int .i64 0, .int .u64 0, .int .u64 0, .int .u64 0, .int .u64 0, .int .u64 0, .int .u64 0, .int .u64 0, .int .u64 0] 60)
  have k1 := Blk.new w 60 #[.int .i64 0, .int .u64 0, .int .u64 0, .int .u64 0, .int .u64 0, .int .u64 0, .int .u64 0, .int .u64 0, .int .u64 0]
  generalize hw1 : w.alloc (.cells #[.int .i64 0, .int .u64 0, .int .u64 0, .int .u64 0, .int .u64 0, .int .u64 0, .int .u64 0, .int .u64 0, .int .u64 0] 60) = w1 at b1 k1 ⊢
  have b2 := (Below.refl w1.heap.size w1).alloc (Nat.le_refl _) (.cells #[.slice (some ⟨w.heap.size, 0, none⟩) 1 1] 63)
  have k2 := Blk.new w1 63 #[.slice (some ⟨w.heap.size, 0, none⟩) 1 1]
  have hs : w1.heap.size = w.heap.size + 1 := by rw [← hw1]; exact Array.size_push _
  rw [hs] at k2
  refine ⟨w.heap.size + 1, rfl, ⟨⟨w.heap.size, 1, _, k2, k1.below b2 k1.lt, ⟨by simp, ?_⟩, by simp, by simp, by simp [maxLen], Nat.le_refl _⟩, by omega, ok_new⟩, b1.trans (b2.mono b1.size)⟩
  intro i q hq
  match i with
  | 0 =>
    simp only [List.getElem?_cons_zero, Option.some.injEq] at hq
    subst hq
    refine ⟨rfl, fun f hf => ?_⟩
    rcases (show f = 0 ∨ f = 1 ∨ f = 2 ∨ f = 3 ∨ f = 4 ∨ f = 5 ∨ f = 6 ∨ f = 7 by omega) with rfl | rfl | rfl | rfl | rfl | rfl | rfl | rfl <;> rfl
  | i + 1 => simp at hq
end Go.Proofs.Ytclhhegfffccgaa
