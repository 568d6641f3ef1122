/-
  The contracts of slices.Min over []uint64, of upper.Inner and of the reference's Inner.
-/
import Derived.Test.YtmmodhhheojkfaaProg
import Derived.WalkKit
import Derived.ProofKit
import Derived.OpenShut
import Derived.Deep.QuietTactic
import Derived.BigQuiet
import Derived.Lib.Hide
namespace Go.Proofs.Ytmmodhhheojkfaa.Inner
open Go.RowKit

def leastTo (zs : List Int) : Nat → Int
  | 0 => zs[0]?.getD 0
  | n + 1 => min (leastTo zs n) (zs[n + 1]?.getD 0)

theorem ret_int {k : IntKind} {a b : Int} (h : a = b) : Ending.returned (.int k a) = .returned (.int k b) := by rw [h]

theorem val_int {k : IntKind} {a b : Int} (h : a = b) : Value.int k a = .int k b := by rw [h]

theorem min_any (b off len cap : Nat) (zs : List Int) (w : World) (h1 : 1 ≤ len) (hbig : len ≤ 9223372036854775807)
    (hc : ∀ j, j < len → w.cell? ⟨b, off + j, none⟩ = some (.int .u64 (zs.getD j 0))) :
    Calls Try.prog 60 #[.slice (some ⟨b, off, none⟩) len cap] w fun e w' => e = .returned (.int .u64 (leastTo zs (len - 1))) ∧ w = w' := by
  have h0 : w.cell? ⟨b, off, none⟩ = some (.int .u64 (zs.getD 0 0)) := by have := hc 0 (by omega); simpa using this
  go_enter Try.func60, Try.ntmps60
  go_wp2
  go_loop [3, 4] (fun m i => ∃ k : Nat, k + 1 ≤ len ∧ i = .int .i64 (k + 1 : Nat) ∧ m = .int .u64 (leastTo zs k)) (fun _ i => len - (intOf i).toNat)
  case atStart => exact ⟨0, by omega, rfl, rfl⟩
  case round =>
    obtain ⟨k, hk, rfl, rfl⟩ := hrel
    by_cases hlt : k + 1 < len
    · have hcell : w.cell? ⟨b, off + (k + 1), none⟩ = some (.int .u64 (zs.getD (k + 1) 0)) := hc _ (by omega)
      go_wp2
      go_round
      case rel => exact ⟨k + 1, by omega, by go_num, val_int (by simp only [leastTo]; split <;> omega)⟩
      case measure => simp [intOf]; omega
    · go_wp2
      go_ret
      exact ⟨ret_int (by rw [show len - 1 = k by omega]), rfl⟩

/-- upper.Inner of nobody below. -/
theorem inner_none (o : Int) (a : Option Addr) (cap : Nat) (w : World) :
    Calls Try.prog 15 #[.int .u64 o, .slice a 0 cap] w fun e w' => e = .returned (.int .u64 9223372036854775808) ∧ w = w' := by
  go_enter Try.func15, Try.ntmps15
  go_wp2
  go_ret
  exact ⟨rfl, rfl⟩

theorem inner_some (o : Int) (b off len cap : Nat) (zs : List Int) (w : World) (h1 : 1 ≤ len) (hbig : len ≤ 9223372036854775807)
    (hc : ∀ j, j < len → w.cell? ⟨b, off + j, none⟩ = some (.int .u64 (zs.getD j 0))) :
    Calls Try.prog 15 #[.int .u64 o, .slice (some ⟨b, off, none⟩) len cap] w fun e w' => e = .returned (.int .u64 (max o (leastTo zs (len - 1)))) ∧ w = w' := by
  have HC := Lib.hid hc
  clear hc
  go_enter Try.func15, Try.ntmps15
  go_wp2_with (go_at_call 60; refine (min_any _ _ _ _ _ _ h1 hbig HC.out).mono ?_; rintro e w' ⟨rfl, rfl⟩)
  all_goals go_ret
  all_goals exact ⟨ret_int (by omega), rfl⟩

/-- the reference's. -/
theorem ref_none (o : Int) (a : Option Addr) (cap : Nat) (w : World) (ho : o ≤ 18446744073709551615) :
    Calls Try.prog 16 #[.int .u64 o, .slice a 0 cap] w fun e w' => e = .returned (.int .u64 9223372036854775808) ∧ w = w' := by
  go_enter Try.func16, Try.ntmps16
  go_wp2
  refine wp_loop_rounds 1 ?_
  rw [rounds_succ]
  go_wp2
  all_goals go_ret
  all_goals exact ⟨rfl, rfl⟩


/-- what the reference's loop has behind k rounds -/
def refTo (zs : List Int) (k : Nat) : Int := if k = 0 then 9223372036854775808 else leastTo zs (k - 1)
theorem refTo_succ (zs : List Int) (k : Nat) : refTo zs (k + 1) = leastTo zs k := by simp [refTo]
theorem refTo_pos (zs : List Int) (k : Nat) (h : 1 ≤ k) : refTo zs k = leastTo zs (k - 1) := by simp [refTo]; omega
theorem refTo_step1 (zs : List Int) (k : Nat) (h : ((k : Int) == 0) = true ∨ zs[k]?.getD 0 < refTo zs k) : zs[k]?.getD 0 = refTo zs (k + 1) := by
  rw [refTo_succ]
  cases k with
  | zero => rfl
  | succ k => simp only [refTo_succ] at h; simp only [leastTo]; rcases h with h | h; · simp at h; omega
              omega
theorem refTo_step0 (zs : List Int) (k : Nat) (h : ((k : Int) == 0) = false ∧ refTo zs k ≤ zs[k]?.getD 0) : refTo zs k = refTo zs (k + 1) := by
  rw [refTo_succ]
  cases k with
  | zero => simp at h
  | succ k => obtain ⟨_, h⟩ := h; simp only [refTo_succ] at h ⊢; simp only [leastTo]; omega

theorem ref_some (o : Int) (b off len cap : Nat) (zs : List Int) (w : World) (h1 : 1 ≤ len) (hbig : len ≤ 9223372036854775807)
    (hc : ∀ j, j < len → w.cell? ⟨b, off + j, none⟩ = some (.int .u64 (zs.getD j 0))) :
    Calls Try.prog 16 #[.int .u64 o, .slice (some ⟨b, off, none⟩) len cap] w fun e w' => e = .returned (.int .u64 (max o (leastTo zs (len - 1)))) ∧ w = w' := by
  have hl0 : ((len : Int) == 0) = false := by simp; omega
  go_enter Try.func16, Try.ntmps16
  go_wp2
  go_loop [5, 6] (fun m i => ∃ k : Nat, k ≤ len ∧ i = .int .i64 k ∧ m = .int .u64 (refTo zs k)) (fun _ i => len - (intOf i).toNat)
  case atStart => exact ⟨0, by omega, rfl, rfl⟩
  case round =>
    obtain ⟨k, hk, rfl, rfl⟩ := hrel
    by_cases hlt : k < len
    · have hcell : w.cell? ⟨b, off + k, none⟩ = some (.int .u64 (zs.getD k 0)) := hc _ (by omega)
      by_cases hk0 : k = 0
      · subst hk0
        have hcell0 : w.cell? ⟨b, off, none⟩ = some (.int .u64 (zs.getD 0 0)) := hcell
        go_wp2
        go_round
        case rel => exact ⟨1, by omega, by go_num, val_int (refTo_step1 zs 0 (.inl rfl))⟩
        case measure => simp [intOf]; omega
      · have hkb : ((k : Int) == 0) = false := by simp; omega
        go_wp2
        · go_round
          case rel => exact ⟨k + 1, by omega, by go_num, val_int (refTo_step1 zs k (.inr (by assumption)))⟩
          case measure => simp [intOf]; omega
        · go_round
          case rel => exact ⟨k + 1, by omega, by go_num, val_int (refTo_step0 zs k ⟨by assumption, by assumption⟩)⟩
          case measure => simp [intOf]; omega
    · obtain rfl : k = len := by omega
      have hr := refTo_pos zs k h1
      go_wp2
      all_goals go_ret
      all_goals exact ⟨ret_int (by omega), rfl⟩

end Go.Proofs.Ytmmodhhheojkfaa.Inner
