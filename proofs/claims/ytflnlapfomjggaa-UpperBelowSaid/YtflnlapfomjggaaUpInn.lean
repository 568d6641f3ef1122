/-
  The contracts of slices.Min over []uint64 and of upper.Inner.
-/
import Derived.Test.YtflnlapfomjggaaProg
import Derived.WalkKit
import Derived.ProofKit
import Derived.OpenShut
import Derived.Deep.QuietTactic
import Derived.BigQuiet
import Derived.Lib.Hide
namespace Go.Proofs.Ytflnlapfomjggaa
set_option linter.unusedVariables false
open Go.RowKit

def leastTo (zs : List Int) : Nat → Int
  | 0 => zs[0]?.getD 0
  | n + 1 => min (leastTo zs n) (zs[n + 1]?.getD 0)

theorem ret_int {k : IntKind} {a b : Int} (h : a = b) : Ending.returned (.int k a) = .returned (.int k b) := by rw [h]

theorem val_int {k : IntKind} {a b : Int} (h : a = b) : Value.int k a = .int k b := by rw [h]

theorem min_any (b off len cap : Nat) (zs : List Int) (w : World) (h1 : 1 ≤ len) (hbig : len ≤ 9223372036854775807)
    (hc : ∀ j, j < len → w.cell? ⟨b, off + j, none⟩ = some (.int .u64 (zs.getD j 0))) :
    Calls Try.prog 63 #[.slice (some ⟨b, off, none⟩) len cap] w fun e w' => e = .returned (.int .u64 (leastTo zs (len - 1))) ∧ w = w' := by
  have h0 : w.cell? ⟨b, off, none⟩ = some (.int .u64 (zs.getD 0 0)) := by have := hc 0 (by omega); simpa using this
  go_enter Try.func63, Try.ntmps63
  go_wp2
  go_loop [3, 4] (fun m i => ∃ k : Nat, k + 1 ≤ len ∧ i = .int .i64 (k + 1 : Nat) ∧ m = .int .u64 (leastTo zs k)) (fun _ i => len - (intOf i).toNat)
  case atStart => exact ⟨0, by omega, rfl, rfl⟩
  case round =>
    obtain ⟨k, hk, rfl, rfl⟩ := hrel
    by_cases hlt : k + 1 < len
    · have hcell : w.cell? ⟨b, off + (k + 1), none⟩ = some (.int .u64 (zs.getD (k + 1) 0)) := hc _ (by omega)
      go_wp2
      go_round
      case rel => exact ⟨k + 1, by omega, by go_num, val_int (by simp only [leastTo]; split <;> omega)⟩
      case measure => simp [intOf]; omega
    · go_wp2
      go_ret
      exact ⟨ret_int (by rw [show len - 1 = k by omega]), rfl⟩

/-- upper.Inner of nobody below. -/
theorem inner_none (o : Int) (a : Option Addr) (cap : Nat) (w : World) :
    Calls Try.prog 35 #[.int .u64 o, .slice a 0 cap] w fun e w' => e = .returned (.int .u64 9223372036854775808) ∧ w = w' := by
  go_enter Try.func35, Try.ntmps35
  go_wp2
  go_ret
  exact ⟨rfl, rfl⟩

theorem inner_some (o : Int) (b off len cap : Nat) (zs : List Int) (w : World) (h1 : 1 ≤ len) (hbig : len ≤ 9223372036854775807)
    (hc : ∀ j, j < len → w.cell? ⟨b, off + j, none⟩ = some (.int .u64 (zs.getD j 0))) :
    Calls Try.prog 35 #[.int .u64 o, .slice (some ⟨b, off, none⟩) len cap] w fun e w' => e = .returned (.int .u64 (max o (leastTo zs (len - 1)))) ∧ w = w' := by
  have HC := Lib.hid hc
  clear hc
  go_enter Try.func35, Try.ntmps35
  go_wp2_with (go_at_call 63; refine (min_any _ _ _ _ _ _ h1 hbig HC.out).mono ?_; rintro e w' ⟨rfl, rfl⟩)
  all_goals go_ret
  all_goals exact ⟨ret_int (by omega), rfl⟩

end Go.Proofs.Ytflnlapfomjggaa
