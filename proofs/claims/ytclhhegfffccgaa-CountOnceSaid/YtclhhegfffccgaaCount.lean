/-
  The counters: what sum, the fields and bytes compute.
-/
import Derived.Test.YtclhhegfffccgaaReg
namespace Go.Proofs.Ytclhhegfffccgaa
set_option linter.unusedVariables false
open Go.RowKit

/-- a counter goes on: up to the cap, or down to 0 -/
def sumv (n : Int) (less : Bool) (x : Int) : Int := if less then n - min n x else n + min x (4611686018427387904 - n)
theorem sumv_range {n x : Int} (less : Bool) (h0 : 0 ≤ n) (h1 : n ≤ 4611686018427387904) (hx : 0 ≤ x) : 0 ≤ sumv n less x ∧ sumv n less x ≤ 4611686018427387904 := by
  unfold sumv; cases less <;> simp <;> omega

set_option maxHeartbeats 1000000 in
theorem sum_any (n x : Int) (less : Bool) (b off cap : Nat) (w : World) (h0 : 0 ≤ n) (h1 : n ≤ 4611686018427387904) (hx : 0 ≤ x) (hx2 : x < 18446744073709551616)
    (hc : w.cell? ⟨b, off, none⟩ = some (.int .u64 x)) :
    Calls Try.prog 63 #[.int .u64 n, .bool less, .slice (some ⟨b, off, none⟩) 1 cap] w fun e w' => e = .returned (.int .u64 (sumv n less x)) ∧ w = w' := by
  go_enter Try.func63, Try.ntmps63
  go_wp2
  go_loop [0, 8, 11] (fun m y i => ∃ k : Nat, k ≤ 1 ∧ i = .int .i64 k ∧ m = .int .u64 (if k = 0 then n else sumv n less x)) (fun _ _ i => 1 - (intOf i).toNat)
  case atStart => exact ⟨0, by omega, rfl, rfl⟩
  case round =>
    obtain ⟨k, hk, rfl, rfl⟩ := hrel
    by_cases h2 : k = 0
    · subst h2
      cases less
      · go_wp2
        go_round
        case rel => exact ⟨1, by omega, by go_num, val_int (by simp [sumv]; omega)⟩
        case measure => simp [intOf]
      · go_wp2
        go_round
        case rel => exact ⟨1, by omega, by go_num, val_int (by simp [sumv]; omega)⟩
        case measure => simp [intOf]
    · obtain rfl : k = 1 := by omega
      go_wp2
      go_ret
      exact ⟨rfl, rfl⟩

/-- the field functions: came, refused, sent, through, byReal, byShare, waiting, held -/
def fieldF : Nat → Nat
  | 0 => 32
  | 1 => 39
  | 2 => 47
  | 3 => 48
  | 4 => 45
  | 5 => 44
  | 6 => 33
  | _ => 34
theorem field_any (i : Nat) (hi : i < 8) (b : Nat) (w : World) (hb : ∃ v, w.cell? ⟨b, 0, none⟩ = some v) :
    Calls Try.prog (fieldF i) #[.pointer (some ⟨b, 0, none⟩)] w fun e w' => e = .returned (.pointer (some ⟨b, i, none⟩)) ∧ w = w' := by
  rcases (by omega : i = 0 ∨ i = 1 ∨ i = 2 ∨ i = 3 ∨ i = 4 ∨ i = 5 ∨ i = 6 ∨ i = 7) with rfl | rfl | rfl | rfl | rfl | rfl | rfl | rfl
  · go_enter Try.func32, Try.ntmps32
    go_wp2; go_ret; exact ⟨rfl, rfl⟩
  · go_enter Try.func39, Try.ntmps39
    go_wp2; go_ret; exact ⟨rfl, rfl⟩
  · go_enter Try.func47, Try.ntmps47
    go_wp2; go_ret; exact ⟨rfl, rfl⟩
  · go_enter Try.func48, Try.ntmps48
    go_wp2; go_ret; exact ⟨rfl, rfl⟩
  · go_enter Try.func45, Try.ntmps45
    go_wp2; go_ret; exact ⟨rfl, rfl⟩
  · go_enter Try.func44, Try.ntmps44
    go_wp2; go_ret; exact ⟨rfl, rfl⟩
  · go_enter Try.func33, Try.ntmps33
    go_wp2; go_ret; exact ⟨rfl, rfl⟩
  · go_enter Try.func34, Try.ntmps34
    go_wp2; go_ret; exact ⟨rfl, rfl⟩

theorem i64_wf {n : Int} (h : (Lit.int .i64 n).wf = true) : -9223372036854775808 ≤ n ∧ n ≤ 9223372036854775807 := by
  simp [Lit.wf, IntKind.min, IntKind.max, IntKind.signed, IntKind.bits] at h
  omega
theorem wf_i64 {n : Int} (h : -9223372036854775808 ≤ n) (h2 : n ≤ 9223372036854775807) : (Lit.int .i64 n).wf = true := by
  simp [Lit.wf, IntKind.min, IntKind.max, IntKind.signed, IntKind.bits]
  omega

/-- a packet's bytes -/
theorem bytes_any (i c n t : Int) (w : World) (hn : (Lit.int .i64 n).wf = true) :
    Calls Try.prog 35 #[.agg #[.int .u64 i, .int .i64 c, .int .i64 n, .int .u64 t]] w fun e w' => e = .returned (.int .u64 (max n 0)) ∧ Below w.heap.size w w' := by
  have hr := i64_wf hn
  go_enter Try.func35, Try.ntmps35
  go_wp2
  all_goals go_ret
  all_goals exact ⟨ret_int (by omega), by go_grown⟩
end Go.Proofs.Ytclhhegfffccgaa
