/-
  A debt that nobody made: its contracts, and the walk of the law RealNil.
-/
import Derived.Test.YtjcaebjhokpaeaaReg
namespace Go.Proofs.Ytjcaebjhokpaeaa
open Go.RowKit

abbrev zeroDebt : Array Value := #[.pointer none, .int .u64 0, .bool false, .int .u64 0, .int .u64 0]

/-- p leads to a debt that nobody made -/
def DNone (w : World) (p : Option Addr) : Prop := p = none ∨ ∃ g, p = some ⟨g, 0, none⟩ ∧ Blk w g 73 zeroDebt

theorem dnone_yes (p : Option Addr) (w : World) (h : DNone w p) :
    Calls Try.prog 71 #[.pointer p] w fun e w' => e = .returned (.bool true) ∧ w = w' := by
  rcases h with rfl | ⟨g, rfl, hg⟩
  · go_enter Try.func71, Try.ntmps71
    go_wp2
    go_ret
    exact ⟨rfl, rfl⟩
  · have c0 := hg.cell 0
    simp only [List.getElem?_toArray, List.getElem?_cons_zero, List.getElem?_cons_succ] at c0
    go_enter Try.func71, Try.ntmps71
    go_wp2
    go_ret
    exact ⟨rfl, rfl⟩

theorem dawake_none (p : Option Addr) (w : World) (h : DNone w p) :
    Calls Try.prog 45 #[.pointer p] w fun e w' => e = .returned (.bool false) ∧ w = w' := by
  go_enter Try.func45, Try.ntmps45
  go_wp2_with (go_at_call 71; refine (dnone_yes _ _ h).mono ?_; rintro e w' ⟨rfl, rfl⟩)
  go_ret
  exact ⟨rfl, rfl⟩

theorem dwake_none (p : Option Addr) (now length : Int) (w : World) (h : DNone w p) :
    Calls Try.prog 43 #[.pointer p, .int .u64 now, .int .i64 length] w fun e w' => e = .returned (.tuple #[]) ∧ w = w' := by
  go_enter Try.func43, Try.ntmps43
  go_wp2_with (go_at_call 71; refine (dnone_yes _ _ h).mono ?_; rintro e w' ⟨rfl, rfl⟩)
  go_returns
  exact ⟨rfl, rfl⟩

theorem dserve_none (p : Option Addr) (rule length next : Int) (w : World) (h : DNone w p) :
    Calls Try.prog 44 #[.pointer p, .int .u8 rule, .int .i64 length, .int .i64 next] w fun e w' => e = .returned (.tuple #[]) ∧ w = w' := by
  go_enter Try.func44, Try.ntmps44
  go_wp2_with (go_at_call 45; refine (dawake_none _ _ h).mono ?_; rintro e w' ⟨rfl, rfl⟩)
  go_returns
  exact ⟨rfl, rfl⟩

theorem deligible_none (p : Option Addr) (w : World) (h : DNone w p) :
    Calls Try.prog 46 #[.pointer p] w fun e w' => e = .returned (.int .u64 9223372036854775808) ∧ w = w' := by
  go_enter Try.func46, Try.ntmps46
  go_wp2_with (go_at_call 45; refine (dawake_none _ _ h).mono ?_; rintro e w' ⟨rfl, rfl⟩)
  go_ret
  exact ⟨rfl, rfl⟩

theorem ddue_none (p : Option Addr) (w : World) (h : DNone w p) :
    Calls Try.prog 47 #[.pointer p] w fun e w' => e = .returned (.int .u64 9223372036854775808) ∧ w = w' := by
  go_enter Try.func47, Try.ntmps47
  go_wp2_with (go_at_call 45; refine (dawake_none _ _ h).mono ?_; rintro e w' ⟨rfl, rfl⟩)
  go_ret
  exact ⟨rfl, rfl⟩

theorem dgot_none (p : Option Addr) (w : World) (h : DNone w p) :
    Calls Try.prog 48 #[.pointer p] w fun e w' => e = .returned (.int .u64 0) ∧ w = w' := by
  go_enter Try.func48, Try.ntmps48
  go_wp2_with (go_at_call 71; refine (dnone_yes _ _ h).mono ?_; rintro e w' ⟨rfl, rfl⟩)
  go_ret
  exact ⟨rfl, rfl⟩

theorem dowes_none (p : Option Addr) (t : Int) (w : World) (h : DNone w p) :
    Calls Try.prog 49 #[.pointer p, .int .u64 t] w fun e w' => e = .returned (.int .u64 0) ∧ w = w' := by
  go_enter Try.func49, Try.ntmps49
  go_wp2_with (go_at_call 71; refine (dnone_yes _ _ h).mono ?_; rintro e w' ⟨rfl, rfl⟩)
  go_ret
  exact ⟨rfl, rfl⟩

theorem dcopy_nil (w : World) :
    Calls Try.prog 50 #[.pointer none] w fun e w' => e = .returned (.pointer none) ∧ w = w' := by
  go_enter Try.func50, Try.ntmps50
  go_wp2
  go_ret
  exact ⟨rfl, rfl⟩

def DN (w W : World) : Prop :=
  Blk W w.heap.size 73 zeroDebt ∧
  Blk W (w.heap.size + 1) 69 #[.pointer none, .pointer (some ⟨w.heap.size, 0, none⟩)] ∧ Below w.heap.size w W

set_option maxRecDepth 100000 in
set_option maxHeartbeats 1000000 in
/-- the law -/
theorem real_nil_walk (now length rule : Int) (w : World) :
    Calls Try.prog 13 #[.int .u64 now, .int .i64 length, .int .u8 rule] w fun e w' => e = .returned (.bool true) ∧ Below w.heap.size w w' := by
  go_enter Try.func13, Try.ntmps13
  go_wp2
  go_loopw [9] (fun i W => ∃ k : Nat, k ≤ 2 ∧ i = .int .i64 k ∧ DN w W) (fun i _ => 2 - (intOf i).toNat)
  case atStart =>
    refine ⟨0, by omega, rfl, ?_, ?_, ?_⟩
    · exact (Blk.new w 73 zeroDebt).alloc (.cells #[.pointer none, .pointer (some ⟨w.heap.size, 0, none⟩)] 69)
    · have h := Blk.new (w.alloc (.cells zeroDebt 73)) 69 #[.pointer none, .pointer (some ⟨w.heap.size, 0, none⟩)]
      simpa using h
    · go_grown
  case round =>
    obtain ⟨k, hk, rfl, hs⟩ := hrel
    have s0 := hs.2.1.cell 0
    have s1 := hs.2.1.cell 1
    simp only [List.getElem?_toArray, List.getElem?_cons_zero, List.getElem?_cons_succ] at s0 s1
    have hS := hs.2.1.lt
    by_cases h2 : k = 2
    · subst h2
      go_wp2_with (go_at_call 50; refine (dcopy_nil _).mono ?_; rintro e w' ⟨rfl, rfl⟩)
      go_ret
      exact ⟨rfl, hs.2.2⟩
    · by_cases h1 : k = 1
      · subst h1
        have hno : DNone wr (some ⟨w.heap.size, 0, none⟩) := .inr ⟨_, rfl, hs.1⟩
        have HS := Lib.hid hs; clear hs
        go_wp2_with (first
          | (go_at_call 43; refine (dwake_none _ _ _ _ hno).mono ?_; rintro e w' ⟨rfl, rfl⟩)
          | (go_at_call 44; refine (dserve_none _ _ _ _ _ hno).mono ?_; rintro e w' ⟨rfl, rfl⟩)
          | (go_at_call 45; refine (dawake_none _ _ hno).mono ?_; rintro e w' ⟨rfl, rfl⟩)
          | (go_at_call 46; refine (deligible_none _ _ hno).mono ?_; rintro e w' ⟨rfl, rfl⟩)
          | (go_at_call 47; refine (ddue_none _ _ hno).mono ?_; rintro e w' ⟨rfl, rfl⟩)
          | (go_at_call 48; refine (dgot_none _ _ hno).mono ?_; rintro e w' ⟨rfl, rfl⟩)
          | (go_at_call 49; refine (dowes_none _ _ _ hno).mono ?_; rintro e w' ⟨rfl, rfl⟩))
        go_roundw
        case rel => exact ⟨2, by omega, by go_num, HS.out⟩
        case measure => simp [intOf]
      · obtain rfl : k = 0 := by omega
        have hno : DNone wr none := Or.inl rfl
        have HS := Lib.hid hs; clear hs
        go_wp2_with (first
          | (go_at_call 43; refine (dwake_none _ _ _ _ hno).mono ?_; rintro e w' ⟨rfl, rfl⟩)
          | (go_at_call 44; refine (dserve_none _ _ _ _ _ hno).mono ?_; rintro e w' ⟨rfl, rfl⟩)
          | (go_at_call 45; refine (dawake_none _ _ hno).mono ?_; rintro e w' ⟨rfl, rfl⟩)
          | (go_at_call 46; refine (deligible_none _ _ hno).mono ?_; rintro e w' ⟨rfl, rfl⟩)
          | (go_at_call 47; refine (ddue_none _ _ hno).mono ?_; rintro e w' ⟨rfl, rfl⟩)
          | (go_at_call 48; refine (dgot_none _ _ hno).mono ?_; rintro e w' ⟨rfl, rfl⟩)
          | (go_at_call 49; refine (dowes_none _ _ _ hno).mono ?_; rintro e w' ⟨rfl, rfl⟩))
        go_roundw
        case rel => exact ⟨1, by omega, by go_num, HS.out⟩
        case measure => simp [intOf]

end Go.Proofs.Ytjcaebjhokpaeaa
