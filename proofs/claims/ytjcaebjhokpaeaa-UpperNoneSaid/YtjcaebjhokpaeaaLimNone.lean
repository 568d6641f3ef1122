/-
  A limit that nobody made, and one of no curve: their contracts, and the walk of the law UpperNone.
-/
import Derived.Test.YtjcaebjhokpaeaaReg
namespace Go.Proofs.Ytjcaebjhokpaeaa
open Go.RowKit

/-- what lies in a limit that holds nobody back -/
def Free (h : Value) : Prop := h = .nilIface ∨ h = .iface 109 (.agg #[])

/-- p leads to a limit that holds nobody back -/
def LNone (w : World) (p : Option Addr) : Prop := p = none ∨ ∃ g h, p = some ⟨g, 0, none⟩ ∧ Free h ∧ Blk w g 66 #[h]

theorem LNone.below {w w' : World} {p : Option Addr} (h : LNone w p) (hb : Below w.heap.size w w') : LNone w' p := by
  rcases h with rfl | ⟨g, v, rfl, hv, hg⟩
  · exact .inl rfl
  · exact .inr ⟨g, v, rfl, hv, hg.below hb hg.lt⟩

@[go_sem] theorem as_free_bound (v : Value) (W : World) : (Instr.typeAssert (.iface 109 v) 64 110 true).run Try.prog W = .ok (.tuple #[.agg #[.pointer none], .bool false]) W := by kernel_rfl
@[go_sem] theorem as_nil_bound (W : World) : (Instr.typeAssert .nilIface 64 110 true).run Try.prog W = .ok (.tuple #[.agg #[.pointer none], .bool false]) W := by kernel_rfl
@[go_sem] theorem as_free_free (v : Value) (W : World) : (Instr.typeAssert (.iface 109 v) 64 109 true).run Try.prog W = .ok (.tuple #[v, .bool true]) W := by kernel_rfl
@[go_sem] theorem as_nil_free (W : World) : (Instr.typeAssert .nilIface 64 109 true).run Try.prog W = .ok (.tuple #[.agg #[], .bool false]) W := by kernel_rfl

set_option maxRecDepth 20000 in
theorem lbound_none (p : Option Addr) (w : World) (h : LNone w p) :
    Calls Try.prog 68 #[.pointer p] w fun e w' => e = .returned (.pointer none) ∧ w = w' := by
  rcases h with rfl | ⟨g, v, rfl, hv, hg⟩
  · go_enter Try.func68, Try.ntmps68
    go_wp2
    go_ret
    exact ⟨rfl, rfl⟩
  · have c0 := hg.cell 0
    simp only [List.getElem?_toArray, List.getElem?_cons_zero, List.getElem?_cons_succ] at c0
    rcases hv with rfl | rfl
    all_goals
      go_enter Try.func68, Try.ntmps68
      go_wp2
      go_ret
      exact ⟨rfl, rfl⟩

theorem lwake_none (p : Option Addr) (now total : Int) (w : World) (h : LNone w p) :
    Calls Try.prog 34 #[.pointer p, .int .u64 now, .int .u64 total] w fun e w' => e = .returned (.tuple #[]) ∧ w = w' := by
  go_enter Try.func34, Try.ntmps34
  go_wp2_with (go_at_call 68; refine (lbound_none _ _ h).mono ?_; rintro e w' ⟨rfl, rfl⟩)
  go_returns
  exact ⟨rfl, rfl⟩

theorem lfit_none (p : Option Addr) (total : Int) (w : World) (h : LNone w p) :
    Calls Try.prog 35 #[.pointer p, .int .u64 total] w fun e w' => e = .returned (.int .u64 0) ∧ w = w' := by
  go_enter Try.func35, Try.ntmps35
  go_wp2_with (go_at_call 68; refine (lbound_none _ _ h).mono ?_; rintro e w' ⟨rfl, rfl⟩)
  go_ret
  exact ⟨rfl, rfl⟩

theorem lmost_none (p : Option Addr) (t : Int) (w : World) (h : LNone w p) :
    Calls Try.prog 36 #[.pointer p, .int .u64 t] w fun e w' => e = .returned (.int .u64 4611686018427387904) ∧ w = w' := by
  go_enter Try.func36, Try.ntmps36
  go_wp2_with (go_at_call 68; refine (lbound_none _ _ h).mono ?_; rintro e w' ⟨rfl, rfl⟩)
  go_ret
  exact ⟨rfl, rfl⟩

theorem none_zero (w : World) :
    Calls Try.prog 67 #[.agg #[.int .u64 0, .int .u64 0, .int .u64 0]] w fun e w' => e = .returned (.bool true) ∧ Below w.heap.size w w' := by
  go_enter Try.func67, Try.ntmps67
  go_wp2
  go_ret
  exact ⟨rfl, by go_grown⟩

theorem lnew_zero (w : World) :
    Calls Try.prog 33 #[.agg #[.int .u64 0, .int .u64 0, .int .u64 0]] w fun e w' => ∃ p, e = .returned (.pointer p) ∧ Below w.heap.size w w' ∧ LNone w' p := by
  go_enter Try.func33, Try.ntmps33
  go_wp2_with (go_at_call 67; refine (none_zero _).mono ?_; rintro e w1 ⟨rfl, hb1⟩)
  go_ret
  refine ⟨_, rfl, ?_, .inr ⟨_, _, rfl, .inr rfl, Blk.new _ _ _⟩⟩
  have h0 := ((Below.refl w.heap.size w).alloc (Nat.le_refl _) (.cells #[.int .u64 0, .int .u64 0, .int .u64 0] 24)).trans (hb1.mono (by simp))
  exact h0.alloc h0.size _

theorem lcopy_nil (w : World) :
    Calls Try.prog 40 #[.pointer none] w fun e w' => e = .returned (.pointer none) ∧ w = w' := by
  go_enter Try.func40, Try.ntmps40
  go_wp2
  go_ret
  exact ⟨rfl, rfl⟩

theorem lcopy_none (p : Option Addr) (w : World) (h : LNone w p) :
    Calls Try.prog 40 #[.pointer p] w fun e w' => ∃ q, e = .returned (.pointer q) ∧ Below w.heap.size w w' ∧ LNone w' q := by
  have h' := h
  rcases h with rfl | ⟨g, v, rfl, hv, hg⟩
  · refine (lcopy_nil w).mono ?_
    rintro e w' ⟨rfl, rfl⟩
    exact ⟨none, rfl, Below.refl _ _, .inl rfl⟩
  · have c0 := hg.cell 0
    simp only [List.getElem?_toArray, List.getElem?_cons_zero, List.getElem?_cons_succ] at c0
    rcases hv with rfl | rfl
    all_goals
      go_enter Try.func40, Try.ntmps40
      go_wp2_with (go_at_call 68; refine (lbound_none _ _ h').mono ?_; rintro e w' ⟨rfl, rfl⟩)
      go_ret
    · exact ⟨_, rfl, by go_grown, .inr ⟨_, _, rfl, .inl rfl, Blk.new _ _ _⟩⟩
    · exact ⟨_, rfl, by go_grown, .inr ⟨_, _, rfl, .inr rfl, Blk.new _ _ _⟩⟩

def UN (w W : World) (S : Nat) (p1 p2 p3 p4 : Option Addr) : Prop :=
  Blk W S 51 #[.pointer none, .pointer p1, .pointer p2, .pointer p3, .pointer p4] ∧ LNone W p1 ∧ LNone W p2 ∧ LNone W p3 ∧ LNone W p4 ∧ Below w.heap.size w W

theorem LNone.fresh (w : World) : LNone (w.alloc (.cells #[.nilIface] 66)) (some ⟨w.heap.size, 0, none⟩) := .inr ⟨_, _, rfl, .inl rfl, Blk.new _ _ _⟩

set_option maxRecDepth 100000 in
set_option maxHeartbeats 1000000 in
/-- the law -/
theorem upper_none_walk (now total t more : Int) (w : World) :
    Calls Try.prog 12 #[.int .u64 now, .int .u64 total, .int .u64 t, .int .u64 more] w fun e w' => e = .returned (.bool true) ∧ Below w.heap.size w w' := by
  have hA0 := LNone.fresh w
  have hbA : Below w.heap.size w (w.alloc (.cells #[.nilIface] 66)) := (Below.refl _ _).alloc (Nat.le_refl _) _
  go_enter Try.func12, Try.ntmps12
  go_wp2_with (first
    | (go_at_call 33; refine (lnew_zero _).mono ?_; rintro e w1 ⟨p1, rfl, hb1, hp1⟩; have hA1 := hA0.below hb1; have hW1 := hbA.trans (hb1.mono (by simp)); clear hA0)
    | (go_at_call 33; refine (lnew_zero _).mono ?_; rintro e w2 ⟨p2, rfl, hb2, hp2⟩; have hA2 := hA1.below hb2; have hp1' := hp1.below hb2; have hW2 := hW1.trans (hb2.mono hW1.size))
    | (go_at_call 40; refine (lcopy_none _ _ hp2).mono ?_; rintro e w3 ⟨p3, rfl, hb3, hp3⟩; have hA3 := hA2.below hb3; have hp1'' := hp1'.below hb3; have hW3 := hW2.trans (hb3.mono hW2.size); clear hp2)
    | (go_at_call 40; refine (lcopy_none _ _ (LNone.fresh w3)).mono ?_; rintro e w4 ⟨p4, rfl, hb4, hp4⟩))
  have hb34 : Below w3.heap.size w3 w4 := ((Below.refl w3.heap.size w3).alloc (Nat.le_refl _) (.cells #[.nilIface] 66)).trans (hb4.mono (by simp))
  have hW4 := hW3.trans (hb34.mono hW3.size)
  have hU : UN w (w4.alloc (.cells #[.pointer none, .pointer (some ⟨w.heap.size, 0, none⟩), .pointer p1, .pointer p3, .pointer p4] 51)) w4.heap.size (some ⟨w.heap.size, 0, none⟩) p1 p3 p4 := by
    have hal := (Below.refl w4.heap.size w4).alloc (Nat.le_refl _) (.cells #[.pointer none, .pointer (some ⟨w.heap.size, 0, none⟩), .pointer p1, .pointer p3, .pointer p4] 51)
    exact ⟨Blk.new _ _ _, (hA3.below hb34).below hal, (hp1''.below hb34).below hal, (hp3.below hb34).below hal, hp4.below hal, hW4.trans (hal.mono hW4.size)⟩
  have HU := Lib.hid hU
  clear hU hA3 hp1'' hp3 hp4 hW4 hb34 hW3 hb4 hb3 hW2 hp1' hA2 hb2 hW1 hA1 hb1 hp1 hbA
  go_loopw [11] (fun i W => ∃ k : Nat, k ≤ 5 ∧ i = .int .i64 k ∧ UN w W w4.heap.size (some ⟨w.heap.size, 0, none⟩) p1 p3 p4) (fun i _ => 5 - (intOf i).toNat)
  case atStart => exact ⟨0, by omega, rfl, HU.out⟩
  case round =>
    clear HU
    obtain ⟨k, hk, rfl, hs⟩ := hrel
    generalize w4.heap.size = S at *
    have hS := hs.1.lt
    have s0 := hs.1.cell 0; have s1 := hs.1.cell 1; have s2 := hs.1.cell 2; have s3 := hs.1.cell 3; have s4 := hs.1.cell 4
    simp only [List.getElem?_toArray, List.getElem?_cons_zero, List.getElem?_cons_succ] at s0 s1 s2 s3 s4
    by_cases h5 : k = 5
    · subst h5
      go_wp2_with (go_at_call 40; refine (lcopy_nil _).mono ?_; rintro e w' ⟨rfl, rfl⟩)
      go_ret
      exact ⟨rfl, hs.2.2.2.2.2⟩
    · have hc : ∃ p, LNone wr p ∧ ((k = 0 ∧ p = none) ∨ (k = 1 ∧ p = some ⟨w.heap.size, 0, none⟩) ∨ (k = 2 ∧ p = p1) ∨ (k = 3 ∧ p = p3) ∨ (k = 4 ∧ p = p4)) := by
        have : k = 0 ∨ k = 1 ∨ k = 2 ∨ k = 3 ∨ k = 4 := by omega
        rcases this with rfl | rfl | rfl | rfl | rfl
        · exact ⟨none, .inl rfl, by simp⟩
        · exact ⟨_, hs.2.1, by simp⟩
        · exact ⟨_, hs.2.2.1, by simp⟩
        · exact ⟨_, hs.2.2.2.1, by simp⟩
        · exact ⟨_, hs.2.2.2.2.1, by simp⟩
      obtain ⟨p, hno, hc⟩ := hc
      have HS := Lib.hid hs; clear hs
      rcases hc with ⟨rfl, rfl⟩ | ⟨rfl, rfl⟩ | ⟨rfl, rfl⟩ | ⟨rfl, rfl⟩ | ⟨rfl, rfl⟩
      all_goals
        go_wp2_with (first
          | (go_at_call 34; refine (lwake_none _ _ _ _ hno).mono ?_; rintro e w' ⟨rfl, rfl⟩)
          | (go_at_call 35; refine (lfit_none _ _ _ hno).mono ?_; rintro e w' ⟨rfl, rfl⟩)
          | (go_at_call 36; refine (lmost_none _ _ _ hno).mono ?_; rintro e w' ⟨rfl, rfl⟩))
        go_roundw
        case rel => first | exact ⟨1, by omega, by go_num, HS.out⟩ | exact ⟨2, by omega, by go_num, HS.out⟩ | exact ⟨3, by omega, by go_num, HS.out⟩ | exact ⟨4, by omega, by go_num, HS.out⟩ | exact ⟨5, by omega, by go_num, HS.out⟩
        case measure => simp [intOf]

end Go.Proofs.Ytjcaebjhokpaeaa
