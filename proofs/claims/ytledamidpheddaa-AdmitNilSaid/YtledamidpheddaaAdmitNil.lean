/-
  A book of admission that nobody made: its contracts, and the walk of the law AdmitNil.
-/
import Derived.Test.YtledamidpheddaaReg
namespace Go.Proofs.Ytledamidpheddaa
open Go.RowKit

abbrev zeroBook : Array Value := #[.int .u64 0, .map none, .slice none 0 0]

/-- p leads to a book that nobody made -/
def BNone (w : World) (p : Option Addr) : Prop := p = none ∨ ∃ g, p = some ⟨g, 0, none⟩ ∧ Blk w g 48 zeroBook

theorem BNone.below {w w' : World} {p : Option Addr} (h : BNone w p) (hb : Below w.heap.size w w') : BNone w' p := by
  rcases h with rfl | ⟨g, rfl, hg⟩
  · exact .inl rfl
  · exact .inr ⟨g, rfl, hg.below hb hg.lt⟩

theorem bnone_yes (p : Option Addr) (w : World) (h : BNone w p) :
    Calls Try.prog 82 #[.pointer p] w fun e w' => e = .returned (.bool true) ∧ w = w' := by
  rcases h with rfl | ⟨g, rfl, hg⟩
  · go_enter Try.func82, Try.ntmps82
    go_wp2
    go_ret
    exact ⟨rfl, rfl⟩
  · have c0 := hg.cell 0
    simp only [List.getElem?_toArray, List.getElem?_cons_zero, List.getElem?_cons_succ] at c0
    go_enter Try.func82, Try.ntmps82
    go_wp2
    go_ret
    exact ⟨rfl, rfl⟩

theorem blive_none (p : Option Addr) (id : Int) (w : World) (h : BNone w p) :
    Calls Try.prog 22 #[.pointer p, .int .i64 id] w fun e w' => e = .returned (.tuple #[.agg #[.int .u64 0, .int .u64 0, .int .u64 0], .bool false]) ∧ Below w.heap.size w w' := by
  have hb0 : Below w.heap.size w (w.alloc (.cells #[.int .u64 0, .int .u64 0, .int .u64 0] 42)) := by go_grown
  have h0 := h.below hb0
  go_enter Try.func22, Try.ntmps22
  go_wp2_with (go_at_call 82; refine (bnone_yes _ _ h0).mono ?_; rintro e w1 ⟨rfl, rfl⟩)
  go_returns
  exact ⟨rfl, hb0⟩

theorem bfits_none (p : Option Addr) (F L R : Int) (w : World) (h : BNone w p) :
    Calls Try.prog 23 #[.pointer p, .agg #[.int .u64 F, .int .u64 L, .int .u64 R]] w fun e w' => e = .returned (.bool false) ∧ Below w.heap.size w w' := by
  have hb0 : Below w.heap.size w (w.alloc (.cells #[.int .u64 F, .int .u64 L, .int .u64 R] 42)) := by go_grown
  have h0 := h.below hb0
  go_enter Try.func23, Try.ntmps23
  go_wp2
  refine wp_region_over (by kernel_rfl) (by kernel_rfl) ?_
  repeat (first | go_big_quiet_skip | (go_big_quiet_want; go_big_quiet_op; first | go_big_quiet_on | (apply Exists.intro; refine ⟨fun e => ?_, ?_⟩; (focus (go_at_call 82; exact calls_over_same (bnone_yes _ _ (h0.below (over_below _ e))))); go_big_quiet_on)))
  refine wpQuiet_nil ?_
  rintro W2 ⟨e, he⟩
  have hb2 := over_below (w.alloc (.cells #[.int .u64 F, .int .u64 L, .int .u64 R] 42)) e
  rw [← he] at hb2
  clear he
  go_wp2
  go_ret
  exact ⟨rfl, hb0.trans (hb2.mono hb0.size)⟩

theorem bput_none (p : Option Addr) (id F L R : Int) (w : World) (h : BNone w p) :
    Calls Try.prog 24 #[.pointer p, .int .i64 id, .agg #[.int .u64 F, .int .u64 L, .int .u64 R]] w fun e w' => e = .returned (.int .i64 1) ∧ Below w.heap.size w w' := by
  have hb0 : Below w.heap.size w (w.alloc (.cells #[.int .u64 F, .int .u64 L, .int .u64 R] 42)) := by go_grown
  have h0 := h.below hb0
  go_enter Try.func24, Try.ntmps24
  go_wp2_with (go_at_call 82; refine (bnone_yes _ _ h0).mono ?_; rintro e w1 ⟨rfl, rfl⟩)
  go_ret
  exact ⟨rfl, hb0⟩

theorem bswap_none (p : Option Addr) (id F L R : Int) (keep : Bool) (w : World) (h : BNone w p) :
    Calls Try.prog 25 #[.pointer p, .int .i64 id, .agg #[.int .u64 F, .int .u64 L, .int .u64 R], .bool keep] w fun e w' => e = .returned (.int .i64 1) ∧ Below w.heap.size w w' := by
  have hb0 : Below w.heap.size w ((w.alloc (.cells #[.int .i64 id] 3)).alloc (.cells #[.int .u64 F, .int .u64 L, .int .u64 R] 42)) := by go_grown
  have h0 := h.below hb0
  go_enter Try.func25, Try.ntmps25
  go_wp2_with (go_at_call 82; refine (bnone_yes _ _ h0).mono ?_; rintro e w1 ⟨rfl, rfl⟩)
  go_ret
  exact ⟨rfl, hb0⟩

theorem bdrop_none (p : Option Addr) (id : Int) (keep : Bool) (w : World) (h : BNone w p) :
    Calls Try.prog 26 #[.pointer p, .int .i64 id, .bool keep] w fun e w' => e = .returned (.bool false) ∧ Below w.heap.size w w' := by
  have hb0 := Below.refl w.heap.size w
  have h0 := h
  go_enter Try.func26, Try.ntmps26
  go_wp2_with (go_at_call 82; refine (bnone_yes _ _ h0).mono ?_; rintro e w1 ⟨rfl, rfl⟩)
  go_ret
  exact ⟨rfl, hb0⟩

theorem bsettle_none (p : Option Addr)  (w : World) (h : BNone w p) :
    Calls Try.prog 27 #[.pointer p] w fun e w' => e = .returned (.int .i64 0) ∧ Below w.heap.size w w' := by
  have hb0 := Below.refl w.heap.size w
  have h0 := h
  go_enter Try.func27, Try.ntmps27
  go_wp2_with (go_at_call 82; refine (bnone_yes _ _ h0).mono ?_; rintro e w1 ⟨rfl, rfl⟩)
  go_ret
  exact ⟨rfl, hb0⟩

theorem brate_none (p : Option Addr)  (w : World) (h : BNone w p) :
    Calls Try.prog 28 #[.pointer p] w fun e w' => e = .returned (.int .u64 0) ∧ Below w.heap.size w w' := by
  have hb0 := Below.refl w.heap.size w
  have h0 := h
  go_enter Try.func28, Try.ntmps28
  go_wp2_with (go_at_call 82; refine (bnone_yes _ _ h0).mono ?_; rintro e w1 ⟨rfl, rfl⟩)
  go_ret
  exact ⟨rfl, hb0⟩

theorem bids_none (p : Option Addr)  (w : World) (h : BNone w p) :
    Calls Try.prog 29 #[.pointer p] w fun e w' => e = .returned (.slice none 0 0) ∧ Below w.heap.size w w' := by
  have hb0 := Below.refl w.heap.size w
  have h0 := h
  go_enter Try.func29, Try.ntmps29
  go_wp2_with (go_at_call 82; refine (bnone_yes _ _ h0).mono ?_; rintro e w1 ⟨rfl, rfl⟩)
  go_ret
  exact ⟨rfl, hb0⟩

theorem bghosts_none (p : Option Addr)  (w : World) (h : BNone w p) :
    Calls Try.prog 30 #[.pointer p] w fun e w' => e = .returned (.slice none 0 0) ∧ Below w.heap.size w w' := by
  have hb0 := Below.refl w.heap.size w
  have h0 := h
  go_enter Try.func30, Try.ntmps30
  go_wp2_with (go_at_call 82; refine (bnone_yes _ _ h0).mono ?_; rintro e w1 ⟨rfl, rfl⟩)
  go_ret
  exact ⟨rfl, hb0⟩

theorem bcopy_nil (w : World) :
    Calls Try.prog 31 #[.pointer none] w fun e w' => e = .returned (.pointer none) ∧ w = w' := by
  go_enter Try.func31, Try.ntmps31
  go_wp2
  go_ret
  exact ⟨rfl, rfl⟩

def AN (w W : World) (F L R : Int) : Prop :=
  Blk W w.heap.size 42 #[.int .u64 F, .int .u64 L, .int .u64 R] ∧ Blk W (w.heap.size + 1) 48 zeroBook ∧
  Blk W (w.heap.size + 1 + 1) 43 #[.pointer none, .pointer (some ⟨w.heap.size + 1, 0, none⟩)] ∧ Below w.heap.size w W
theorem AN.below {w W W' : World} {F L R : Int} (h : AN w W F L R) (hb : Below W.heap.size W W') : AN w W' F L R :=
  ⟨h.1.below hb h.1.lt, h.2.1.below hb h.2.1.lt, h.2.2.1.below hb h.2.2.1.lt, h.2.2.2.trans (hb.mono h.2.2.2.size)⟩

set_option maxRecDepth 100000 in
set_option maxHeartbeats 1000000 in
/-- the law -/
theorem admit_nil_walk (id F L R : Int) (keep : Bool) (w : World) :
    Calls Try.prog 4 #[.int .i64 id, .agg #[.int .u64 F, .int .u64 L, .int .u64 R], .bool keep] w fun e w' => e = .returned (.bool true) ∧ Below w.heap.size w w' := by
  go_enter Try.func4, Try.ntmps4
  go_wp2
  go_loopw [9] (fun i W => ∃ k : Nat, k ≤ 2 ∧ i = .int .i64 k ∧ AN w W F L R) (fun i _ => 2 - (intOf i).toNat)
  case atStart =>
    refine ⟨0, by omega, rfl, ?_, ?_, ?_, ?_⟩
    · exact ((Blk.new w 42 #[.int .u64 F, .int .u64 L, .int .u64 R]).alloc (.cells zeroBook 48)).alloc (.cells #[.pointer none, .pointer (some ⟨w.heap.size + 1, 0, none⟩)] 43)
    · have h := (Blk.new (w.alloc (.cells #[.int .u64 F, .int .u64 L, .int .u64 R] 42)) 48 zeroBook).alloc (.cells #[.pointer none, .pointer (some ⟨w.heap.size + 1, 0, none⟩)] 43)
      simpa using h
    · have h := Blk.new ((w.alloc (.cells #[.int .u64 F, .int .u64 L, .int .u64 R] 42)).alloc (.cells zeroBook 48)) 43 #[.pointer none, .pointer (some ⟨w.heap.size + 1, 0, none⟩)]
      simpa using h
    · go_grown
  case round =>
    obtain ⟨k, hk, rfl, hs⟩ := hrel
    have s0 := hs.2.2.1.cell 0
    have s1 := hs.2.2.1.cell 1
    simp only [List.getElem?_toArray, List.getElem?_cons_zero, List.getElem?_cons_succ] at s0 s1
    have hS := hs.2.2.1.lt
    by_cases h2 : k = 2
    · subst h2
      go_wp2_with (go_at_call 31; refine (bcopy_nil _).mono ?_; rintro e w' ⟨rfl, rfl⟩)
      go_ret
      exact ⟨rfl, hs.2.2.2⟩
    · have hc : ∃ p, BNone wr p ∧ ((k = 0 ∧ p = none) ∨ (k = 1 ∧ p = some ⟨w.heap.size + 1, 0, none⟩)) := by
        have : k = 0 ∨ k = 1 := by omega
        rcases this with rfl | rfl
        · exact ⟨none, .inl rfl, by simp⟩
        · exact ⟨_, .inr ⟨_, rfl, hs.2.1⟩, by simp⟩
      obtain ⟨p, hno, hc⟩ := hc
      have HS := Lib.hid hs; clear hs
      rcases hc with ⟨rfl, rfl⟩ | ⟨rfl, rfl⟩
      all_goals
        go_wp2_with (first
          | (go_at_call 22; refine (blive_none _ _ _ hno).mono ?_; rintro e w0 ⟨rfl, hb0⟩; have hal := hb0.alloc hb0.size (.cells #[.int .u64 0, .int .u64 0, .int .u64 0] 42); have hno1 := hno.below hal; have hs1 := HS.out.below hal; have HS1 := Lib.hid hs1; have a1 := hs1.1.cell 0; have b1 := hs1.1.cell 1; have c1 := hs1.1.cell 2; simp only [List.getElem?_toArray, List.getElem?_cons_zero, List.getElem?_cons_succ] at a1 b1 c1; clear hs1)
          | (go_at_call 23; refine (bfits_none _ _ _ _ _ hno1).mono ?_; rintro e w2 ⟨rfl, hb2⟩; have hno2 := hno1.below hb2; have hs2 := HS1.out.below hb2; have HS2 := Lib.hid hs2; have a2 := hs2.1.cell 0; have b2 := hs2.1.cell 1; have c2 := hs2.1.cell 2; simp only [List.getElem?_toArray, List.getElem?_cons_zero, List.getElem?_cons_succ] at a2 b2 c2; clear hs2)
          | (go_at_call 24; refine (bput_none _ _ _ _ _ _ hno2).mono ?_; rintro e w3 ⟨rfl, hb3⟩; have hno3 := hno2.below hb3; have hs3 := HS2.out.below hb3; have HS3 := Lib.hid hs3; have a3 := hs3.1.cell 0; have b3 := hs3.1.cell 1; have c3 := hs3.1.cell 2; simp only [List.getElem?_toArray, List.getElem?_cons_zero, List.getElem?_cons_succ] at a3 b3 c3; clear hs3)
          | (go_at_call 25; refine (bswap_none _ _ _ _ _ _ _ hno3).mono ?_; rintro e w4 ⟨rfl, hb4⟩; have hno4 := hno3.below hb4; have hs4 := HS3.out.below hb4; have HS4 := Lib.hid hs4; have a4 := hs4.1.cell 0; have b4 := hs4.1.cell 1; have c4 := hs4.1.cell 2; simp only [List.getElem?_toArray, List.getElem?_cons_zero, List.getElem?_cons_succ] at a4 b4 c4; clear hs4)
          | (go_at_call 26; refine (bdrop_none _ _ _ _ hno4).mono ?_; rintro e w5 ⟨rfl, hb5⟩; have hno5 := hno4.below hb5; have hs5 := HS4.out.below hb5; have HS5 := Lib.hid hs5; have a5 := hs5.1.cell 0; have b5 := hs5.1.cell 1; have c5 := hs5.1.cell 2; simp only [List.getElem?_toArray, List.getElem?_cons_zero, List.getElem?_cons_succ] at a5 b5 c5; clear hs5)
          | (go_at_call 27; refine (bsettle_none _ _ hno5).mono ?_; rintro e w6 ⟨rfl, hb6⟩; have hno6 := hno5.below hb6; have hs6 := HS5.out.below hb6; have HS6 := Lib.hid hs6; have a6 := hs6.1.cell 0; have b6 := hs6.1.cell 1; have c6 := hs6.1.cell 2; simp only [List.getElem?_toArray, List.getElem?_cons_zero, List.getElem?_cons_succ] at a6 b6 c6; clear hs6)
          | (go_at_call 28; refine (brate_none _ _ hno6).mono ?_; rintro e w7 ⟨rfl, hb7⟩; have hno7 := hno6.below hb7; have hs7 := HS6.out.below hb7; have HS7 := Lib.hid hs7; have a7 := hs7.1.cell 0; have b7 := hs7.1.cell 1; have c7 := hs7.1.cell 2; simp only [List.getElem?_toArray, List.getElem?_cons_zero, List.getElem?_cons_succ] at a7 b7 c7; clear hs7)
          | (go_at_call 29; refine (bids_none _ _ hno7).mono ?_; rintro e w8 ⟨rfl, hb8⟩; have hno8 := hno7.below hb8; have hs8 := HS7.out.below hb8; have HS8 := Lib.hid hs8; have a8 := hs8.1.cell 0; have b8 := hs8.1.cell 1; have c8 := hs8.1.cell 2; simp only [List.getElem?_toArray, List.getElem?_cons_zero, List.getElem?_cons_succ] at a8 b8 c8; clear hs8)
          | (go_at_call 30; refine (bghosts_none _ _ hno8).mono ?_; rintro e w9 ⟨rfl, hb9⟩; have hno9 := hno8.below hb9; have hs9 := HS8.out.below hb9; have HS9 := Lib.hid hs9; have a9 := hs9.1.cell 0; have b9 := hs9.1.cell 1; have c9 := hs9.1.cell 2; simp only [List.getElem?_toArray, List.getElem?_cons_zero, List.getElem?_cons_succ] at a9 b9 c9; clear hs9))
        go_roundw
        case rel => first | exact ⟨1, by omega, by go_num, HS9.out⟩ | exact ⟨2, by omega, by go_num, HS9.out⟩
        case measure => simp [intOf]

end Go.Proofs.Ytledamidpheddaa
