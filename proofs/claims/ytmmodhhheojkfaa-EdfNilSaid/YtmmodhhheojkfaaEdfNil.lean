/-
  A row that nobody made: its contracts, and the walk of the law EdfNil.
-/
import Derived.Test.YtmmodhhheojkfaaReg
namespace Go.Proofs.Ytmmodhhheojkfaa
open Go.RowKit

/-- p leads to a row that nobody made -/
def ENone (w : World) (p : Option Addr) : Prop := p = none ∨ ∃ g, p = some ⟨g, 0, none⟩ ∧ Blk w g 82 #[.pointer none]

theorem ENone.below {w w' : World} {p : Option Addr} (h : ENone w p) (hb : Below w.heap.size w w') : ENone w' p := by
  rcases h with rfl | ⟨g, rfl, hg⟩
  · exact .inl rfl
  · exact .inr ⟨g, rfl, hg.below hb hg.lt⟩

theorem ask_bool (p : Option Addr) (fv : Value) (b : Bool) (w : World) (h : ENone w p) :
    Calls Try.prog 90 #[.pointer p, fv, .bool b] w fun e w' => e = .returned (.bool b) ∧ w = w' := by
  rcases h with rfl | ⟨g, rfl, hg⟩
  · go_enter Try.func90, Try.ntmps90
    go_wp2
    go_ret
    exact ⟨rfl, rfl⟩
  · have c0 := hg.cell 0
    simp only [List.getElem?_toArray, List.getElem?_cons_zero, List.getElem?_cons_succ] at c0
    go_enter Try.func90, Try.ntmps90
    go_wp2
    go_ret
    exact ⟨rfl, rfl⟩

theorem ask_u64 (p : Option Addr) (fv : Value) (b : Int) (w : World) (h : ENone w p) :
    Calls Try.prog 79 #[.pointer p, fv, .int .u64 b] w fun e w' => e = .returned (.int .u64 b) ∧ w = w' := by
  rcases h with rfl | ⟨g, rfl, hg⟩
  · go_enter Try.func79, Try.ntmps79
    go_wp2
    go_ret
    exact ⟨rfl, rfl⟩
  · have c0 := hg.cell 0
    simp only [List.getElem?_toArray, List.getElem?_cons_zero, List.getElem?_cons_succ] at c0
    go_enter Try.func79, Try.ntmps79
    go_wp2
    go_ret
    exact ⟨rfl, rfl⟩

theorem ask_int (p : Option Addr) (fv : Value) (b : Int) (w : World) (h : ENone w p) :
    Calls Try.prog 82 #[.pointer p, fv, .int .i64 b] w fun e w' => e = .returned (.int .i64 b) ∧ w = w' := by
  rcases h with rfl | ⟨g, rfl, hg⟩
  · go_enter Try.func82, Try.ntmps82
    go_wp2
    go_ret
    exact ⟨rfl, rfl⟩
  · have c0 := hg.cell 0
    simp only [List.getElem?_toArray, List.getElem?_cons_zero, List.getElem?_cons_succ] at c0
    go_enter Try.func82, Try.ntmps82
    go_wp2
    go_ret
    exact ⟨rfl, rfl⟩

theorem ask_ints (p : Option Addr) (fv : Value)  (w : World) (h : ENone w p) :
    Calls Try.prog 87 #[.pointer p, fv, .slice none 0 0] w fun e w' => e = .returned (.slice none 0 0) ∧ w = w' := by
  rcases h with rfl | ⟨g, rfl, hg⟩
  · go_enter Try.func87, Try.ntmps87
    go_wp2
    go_ret
    exact ⟨rfl, rfl⟩
  · have c0 := hg.cell 0
    simp only [List.getElem?_toArray, List.getElem?_cons_zero, List.getElem?_cons_succ] at c0
    go_enter Try.func87, Try.ntmps87
    go_wp2
    go_ret
    exact ⟨rfl, rfl⟩

theorem ask_found (p : Option Addr) (fv : Value) (w : World) (h : ENone w p) :
    Calls Try.prog 73 #[.pointer p, fv, .agg #[.int .i64 0, .bool false]] w fun e w' => e = .returned (.agg #[.int .i64 0, .bool false]) ∧ Below w.heap.size w w' := by
  rcases h with rfl | ⟨g, rfl, hg⟩
  · go_enter Try.func73, Try.ntmps73
    go_wp2
    go_returns
    exact ⟨rfl, by go_grown⟩
  · have c0 := hg.cell 0
    have hlt := hg.lt
    simp only [List.getElem?_toArray, List.getElem?_cons_zero, List.getElem?_cons_succ] at c0
    go_enter Try.func73, Try.ntmps73
    go_wp2
    go_returns
    exact ⟨rfl, by go_grown⟩

theorem ask_noted (p : Option Addr) (fv : Value) (w : World) (h : ENone w p) :
    Calls Try.prog 76 #[.pointer p, fv, .agg #[.int .u64 0, .int .u64 0, .bool false]] w fun e w' => e = .returned (.agg #[.int .u64 0, .int .u64 0, .bool false]) ∧ Below w.heap.size w w' := by
  rcases h with rfl | ⟨g, rfl, hg⟩
  · go_enter Try.func76, Try.ntmps76
    go_wp2
    go_returns
    exact ⟨rfl, by go_grown⟩
  · have c0 := hg.cell 0
    have hlt := hg.lt
    simp only [List.getElem?_toArray, List.getElem?_cons_zero, List.getElem?_cons_succ] at c0
    go_enter Try.func76, Try.ntmps76
    go_wp2
    go_returns
    exact ⟨rfl, by go_grown⟩

theorem eput_none (p : Option Addr) (id a b : Int) (w : World) (h : ENone w p) :
    Calls Try.prog 40 #[.pointer p, .int .i64 id, .int .u64 a, .int .u64 b] w fun e w' => e = .returned (.tuple #[]) ∧ Below w.heap.size w w' := by
  have hb0 : Below w.heap.size w (((w.alloc (.cells #[.int .i64 id] 3)).alloc (.cells #[.int .u64 a] 22)).alloc (.cells #[.int .u64 b] 22)) := by go_grown
  have h0 := h.below hb0
  go_enter Try.func40, Try.ntmps40
  go_wp2_with (go_at_call 90; refine (ask_bool _ _ _ _ h0).mono ?_; rintro e w1 ⟨rfl, rfl⟩)
  go_returns
  exact ⟨rfl, hb0⟩

theorem edrop_none (p : Option Addr) (id : Int) (w : World) (h : ENone w p) :
    Calls Try.prog 41 #[.pointer p, .int .i64 id] w fun e w' => e = .returned (.bool false) ∧ Below w.heap.size w w' := by
  have hb0 : Below w.heap.size w (w.alloc (.cells #[.int .i64 id] 3)) := by go_grown
  have h0 := h.below hb0
  go_enter Try.func41, Try.ntmps41
  go_wp2_with (go_at_call 90; refine (ask_bool _ _ _ _ h0).mono ?_; rintro e w1 ⟨rfl, rfl⟩)
  go_ret
  exact ⟨rfl, hb0⟩

theorem etick_none (p : Option Addr)  (w : World) (h : ENone w p) :
    Calls Try.prog 31 #[.pointer p] w fun e w' => e = .returned (.int .u64 9223372036854775808) ∧ Below w.heap.size w w' := by
  have h0 := h
  go_enter Try.func31, Try.ntmps31
  go_wp2_with (go_at_call 79; refine (ask_u64 _ _ _ _ h0).mono ?_; rintro e w1 ⟨rfl, rfl⟩)
  go_ret
  exact ⟨rfl, Below.refl _ _⟩

theorem elen_none (p : Option Addr)  (w : World) (h : ENone w p) :
    Calls Try.prog 32 #[.pointer p] w fun e w' => e = .returned (.int .i64 0) ∧ Below w.heap.size w w' := by
  have h0 := h
  go_enter Try.func32, Try.ntmps32
  go_wp2_with (go_at_call 82; refine (ask_int _ _ _ _ h0).mono ?_; rintro e w1 ⟨rfl, rfl⟩)
  go_ret
  exact ⟨rfl, Below.refl _ _⟩

theorem eids_none (p : Option Addr)  (w : World) (h : ENone w p) :
    Calls Try.prog 38 #[.pointer p] w fun e w' => e = .returned (.slice none 0 0) ∧ Below w.heap.size w w' := by
  have h0 := h
  go_enter Try.func38, Try.ntmps38
  go_wp2_with (go_at_call 87; refine (ask_ints _ _ _ h0).mono ?_; rintro e w1 ⟨rfl, rfl⟩)
  go_ret
  exact ⟨rfl, Below.refl _ _⟩

theorem enext_none (p : Option Addr) (now : Int) (w : World) (h : ENone w p) :
    Calls Try.prog 29 #[.pointer p, .int .u64 now] w fun e w' => e = .returned (.tuple #[.int .i64 0, .bool false]) ∧ Below w.heap.size w w' := by
  have hb0 : Below w.heap.size w (w.alloc (.cells #[.int .u64 now] 22)) := by go_grown
  have h0 := h.below hb0
  go_enter Try.func29, Try.ntmps29
  go_wp2_with (go_at_call 73; refine (ask_found _ _ _ h0).mono ?_; rintro e w1 ⟨rfl, hb1⟩)
  have nb := Blk.new w1 106 #[.int .i64 0, .bool false]
  have nl := nb.lt
  have o0 := fun e => (over_cell (e := e) (o := 0) nl).trans (nb.cell 0)
  have o1 := fun e => (over_cell (e := e) (o := 1) nl).trans (nb.cell 1)
  simp only [List.getElem?_toArray, List.getElem?_cons_zero, List.getElem?_cons_succ] at o0 o1
  refine wp_region_over (by kernel_rfl) (by kernel_rfl) ?_
  repeat (first | go_big_quiet_skip | (go_big_quiet_want; go_big_quiet_op; go_big_quiet_on))
  refine wpQuiet_nil ?_
  rintro W2 ⟨e, he⟩
  have hb2 := over_below (w1.alloc (.cells #[.int .i64 0, .bool false] 106)) e
  rw [← he] at hb2
  clear he
  go_wp2
  go_ret2
  exact ⟨rfl, by have hc := (hb0.trans (hb1.mono (by simp))); have hd := hc.alloc hc.size (.cells #[.int .i64 0, .bool false] 106); exact hd.trans (hb2.mono hd.size)⟩

theorem eget_none (p : Option Addr) (id : Int) (w : World) (h : ENone w p) :
    Calls Try.prog 30 #[.pointer p, .int .i64 id] w fun e w' => e = .returned (.tuple #[.int .u64 0, .int .u64 0, .bool false]) ∧ Below w.heap.size w w' := by
  have hb0 : Below w.heap.size w (w.alloc (.cells #[.int .i64 id] 3)) := by go_grown
  have h0 := h.below hb0
  go_enter Try.func30, Try.ntmps30
  go_wp2_with (go_at_call 76; refine (ask_noted _ _ _ h0).mono ?_; rintro e w1 ⟨rfl, hb1⟩)
  have nb := Blk.new w1 110 #[.int .u64 0, .int .u64 0, .bool false]
  have nl := nb.lt
  have o0 := fun e => (over_cell (e := e) (o := 0) nl).trans (nb.cell 0)
  have o1 := fun e => (over_cell (e := e) (o := 1) nl).trans (nb.cell 1)
  have o2 := fun e => (over_cell (e := e) (o := 2) nl).trans (nb.cell 2)
  simp only [List.getElem?_toArray, List.getElem?_cons_zero, List.getElem?_cons_succ] at o0 o1 o2
  refine wp_region_over (by kernel_rfl) (by kernel_rfl) ?_
  repeat (first | go_big_quiet_skip | (go_big_quiet_want; go_big_quiet_op; go_big_quiet_on))
  refine wpQuiet_nil ?_
  rintro W2 ⟨e, he⟩
  have hb2 := over_below (w1.alloc (.cells #[.int .u64 0, .int .u64 0, .bool false] 110)) e
  rw [← he] at hb2
  clear he
  go_wp2
  go_ret3
  exact ⟨rfl, by have hc := (hb0.trans (hb1.mono (by simp))); have hd := hc.alloc hc.size (.cells #[.int .u64 0, .int .u64 0, .bool false] 110); exact hd.trans (hb2.mono hd.size)⟩

theorem dnone_nil (w : World) :
    Calls Try.prog 134 #[.pointer none] w fun e w' => e = .returned (.bool true) ∧ w = w' := by
  go_enter Try.func134, Try.ntmps134
  go_wp2
  go_ret
  exact ⟨rfl, rfl⟩

theorem dawake_nil (w : World) :
    Calls Try.prog 109 #[.pointer none] w fun e w' => e = .returned (.bool false) ∧ w = w' := by
  go_enter Try.func109, Try.ntmps109
  go_wp2_with (go_at_call 134; refine (dnone_nil _).mono ?_; rintro e w' ⟨rfl, rfl⟩)
  go_ret
  exact ⟨rfl, rfl⟩

theorem enote_none (p : Option Addr) (id : Int) (w : World) (h : ENone w p) :
    Calls Try.prog 50 #[.pointer p, .int .i64 id, .pointer none] w fun e w' => e = .returned (.tuple #[]) ∧ Below w.heap.size w w' := by
  go_enter Try.func50, Try.ntmps50
  go_wp2_with (first
    | (go_at_call 109; refine (dawake_nil _).mono ?_; rintro e w' ⟨rfl, rfl⟩)
    | (go_at_call 41; refine (edrop_none _ _ _ h).mono ?_; rintro e w1 ⟨rfl, hb1⟩))
  go_returns
  exact ⟨rfl, hb1⟩

theorem ecopy_nil (w : World) :
    Calls Try.prog 49 #[.pointer none] w fun e w' => e = .returned (.pointer none) ∧ w = w' := by
  go_enter Try.func49, Try.ntmps49
  go_wp2
  go_ret
  exact ⟨rfl, rfl⟩

def EN (w W : World) : Prop :=
  Blk W w.heap.size 82 #[.pointer none] ∧
  Blk W (w.heap.size + 1) 45 #[.pointer none, .pointer (some ⟨w.heap.size, 0, none⟩)] ∧ Below w.heap.size w W
theorem EN.below {w W W' : World} (h : EN w W) (hb : Below W.heap.size W W') : EN w W' :=
  ⟨h.1.below hb h.1.lt, h.2.1.below hb h.2.1.lt, h.2.2.trans (hb.mono h.2.2.size)⟩

set_option maxRecDepth 100000 in
set_option maxHeartbeats 1000000 in
/-- the law -/
theorem edf_nil_walk (id a b : Int) (w : World) :
    Calls Try.prog 13 #[.int .i64 id, .int .u64 a, .int .u64 b] w fun e w' => e = .returned (.bool true) ∧ Below w.heap.size w w' := by
  go_enter Try.func13, Try.ntmps13
  go_wp2
  go_loopw [9] (fun i W => ∃ k : Nat, k ≤ 2 ∧ i = .int .i64 k ∧ EN w W) (fun i _ => 2 - (intOf i).toNat)
  case atStart =>
    refine ⟨0, by omega, rfl, ?_, ?_, ?_⟩
    · exact (Blk.new w 82 #[.pointer none]).alloc (.cells #[.pointer none, .pointer (some ⟨w.heap.size, 0, none⟩)] 45)
    · have h := Blk.new (w.alloc (.cells #[.pointer none] 82)) 45 #[.pointer none, .pointer (some ⟨w.heap.size, 0, none⟩)]
      simpa using h
    · go_grown
  case round =>
    obtain ⟨k, hk, rfl, hs⟩ := hrel
    have s0 := hs.2.1.cell 0
    have s1 := hs.2.1.cell 1
    simp only [List.getElem?_toArray, List.getElem?_cons_zero, List.getElem?_cons_succ] at s0 s1
    have hS := hs.2.1.lt
    by_cases h2 : k = 2
    · subst h2
      go_wp2_with (go_at_call 49; refine (ecopy_nil _).mono ?_; rintro e w' ⟨rfl, rfl⟩)
      go_ret
      exact ⟨rfl, hs.2.2⟩
    · have hc : ∃ p, ENone wr p ∧ ((k = 0 ∧ p = none) ∨ (k = 1 ∧ p = some ⟨w.heap.size, 0, none⟩)) := by
        have : k = 0 ∨ k = 1 := by omega
        rcases this with rfl | rfl
        · exact ⟨none, .inl rfl, by simp⟩
        · exact ⟨_, .inr ⟨_, rfl, hs.1⟩, by simp⟩
      obtain ⟨p, hno, hc⟩ := hc
      have HS := Lib.hid hs; clear hs
      rcases hc with ⟨rfl, rfl⟩ | ⟨rfl, rfl⟩
      all_goals
        go_wp2_with (first
          | (go_at_call 40; refine (eput_none _ _ _ _ _ hno).mono ?_; rintro e w1 ⟨rfl, hb1⟩; have hno1 := hno.below hb1; have HS1 := Lib.hid (HS.out.below hb1))
          | (go_at_call 50; refine (enote_none _ _ _ hno1).mono ?_; rintro e w2 ⟨rfl, hb2⟩; have hno2 := hno1.below hb2; have HS2 := Lib.hid (HS1.out.below hb2))
          | (go_at_call 29; refine (enext_none _ _ _ hno2).mono ?_; rintro e w3 ⟨rfl, hb3⟩; have hno3 := hno2.below hb3; have HS3 := Lib.hid (HS2.out.below hb3))
          | (go_at_call 30; refine (eget_none _ _ _ hno3).mono ?_; rintro e w4 ⟨rfl, hb4⟩; have hno4 := hno3.below hb4; have HS4 := Lib.hid (HS3.out.below hb4))
          | (go_at_call 41; refine (edrop_none _ _ _ hno4).mono ?_; rintro e w5 ⟨rfl, hb5⟩; have hno5 := hno4.below hb5; have HS5 := Lib.hid (HS4.out.below hb5))
          | (go_at_call 31; refine (etick_none _ _ hno5).mono ?_; rintro e w6 ⟨rfl, hb6⟩; have hno6 := hno5.below hb6; have HS6 := Lib.hid (HS5.out.below hb6))
          | (go_at_call 32; refine (elen_none _ _ hno6).mono ?_; rintro e w7 ⟨rfl, hb7⟩; have hno7 := hno6.below hb7; have HS7 := Lib.hid (HS6.out.below hb7))
          | (go_at_call 38; refine (eids_none _ _ hno7).mono ?_; rintro e w8 ⟨rfl, hb8⟩; have HS8 := Lib.hid (HS7.out.below hb8)))
        go_roundw
        case rel => first | exact ⟨1, by omega, by go_num, HS8.out⟩ | exact ⟨2, by omega, by go_num, HS8.out⟩
        case measure => simp [intOf]

end Go.Proofs.Ytmmodhhheojkfaa
