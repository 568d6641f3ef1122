/-
  A row's tree is asked: the answer is the closure's. (Printed by wip/mkedfask.py.)
-/
import Derived.Test.YtbnnkkojlclgjaaGreatAugDo
import Derived.Test.YtbnnkkojlclgjaaGreatAugIds
namespace Go.Proofs.YtbnnkkojlclgjaaGreat
set_option linter.unusedVariables false
open Go.RowKit Go.Maps
attribute [local go_sem ↓] Go.wp_at_zero Go.wp_at_succ
attribute [local go_sem] quietR quietAtR quietUponR midAt midUpon plain plainUpon

set_option maxRecDepth 100000 in
theorem ask_bool (r q f : Nat) (caps : Array Value) (d : Bool) (w : World) (R : Ending → World → Prop) (hr : Blk w r 51 #[.pointer (some ⟨q, 0, none⟩)]) (hent : ∀ args W, (callFunc f args).run Tryz.prog W = .ok (.enter f args) W)
    (hc : Calls Tryz.prog f (#[.pointer (some ⟨q, 0, none⟩)] ++ caps) w R) (hv : ∀ e W, R e W → ∃ v, e = .returned v) :
    Calls Tryz.prog 57 #[.pointer (some ⟨r, 0, none⟩), .func (.func f) #[] caps, .bool d] w R := by
  have c0 := hr.cell 0
  simp only [List.getElem?_toArray, List.getElem?_cons_zero, List.getElem?_cons_succ] at c0
  have HV := Lib.hid hv
  clear hr hv
  go_enter Tryz.func57, Tryz.ntmps57
  go_wp2_with fail
  refine hc.mono ?_
  clear hc
  intro e W h
  obtain ⟨v, rfl⟩ := HV.out e W h
  have H := Lib.hid h
  clear h
  go_wp2_with fail
  exact H.out
set_option maxRecDepth 100000 in
theorem ask_u64 (r q f : Nat) (caps : Array Value) (d : Int) (w : World) (R : Ending → World → Prop) (hr : Blk w r 51 #[.pointer (some ⟨q, 0, none⟩)]) (hent : ∀ args W, (callFunc f args).run Tryz.prog W = .ok (.enter f args) W)
    (hc : Calls Tryz.prog f (#[.pointer (some ⟨q, 0, none⟩)] ++ caps) w R) (hv : ∀ e W, R e W → ∃ v, e = .returned v) :
    Calls Tryz.prog 70 #[.pointer (some ⟨r, 0, none⟩), .func (.func f) #[] caps, .int .u64 d] w R := by
  have c0 := hr.cell 0
  simp only [List.getElem?_toArray, List.getElem?_cons_zero, List.getElem?_cons_succ] at c0
  have HV := Lib.hid hv
  clear hr hv
  go_enter Tryz.func70, Tryz.ntmps70
  go_wp2_with fail
  refine hc.mono ?_
  clear hc
  intro e W h
  obtain ⟨v, rfl⟩ := HV.out e W h
  have H := Lib.hid h
  clear h
  go_wp2_with fail
  exact H.out
set_option maxRecDepth 100000 in
theorem ask_int (r q f : Nat) (caps : Array Value) (d : Int) (w : World) (R : Ending → World → Prop) (hr : Blk w r 51 #[.pointer (some ⟨q, 0, none⟩)]) (hent : ∀ args W, (callFunc f args).run Tryz.prog W = .ok (.enter f args) W)
    (hc : Calls Tryz.prog f (#[.pointer (some ⟨q, 0, none⟩)] ++ caps) w R) (hv : ∀ e W, R e W → ∃ v, e = .returned v) :
    Calls Tryz.prog 73 #[.pointer (some ⟨r, 0, none⟩), .func (.func f) #[] caps, .int .i64 d] w R := by
  have c0 := hr.cell 0
  simp only [List.getElem?_toArray, List.getElem?_cons_zero, List.getElem?_cons_succ] at c0
  have HV := Lib.hid hv
  clear hr hv
  go_enter Tryz.func73, Tryz.ntmps73
  go_wp2_with fail
  refine hc.mono ?_
  clear hc
  intro e W h
  obtain ⟨v, rfl⟩ := HV.out e W h
  have H := Lib.hid h
  clear h
  go_wp2_with fail
  exact H.out
set_option maxRecDepth 100000 in
theorem ask_ids (r q f : Nat) (caps : Array Value)  (w : World) (R : Ending → World → Prop) (hr : Blk w r 51 #[.pointer (some ⟨q, 0, none⟩)]) (hent : ∀ args W, (callFunc f args).run Tryz.prog W = .ok (.enter f args) W)
    (hc : Calls Tryz.prog f (#[.pointer (some ⟨q, 0, none⟩)] ++ caps) w R) (hv : ∀ e W, R e W → ∃ v, e = .returned v) :
    Calls Tryz.prog 68 #[.pointer (some ⟨r, 0, none⟩), .func (.func f) #[] caps, .slice none 0 0] w R := by
  have c0 := hr.cell 0
  simp only [List.getElem?_toArray, List.getElem?_cons_zero, List.getElem?_cons_succ] at c0
  have HV := Lib.hid hv
  clear hr hv
  go_enter Tryz.func68, Tryz.ntmps68
  go_wp2_with fail
  refine hc.mono ?_
  clear hc
  intro e W h
  obtain ⟨v, rfl⟩ := HV.out e W h
  have H := Lib.hid h
  clear h
  go_wp2_with fail
  exact H.out
set_option maxRecDepth 100000 in
set_option maxHeartbeats 1000000 in
theorem ask_found (r q f : Nat) (caps : Array Value) (a : Int) (b : Bool) (w : World) (hr : Blk w r 51 #[.pointer (some ⟨q, 0, none⟩)]) (hent : ∀ args W, (callFunc f args).run Tryz.prog W = .ok (.enter f args) W)
    (hc : ∀ W, Below w.heap.size w W → Calls Tryz.prog f (#[.pointer (some ⟨q, 0, none⟩)] ++ caps) W fun e W' => e = .returned (.agg #[.int .i64 a, .bool b]) ∧ Below W.heap.size W W') :
    Calls Tryz.prog 62 #[.pointer (some ⟨r, 0, none⟩), .func (.func f) #[] caps, .agg #[.int .i64 0, .bool false]] w fun e w' => e = .returned (.agg #[.int .i64 a, .bool b]) ∧ Below w.heap.size w w' := by
  have hb0 := ((Below.refl w.heap.size w).alloc (Nat.le_refl _) (.cells #[.int .i64 0, .bool false] 113)).alloc (by simp) (.cells #[.int .i64 0, .bool false] 113)
  have hR0 := Blk.new (w.alloc (.cells #[.int .i64 0, .bool false] 113)) 113 #[.int .i64 0, .bool false]
  have hc := hc _ hb0
  rw [World.size_alloc] at hR0
  have c0 := (hr.below hb0 hr.lt).cell 0
  simp only [List.getElem?_toArray, List.getElem?_cons_zero, List.getElem?_cons_succ] at c0
  obtain ⟨R, hR⟩ : ∃ R, R = w.heap.size + 1 := ⟨_, rfl⟩
  rw [← hR] at hR0
  have H := Lib.hid (And.intro hR0 hb0)
  have HR := Lib.hid hR
  clear hr hR0 hb0 hR
  go_enter Tryz.func62, Tryz.ntmps62
  go_upto_region 1 with fail
  try simp only [World.size_alloc]
  rw [← HR.out]
  generalize (w.alloc (.cells #[.int .i64 0, .bool false] 113)).alloc (.cells #[.int .i64 0, .bool false] 113) = W1 at H hc c0 ⊢
  go_wp2_with fail
  refine hc.mono ?_
  clear hc c0
  rintro e W2 ⟨rfl, hb⟩
  have hR2 := H.out.1.below hb H.out.1.lt
  have hb2 := H.out.2.trans (hb.mono H.out.2.size)
  have H2 := Lib.hid (And.intro hR2 hb2)
  have r0 := hR2.cell 0; have f0 := hR2.frozen 0
  have r1 := hR2.cell 1; have f1 := hR2.frozen 1
  simp only [List.getElem?_toArray, List.getElem?_cons_zero, List.getElem?_cons_succ] at r0 r1
  have hlo : w.heap.size ≤ R := by have := HR.out; omega
  have h9 := ((hR2.set_ 0 (.int .i64 a)).set_ 1 (.bool b))
  have b9 := ((hb2.setCell (p := ⟨R, 0, none⟩) (by omega) (.int .i64 a)).setCell (p := ⟨R, 1, none⟩) (by omega) (.bool b))
  simp at h9
  have e0 := h9.cell 0
  have e1 := h9.cell 1
  simp only [List.getElem?_toArray, List.getElem?_cons_zero, List.getElem?_cons_succ] at e0 e1
  have HB9 := Lib.hid b9
  clear hR2 hb2 h9 b9 hb H H2 hlo
  go_wp2_with fail
  refine bodyPost_ret (v := .agg #[.int .i64 a, .bool b]) (by simp [results, Tryz.results62, go_sem, e0, e1]) rfl ⟨rfl, HB9.out⟩
set_option maxRecDepth 100000 in
set_option maxHeartbeats 1000000 in
theorem ask_noted (r q f : Nat) (caps : Array Value) (a b : Int) (c : Bool) (w : World) (hr : Blk w r 51 #[.pointer (some ⟨q, 0, none⟩)]) (hent : ∀ args W, (callFunc f args).run Tryz.prog W = .ok (.enter f args) W)
    (hc : ∀ W, Below w.heap.size w W → Calls Tryz.prog f (#[.pointer (some ⟨q, 0, none⟩)] ++ caps) W fun e W' => e = .returned (.agg #[.int .u64 a, .int .u64 b, .bool c]) ∧ Below W.heap.size W W') :
    Calls Tryz.prog 65 #[.pointer (some ⟨r, 0, none⟩), .func (.func f) #[] caps, .agg #[.int .u64 0, .int .u64 0, .bool false]] w fun e w' => e = .returned (.agg #[.int .u64 a, .int .u64 b, .bool c]) ∧ Below w.heap.size w w' := by
  have hb0 := ((Below.refl w.heap.size w).alloc (Nat.le_refl _) (.cells #[.int .u64 0, .int .u64 0, .bool false] 117)).alloc (by simp) (.cells #[.int .u64 0, .int .u64 0, .bool false] 117)
  have hR0 := Blk.new (w.alloc (.cells #[.int .u64 0, .int .u64 0, .bool false] 117)) 117 #[.int .u64 0, .int .u64 0, .bool false]
  have hc := hc _ hb0
  rw [World.size_alloc] at hR0
  have c0 := (hr.below hb0 hr.lt).cell 0
  simp only [List.getElem?_toArray, List.getElem?_cons_zero, List.getElem?_cons_succ] at c0
  obtain ⟨R, hR⟩ : ∃ R, R = w.heap.size + 1 := ⟨_, rfl⟩
  rw [← hR] at hR0
  have H := Lib.hid (And.intro hR0 hb0)
  have HR := Lib.hid hR
  clear hr hR0 hb0 hR
  go_enter Tryz.func65, Tryz.ntmps65
  go_upto_region 1 with fail
  try simp only [World.size_alloc]
  rw [← HR.out]
  generalize (w.alloc (.cells #[.int .u64 0, .int .u64 0, .bool false] 117)).alloc (.cells #[.int .u64 0, .int .u64 0, .bool false] 117) = W1 at H hc c0 ⊢
  go_wp2_with fail
  refine hc.mono ?_
  clear hc c0
  rintro e W2 ⟨rfl, hb⟩
  have hR2 := H.out.1.below hb H.out.1.lt
  have hb2 := H.out.2.trans (hb.mono H.out.2.size)
  have H2 := Lib.hid (And.intro hR2 hb2)
  have r0 := hR2.cell 0; have f0 := hR2.frozen 0
  have r1 := hR2.cell 1; have f1 := hR2.frozen 1
  have r2 := hR2.cell 2; have f2 := hR2.frozen 2
  simp only [List.getElem?_toArray, List.getElem?_cons_zero, List.getElem?_cons_succ] at r0 r1 r2
  have hlo : w.heap.size ≤ R := by have := HR.out; omega
  have h9 := (((hR2.set_ 0 (.int .u64 a)).set_ 1 (.int .u64 b)).set_ 2 (.bool c))
  have b9 := (((hb2.setCell (p := ⟨R, 0, none⟩) (by omega) (.int .u64 a)).setCell (p := ⟨R, 1, none⟩) (by omega) (.int .u64 b)).setCell (p := ⟨R, 2, none⟩) (by omega) (.bool c))
  simp at h9
  have e0 := h9.cell 0
  have e1 := h9.cell 1
  have e2 := h9.cell 2
  simp only [List.getElem?_toArray, List.getElem?_cons_zero, List.getElem?_cons_succ] at e0 e1 e2
  have HB9 := Lib.hid b9
  clear hR2 hb2 h9 b9 hb H H2 hlo
  go_wp2_with fail
  refine bodyPost_ret (v := .agg #[.int .u64 a, .int .u64 b, .bool c]) (by simp [results, Tryz.results65, go_sem, e0, e1, e2]) rfl ⟨rfl, HB9.out⟩
end Go.Proofs.YtbnnkkojlclgjaaGreat
