/-
  A debt in memory, wherever its run lies, and the document's debt: their contracts; what changes them.
-/
import Derived.Test.YtipiajnaechadaaGreatRunSame
import Derived.Test.YtipiajnaechadaaGreatRunStarted
import Derived.Test.YtipiajnaechadaaGreatRunCopy
import Derived.Laws.EntriesVeiled
namespace Go.Proofs.YtipiajnaechadaaGreat
set_option linter.unusedVariables false
open Go.RowKit
attribute [local go_sem] quietR quietAtR quietUponR midAt midUpon

section
variable {w w' : World} {r g : Nat} {F L R x : Int} {A : List (Int × Int)}
theorem Back.unique {v : Int → Int} {x y n m : Int} (h : Back v x y n) (k : Back v x y m) (hm : ∀ t u, x ≤ t → t ≤ u → v t ≤ v u) : n = m := by
  have h1 := Back.less h k hm (fun _ _ => Int.le_refl _)
  have h2 := Back.less k h hm (fun _ _ => Int.le_refl _)
  omega
/-- the answer of Eligible, ahead of the call -/
theorem elig_fix (h : RunAt w r g F L R x A) (hA : A ≠ []) (y : Int) (hy : U y) :
    ∃ n, Back (fun t => vE F L R A (max t x)) x y n ∧ 0 ≤ n ∧ n ≤ 9223372036854775808 ∧ ∀ w1, RunAt w1 r g F L R x A →
      Calls Tryz.prog 39 #[.pointer (some ⟨r, 0, none⟩), .int .u64 y] w1 fun e w' => e = .returned (.int .u64 n) ∧ Below w1.heap.size w1 w' := by
  obtain ⟨e, w1, fr, ⟨n, he, hk, h0, h1, _⟩, _⟩ := run_elig h hA y hy []
  refine ⟨n, hk, h0, h1, fun w2 h2 => (run_elig h2 hA y hy).mono ?_⟩
  rintro e2 w3 ⟨m, rfl, hk2, _, _, hb⟩
  rw [hk.unique hk2 (vE_max_mono h.may h.num.1)]
  exact ⟨rfl, hb⟩
theorem reach_fix (h : RunAt w r g F L R x A) (hA : A ≠ []) (y : Int) (hy : U y) :
    ∃ n, Back (fun t => vA F L R A (max t x)) x y n ∧ 0 ≤ n ∧ n ≤ 9223372036854775808 ∧ ∀ w1, RunAt w1 r g F L R x A →
      Calls Tryz.prog 41 #[.pointer (some ⟨r, 0, none⟩), .int .u64 y] w1 fun e w' => e = .returned (.int .u64 n) ∧ Below w1.heap.size w1 w' := by
  obtain ⟨e, w1, fr, ⟨n, he, hk, h0, h1, _⟩, _⟩ := run_reach h hA y hy []
  refine ⟨n, hk, h0, h1, fun w2 h2 => (run_reach h2 hA y hy).mono ?_⟩
  rintro e2 w3 ⟨m, rfl, hk2, _, _, hb⟩
  rw [hk.unique hk2 (vA_max_mono h.may h.num.1)]
  exact ⟨rfl, hb⟩
end

/-- a debt in memory -/
def DebtAt (w : World) (d r g : Nat) (F L R x : Int) (A : List (Int × Int)) (got : Int) (aw : Bool) (el du : Int) : Prop :=
  Blk w d 45 #[.pointer (some ⟨r, 0, none⟩), .int .u64 got, .bool aw, .int .u64 el, .int .u64 du] ∧ RunAt w r g F L R x A ∧ d ≠ r ∧ d ≠ g

/-- the grains of a length -/
def grainsL (n : Int) : Int := min (max n 0) 65536 * 256
theorem grainsL_bd (n : Int) : 0 ≤ grainsL n ∧ grainsL n ≤ 16777216 := by unfold grainsL; omega

theorem grains_any (n : Int) (w : World) :
    Calls Tryz.prog 31 #[.int .i64 n] w fun e w' => e = .returned (.int .u64 (grainsL n)) ∧ w = w' := by
  obtain ⟨a, ha⟩ : ∃ a, (if n < 0 then 0 else n) = a := ⟨_, rfl⟩
  obtain ⟨b, hb⟩ : ∃ b, (if 65536 < a then 65536 else a) = b := ⟨_, rfl⟩
  have hm : grainsL n = b * 256 := by unfold grainsL; split at ha <;> split at hb <;> omega
  have hb0 : 0 ≤ b ∧ b ≤ 65536 := by split at ha <;> split at hb <;> omega
  rw [hm]
  go_enter Tryz.func31, Tryz.ntmps31
  go_wp2
  all_goals go_ret
  all_goals exact ⟨rfl, rfl⟩

section
variable {w w' : World} {d r g : Nat} {F L R x got el du : Int} {A : List (Int × Int)} {aw : Bool}
theorem DebtAt.below (h : DebtAt w d r g F L R x A got aw el du) (hb : Below w.heap.size w w') : DebtAt w' d r g F L R x A got aw el du := ⟨h.1.below hb h.1.lt, h.2.1.below hb, h.2.2⟩
theorem DebtAt.glt (h : DebtAt w d r g F L R x A got aw el du) : g < w.heap.size := by have := h.2.1.lt; omega

theorem dnone (h : DebtAt w d r g F L R x A got aw el du) :
    Calls Tryz.prog 18 #[.pointer (some ⟨d, 0, none⟩)] w fun e w' => e = .returned (.bool false) ∧ w = w' := by
  have c0 := h.1.cell 0
  simp only [List.getElem?_toArray, List.getElem?_cons_zero, List.getElem?_cons_succ] at c0
  clear h
  go_enter Tryz.func18, Tryz.ntmps18
  go_wp2
  go_ret
  exact ⟨rfl, rfl⟩
theorem dawake (h : DebtAt w d r g F L R x A got aw el du) :
    Calls Tryz.prog 23 #[.pointer (some ⟨d, 0, none⟩)] w fun e w' => e = .returned (.bool aw) ∧ w = w' := by
  have c2 := h.1.cell 2
  simp only [List.getElem?_toArray, List.getElem?_cons_zero, List.getElem?_cons_succ] at c2
  have H := Lib.hid h; clear h
  go_enter Tryz.func23, Tryz.ntmps23
  go_wp2_with (go_at_call 18; refine (dnone H.out).mono ?_; rintro e w' ⟨rfl, rfl⟩)
  go_ret
  exact ⟨rfl, rfl⟩
theorem dgot (h : DebtAt w d r g F L R x A got aw el du) :
    Calls Tryz.prog 24 #[.pointer (some ⟨d, 0, none⟩)] w fun e w' => e = .returned (.int .u64 got) ∧ w = w' := by
  have c1 := h.1.cell 1
  simp only [List.getElem?_toArray, List.getElem?_cons_zero, List.getElem?_cons_succ] at c1
  have H := Lib.hid h; clear h
  go_enter Tryz.func24, Tryz.ntmps24
  go_wp2_with (go_at_call 18; refine (dnone H.out).mono ?_; rintro e w' ⟨rfl, rfl⟩)
  go_ret
  exact ⟨rfl, rfl⟩
theorem delig (h : DebtAt w d r g F L R x A got true el du) :
    Calls Tryz.prog 25 #[.pointer (some ⟨d, 0, none⟩)] w fun e w' => e = .returned (.int .u64 el) ∧ w = w' := by
  have c3 := h.1.cell 3
  simp only [List.getElem?_toArray, List.getElem?_cons_zero, List.getElem?_cons_succ] at c3
  have H := Lib.hid h; clear h
  go_enter Tryz.func25, Tryz.ntmps25
  go_wp2_with (go_at_call 23; refine (dawake H.out).mono ?_; rintro e w' ⟨rfl, rfl⟩)
  go_ret
  exact ⟨rfl, rfl⟩
theorem delig_no (h : DebtAt w d r g F L R x A got false el du) :
    Calls Tryz.prog 25 #[.pointer (some ⟨d, 0, none⟩)] w fun e w' => e = .returned (.int .u64 9223372036854775808) ∧ w = w' := by
  have H := Lib.hid h; clear h
  go_enter Tryz.func25, Tryz.ntmps25
  go_wp2_with (go_at_call 23; refine (dawake H.out).mono ?_; rintro e w' ⟨rfl, rfl⟩)
  go_ret
  exact ⟨rfl, rfl⟩
theorem ddue (h : DebtAt w d r g F L R x A got true el du) :
    Calls Tryz.prog 27 #[.pointer (some ⟨d, 0, none⟩)] w fun e w' => e = .returned (.int .u64 du) ∧ w = w' := by
  have c4 := h.1.cell 4
  simp only [List.getElem?_toArray, List.getElem?_cons_zero, List.getElem?_cons_succ] at c4
  have H := Lib.hid h; clear h
  go_enter Tryz.func27, Tryz.ntmps27
  go_wp2_with (go_at_call 23; refine (dawake H.out).mono ?_; rintro e w' ⟨rfl, rfl⟩)
  go_ret
  exact ⟨rfl, rfl⟩
theorem ddue_no (h : DebtAt w d r g F L R x A got false el du) :
    Calls Tryz.prog 27 #[.pointer (some ⟨d, 0, none⟩)] w fun e w' => e = .returned (.int .u64 9223372036854775808) ∧ w = w' := by
  have H := Lib.hid h; clear h
  go_enter Tryz.func27, Tryz.ntmps27
  go_wp2_with (go_at_call 23; refine (dawake H.out).mono ?_; rintro e w' ⟨rfl, rfl⟩)
  go_ret
  exact ⟨rfl, rfl⟩
theorem dowes (h : DebtAt w d r g F L R x A got aw el du) (hA : A ≠ []) (t : Int) (ht : U t) :
    Calls Tryz.prog 29 #[.pointer (some ⟨d, 0, none⟩), .int .u64 t] w fun e w' => e = .returned (.int .u64 (vA F L R A (max t x))) ∧ Below w.heap.size w w' := by
  have c0 := h.1.cell 0
  simp only [List.getElem?_toArray, List.getElem?_cons_zero, List.getElem?_cons_succ] at c0
  have H := Lib.hid h; have HA := Lib.hid hA; clear h hA
  go_enter Tryz.func29, Tryz.ntmps29
  go_wp2_with (first
    | (go_at_call 18; refine (dnone H.out).mono ?_; rintro e w' ⟨rfl, rfl⟩)
    | (go_at_call 48; refine (run_at H.out.2.1 HA.out t ht).mono ?_; rintro e w1 ⟨rfl, hb1⟩))
  go_ret
  exact ⟨rfl, hb1⟩
end


/-- what is due of a head: got, and its grains -/
def dueY (got n : Int) : Int := min (got + grainsL n) 4611686018427387904
theorem dueY_bd {got n : Int} (h : 0 ≤ got) : 0 ≤ dueY got n ∧ dueY got n ≤ 4611686018427387904 := by have := grainsL_bd n; unfold dueY; omega

theorem real_new (F L R : Int) (w : World) (hF : 0 ≤ F) (hL : 0 ≤ L) (hR : 0 ≤ R) (h1 : mayB F L R = true) :
    Calls Tryz.prog 5 #[.agg #[.int .u64 F, .int .u64 L, .int .u64 R]] w fun e w' =>
      ∃ d r g, e = .returned (.pointer (some ⟨d, 0, none⟩)) ∧ w.heap.size ≤ g ∧ DebtAt w' d r g F L R 0 [] 0 false 0 0 ∧ w.heap.size ≤ d ∧ Below w.heap.size w w' := by
  have hal := (Below.refl w.heap.size w).alloc (Nat.le_refl _) (.cells #[.int .u64 F, .int .u64 L, .int .u64 R] 24)
  have nb := Blk.new w 24 #[.int .u64 F, .int .u64 L, .int .u64 R]
  have HN := Lib.hid nb; have H := Lib.hid h1
  clear nb h1
  go_enter Tryz.func5, Tryz.ntmps5
  go_wp2_with (first
    | (go_at_call 14; refine (may_any F L R _ hL).mono ?_; rintro e w1 ⟨rfl, hb1⟩; rw [H.out]; have n1 := HN.out.below hb1 HN.out.lt; have a0 := n1.cell 0; have a1 := n1.cell 1; have a2 := n1.cell 2; simp only [List.getElem?_toArray, List.getElem?_cons_zero, List.getElem?_cons_succ] at a0 a1 a2)
    | (go_at_call 15; refine (run_new F L R _ hF hL hR H.out).mono ?_; rintro e w2 ⟨r, g, rfl, hg, hr, hb2⟩; have HR := Lib.hid hr; clear hr))
  go_ret
  have hb3 := hb1.trans (hb2.mono hb1.size)
  have hb4 : Below w.heap.size w w2 := hal.trans (hb3.mono hal.size)
  have hal2 := (Below.refl w2.heap.size w2).alloc (Nat.le_refl _) (.cells #[.pointer (some ⟨r, 0, none⟩), .int .u64 0, .bool false, .int .u64 0, .int .u64 0] 45)
  exact ⟨w2.heap.size, r, g, rfl, Nat.le_trans (Nat.le_trans hal.size hb1.size) hg, ⟨Blk.new _ _ _, HR.out.below hal2, by have := HR.out.lt; omega, by have := HR.out.lt; omega⟩, hb4.size, hb4.trans (hal2.mono hb4.size)⟩

theorem anew_any (w : World) :
    Calls Tryz.prog 20 #[] w fun e w' => e = .returned (.agg #[.func (.func 38) #[] #[], .func (.func 40) #[] #[]]) ∧ Below w.heap.size w w' := by
  go_enter Tryz.func20, Tryz.ntmps20
  go_wp2
  go_returns
  exact ⟨rfl, by go_grown⟩

section
variable {w w' : World} {d r g : Nat} {F L R x got el du : Int} {A : List (Int × Int)} {aw : Bool}

theorem RunAt.far {t : Nat} {cs : Array Value} (h : RunAt w r g F L R x A) (hB : Blk w d t cs) (ht : t ≠ 140) (h1 : d ≠ r) (h2 : d ≠ g) (hw : w.grownBy w' (some d)) : RunAt w' r g F L R x A := by
  rcases h with ⟨k1, k2, k3⟩ | ⟨k1, ⟨K, k2⟩, k3⟩
  · exact .inl ⟨k1.grown hw (by simpa using Ne.symm h1), k2.stay h2 hw, k3⟩
  · exact .inr ⟨k1.grown hw (by simpa using Ne.symm h1), ⟨K, k2.stay2 h2 hB ht hw⟩, k3⟩
theorem DebtAt.run_set (h : DebtAt w d r g F L R x A got aw el du) (i : Nat) (u : Value) : RunAt (w.setCell ⟨d, i, none⟩ u) r g F L R x A :=
  h.2.1.far h.1 (by decide) h.2.2.1 h.2.2.2 (World.grownBy_setCell _ _ _)

theorem anew_elig (h : DebtAt w d r g F L R x A got aw el du) (hA : A ≠ []) (hg : U got) (n : Int) :
    Calls Tryz.prog 38 #[.pointer (some ⟨d, 0, none⟩), .int .i64 n] w fun e w' =>
      e = .returned (.tuple #[]) ∧ ∃ el', Back (fun t => vE F L R A (max t x)) x got el' ∧ 0 ≤ el' ∧ el' ≤ 9223372036854775808 ∧ DebtAt w' d r g F L R x A got aw el' du ∧ w.grownBy w' (some d) := by
  obtain ⟨n0, hk, hn0, hn1, hc⟩ := elig_fix h.2.1 hA got hg
  have c0 := h.1.cell 0; have c1 := h.1.cell 1
  simp only [List.getElem?_toArray, List.getElem?_cons_zero, List.getElem?_cons_succ] at c0 c1
  have hlt := h.1.lt
  have o0 := fun e => (over_cell (w := w) (e := e) hlt).trans c0
  have o1 := fun e => (over_cell (w := w) (e := e) hlt).trans c1
  have hr := h.2.1
  have H := Lib.hid h; have HC := Lib.hid hc; have HK := Lib.hid hk; have HR := Lib.hid hr
  clear h hc hk hr
  go_enter Tryz.func38, Tryz.ntmps38
  go_wp2
  refine wp_region_over_tail 13 (by kernel_rfl) (by kernel_rfl) ?_
  simp only [List.take_succ_cons, List.take_zero, List.drop_succ_cons, List.drop_zero]
  repeat (first | go_big_quiet_skip | (go_big_quiet_want; go_big_quiet_op; first | go_big_quiet_on | (apply Exists.intro; refine ⟨fun e => ?_, ?_⟩; (focus (go_at_call 39; exact calls_over (HC.out _ (HR.out.below (over_below _ e))))); go_big_quiet_on)))
  refine wpQuiet_nil ?_
  rintro W2 ⟨e2, he2⟩
  have hb2 := over_below w e2
  rw [← he2] at hb2
  clear he2 o0 o1 c0 c1
  have h2 := H.out.below hb2
  have d3 := h2.1.cell 3; have z3 := h2.1.frozen 3
  simp only [List.getElem?_toArray, List.getElem?_cons_zero, List.getElem?_cons_succ] at d3
  have H2 := Lib.hid h2
  clear h2
  go_wp2
  go_returns
  exact ⟨rfl, n0, HK.out, hn0, hn1, ⟨by simpa using H2.out.1.set_ 3 (.int .u64 n0), H2.out.run_set _ _, H2.out.2.2⟩, (show w.grownBy W2 (some d) from ⟨hb2.os, hb2.tape, hb2.output, hb2.size, fun k hk _ => hb2.block k hk⟩).trans (World.grownBy_setCell _ _ _)⟩

theorem anew_due (h : DebtAt w d r g F L R x A got aw el du) (hA : A ≠ []) (hg0 : 0 ≤ got) (hg1 : got ≤ 4611686018427387904) (n : Int) :
    Calls Tryz.prog 40 #[.pointer (some ⟨d, 0, none⟩), .int .i64 n] w fun e w' =>
      e = .returned (.tuple #[]) ∧ ∃ du', Back (fun t => vA F L R A (max t x)) x (dueY got n) du' ∧ 0 ≤ du' ∧ du' ≤ 9223372036854775808 ∧ DebtAt w' d r g F L R x A got aw el du' ∧ w.grownBy w' (some d) := by
  obtain ⟨G, hG⟩ : ∃ G, grainsL n = G := ⟨_, rfl⟩
  obtain ⟨Y, hY⟩ : ∃ Y, dueY got n = Y := ⟨_, rfl⟩
  have hGb := grainsL_bd n
  rw [hG] at hGb
  have hYb := dueY_bd (n := n) hg0
  rw [hY] at hYb
  have hYe : (if 4611686018427387904 < got + G then 4611686018427387904 else got + G) = Y := by rw [← hY, ← hG]; unfold dueY; omega
  rw [hY]
  obtain ⟨n0, hk, hn0, hn1, hc⟩ := reach_fix h.2.1 hA Y ⟨hYb.1, by omega⟩
  have c0 := h.1.cell 0; have c1 := h.1.cell 1
  simp only [List.getElem?_toArray, List.getElem?_cons_zero, List.getElem?_cons_succ] at c0 c1
  have hlt := h.1.lt
  have o0 := fun e => (over_cell (w := w) (e := e) hlt).trans c0
  have o1 := fun e => (over_cell (w := w) (e := e) hlt).trans c1
  have hr := h.2.1
  have H := Lib.hid h; have HC := Lib.hid hc; have HK := Lib.hid hk; have HR := Lib.hid hr
  clear h hc hk hr hY
  go_enter Tryz.func40, Tryz.ntmps40
  go_wp2
  refine wp_region_over_tail 17 (by kernel_rfl) (by kernel_rfl) ?_
  simp only [List.take_succ_cons, List.take_zero, List.drop_succ_cons, List.drop_zero]
  repeat (first | go_big_quiet_skip | (go_big_quiet_want; go_big_quiet_op; first | go_big_quiet_on | (apply Exists.intro; refine ⟨fun e => ?_, ?_⟩; (focus (first | (go_at_call 31; exact calls_over_same (hG ▸ grains_any n _)) | (go_at_call 41; exact calls_over (HC.out _ (HR.out.below (over_below _ e)))))); go_big_quiet_on)))
  refine wpQuiet_nil ?_
  rintro W2 ⟨e2, he2⟩
  have hb2 := over_below w e2
  rw [← he2] at hb2
  clear he2 o0 o1 c0 c1
  have h2 := H.out.below hb2
  have d4 := h2.1.cell 4; have z4 := h2.1.frozen 4
  simp only [List.getElem?_toArray, List.getElem?_cons_zero, List.getElem?_cons_succ] at d4
  have H2 := Lib.hid h2
  clear h2
  go_wp2
  go_returns
  exact ⟨rfl, n0, HK.out, hn0, hn1, ⟨by simpa using H2.out.1.set_ 4 (.int .u64 n0), H2.out.run_set _ _, H2.out.2.2⟩, (show w.grownBy W2 (some d) from ⟨hb2.os, hb2.tape, hb2.output, hb2.size, fun k hk _ => hb2.block k hk⟩).trans (World.grownBy_setCell _ _ _)⟩
end


section
variable {w w' : World} {d r g : Nat} {F L R x got el du : Int} {A : List (Int × Int)} {aw : Bool}

/-- what a debt holds while it is awake -/
def Debts (F L R x : Int) (A : List (Int × Int)) (got n el du : Int) : Prop :=
  Back (fun t => vE F L R A (max t x)) x got el ∧ 0 ≤ el ∧ el ≤ 9223372036854775808 ∧ Back (fun t => vA F L R A (max t x)) x (dueY got n) du ∧ 0 ≤ du ∧ du ≤ 9223372036854775808

/-- all but the debt and its run is as it was -/
structure Keeps (w w' : World) (g d : Nat) : Prop where
  low : ∀ B, B ≤ g → B ≤ d → Below B w w'
  blk : ∀ b t cs, Blk w b t cs → b ≠ g → b ≠ d → Blk w' b t cs
  size : w.heap.size ≤ w'.heap.size
theorem Keeps.same (w : World) (g d : Nat) : Keeps w w g d := ⟨fun B _ _ => Below.refl B w, fun _ _ _ h _ _ => h, Nat.le_refl _⟩
theorem Keeps.trans {w1 w2 w3 : World} {g d : Nat} (h : Keeps w1 w2 g d) (k : Keeps w2 w3 g d) : Keeps w1 w3 g d :=
  ⟨fun B hB hB2 => (h.low B hB hB2).trans (k.low B hB hB2), fun b t cs hB h1 h2 => k.blk b t cs (h.blk b t cs hB h1 h2) h1 h2, Nat.le_trans h.size k.size⟩
theorem Keeps.of_below {w w' : World} {g d : Nat} (h : Below w.heap.size w w') (hg : g < w.heap.size) : Keeps w w' g d :=
  ⟨fun B hB _ => h.mono (by omega), fun b t cs hB _ _ => hB.below h hB.lt, h.size⟩
theorem Keeps.of_grown {w w' : World} {g d : Nat} (h : w.grownBy w' (some g)) (hg : g < w.heap.size) : Keeps w w' g d :=
  ⟨fun B hB hB2 => (Below.refl B w).grown h (by omega) (fun j hj => by (injection hj with hj; omega)), fun b t cs hB h1 _ => hB.grown h (by simpa using h1), h.size⟩
theorem Keeps.of_grown_d {w w' : World} {g d : Nat} (h : w.grownBy w' (some d)) (hg : True) (hd : g < w.heap.size) : Keeps w w' g d :=
  ⟨fun B hB hB2 => (Below.refl B w).grown h (by omega) (fun j hj => by (injection hj with hj; omega)), fun b t cs hB _ h2 => hB.grown h (by simpa using h2), h.size⟩
theorem Keeps.of_set {w : World} {g d : Nat} (i : Nat) (u : Value) (hg : True) (hd : g < w.heap.size) : Keeps w (w.setCell ⟨d, i, none⟩ u) g d :=
  Keeps.of_grown_d (World.grownBy_setCell w ⟨d, i, none⟩ u) hg hd

theorem dwake_on (h : DebtAt w d r g F L R x A got true el du) (t n : Int) :
    Calls Tryz.prog 7 #[.pointer (some ⟨d, 0, none⟩), .int .u64 t, .int .i64 n] w fun e w' => e = .returned (.tuple #[]) ∧ w = w' := by
  have c2 := h.1.cell 2
  simp only [List.getElem?_toArray, List.getElem?_cons_zero, List.getElem?_cons_succ] at c2
  have H := Lib.hid h; clear h
  go_enter Tryz.func7, Tryz.ntmps7
  go_wp2_with (go_at_call 18; refine (dnone H.out).mono ?_; rintro e w' ⟨rfl, rfl⟩)
  go_returns
  exact ⟨rfl, rfl⟩
theorem dserve_off (h : DebtAt w d r g F L R x A got false el du) (q n m : Int) :
    Calls Tryz.prog 10 #[.pointer (some ⟨d, 0, none⟩), .int .u8 q, .int .i64 n, .int .i64 m] w fun e w' => e = .returned (.tuple #[]) ∧ w = w' := by
  have H := Lib.hid h; clear h
  go_enter Tryz.func10, Tryz.ntmps10
  go_wp2_with (go_at_call 23; refine (dawake H.out).mono ?_; rintro e w' ⟨rfl, rfl⟩)
  go_returns
  exact ⟨rfl, rfl⟩

set_option maxRecDepth 100000 in
set_option maxHeartbeats 1000000 in
theorem dwake (h : DebtAt w d r g F L R x A got false el du) (t n X : Int) (ut : U t) (hg0 : 0 ≤ got) (hg1 : got ≤ 4611686018427387904) (hX : X = max (min t 9223372036854775808) x) (hfew : A.length < 900000) :
    Calls Tryz.prog 7 #[.pointer (some ⟨d, 0, none⟩), .int .u64 t, .int .i64 n] w fun e w' => e = .returned (.tuple #[]) ∧
      ∃ el' du', DebtAt w' d r g F L R X (A ++ [(X, got)]) got true el' du' ∧ Debts F L R X (A ++ [(X, got)]) got n el' du' ∧ Keeps w w' g d := by
  have c0 := h.1.cell 0; have c1 := h.1.cell 1; have c2 := h.1.cell 2
  simp only [List.getElem?_toArray, List.getElem?_cons_zero, List.getElem?_cons_succ] at c0 c1 c2
  have hlt := h.1.lt
  have o0 := fun e => (over_cell (w := w) (e := e) hlt).trans c0
  have o1 := fun e => (over_cell (w := w) (e := e) hlt).trans c1
  have hgd := trivial; have hgl := h.glt; have hrd := h.2.2
  have H := Lib.hid h; clear h
  go_enter Tryz.func7, Tryz.ntmps7
  go_wp2_with (go_at_call 18; refine (dnone H.out).mono ?_; rintro e w' ⟨rfl, rfl⟩)
  refine wp_region_over_tail 10 (by kernel_rfl) (by kernel_rfl) ?_
  simp only [List.take_succ_cons, List.take_zero, List.drop_succ_cons, List.drop_zero]
  repeat (first | go_big_quiet_skip | (go_big_quiet_want; go_big_quiet_op; go_big_quiet_on))
  refine wpQuiet_nil ?_
  rintro W2 ⟨e2, he2⟩
  have hb2 := over_below w e2
  rw [← he2] at hb2
  clear he2 o0 o1 c0 c1 c2
  have h2 := H.out.below hb2
  have HH2 := Lib.hid h2
  clear h2
  have u8 : U got := ⟨hg0, by omega⟩
  have hgm : got = min got 4611686018427387904 := by omega
  have HGM := Lib.hid hgm; have HXX := Lib.hid hX; clear hgm hX
  go_wp2_with (first
    | (go_at_call 19; refine (run_start HH2.out.2.1 t got X got ut u8 HXX.out HGM.out hfew).mono ?_; rintro e w3 ⟨rfl, hr3, hg3⟩; have hB3 := HH2.out.1.grown hg3 (by simp; omega); have d2 := hB3.cell 2; have z2 := hB3.frozen 2; simp only [List.getElem?_toArray, List.getElem?_cons_zero, List.getElem?_cons_succ] at d2; have HB3 := Lib.hid hB3; have HR3 := Lib.hid hr3; have HG3 := Lib.hid hg3; clear hB3 hr3 hg3)
    | (go_at_call 20; refine (anew_any _).mono ?_; rintro e w4 ⟨rfl, hb4⟩; have D3 : DebtAt (w3.setCell ⟨d, 2, none⟩ (.bool true)) d r g F L R X (A ++ [(X, got)]) got true el du := ⟨by (simpa using HB3.out.set_ 2 (.bool true)), RunAt.far HR3.out HB3.out (by decide) (by omega) (by omega) (World.grownBy_setCell _ _ _), hrd⟩; have hB4s := D3.1.lt; have D4 := D3.below hb4; have D5 := D4.below ((Below.refl _ _).alloc (Nat.le_refl _) (.cells #[.func (.func 38) #[] #[], .func (.func 40) #[] #[]] 54)); have HD5 := Lib.hid D5; have hd4 := D4.1.lt; have nm := Blk.new w4 54 #[.func (.func 38) #[] #[], .func (.func 40) #[] #[]]; have NM := Lib.hid nm; clear D3 D4 D5 nm)
    | (go_at_call 38; refine (anew_elig HD5.out (by simp) u8 n).mono ?_; rintro e w6 ⟨rfl, el', hk1, h10, h11, h6, hg6⟩; have nm6 := NM.out.grown hg6 (by (simp; omega)); have m1 := nm6.cell 1; simp only [List.getElem?_toArray, List.getElem?_cons_zero, List.getElem?_cons_succ] at m1; have HK1 := Lib.hid hk1; have H6 := Lib.hid h6; clear hk1 h6 nm6)
    | (go_at_call 40; refine (anew_due H6.out (by simp) hg0 hg1 n).mono ?_; rintro e w7 ⟨rfl, du', hk2, h20, h21, h7, hg7⟩; have HK2 := Lib.hid hk2; have H7 := Lib.hid h7; clear hk2 h7))
  go_returns
  refine ⟨rfl, el', du', H7.out, ⟨HK1.out, h10, h11, HK2.out, h20, h21⟩, ?_⟩
  have s2 := hb2.size; have s3 := HG3.out.size; have s4 := hb4.size; have s6 := hg6.size
  simp only [World.size_setCell] at s4
  simp only [World.size_alloc] at s6
  exact (((((Keeps.of_below hb2 (by omega)).trans (Keeps.of_grown HG3.out (by omega))).trans (Keeps.of_set 2 (.bool true) hgd (by omega))).trans (Keeps.of_below (hb4.alloc hb4.size (.cells #[.func (.func 38) #[] #[], .func (.func 40) #[] #[]] 54)) (by simp only [World.size_setCell]; omega))).trans (Keeps.of_grown_d hg6 hgd (by simp only [World.size_alloc]; omega))).trans (Keeps.of_grown_d hg7 hgd (by omega))




set_option maxRecDepth 100000 in
set_option maxHeartbeats 1000000 in
theorem dserve_share (h : DebtAt w d r g F L R x A got true el du) (hA : A ≠ []) (hg0 : 0 ≤ got) (hg1 : got ≤ 4611686018427387904) (q : Int) (hq : q ≠ 1) (n m : Int) :
    Calls Tryz.prog 10 #[.pointer (some ⟨d, 0, none⟩), .int .u8 q, .int .i64 n, .int .i64 m] w fun e w' => e = .returned (.tuple #[]) ∧
      ∃ du', DebtAt w' d r g F L R x A got (decide (1 ≤ m)) el du' ∧ Back (fun t => vA F L R A (max t x)) x (dueY got m) du' ∧ 0 ≤ du' ∧ du' ≤ 9223372036854775808 ∧ Keeps w w' g d := by
  have hgd := trivial; have hgl := h.glt; have hrd := h.2.2
  have H := Lib.hid h; clear h
  have HA := Lib.hid hA; clear hA
  go_enter Tryz.func10, Tryz.ntmps10
  go_wp2_with (first
    | (go_at_call 23; refine (dawake H.out).mono ?_; rintro e w' ⟨rfl, rfl⟩)
    | (go_at_call 20; refine (anew_any _).mono ?_; rintro e w4 ⟨rfl, hb4⟩)
    | (go_at_call 40; refine (anew_due (H.out.below (hb4.alloc hb4.size _)) HA.out hg0 hg1 m).mono ?_; rintro e w5 ⟨rfl, du', hk, hd0, hd1, h5, hg5⟩; have d2 := h5.1.cell 2; have z2 := h5.1.frozen 2; simp only [List.getElem?_toArray, List.getElem?_cons_zero, List.getElem?_cons_succ] at d2; have H5 := Lib.hid h5; have HK := Lib.hid hk; clear h5 hk))
  go_returns
  refine ⟨rfl, du', ⟨by simpa using H5.out.1.set_ 2 (.bool (decide (1 ≤ m))), H5.out.run_set _ _, hrd⟩, HK.out, hd0, hd1, ?_⟩
  have hlt := H.out.1.lt; have s4 := hb4.size
  have s5 := hg5.size
  simp only [World.size_alloc] at s5
  exact ((Keeps.of_below (hb4.alloc hb4.size (.cells #[.func (.func 38) #[] #[], .func (.func 40) #[] #[]] 54)) (by omega)).trans (Keeps.of_grown_d hg5 hgd (by simp only [World.size_alloc]; omega))).trans (Keeps.of_set _ _ hgd (by omega))


set_option maxRecDepth 100000 in
set_option maxHeartbeats 1000000 in
theorem dserve_real (h : DebtAt w d r g F L R x A got true el du) (hA : A ≠ []) (hg0 : 0 ≤ got) (hg1 : got ≤ 4611686018427387904) (n m : Int) :
    Calls Tryz.prog 10 #[.pointer (some ⟨d, 0, none⟩), .int .u8 1, .int .i64 n, .int .i64 m] w fun e w' => e = .returned (.tuple #[]) ∧
      ∃ el' du', DebtAt w' d r g F L R x A (dueY got n) (decide (1 ≤ m)) el' du' ∧ Debts F L R x A (dueY got n) m el' du' ∧ Keeps w w' g d := by
  obtain ⟨G, hG⟩ : ∃ G, grainsL n = G := ⟨_, rfl⟩
  obtain ⟨Y, hY⟩ : ∃ Y, dueY got n = Y := ⟨_, rfl⟩
  have hGb := grainsL_bd n
  rw [hG] at hGb
  have hYb := dueY_bd (n := n) hg0
  rw [hY] at hYb
  have hYe : (if 4611686018427387904 < got + G then 4611686018427387904 else got + G) = Y := by rw [← hY, ← hG]; unfold dueY; omega
  rw [hY]
  have uY : U Y := ⟨hYb.1, by omega⟩
  have hgd := trivial; have hgl := h.glt; have hrd := h.2.2
  have hlt := h.1.lt
  have H := Lib.hid h; clear h hY
  have HA := Lib.hid hA; clear hA
  go_enter Tryz.func10, Tryz.ntmps10
  go_wp2_with (first
    | (go_at_call 23; refine (dawake H.out).mono ?_; rintro e w' ⟨rfl, rfl⟩)
    | (go_at_call 20; refine (anew_any _).mono ?_; rintro e w4 ⟨rfl, hb4⟩))
  have h5 := H.out.below (hb4.alloc hb4.size (.cells #[.func (.func 38) #[] #[], .func (.func 40) #[] #[]] 54))
  have hbm := hb4.alloc hb4.size (.cells #[.func (.func 38) #[] #[], .func (.func 40) #[] #[]] 54)
  have nm := Blk.new w4 54 #[.func (.func 38) #[] #[], .func (.func 40) #[] #[]]
  have s4 := hb4.size
  generalize hwm : w4.alloc (.cells #[.func (.func 38) #[] #[], .func (.func 40) #[] #[]] 54) = wm at *
  have hws : wm.heap.size = w4.heap.size + 1 := by rw [← hwm]; simp
  clear hwm
  have c1 := h5.1.cell 1
  simp only [List.getElem?_toArray, List.getElem?_cons_zero, List.getElem?_cons_succ] at c1
  have o1 := fun e => (over_cell (w := wm) (e := e) h5.1.lt).trans c1
  have H5 := Lib.hid h5; have NM := Lib.hid nm; have HBM := Lib.hid hbm
  clear h5 nm hbm hb4
  refine wp_region_over_tail 11 (by kernel_rfl) (by kernel_rfl) ?_
  simp only [List.take_succ_cons, List.take_zero, List.drop_succ_cons, List.drop_zero]
  repeat (first | go_big_quiet_skip | (go_big_quiet_want; go_big_quiet_op; first | go_big_quiet_on | (apply Exists.intro; refine ⟨fun e => ?_, ?_⟩; (focus (go_at_call 31; exact calls_over_same (hG ▸ grains_any n _))); go_big_quiet_on)))
  refine wpQuiet_nil ?_
  rintro W2 ⟨e2, he2⟩
  have hb2 := over_below wm e2
  rw [← he2] at hb2
  clear he2 o1 c1
  have h6 := H5.out.below hb2
  have nm2 := NM.out.below hb2 NM.out.lt
  have d1 := h6.1.cell 1; have z1 := h6.1.frozen 1
  have m0 := nm2.cell 0
  simp only [List.getElem?_toArray, List.getElem?_cons_zero, List.getElem?_cons_succ] at d1 m0
  have D6 : DebtAt (W2.setCell ⟨d, 1, none⟩ (.int .u64 Y)) d r g F L R x A Y true el du := ⟨by (simpa using h6.1.set_ 1 (.int .u64 Y)), h6.run_set _ _, hrd⟩
  have nm3 := nm2.grown (World.grownBy_setCell W2 ⟨d, 1, none⟩ (.int .u64 Y)) (by simp; omega)
  have mm0 := nm3.cell 0
  simp only [List.getElem?_toArray, List.getElem?_cons_zero, List.getElem?_cons_succ] at mm0
  have HD6 := Lib.hid D6; have NM3 := Lib.hid nm3; have HB2 := Lib.hid hb2
  have s2 := hb2.size
  clear h6 nm2 nm3 D6 hb2
  go_wp2_with (first
    | (go_at_call 38; refine (anew_elig HD6.out HA.out uY m).mono ?_; rintro e w6 ⟨rfl, el', hk1, h10, h11, h6, hg6⟩; have nm6 := NM3.out.grown hg6 (by (simp; omega)); have m1 := nm6.cell 1; simp only [List.getElem?_toArray, List.getElem?_cons_zero, List.getElem?_cons_succ] at m1; have HK1 := Lib.hid hk1; have H6 := Lib.hid h6; clear hk1 h6 nm6)
    | (go_at_call 40; refine (anew_due H6.out HA.out hYb.1 hYb.2 m).mono ?_; rintro e w7 ⟨rfl, du', hk2, h20, h21, h7, hg7⟩; have d2 := h7.1.cell 2; have z2 := h7.1.frozen 2; simp only [List.getElem?_toArray, List.getElem?_cons_zero, List.getElem?_cons_succ] at d2; have HK2 := Lib.hid hk2; have H7 := Lib.hid h7; clear hk2 h7))
  go_returns
  refine ⟨rfl, el', du', ⟨by simpa using H7.out.1.set_ 2 (.bool (decide (1 ≤ m))), H7.out.run_set _ _, hrd⟩, ⟨HK1.out, h10, h11, HK2.out, h20, h21⟩, ?_⟩
  have s6 := hg6.size; have s7 := hg7.size
  simp only [World.size_setCell] at s6
  exact (((((Keeps.of_below HBM.out (by omega)).trans (Keeps.of_below HB2.out (by omega))).trans (Keeps.of_set 1 (.int .u64 Y) hgd (by omega))).trans (Keeps.of_grown_d hg6 hgd (by simp only [World.size_setCell]; omega))).trans (Keeps.of_grown_d hg7 hgd (by omega))).trans (Keeps.of_set _ _ hgd (by omega))
end

/-- the document's debt: what it got, whether it is awake, since when it is eligible, its head's length -/
def RDebt (w : World) (v p base : Nat) (F L R x : Int) (A : List (Int × Int)) (got : Int) (aw : Bool) (el n : Int) : Prop :=
  Blk w v 49 #[.pointer (some ⟨p, 0, none⟩), .int .u64 got, .bool aw, .int .u64 el, .int .i64 n] ∧ RefAt w p base F L R x A ∧ base ≤ v

/-- what the document's debt turns -/
structure DocGrown (w w' : World) (base v p : Nat) : Prop where
  os : w'.os = w.os
  tape : w'.tape = w.tape
  output : w'.output = w.output
  size : w.heap.size ≤ w'.heap.size
  block : ∀ k, k < w.heap.size → k ≠ v → k ≠ p → (k < base ∨ ∀ cs z, w.heap[k]? ≠ some (.cells cs 22 z)) → w'.heap[k]? = w.heap[k]?

section
variable {w w' w1 w2 w3 : World} {v p base : Nat} {F L R x got el n : Int} {A : List (Int × Int)} {aw : Bool}
theorem RDebt.below (h : RDebt w v p base F L R x A got aw el n) (hb : Below w.heap.size w w') : RDebt w' v p base F L R x A got aw el n :=
  ⟨h.1.below hb h.1.lt, h.2.1.below hb, h.2.2⟩
theorem DocGrown.trans (h1 : DocGrown w1 w2 base v p) (h2 : DocGrown w2 w3 base v p) : DocGrown w1 w3 base v p :=
  ⟨h2.os.trans h1.os, h2.tape.trans h1.tape, h2.output.trans h1.output, Nat.le_trans h1.size h2.size, fun k hk hv hp h => by
    have e1 := h1.block k hk hv hp h
    have e2 := h2.block k (Nat.lt_of_lt_of_le hk h1.size) hv hp (h.imp id fun h cs z => by rw [e1]; exact h cs z)
    exact e2.trans e1⟩
theorem DocGrown.of_below (h : Below w.heap.size w w') : DocGrown w w' base v p := ⟨h.os, h.tape, h.output, h.size, fun k hk _ _ _ => h.block k hk⟩
theorem DocGrown.of_ref (h : RefGrown w w' base p) : DocGrown w w' base v p := ⟨h.os, h.tape, h.output, h.size, fun k hk _ hp ht => h.block k hk hp ht⟩
theorem DocGrown.of_set (h : w.grownBy w' (some v)) : DocGrown w w' base v p := ⟨h.os, h.tape, h.output, h.size, fun k hk hv _ _ => h.block k hk (by simpa using hv)⟩
theorem DocGrown.low (h : DocGrown w w' base v p) (hv : base ≤ v) (hp : base ≤ p) (hs : base ≤ w.heap.size) : Below base w w' :=
  ⟨h.os, h.tape, h.output, h.size, fun k hk => h.block k (by omega) (by omega) (by omega) (.inl hk)⟩
theorem Blk.doc {g : Nat} {t : TypeId} {cs : Array Value} (h : Blk w g t cs) (hg : DocGrown w w' base v p) (h1 : g ≠ v) (h2 : g ≠ p) (ht : t ≠ 22) : Blk w' g t cs :=
  (hg.block g h.lt h1 h2 (.inr fun cs' z he => by
    unfold Blk at h
    rw [h] at he
    injection he with he
    injection he with h1 h2
    exact ht h2)).trans h
theorem RDebt.set (h : RDebt w v p base F L R x A got aw el n) (i : Nat) (u : Value) : RefAt (w.setCell ⟨v, i, none⟩ u) p base F L R x A ∧ DocGrown w (w.setCell ⟨v, i, none⟩ u) base v p :=
  ⟨h.2.1.grown (World.grownBy_setCell _ _ _) h.1 (by decide) (by decide), DocGrown.of_set (World.grownBy_setCell _ _ _)⟩

theorem rgrains_any (n : Int) (w : World) :
    Calls Tryz.prog 33 #[.int .i64 n] w fun e w' => e = .returned (.int .u64 (grainsL n)) ∧ w = w' := by
  by_cases h0 : n < 0
  · have hg : grainsL n = 0 := by unfold grainsL; omega
    rw [hg]
    clear hg
    go_enter Tryz.func33, Tryz.ntmps33
    go_wp2
    go_ret
    exact ⟨rfl, rfl⟩
  · have h1 : 0 ≤ n := by omega
    by_cases h2 : 65536 < n
    · have hg : grainsL n = 16777216 := by unfold grainsL; omega
      rw [hg]
      clear hg h0
      have hd : decide (n < 0) = false := by simp; omega
      go_enter Tryz.func33, Tryz.ntmps33
      go_wp2
      go_ret
      exact ⟨rfl, rfl⟩
    · have hg : grainsL n = n * 256 := by unfold grainsL; omega
      rw [hg]
      clear hg h0
      have hd : decide (n < 0) = false := by simp; omega
      have hd2 : decide (65536 < n) = false := by simp; omega
      have h3 : n ≤ 65536 := by omega
      clear h2
      go_enter Tryz.func33, Tryz.ntmps33
      go_wp2
      go_ret
      exact ⟨rfl, rfl⟩
theorem docplus_any (a n : Int) (w : World) (h0 : 0 ≤ a) (h1 : a ≤ 4611686018427387904) :
    Calls Tryz.prog 32 #[.int .u64 a, .int .u64 (grainsL n)] w fun e w' => e = .returned (.int .u64 (dueY a n)) ∧ w = w' := by
  have hb := grainsL_bd n
  have hd : dueY a n = min (a + grainsL n) 4611686018427387904 := rfl
  rw [hd]
  generalize grainsL n = b at *
  clear hd
  by_cases hc : 4611686018427387904 < a + b
  · have e : min (a + b) 4611686018427387904 = 4611686018427387904 := by omega
    rw [e]
    clear e
    go_enter Tryz.func32, Tryz.ntmps32
    go_wp2
    go_ret
    exact ⟨rfl, rfl⟩
  · have e : min (a + b) 4611686018427387904 = a + b := by omega
    have hd : decide (4611686018427387904 < a + b) = false := by simp; omega
    rw [e]
    clear e hc
    go_enter Tryz.func32, Tryz.ntmps32
    go_wp2
    go_ret
    exact ⟨rfl, rfl⟩

/-- what both tell of an eligible tick, of a deadline -/
def fromV (aw : Bool) (el : Int) : Int := match aw with | true => el | false => 9223372036854775808
theorem rdebt_from (h : RDebt w v p base F L R x A got aw el n) :
    Calls Tryz.prog 26 #[.pointer (some ⟨v, 0, none⟩)] w fun e w' => e = .returned (.int .u64 (fromV aw el)) ∧ w = w' := by
  have c2 := h.1.cell 2; have c3 := h.1.cell 3
  simp only [List.getElem?_toArray, List.getElem?_cons_zero, List.getElem?_cons_succ] at c2 c3
  clear h
  cases aw with
  | true =>
    go_enter Tryz.func26, Tryz.ntmps26
    go_wp2
    go_ret
    exact ⟨rfl, rfl⟩
  | false =>
    go_enter Tryz.func26, Tryz.ntmps26
    go_wp2
    go_ret
    exact ⟨rfl, rfl⟩
set_option maxHeartbeats 1000000 in
theorem rdebt_due (h : RDebt w v p base F L R x A got aw el n) (hg0 : 0 ≤ got) (hg1 : got ≤ 4611686018427387904) :
    Calls Tryz.prog 28 #[.pointer (some ⟨v, 0, none⟩)] w fun e w' => e = .returned (.int .u64 (fromV aw (qR F L R x A (dueY got n)))) ∧ Below w.heap.size w w' := by
  have c2 := h.1.cell 2
  simp only [List.getElem?_toArray, List.getElem?_cons_zero, List.getElem?_cons_succ] at c2
  cases aw with
  | false =>
    clear h
    go_enter Tryz.func28, Tryz.ntmps28
    go_wp2
    go_ret
    exact ⟨rfl, Below.refl _ _⟩
  | true =>
    have hlt := h.1.lt
    have o0 := fun e => (over_cell (w := w) (e := e) (o := 0) hlt).trans (h.1.cell 0)
    have o1 := fun e => (over_cell (w := w) (e := e) (o := 1) hlt).trans (h.1.cell 1)
    have o4 := fun e => (over_cell (w := w) (e := e) (o := 4) hlt).trans (h.1.cell 4)
    simp only [List.getElem?_toArray, List.getElem?_cons_zero, List.getElem?_cons_succ] at o0 o1 o4
    have HR := Lib.hid h.2.1
    have hY := dueY_bd (n := n) hg0
    have uY : U (dueY got n) := ⟨hY.1, by omega⟩
    clear h hY
    unfold fromV
    go_enter Tryz.func28, Tryz.ntmps28
    go_wp2
    refine wp_region_over (by kernel_rfl) (by kernel_rfl) ?_
    repeat (first | go_big_quiet_skip | (go_big_quiet_want; go_big_quiet_op; first | go_big_quiet_on | (apply Exists.intro; refine ⟨fun e => ?_, ?_⟩; (focus (first | (go_at_call 33; exact calls_over_same (rgrains_any n _)) | (go_at_call 32; exact calls_over_same (docplus_any got n _ hg0 hg1)) | (go_at_call 45; exact calls_over (ref_reach (HR.out.below (over_below _ e)) _ uY)))); go_big_quiet_on)))
    refine wpQuiet_nil ?_
    rintro W2 ⟨e, he⟩
    have hb2 := over_below w e
    rw [← he] at hb2
    clear he o0 o1 o4
    go_wp2
    go_ret
    exact ⟨rfl, hb2⟩

theorem rdebt_wake_on (h : RDebt w v p base F L R x A got true el n) (t m : Int) :
    Calls Tryz.prog 8 #[.pointer (some ⟨v, 0, none⟩), .int .u64 t, .int .i64 m] w fun e w' => e = .returned (.tuple #[]) ∧ w = w' := by
  have c2 := h.1.cell 2
  simp only [List.getElem?_toArray, List.getElem?_cons_zero, List.getElem?_cons_succ] at c2
  clear h
  go_enter Tryz.func8, Tryz.ntmps8
  go_wp2
  go_returns
  exact ⟨rfl, rfl⟩
theorem rdebt_serve_off (h : RDebt w v p base F L R x A got false el n) (q m k : Int) :
    Calls Tryz.prog 11 #[.pointer (some ⟨v, 0, none⟩), .int .u8 q, .int .i64 m, .int .i64 k] w fun e w' => e = .returned (.tuple #[]) ∧ w = w' := by
  have c2 := h.1.cell 2
  simp only [List.getElem?_toArray, List.getElem?_cons_zero, List.getElem?_cons_succ] at c2
  clear h
  go_enter Tryz.func11, Tryz.ntmps11
  go_wp2
  go_returns
  exact ⟨rfl, rfl⟩

set_option maxRecDepth 20000 in
set_option maxHeartbeats 2000000 in
theorem rdebt_wake (h : RDebt w v p base F L R x A got false el n) (hbs : base ≤ w.heap.size) (t m X : Int) (ut : U t) (hg0 : 0 ≤ got) (hg1 : got ≤ 4611686018427387904) (hX : X = max (min t 9223372036854775808) x) (hfew : A.length < 900000) :
    Calls Tryz.prog 8 #[.pointer (some ⟨v, 0, none⟩), .int .u64 t, .int .i64 m] w fun e w' => e = .returned (.tuple #[]) ∧ RDebt w' v p base F L R X (A ++ [(X, got)]) got true (qL F L R X (A ++ [(X, got)]) got) m ∧ DocGrown w w' base v p := by
  have c2 := h.1.cell 2
  simp only [List.getElem?_toArray, List.getElem?_cons_zero, List.getElem?_cons_succ] at c2
  have hlt := h.1.lt
  have o0 := fun e => (over_cell (w := w) (e := e) (o := 0) hlt).trans (h.1.cell 0)
  have o1 := fun e => (over_cell (w := w) (e := e) (o := 1) hlt).trans (h.1.cell 1)
  simp only [List.getElem?_toArray, List.getElem?_cons_zero, List.getElem?_cons_succ] at o0 o1
  have ug : U got := ⟨hg0, by omega⟩
  have hm : got = min got 4611686018427387904 := by omega
  have H := Lib.hid h; have HX := Lib.hid hX; have HMI := Lib.hid hm
  clear h hX hm
  go_enter Tryz.func8, Tryz.ntmps8
  go_wp2
  refine wp_region_over_tail 9 (by kernel_rfl) (by kernel_rfl) ?_
  simp only [List.take_succ_cons, List.take_zero, List.drop_succ_cons, List.drop_zero]
  repeat (first | go_big_quiet_skip | (go_big_quiet_want; go_big_quiet_op; go_big_quiet_on))
  refine wpQuiet_nil ?_
  rintro W2 ⟨e, he⟩
  have hb2 := over_below w e
  rw [← he] at hb2
  clear he o0 o1 c2
  have H2 := Lib.hid (H.out.below hb2)
  have hbs2 := Nat.le_trans hbs hb2.size
  go_wp2_with fail
  refine (ref_start H2.out.2.1 hbs2 t got X got ut ug HX.out HMI.out hfew).mono ?_
  rintro e' W3 ⟨rfl, hr3, hg3⟩
  obtain ⟨vx, vy, hpb, _⟩ := H2.out.2.1.at_
  have hvp : v ≠ p := blk_ne H2.out.1 hpb (by decide)
  have b3 := H2.out.1.ref hg3 hvp (by decide)
  have hdg3 : DocGrown w W3 base v p := (DocGrown.of_below hb2).trans (DocGrown.of_ref hg3)
  clear hpb
  have d2 := b3.cell 2; have z2 := b3.frozen 2
  simp only [List.getElem?_toArray, List.getElem?_cons_zero, List.getElem?_cons_succ] at d2
  have hD3 : RDebt W3 v p base F L R X (A ++ [(X, got)]) got false el n := ⟨b3, hr3, H2.out.2.2⟩
  have b4 := b3.set_ 2 (.bool true)
  simp only [List.setIfInBounds_toArray, List.set_cons_zero, List.set_cons_succ] at b4
  have hD4 : RDebt (W3.setCell ⟨v, 2, none⟩ (.bool true)) v p base F L R X (A ++ [(X, got)]) got true el n := ⟨b4, (hD3.set 2 (.bool true)).1, H2.out.2.2⟩
  have hdg4 := hdg3.trans (hD3.set 2 (.bool true)).2
  clear hD3 b3 hg3 hr3 hdg3 b4
  obtain ⟨W4, hW4⟩ : ∃ W4, W3.setCell ⟨v, 2, none⟩ (.bool true) = W4 := ⟨_, rfl⟩
  rw [hW4] at hD4 hdg4
  have HD4 := Lib.hid hD4; have HG4 := Lib.hid hdg4
  have o0 := fun e => (over_cell (w := W4) (e := e) (o := 0) hD4.1.lt).trans (hD4.1.cell 0)
  have o1 := fun e => (over_cell (w := W4) (e := e) (o := 1) hD4.1.lt).trans (hD4.1.cell 1)
  simp only [List.getElem?_toArray, List.getElem?_cons_zero, List.getElem?_cons_succ] at o0 o1
  clear hD4 hdg4
  go_wp2
  clear hW4 d2 z2
  refine wp_region_over_tail 12 (by kernel_rfl) (by kernel_rfl) ?_
  simp only [List.take_succ_cons, List.take_zero, List.drop_succ_cons, List.drop_zero]
  repeat (first | go_big_quiet_skip | (go_big_quiet_want; go_big_quiet_op; first | go_big_quiet_on | (apply Exists.intro; refine ⟨fun e => ?_, ?_⟩; (focus (go_at_call 22; exact calls_over (ref_elig (HD4.out.2.1.below (over_below _ e)) got ug))); go_big_quiet_on)))
  refine wpQuiet_nil ?_
  rintro W5 ⟨e, he⟩
  have hb5 := over_below W4 e
  rw [← he] at hb5
  clear he o0 o1
  have HD5 := Lib.hid (HD4.out.below hb5)
  have d3 := HD5.out.1.cell 3; have z3 := HD5.out.1.frozen 3; have d4 := HD5.out.1.cell 4; have z4 := HD5.out.1.frozen 4
  simp only [List.getElem?_toArray, List.getElem?_cons_zero, List.getElem?_cons_succ] at d3 d4
  obtain ⟨E, hE⟩ : ∃ E, qL F L R X (A ++ [(X, got)]) got = E := ⟨_, rfl⟩
  have HE := Lib.hid hE
  rw [hE]
  clear hE
  go_wp2
  go_returns
  have b6 := HD5.out.1.set_ 3 (.int .u64 E)
  simp only [List.setIfInBounds_toArray, List.set_cons_zero, List.set_cons_succ] at b6
  have hD6 : RDebt (W5.setCell ⟨v, 3, none⟩ (.int .u64 E)) v p base F L R X (A ++ [(X, got)]) got true E n := ⟨b6, (HD5.out.set 3 (.int .u64 E)).1, H2.out.2.2⟩
  have b7 := b6.set_ 4 (.int .i64 m)
  simp only [List.setIfInBounds_toArray, List.set_cons_zero, List.set_cons_succ] at b7
  refine ⟨rfl, ?_, ((HG4.out.trans (DocGrown.of_below hb5)).trans (HD5.out.set 3 (.int .u64 E)).2).trans (hD6.set 4 (.int .i64 m)).2⟩
  rw [HE.out]
  exact ⟨b7, (hD6.set 4 (.int .i64 m)).1, H2.out.2.2⟩
set_option maxRecDepth 20000 in
set_option maxHeartbeats 2000000 in
theorem rdebt_share (h : RDebt w v p base F L R x A got true el n) (q m k : Int) (hq : q ≠ 1) :
    Calls Tryz.prog 11 #[.pointer (some ⟨v, 0, none⟩), .int .u8 q, .int .i64 m, .int .i64 k] w fun e w' => e = .returned (.tuple #[]) ∧ RDebt w' v p base F L R x A got (decide (1 ≤ k)) el k ∧ DocGrown w w' base v p := by
  have c2 := h.1.cell 2; have c4 := h.1.cell 4; have z4 := h.1.frozen 4; have z2 := h.1.frozen 2
  simp only [List.getElem?_toArray, List.getElem?_cons_zero, List.getElem?_cons_succ] at c2 c4
  have hq1 : (q == 1) = false := by simpa using hq
  have b4 := h.1.set_ 4 (.int .i64 k)
  simp only [List.setIfInBounds_toArray, List.set_cons_zero, List.set_cons_succ] at b4
  have hD4 : RDebt (w.setCell ⟨v, 4, none⟩ (.int .i64 k)) v p base F L R x A got true el k := ⟨b4, (h.set 4 (.int .i64 k)).1, h.2.2⟩
  have b2 := b4.set_ 2 (.bool (decide (1 ≤ k)))
  simp only [List.setIfInBounds_toArray, List.set_cons_zero, List.set_cons_succ] at b2
  have fin : RDebt ((w.setCell ⟨v, 4, none⟩ (.int .i64 k)).setCell ⟨v, 2, none⟩ (.bool (decide (1 ≤ k)))) v p base F L R x A got (decide (1 ≤ k)) el k ∧ DocGrown w ((w.setCell ⟨v, 4, none⟩ (.int .i64 k)).setCell ⟨v, 2, none⟩ (.bool (decide (1 ≤ k)))) base v p :=
    ⟨⟨b2, (hD4.set 2 (.bool (decide (1 ≤ k)))).1, h.2.2⟩, (h.set 4 (.int .i64 k)).2.trans (hD4.set 2 (.bool (decide (1 ≤ k)))).2⟩
  have FIN := Lib.hid fin
  clear h b4 hD4 b2 fin
  go_enter Tryz.func11, Tryz.ntmps11
  go_wp2
  go_returns
  exact ⟨rfl, FIN.out⟩

set_option maxRecDepth 20000 in
set_option maxHeartbeats 2000000 in
theorem rdebt_real (h : RDebt w v p base F L R x A got true el n) (m k : Int) (hg0 : 0 ≤ got) (hg1 : got ≤ 4611686018427387904) :
    Calls Tryz.prog 11 #[.pointer (some ⟨v, 0, none⟩), .int .u8 1, .int .i64 m, .int .i64 k] w fun e w' => e = .returned (.tuple #[]) ∧ RDebt w' v p base F L R x A (dueY got m) (decide (1 ≤ k)) (qL F L R x A (dueY got m)) k ∧ DocGrown w w' base v p := by
  have c2 := h.1.cell 2
  simp only [List.getElem?_toArray, List.getElem?_cons_zero, List.getElem?_cons_succ] at c2
  have hlt := h.1.lt
  have o1 := fun e => (over_cell (w := w) (e := e) (o := 1) hlt).trans (h.1.cell 1)
  simp only [List.getElem?_toArray, List.getElem?_cons_zero, List.getElem?_cons_succ] at o1
  have hYb := dueY_bd (n := m) hg0
  obtain ⟨Y, hY⟩ : ∃ Y, dueY got m = Y := ⟨_, rfl⟩
  have hpl := fun W => docplus_any got m W hg0 hg1
  rw [hY] at hYb ⊢
  rw [hY] at hpl
  have HPL := Lib.hid hpl
  have uY : U Y := ⟨hYb.1, by omega⟩
  have H := Lib.hid h
  clear h hY hpl
  go_enter Tryz.func11, Tryz.ntmps11
  go_wp2
  refine wp_region_over_tail 10 (by kernel_rfl) (by kernel_rfl) ?_
  simp only [List.take_succ_cons, List.take_zero, List.drop_succ_cons, List.drop_zero]
  repeat (first | go_big_quiet_skip | (go_big_quiet_want; go_big_quiet_op; first | go_big_quiet_on | (apply Exists.intro; refine ⟨fun e => ?_, ?_⟩; (focus (first | (go_at_call 33; exact calls_over_same (rgrains_any m _)) | (go_at_call 32; exact calls_over_same (HPL.out _)))); go_big_quiet_on)))
  refine wpQuiet_nil ?_
  rintro W2 ⟨e, he⟩
  have hb2 := over_below w e
  rw [← he] at hb2
  clear he o1 c2
  have HD2 := Lib.hid (H.out.below hb2)
  have d1 := HD2.out.1.cell 1; have z1 := HD2.out.1.frozen 1
  simp only [List.getElem?_toArray, List.getElem?_cons_zero, List.getElem?_cons_succ] at d1
  have b3 := HD2.out.1.set_ 1 (.int .u64 Y)
  simp only [List.setIfInBounds_toArray, List.set_cons_zero, List.set_cons_succ] at b3
  have hD3 : RDebt (W2.setCell ⟨v, 1, none⟩ (.int .u64 Y)) v p base F L R x A Y true el n := ⟨b3, (HD2.out.set 1 (.int .u64 Y)).1, H.out.2.2⟩
  have hg3 : DocGrown w (W2.setCell ⟨v, 1, none⟩ (.int .u64 Y)) base v p := (DocGrown.of_below hb2).trans (HD2.out.set 1 (.int .u64 Y)).2
  obtain ⟨W3, hW3⟩ : ∃ W3, W2.setCell ⟨v, 1, none⟩ (.int .u64 Y) = W3 := ⟨_, rfl⟩
  rw [hW3] at hD3 hg3
  have HD3 := Lib.hid hD3; have HG3 := Lib.hid hg3
  have o0 := fun e => (over_cell (w := W3) (e := e) (o := 0) hD3.1.lt).trans (hD3.1.cell 0)
  have o1 := fun e => (over_cell (w := W3) (e := e) (o := 1) hD3.1.lt).trans (hD3.1.cell 1)
  simp only [List.getElem?_toArray, List.getElem?_cons_zero, List.getElem?_cons_succ] at o0 o1
  clear hD3 hg3 b3
  go_wp2
  clear hW3 d1 z1
  refine wp_region_over_tail 12 (by kernel_rfl) (by kernel_rfl) ?_
  simp only [List.take_succ_cons, List.take_zero, List.drop_succ_cons, List.drop_zero]
  repeat (first | go_big_quiet_skip | (go_big_quiet_want; go_big_quiet_op; first | go_big_quiet_on | (apply Exists.intro; refine ⟨fun e => ?_, ?_⟩; (focus (go_at_call 22; exact calls_over (ref_elig (HD3.out.2.1.below (over_below _ e)) Y uY))); go_big_quiet_on)))
  refine wpQuiet_nil ?_
  rintro W5 ⟨e, he⟩
  have hb5 := over_below W3 e
  rw [← he] at hb5
  clear he o0 o1
  have HD5 := Lib.hid (HD3.out.below hb5)
  have d3 := HD5.out.1.cell 3; have z3 := HD5.out.1.frozen 3; have d4 := HD5.out.1.cell 4; have z4 := HD5.out.1.frozen 4; have d2 := HD5.out.1.cell 2; have z2 := HD5.out.1.frozen 2
  simp only [List.getElem?_toArray, List.getElem?_cons_zero, List.getElem?_cons_succ] at d3 d4 d2
  obtain ⟨E, hE⟩ : ∃ E, qL F L R x A Y = E := ⟨_, rfl⟩
  have HE := Lib.hid hE
  rw [hE]
  clear hE
  go_wp2
  go_returns
  have b6 := HD5.out.1.set_ 3 (.int .u64 E)
  simp only [List.setIfInBounds_toArray, List.set_cons_zero, List.set_cons_succ] at b6
  have hD6 : RDebt (W5.setCell ⟨v, 3, none⟩ (.int .u64 E)) v p base F L R x A Y true E n := ⟨b6, (HD5.out.set 3 (.int .u64 E)).1, H.out.2.2⟩
  have b7 := b6.set_ 4 (.int .i64 k)
  simp only [List.setIfInBounds_toArray, List.set_cons_zero, List.set_cons_succ] at b7
  have hD7 : RDebt ((W5.setCell ⟨v, 3, none⟩ (.int .u64 E)).setCell ⟨v, 4, none⟩ (.int .i64 k)) v p base F L R x A Y true E k := ⟨b7, (hD6.set 4 (.int .i64 k)).1, H.out.2.2⟩
  have b8 := b7.set_ 2 (.bool (decide (1 ≤ k)))
  simp only [List.setIfInBounds_toArray, List.set_cons_zero, List.set_cons_succ] at b8
  refine ⟨rfl, ?_, (((HG3.out.trans (DocGrown.of_below hb5)).trans (HD5.out.set 3 (.int .u64 E)).2).trans (hD6.set 4 (.int .i64 k)).2).trans (hD7.set 2 (.bool (decide (1 ≤ k)))).2⟩
  rw [HE.out]
  exact ⟨b8, (hD7.set 2 (.bool (decide (1 ≤ k)))).1, H.out.2.2⟩

/-- a new one -/
def NewRDebt (base : Nat) (F L R : Int) (u : Value) (W' : World) : Prop := ∃ v p, u = .pointer (some ⟨v, 0, none⟩) ∧ RDebt W' v p base F L R 0 [] 0 false 9223372036854775808 0
theorem rdebt_no (F L R : Int) (w : World) (hL : 0 ≤ L) (h : mayB F L R = false) :
    Calls Tryz.prog 6 #[.agg #[.int .u64 F, .int .u64 L, .int .u64 R]] w fun e w' => e = .returned (.pointer none) ∧ Below w.heap.size w w' := by
  have hal := (Below.refl w.heap.size w).alloc (Nat.le_refl _) (.cells #[.int .u64 F, .int .u64 L, .int .u64 R] 24)
  have H := Lib.hid h; clear h
  go_enter Tryz.func6, Tryz.ntmps6
  go_wp2_with (go_at_call 16; refine (rmay_any F L R _ hL).mono ?_; rintro e w1 ⟨rfl, hb1⟩; rw [H.out])
  go_ret
  exact ⟨rfl, hal.trans (hb1.mono hal.size)⟩
theorem rdebt_new (F L R : Int) (w : World) (base : Nat) (hF : 0 ≤ F) (hL : 0 ≤ L) (hR : 0 ≤ R) (hbase : base ≤ w.heap.size) (h : mayB F L R = true) :
    Calls Tryz.prog 6 #[.agg #[.int .u64 F, .int .u64 L, .int .u64 R]] w fun e w' => ∃ u, e = .returned u ∧ Below w.heap.size w w' ∧ NewRDebt base F L R u w' := by
  have hal := (Below.refl w.heap.size w).alloc (Nat.le_refl _) (.cells #[.int .u64 F, .int .u64 L, .int .u64 R] 24)
  have nb := Blk.new w 24 #[.int .u64 F, .int .u64 L, .int .u64 R]
  have NB := Lib.hid nb; clear nb
  have H := Lib.hid h; clear h
  go_enter Tryz.func6, Tryz.ntmps6
  go_wp2_with (first
    | (go_at_call 16; refine (rmay_any F L R _ hL).mono ?_; rintro e w1 ⟨rfl, hb1⟩; rw [H.out]; have n1 := NB.out.below hb1 NB.out.lt; have a0 := n1.cell 0; have a1 := n1.cell 1; have a2 := n1.cell 2; simp only [List.getElem?_toArray, List.getElem?_cons_zero, List.getElem?_cons_succ] at a0 a1 a2)
    | (go_at_call 17; refine (refnew_some F L R _ base hF hL hR (Nat.le_trans hbase (Nat.le_trans hal.size hb1.size)) H.out).mono ?_; rintro e w2 ⟨p, rfl, hr, hb2⟩; have HR := Lib.hid hr; clear hr))
  go_ret
  have hb3 := hal.trans ((hb1.trans (hb2.mono hb1.size)).mono hal.size)
  have hal2 := (Below.refl w2.heap.size w2).alloc (Nat.le_refl _) (.cells #[.pointer (some ⟨p, 0, none⟩), .int .u64 0, .bool false, .int .u64 9223372036854775808, .int .i64 0] 49)
  exact ⟨_, rfl, hb3.alloc hb3.size _, w2.heap.size, p, rfl, Blk.new _ _ _, HR.out.below hal2, Nat.le_trans hbase hb3.size⟩
end

/-- a debt that tells what it should -/
def Deb (w : World) (d r g : Nat) (F L R x : Int) (A : List (Int × Int)) (got : Int) (aw : Bool) (el n : Int) : Prop :=
  ∃ eI dI, DebtAt w d r g F L R x A got aw eI dI ∧ (aw = true → A ≠ [] ∧ eI = el ∧ dI = qR F L R x A (dueY got n))
def NewDeb (n : Nat) (F L R : Int) (u : Value) (W' : World) : Prop := ∃ d r g, u = .pointer (some ⟨d, 0, none⟩) ∧ n ≤ g ∧ n ≤ d ∧ Deb W' d r g F L R 0 [] 0 false 9223372036854775808 0
theorem debts_fix {F L R x got n el du : Int} {A : List (Int × Int)} (hA : A ≠ []) (hM : MayC F L R) (hlow : ∀ a ∈ A, a.1 ≤ x ∧ 0 ≤ a.2) (h : Debts F L R x A got n el du) : el = qL F L R x A got ∧ du = qR F L R x A (dueY got n) := by
  unfold qL qR
  rw [not_empty hA]
  exact ⟨h.1.ans (vE_max_mono hM hlow), h.2.2.2.1.ans (vA_max_mono hM hlow)⟩

section
variable {w w' : World} {d r g v p base : Nat} {F L R x got el n : Int} {A : List (Int × Int)} {aw : Bool}
theorem Deb.below (h : Deb w d r g F L R x A got aw el n) (hb : Below w.heap.size w w') : Deb w' d r g F L R x A got aw el n := by
  obtain ⟨eI, dI, h1, h2⟩ := h
  exact ⟨eI, dI, h1.below hb, h2⟩
theorem Deb.run (h : Deb w d r g F L R x A got aw el n) : RunAt w r g F L R x A := by obtain ⟨_, _, h1, _⟩ := h; exact h1.2.1
theorem Deb.dblk (h : Deb w d r g F L R x A got aw el n) : ∃ cs, Blk w d 45 cs := by obtain ⟨_, _, h1, _⟩ := h; exact ⟨_, h1.1⟩
theorem deb_new (F L R : Int) (w : World) (n : Nat) (hF : 0 ≤ F) (hL : 0 ≤ L) (hR : 0 ≤ R) (hn : n ≤ w.heap.size) (h1 : mayB F L R = true) :
    Calls Tryz.prog 5 #[.agg #[.int .u64 F, .int .u64 L, .int .u64 R]] w fun e w' => ∃ u, e = .returned u ∧ Below w.heap.size w w' ∧ NewDeb n F L R u w' :=
  (real_new F L R w hF hL hR h1).mono fun e w' ⟨d, r, g, he, hg, hd, hdw, hb⟩ => ⟨_, he, hb, d, r, g, rfl, Nat.le_trans hn hg, Nat.le_trans hn hdw, 0, 0, hd, fun h => by cases h⟩
theorem real_no (F L R : Int) (w : World) (hL : 0 ≤ L) (h : mayB F L R = false) :
    Calls Tryz.prog 5 #[.agg #[.int .u64 F, .int .u64 L, .int .u64 R]] w fun e w' => e = .returned (.pointer none) ∧ Below w.heap.size w w' := by
  have hal := (Below.refl w.heap.size w).alloc (Nat.le_refl _) (.cells #[.int .u64 F, .int .u64 L, .int .u64 R] 24)
  have H := Lib.hid h; clear h
  go_enter Tryz.func5, Tryz.ntmps5
  go_wp2_with (go_at_call 14; refine (may_any F L R _ hL).mono ?_; rintro e w1 ⟨rfl, hb1⟩; rw [H.out])
  go_ret
  exact ⟨rfl, hal.trans (hb1.mono hal.size)⟩

theorem deb_wake_on (h : Deb w d r g F L R x A got true el n) (t m : Int) :
    Calls Tryz.prog 7 #[.pointer (some ⟨d, 0, none⟩), .int .u64 t, .int .i64 m] w fun e w' => e = .returned (.tuple #[]) ∧ w = w' := by
  obtain ⟨eI, dI, h1, h2⟩ := h
  exact dwake_on h1 t m
theorem deb_wake (h : Deb w d r g F L R x A got false el n) (t m X : Int) (ut : U t) (hg0 : 0 ≤ got) (hg1 : got ≤ 4611686018427387904) (hX : X = max (min t 9223372036854775808) x) (hfew : A.length < 900000) :
    Calls Tryz.prog 7 #[.pointer (some ⟨d, 0, none⟩), .int .u64 t, .int .i64 m] w fun e w' => e = .returned (.tuple #[]) ∧ Deb w' d r g F L R X (A ++ [(X, got)]) got true (qL F L R X (A ++ [(X, got)]) got) m ∧ Keeps w w' g d := by
  obtain ⟨eI, dI, h1, h2⟩ := h
  refine (dwake h1 t m X ut hg0 hg1 hX hfew).mono fun e w' ⟨he, el', du', hd, hk, hkp⟩ => ⟨he, ⟨el', du', hd, fun _ => ⟨by simp, ?_⟩⟩, hkp⟩
  exact debts_fix (by simp) hd.2.1.may hd.2.1.num.1 hk
theorem deb_serve_off (h : Deb w d r g F L R x A got false el n) (q m k : Int) :
    Calls Tryz.prog 10 #[.pointer (some ⟨d, 0, none⟩), .int .u8 q, .int .i64 m, .int .i64 k] w fun e w' => e = .returned (.tuple #[]) ∧ w = w' := by
  obtain ⟨eI, dI, h1, h2⟩ := h
  exact dserve_off h1 q m k
theorem deb_share (h : Deb w d r g F L R x A got true el n) (hg0 : 0 ≤ got) (hg1 : got ≤ 4611686018427387904) (q m k : Int) (hq : q ≠ 1) :
    Calls Tryz.prog 10 #[.pointer (some ⟨d, 0, none⟩), .int .u8 q, .int .i64 m, .int .i64 k] w fun e w' => e = .returned (.tuple #[]) ∧ Deb w' d r g F L R x A got (decide (1 ≤ k)) el k ∧ Keeps w w' g d := by
  obtain ⟨eI, dI, h1, h2⟩ := h
  obtain ⟨hA, rfl, rfl⟩ := h2 rfl
  refine (dserve_share h1 hA hg0 hg1 q hq m k).mono fun e w' ⟨he, du', hd, hk, _, _, hkp⟩ => ⟨he, ⟨_, du', hd, fun _ => ⟨hA, rfl, ?_⟩⟩, hkp⟩
  unfold qR
  rw [not_empty hA]
  exact hk.ans (vA_max_mono hd.2.1.may hd.2.1.num.1)
theorem deb_real (h : Deb w d r g F L R x A got true el n) (hg0 : 0 ≤ got) (hg1 : got ≤ 4611686018427387904) (m k : Int) :
    Calls Tryz.prog 10 #[.pointer (some ⟨d, 0, none⟩), .int .u8 1, .int .i64 m, .int .i64 k] w fun e w' => e = .returned (.tuple #[]) ∧ Deb w' d r g F L R x A (dueY got m) (decide (1 ≤ k)) (qL F L R x A (dueY got m)) k ∧ Keeps w w' g d := by
  obtain ⟨eI, dI, h1, h2⟩ := h
  obtain ⟨hA, rfl, rfl⟩ := h2 rfl
  exact (dserve_real h1 hA hg0 hg1 m k).mono fun e w' ⟨he, el', du', hd, hk, hkp⟩ => ⟨he, ⟨el', du', hd, fun _ => ⟨hA, debts_fix hA hd.2.1.may hd.2.1.num.1 hk⟩⟩, hkp⟩
theorem deb_awake (h : Deb w d r g F L R x A got aw el n) :
    Calls Tryz.prog 23 #[.pointer (some ⟨d, 0, none⟩)] w fun e w' => e = .returned (.bool aw) ∧ w = w' := by
  obtain ⟨eI, dI, h1, h2⟩ := h
  exact dawake h1
theorem deb_got (h : Deb w d r g F L R x A got aw el n) :
    Calls Tryz.prog 24 #[.pointer (some ⟨d, 0, none⟩)] w fun e w' => e = .returned (.int .u64 got) ∧ w = w' := by
  obtain ⟨eI, dI, h1, h2⟩ := h
  exact dgot h1
theorem deb_elig (h : Deb w d r g F L R x A got aw el n) :
    Calls Tryz.prog 25 #[.pointer (some ⟨d, 0, none⟩)] w fun e w' => e = .returned (.int .u64 (fromV aw el)) ∧ w = w' := by
  obtain ⟨eI, dI, h1, h2⟩ := h
  cases aw with
  | true => obtain ⟨_, rfl, _⟩ := h2 rfl; exact delig h1
  | false => exact delig_no h1
theorem deb_due (h : Deb w d r g F L R x A got aw el n) :
    Calls Tryz.prog 27 #[.pointer (some ⟨d, 0, none⟩)] w fun e w' => e = .returned (.int .u64 (fromV aw (qR F L R x A (dueY got n)))) ∧ w = w' := by
  obtain ⟨eI, dI, h1, h2⟩ := h
  cases aw with
  | true => obtain ⟨_, _, rfl⟩ := h2 rfl; exact ddue h1
  | false => exact ddue_no h1
theorem deb_owes (h : Deb w d r g F L R x A got aw el n) (t : Int) (ht : U t) :
    Calls Tryz.prog 29 #[.pointer (some ⟨d, 0, none⟩), .int .u64 t] w fun e w' => e = .returned (.int .u64 (qA F L R x A t)) ∧ Below w.heap.size w w' := by
  obtain ⟨eI, dI, h, h2⟩ := h
  have c0 := h.1.cell 0
  simp only [List.getElem?_toArray, List.getElem?_cons_zero, List.getElem?_cons_succ] at c0
  have H := Lib.hid h; clear h h2
  go_enter Tryz.func29, Tryz.ntmps29
  go_wp2_with (first
    | (go_at_call 18; refine (dnone H.out).mono ?_; rintro e w' ⟨rfl, rfl⟩)
    | (go_at_call 48; refine (urun_at H.out.2.1 t ht).mono ?_; rintro e w1 ⟨rfl, hb1⟩))
  go_ret
  exact ⟨rfl, hb1⟩

/-- the document's debt turns: a debt is as it was -/
theorem RunAt.doc (h : RunAt w r g F L R x A) (hg : DocGrown w w' base v p) {cs cs' : Array Value} (hv : Blk w v 49 cs) (hp : Blk w p 78 cs') : RunAt w' r g F L R x A := by
  have key : ∀ {b : Nat} {t : TypeId} {c : Array Value}, Blk w b t c → t ≠ 22 → t ≠ 49 → t ≠ 78 → Blk w' b t c := fun hb h1 h2 h3 => hb.doc hg (blk_ne hb hv h2) (blk_ne hb hp h3) h1
  rcases h with ⟨h1, h2, h3⟩ | ⟨h1, ⟨K, h2⟩, h3⟩
  · obtain ⟨⟨a, b, hB, h4⟩, h5⟩ := h2
    exact .inl ⟨key h1 (by decide) (by decide) (by decide), ⟨⟨a, b, key hB (by decide) (by decide) (by decide), h4⟩, h5, ‹_›, ‹_›, ‹_›, ‹_›, ‹_›⟩, h3⟩
  · obtain ⟨u, hB, hr⟩ := h2.at_
    refine .inr ⟨key h1 (by decide) (by decide) (by decide), ⟨K, ⟨u, key hB (by decide) (by decide) (by decide), ?_⟩, h2.may, h2.le, h2.run, h2.num, h2.x0, h2.x1, h2.few, h2.one⟩, h3⟩
    obtain ⟨hl, hk | ⟨b, cap, cur, hu, hb, hblk, hrr⟩⟩ := hr
    · exact ⟨hl, .inl hk⟩
    · exact ⟨hl, .inr ⟨b, cap, cur, hu, hb, key (show Blk w b _ cur from hblk) (by decide) (by decide) (by decide), hrr⟩⟩
theorem Deb.doc (h : Deb w d r g F L R x A got aw el n) (hg : DocGrown w w' base v p) {cs cs' : Array Value} (hv : Blk w v 49 cs) (hp : Blk w p 78 cs') : Deb w' d r g F L R x A got aw el n := by
  obtain ⟨eI, dI, h1, h2⟩ := h
  exact ⟨eI, dI, ⟨h1.1.doc hg (blk_ne h1.1 hv (by decide)) (blk_ne h1.1 hp (by decide)) (by decide), h1.2.1.doc hg hv hp, h1.2.2⟩, h2⟩
/-- a debt turns: the document's is as it was -/
theorem RDebt.keeps {F' L' R' x' got' el' n' : Int} {A' : List (Int × Int)} {aw' : Bool} (h : RDebt w v p base F L R x A got aw el n) (h' : Deb w d r g F' L' R' x' A' got' aw' el' n') (hk : Keeps w w' g d) : RDebt w' v p base F L R x A got aw el n := by
  obtain ⟨cs, hd⟩ := h'.dblk
  obtain ⟨t, cg, hg, ht1, ht2, ht3, ht4⟩ : ∃ t cs, Blk w g t cs ∧ t ≠ 22 ∧ t ≠ 78 ∧ t ≠ 49 ∧ t ≠ 140 := by
    rcases h'.run with k | ⟨_, ⟨K, hK⟩, _⟩
    · obtain ⟨a1, a2, hB2, _⟩ := k.2.1.blk
      exact ⟨_, _, hB2, by decide, by decide, by decide, by decide⟩
    · obtain ⟨u, hB2, _⟩ := hK.at_
      exact ⟨_, _, hB2, by decide, by decide, by decide, by decide⟩
  have row : ∀ {u : Value} {xs : List Int}, RowU w base u xs → RowU w' base u xs := fun hr => by
    obtain ⟨hl, hk2 | ⟨b, cap, cur, hu, hb, hblk, hrr⟩⟩ := hr
    · exact ⟨hl, .inl hk2⟩
    · have hB : Blk w b 22 cur := hblk
      exact ⟨hl, .inr ⟨b, cap, cur, hu, hb, hk.blk b _ _ hB (blk_ne hB hg (Ne.symm ht1)) (blk_ne hB hd (by decide)), hrr⟩⟩
  obtain ⟨vx, vy, hB, hx, hy, hdj⟩ := h.2.1.at_
  exact ⟨hk.blk _ _ _ h.1 (blk_ne h.1 hg (Ne.symm ht3)) (blk_ne h.1 hd (by decide)), ⟨⟨vx, vy, hk.blk _ _ _ hB (blk_ne hB hg (Ne.symm ht2)) (blk_ne hB hd (by decide)), row hx, row hy, hdj⟩, h.2.1.may, h.2.1.nums, h.2.1.low⟩, h.2.2⟩
set_option maxRecDepth 20000 in
set_option maxHeartbeats 1000000 in
theorem deb_copy (h : Deb w d r g F L R x A got aw el n) :
    Calls Tryz.prog 13 #[.pointer (some ⟨d, 0, none⟩)] w fun e w' => ∃ d' r' g', e = .returned (.pointer (some ⟨d', 0, none⟩)) ∧ w.heap.size ≤ d' ∧ w.heap.size ≤ g' ∧ Deb w' d' r' g' F L R x A got aw el n ∧ Below w.heap.size w w' := by
  obtain ⟨eI, dI, h, h2⟩ := h
  have c0 := h.1.cell 0; have c1 := h.1.cell 1; have c2 := h.1.cell 2; have c3 := h.1.cell 3; have c4 := h.1.cell 4
  simp only [List.getElem?_toArray, List.getElem?_cons_zero, List.getElem?_cons_succ] at c0 c1 c2 c3 c4
  have hlt := h.1.lt
  have H := Lib.hid h; have H2 := Lib.hid h2
  have hal := (Below.refl w.heap.size w).alloc (Nat.le_refl _) (.cells #[.pointer (some ⟨r, 0, none⟩), .int .u64 got, .bool aw, .int .u64 eI, .int .u64 dI] 45)
  have nb := Blk.new w 45 #[.pointer (some ⟨r, 0, none⟩), .int .u64 got, .bool aw, .int .u64 eI, .int .u64 dI]
  have NB := Lib.hid nb; have HAL := Lib.hid hal
  clear h h2 nb hal
  go_enter Tryz.func13, Tryz.ntmps13
  go_wp2_with (first
    | (go_at_call 18; refine (dnone H.out).mono ?_; rintro e w' ⟨rfl, rfl⟩)
    | (go_at_call 34; refine (run_copy (H.out.2.1.below HAL.out)).mono ?_; rintro e w2 ⟨r', g', rfl, hg', hr', hb2⟩; have n2 := NB.out.below hb2 NB.out.lt; have y0 := n2.cell 0; have z0 := n2.frozen 0; simp only [List.getElem?_toArray, List.getElem?_cons_zero, List.getElem?_cons_succ] at y0; have HR := Lib.hid hr'; have N2 := Lib.hid n2; clear hr' n2))
  go_ret
  have hgs : w.heap.size + 1 ≤ g' := by simpa using hg'
  have hbw : Below w.heap.size w w2 := HAL.out.trans (hb2.mono HAL.out.size)
  have hset := World.grownBy_setCell w2 ⟨w.heap.size, 0, none⟩ (.pointer (some ⟨r', 0, none⟩))
  have hrl := HR.out.lt
  refine ⟨w.heap.size, r', g', rfl, Nat.le_refl _, by omega, ⟨eI, dI, ⟨by simpa using N2.out.set_ 0 (.pointer (some ⟨r', 0, none⟩)), HR.out.far N2.out (by decide) (by omega) (by omega) hset, by omega, by omega⟩, H2.out⟩, hbw.setCell (by simp) _⟩

set_option maxRecDepth 100000 in
set_option maxHeartbeats 2000000 in
theorem same18 (h : Deb w d r g F L R x A got aw el n) (k : RDebt w v p base F L R x A got aw el n) (hg0 : 0 ≤ got) (hg1 : got ≤ 4611686018427387904) (t : Int) (ht : U t) :
    Calls Tryz.prog 9 #[.pointer (some ⟨d, 0, none⟩), .pointer (some ⟨v, 0, none⟩), .int .u64 t] w fun e w' => e = .returned (.bool true) ∧ Below w.heap.size w w' := by
  have a0 := fun e => (over_cell (w := w) (e := e) (o := 0) k.1.lt).trans (k.1.cell 0)
  have a1 := fun e => (over_cell (w := w) (e := e) (o := 1) k.1.lt).trans (k.1.cell 1)
  have a2 := fun e => (over_cell (w := w) (e := e) (o := 2) k.1.lt).trans (k.1.cell 2)
  simp only [List.getElem?_toArray, List.getElem?_cons_zero, List.getElem?_cons_succ] at a0 a1 a2
  have H1 := Lib.hid h; have K1 := Lib.hid k
  clear h k
  go_enter Tryz.func9, Tryz.ntmps9
  go_wp2
  refine wp_region_over (by kernel_rfl) (by kernel_rfl) ?_
  repeat (first | go_big_quiet_skip | (go_big_quiet_want; go_big_quiet_op; first | go_big_quiet_on | (apply Exists.intro; refine ⟨fun e => ?_, ?_⟩; (focus (first | (go_at_call 23; exact calls_over_same (deb_awake (H1.out.below (over_below _ e)))) | (go_at_call 24; exact calls_over_same (deb_got (H1.out.below (over_below _ e)))) | (go_at_call 25; exact calls_over_same (deb_elig (H1.out.below (over_below _ e)))) | (go_at_call 26; exact calls_over_same (rdebt_from (K1.out.below (over_below _ e)))) | (go_at_call 27; exact calls_over_same (deb_due (H1.out.below (over_below _ e)))) | (go_at_call 28; exact calls_over (rdebt_due (K1.out.below (over_below _ e)) hg0 hg1)) | (go_at_call 29; exact calls_over (deb_owes (H1.out.below (over_below _ e)) t ht)) | (go_at_call 30; exact calls_over (ref_at (K1.out.2.1.below (over_below _ e)) t ht)))); go_big_quiet_on)))
  refine wpQuiet_nil ?_
  rintro W2 ⟨e, he⟩
  have hb2 := over_below w e
  rw [← he] at hb2
  clear he a0 a1 a2
  go_wp2
  go_ret
  exact ⟨rfl, hb2⟩
end

end Go.Proofs.YtipiajnaechadaaGreat
