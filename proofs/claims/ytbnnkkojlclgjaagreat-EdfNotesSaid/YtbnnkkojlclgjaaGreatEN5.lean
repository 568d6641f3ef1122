/- Lemmas of the claim, merged: RunSame, RunCopy, Debts, RealPair, EdfNote, EdfNotes. No conditions beyond those that each states. -/
import Derived.Test.YtbnnkkojlclgjaaGreatEN4
import Derived.Laws.EntriesVeiled
import Derived.Test.YtbnnkkojlclgjaaGreatEdfPair
/-
  A run's answers, whatever started; what stays of a run when the document's starts, and the other way round.
-/
namespace Go.Proofs.YtbnnkkojlclgjaaGreat
set_option linter.unusedVariables false
open Go.RowKit

section
variable {w w' : World} {r g : Nat} {F L R x : Int} {A : List (Int × Int)}
theorem urun_reach (h : RunAt w r g F L R x A) (y : Int) (hy : U y) :
    Calls Tryz.prog 50 #[.pointer (some ⟨r, 0, none⟩), .int .u64 y] w fun e w' => e = .returned (.int .u64 (qR F L R x A y)) ∧ Below w.heap.size w w' := by
  by_cases hA : A = []
  · subst hA; exact run_reach0 h y
  · have e : qR F L R x A y = ansI (fun t => vA F L R A (max t x)) x y := by unfold qR; rw [not_empty hA]; rfl
    rw [e]; exact (run_reach h hA y hy).mono fun _ _ k => k.fix (vA_max_mono h.may h.num.1)
theorem urun_elig (h : RunAt w r g F L R x A) (y : Int) (hy : U y) :
    Calls Tryz.prog 48 #[.pointer (some ⟨r, 0, none⟩), .int .u64 y] w fun e w' => e = .returned (.int .u64 (qL F L R x A y)) ∧ Below w.heap.size w w' := by
  by_cases hA : A = []
  · subst hA; exact run_elig0 h y
  · have e : qL F L R x A y = ansI (fun t => vE F L R A (max t x)) x y := by unfold qL; rw [not_empty hA]; rfl
    rw [e]; exact (run_elig h hA y hy).mono fun _ _ k => k.fix (vE_max_mono h.may h.num.1)
theorem ownsRow_ref {base c B size n : Nat} {e : TypeId} {v : Value} {xs : List Value} (h : w.ownsRow B e size v n xs) (hg : RefGrown w w' base c) (he : e ≠ 23) (hc : ∀ cs, ¬ Blk w c e cs) : w'.ownsRow B e size v n xs := by
  obtain ⟨hl, h | ⟨b, cap, cur, hv, hb, hblk, hr⟩⟩ := h
  · exact ⟨hl, .inl h⟩
  · have hB : Blk w b e cur := hblk
    exact ⟨hl, .inr ⟨b, cap, cur, hv, hb, (show w'.heap[b]? = _ from hB.ref hg (by rintro rfl; exact hc _ hB) he), hr⟩⟩
/-- the document's run starts a copy: a run is as it was -/
theorem RunAt.ref {base c : Nat} {cs : Array Value} (h : RunAt w r g F L R x A) (hg : RefGrown w w' base c) (hc : Blk w c 104 cs) : RunAt w' r g F L R x A := by
  rcases h with ⟨h1, h2, h3⟩ | ⟨h1, ⟨K, h2⟩, h3⟩
  · obtain ⟨⟨p, q, hB, h4⟩, h5⟩ := h2
    exact .inl ⟨h1.ref hg (blk_ne h1 hc (by decide)) (by decide), ⟨⟨p, q, hB.ref hg (blk_ne hB hc (by decide)) (by decide), h4⟩, h5, ‹_›, ‹_›, ‹_›, ‹_›, ‹_›⟩, h3⟩
  · obtain ⟨v, hB, hr⟩ := h2.at_
    exact .inr ⟨h1.ref hg (blk_ne h1 hc (by decide)) (by decide), ⟨K, ⟨v, hB.ref hg (blk_ne hB hc (by decide)) (by decide), ownsRow_ref hr hg (by decide) (fun cs' hb => blk_ne hb hc (by decide) rfl)⟩, h2.may, h2.le, h2.run, h2.num, h2.x0, h2.x1, h2.few, h2.one⟩, h3⟩
/-- a run starts a copy: the document's is as it was -/
theorem RefAt.stay {base q : Nat} {F' L' R' x' : Int} {A' : List (Int × Int)} (h : RefAt w q base F L R x A) (h' : RunAt w r g F' L' R' x' A') (hw : w.grownBy w' (some g)) : RefAt w' q base F L R x A := by
  rcases h' with h' | ⟨_, ⟨K, hK⟩, _⟩
  · obtain ⟨h1, h2, hB, _⟩ := h'.2.1.blk
    exact h.grown hw hB (by decide) (by decide)
  · obtain ⟨v, hB, _⟩ := hK.at_
    exact h.grown hw hB (by decide) (by decide)

end

end Go.Proofs.YtbnnkkojlclgjaaGreat
/-
  A copy of a run goes on alone.
-/
namespace Go.Proofs.YtbnnkkojlclgjaaGreat
set_option linter.unusedVariables false
open Go.RowKit
attribute [local go_sem] quietR quietAtR quietUponR midAt midUpon

section
variable {w w' : World} {r g : Nat} {F L R x : Int} {K A : List (Int × Int)}

end

end Go.Proofs.YtbnnkkojlclgjaaGreat
/-
  A debt in memory, wherever its run lies, and the document's debt: their contracts; what changes them.
-/
namespace Go.Proofs.YtbnnkkojlclgjaaGreat
set_option linter.unusedVariables false
open Go.RowKit
attribute [local go_sem] quietR quietAtR quietUponR midAt midUpon

section
variable {w w' : World} {r g : Nat} {F L R x : Int} {A : List (Int × Int)}
theorem Back.unique {v : Int → Int} {x y n m : Int} (h : Back v x y n) (k : Back v x y m) (hm : ∀ t u, x ≤ t → t ≤ u → v t ≤ v u) : n = m := by
  have h1 := Back.less h k hm (fun _ _ => Int.le_refl _)
  have h2 := Back.less k h hm (fun _ _ => Int.le_refl _)
  omega
/-- the answer of Eligible, ahead of the call -/
theorem elig_fix (h : RunAt w r g F L R x A) (hA : A ≠ []) (y : Int) (hy : U y) :
    ∃ n, Back (fun t => vE F L R A (max t x)) x y n ∧ 0 ≤ n ∧ n ≤ 9223372036854775808 ∧ ∀ w1, RunAt w1 r g F L R x A →
      Calls Tryz.prog 48 #[.pointer (some ⟨r, 0, none⟩), .int .u64 y] w1 fun e w' => e = .returned (.int .u64 n) ∧ Below w1.heap.size w1 w' := by
  obtain ⟨e, w1, fr, ⟨n, he, hk, h0, h1, _⟩, _⟩ := run_elig h hA y hy []
  refine ⟨n, hk, h0, h1, fun w2 h2 => (run_elig h2 hA y hy).mono ?_⟩
  rintro e2 w3 ⟨m, rfl, hk2, _, _, hb⟩
  rw [hk.unique hk2 (vE_max_mono h.may h.num.1)]
  exact ⟨rfl, hb⟩
theorem reach_fix (h : RunAt w r g F L R x A) (hA : A ≠ []) (y : Int) (hy : U y) :
    ∃ n, Back (fun t => vA F L R A (max t x)) x y n ∧ 0 ≤ n ∧ n ≤ 9223372036854775808 ∧ ∀ w1, RunAt w1 r g F L R x A →
      Calls Tryz.prog 50 #[.pointer (some ⟨r, 0, none⟩), .int .u64 y] w1 fun e w' => e = .returned (.int .u64 n) ∧ Below w1.heap.size w1 w' := by
  obtain ⟨e, w1, fr, ⟨n, he, hk, h0, h1, _⟩, _⟩ := run_reach h hA y hy []
  refine ⟨n, hk, h0, h1, fun w2 h2 => (run_reach h2 hA y hy).mono ?_⟩
  rintro e2 w3 ⟨m, rfl, hk2, _, _, hb⟩
  rw [hk.unique hk2 (vA_max_mono h.may h.num.1)]
  exact ⟨rfl, hb⟩
end

/-- a debt in memory -/
def DebtAt (w : World) (d r g : Nat) (F L R x : Int) (A : List (Int × Int)) (got : Int) (aw : Bool) (el du : Int) : Prop :=
  Blk w d 58 #[.pointer (some ⟨r, 0, none⟩), .int .u64 got, .bool aw, .int .u64 el, .int .u64 du] ∧ RunAt w r g F L R x A ∧ d ≠ r ∧ d ≠ g

/-- the grains of a length -/
def grainsL (n : Int) : Int := min (max n 0) 65536 * 256
theorem grainsL_bd (n : Int) : 0 ≤ grainsL n ∧ grainsL n ≤ 16777216 := by unfold grainsL; omega

theorem grains_any (n : Int) (w : World) :
    Calls Tryz.prog 51 #[.int .i64 n] w fun e w' => e = .returned (.int .u64 (grainsL n)) ∧ w = w' := by
  obtain ⟨a, ha⟩ : ∃ a, (if n < 0 then 0 else n) = a := ⟨_, rfl⟩
  obtain ⟨b, hb⟩ : ∃ b, (if 65536 < a then 65536 else a) = b := ⟨_, rfl⟩
  have hm : grainsL n = b * 256 := by unfold grainsL; split at ha <;> split at hb <;> omega
  have hb0 : 0 ≤ b ∧ b ≤ 65536 := by split at ha <;> split at hb <;> omega
  rw [hm]
  go_enter Tryz.func51, Tryz.ntmps51
  go_wp2
  all_goals go_ret
  all_goals exact ⟨rfl, rfl⟩

section
variable {w w' : World} {d r g : Nat} {F L R x got el du : Int} {A : List (Int × Int)} {aw : Bool}
theorem DebtAt.below (h : DebtAt w d r g F L R x A got aw el du) (hb : Below w.heap.size w w') : DebtAt w' d r g F L R x A got aw el du := ⟨h.1.below hb h.1.lt, h.2.1.below hb, h.2.2⟩
theorem DebtAt.glt (h : DebtAt w d r g F L R x A got aw el du) : g < w.heap.size := by have := h.2.1.lt; omega

theorem dnone (h : DebtAt w d r g F L R x A got aw el du) :
    Calls Tryz.prog 20 #[.pointer (some ⟨d, 0, none⟩)] w fun e w' => e = .returned (.bool false) ∧ w = w' := by
  have c0 := h.1.cell 0
  simp only [List.getElem?_toArray, List.getElem?_cons_zero, List.getElem?_cons_succ] at c0
  clear h
  go_enter Tryz.func20, Tryz.ntmps20
  go_wp2
  go_ret
  exact ⟨rfl, rfl⟩
theorem dawake (h : DebtAt w d r g F L R x A got aw el du) :
    Calls Tryz.prog 25 #[.pointer (some ⟨d, 0, none⟩)] w fun e w' => e = .returned (.bool aw) ∧ w = w' := by
  have c2 := h.1.cell 2
  simp only [List.getElem?_toArray, List.getElem?_cons_zero, List.getElem?_cons_succ] at c2
  have H := Lib.hid h; clear h
  go_enter Tryz.func25, Tryz.ntmps25
  go_wp2_with (go_at_call 20; refine (dnone H.out).mono ?_; rintro e w' ⟨rfl, rfl⟩)
  go_ret
  exact ⟨rfl, rfl⟩
theorem delig (h : DebtAt w d r g F L R x A got true el du) :
    Calls Tryz.prog 28 #[.pointer (some ⟨d, 0, none⟩)] w fun e w' => e = .returned (.int .u64 el) ∧ w = w' := by
  have c3 := h.1.cell 3
  simp only [List.getElem?_toArray, List.getElem?_cons_zero, List.getElem?_cons_succ] at c3
  have H := Lib.hid h; clear h
  go_enter Tryz.func28, Tryz.ntmps28
  go_wp2_with (go_at_call 25; refine (dawake H.out).mono ?_; rintro e w' ⟨rfl, rfl⟩)
  go_ret
  exact ⟨rfl, rfl⟩
theorem delig_no (h : DebtAt w d r g F L R x A got false el du) :
    Calls Tryz.prog 28 #[.pointer (some ⟨d, 0, none⟩)] w fun e w' => e = .returned (.int .u64 9223372036854775808) ∧ w = w' := by
  have H := Lib.hid h; clear h
  go_enter Tryz.func28, Tryz.ntmps28
  go_wp2_with (go_at_call 25; refine (dawake H.out).mono ?_; rintro e w' ⟨rfl, rfl⟩)
  go_ret
  exact ⟨rfl, rfl⟩
theorem ddue (h : DebtAt w d r g F L R x A got true el du) :
    Calls Tryz.prog 29 #[.pointer (some ⟨d, 0, none⟩)] w fun e w' => e = .returned (.int .u64 du) ∧ w = w' := by
  have c4 := h.1.cell 4
  simp only [List.getElem?_toArray, List.getElem?_cons_zero, List.getElem?_cons_succ] at c4
  have H := Lib.hid h; clear h
  go_enter Tryz.func29, Tryz.ntmps29
  go_wp2_with (go_at_call 25; refine (dawake H.out).mono ?_; rintro e w' ⟨rfl, rfl⟩)
  go_ret
  exact ⟨rfl, rfl⟩
theorem ddue_no (h : DebtAt w d r g F L R x A got false el du) :
    Calls Tryz.prog 29 #[.pointer (some ⟨d, 0, none⟩)] w fun e w' => e = .returned (.int .u64 9223372036854775808) ∧ w = w' := by
  have H := Lib.hid h; clear h
  go_enter Tryz.func29, Tryz.ntmps29
  go_wp2_with (go_at_call 25; refine (dawake H.out).mono ?_; rintro e w' ⟨rfl, rfl⟩)
  go_ret
  exact ⟨rfl, rfl⟩
end


/-- what is due of a head: got, and its grains -/
def dueY (got n : Int) : Int := min (got + grainsL n) 4611686018427387904
theorem dueY_bd {got n : Int} (h : 0 ≤ got) : 0 ≤ dueY got n ∧ dueY got n ≤ 4611686018427387904 := by have := grainsL_bd n; unfold dueY; omega

theorem real_new (F L R : Int) (w : World) (hF : 0 ≤ F) (hL : 0 ≤ L) (hR : 0 ≤ R) (h1 : mayB F L R = true) :
    Calls Tryz.prog 5 #[.agg #[.int .u64 F, .int .u64 L, .int .u64 R]] w fun e w' =>
      ∃ d r g, e = .returned (.pointer (some ⟨d, 0, none⟩)) ∧ w.heap.size ≤ g ∧ DebtAt w' d r g F L R 0 [] 0 false 0 0 ∧ w.heap.size ≤ d ∧ Below w.heap.size w w' := by
  have hal := (Below.refl w.heap.size w).alloc (Nat.le_refl _) (.cells #[.int .u64 F, .int .u64 L, .int .u64 R] 31)
  have nb := Blk.new w 31 #[.int .u64 F, .int .u64 L, .int .u64 R]
  have HN := Lib.hid nb; have H := Lib.hid h1
  clear nb h1
  go_enter Tryz.func5, Tryz.ntmps5
  go_wp2_with (first
    | (go_at_call 16; refine (may_any F L R _ hL).mono ?_; rintro e w1 ⟨rfl, hb1⟩; rw [H.out]; have n1 := HN.out.below hb1 HN.out.lt; have a0 := n1.cell 0; have a1 := n1.cell 1; have a2 := n1.cell 2; simp only [List.getElem?_toArray, List.getElem?_cons_zero, List.getElem?_cons_succ] at a0 a1 a2)
    | (go_at_call 17; refine (run_new F L R _ hF hL hR H.out).mono ?_; rintro e w2 ⟨r, g, rfl, hg, hr, hb2⟩; have HR := Lib.hid hr; clear hr))
  go_ret
  have hb3 := hb1.trans (hb2.mono hb1.size)
  have hb4 : Below w.heap.size w w2 := hal.trans (hb3.mono hal.size)
  have hal2 := (Below.refl w2.heap.size w2).alloc (Nat.le_refl _) (.cells #[.pointer (some ⟨r, 0, none⟩), .int .u64 0, .bool false, .int .u64 0, .int .u64 0] 58)
  exact ⟨w2.heap.size, r, g, rfl, Nat.le_trans (Nat.le_trans hal.size hb1.size) hg, ⟨Blk.new _ _ _, HR.out.below hal2, by have := HR.out.lt; omega, by have := HR.out.lt; omega⟩, hb4.size, hb4.trans (hal2.mono hb4.size)⟩

theorem anew_any (w : World) :
    Calls Tryz.prog 22 #[] w fun e w' => e = .returned (.agg #[.func (.func 47) #[] #[], .func (.func 49) #[] #[]]) ∧ Below w.heap.size w w' := by
  go_enter Tryz.func22, Tryz.ntmps22
  go_wp2
  go_returns
  exact ⟨rfl, by go_grown⟩

section
variable {w w' : World} {d r g : Nat} {F L R x got el du : Int} {A : List (Int × Int)} {aw : Bool}

theorem RunAt.far {t : Nat} {cs : Array Value} (h : RunAt w r g F L R x A) (hB : Blk w d t cs) (ht : t ≠ 210) (h1 : d ≠ r) (h2 : d ≠ g) (hw : w.grownBy w' (some d)) : RunAt w' r g F L R x A := by
  rcases h with ⟨k1, k2, k3⟩ | ⟨k1, ⟨K, k2⟩, k3⟩
  · exact .inl ⟨k1.grown hw (by simpa using Ne.symm h1), k2.stay h2 hw, k3⟩
  · exact .inr ⟨k1.grown hw (by simpa using Ne.symm h1), ⟨K, k2.stay2 h2 hB ht hw⟩, k3⟩
theorem DebtAt.run_set (h : DebtAt w d r g F L R x A got aw el du) (i : Nat) (u : Value) : RunAt (w.setCell ⟨d, i, none⟩ u) r g F L R x A :=
  h.2.1.far h.1 (by decide) h.2.2.1 h.2.2.2 (World.grownBy_setCell _ _ _)

theorem anew_elig (h : DebtAt w d r g F L R x A got aw el du) (hA : A ≠ []) (hg : U got) (n : Int) :
    Calls Tryz.prog 47 #[.pointer (some ⟨d, 0, none⟩), .int .i64 n] w fun e w' =>
      e = .returned (.tuple #[]) ∧ ∃ el', Back (fun t => vE F L R A (max t x)) x got el' ∧ 0 ≤ el' ∧ el' ≤ 9223372036854775808 ∧ DebtAt w' d r g F L R x A got aw el' du ∧ w.grownBy w' (some d) := by
  obtain ⟨n0, hk, hn0, hn1, hc⟩ := elig_fix h.2.1 hA got hg
  have c0 := h.1.cell 0; have c1 := h.1.cell 1
  simp only [List.getElem?_toArray, List.getElem?_cons_zero, List.getElem?_cons_succ] at c0 c1
  have hlt := h.1.lt
  have o0 := fun e => (over_cell (w := w) (e := e) hlt).trans c0
  have o1 := fun e => (over_cell (w := w) (e := e) hlt).trans c1
  have hr := h.2.1
  have H := Lib.hid h; have HC := Lib.hid hc; have HK := Lib.hid hk; have HR := Lib.hid hr
  clear h hc hk hr
  go_enter Tryz.func47, Tryz.ntmps47
  go_wp2
  refine wp_region_over_tail 13 (by kernel_rfl) (by kernel_rfl) ?_
  simp only [List.take_succ_cons, List.take_zero, List.drop_succ_cons, List.drop_zero]
  repeat (first | go_big_quiet_skip | (go_big_quiet_want; go_big_quiet_op; first | go_big_quiet_on | (apply Exists.intro; refine ⟨fun e => ?_, ?_⟩; (focus (go_at_call 48; exact calls_over (HC.out _ (HR.out.below (over_below _ e))))); go_big_quiet_on)))
  refine wpQuiet_nil ?_
  rintro W2 ⟨e2, he2⟩
  have hb2 := over_below w e2
  rw [← he2] at hb2
  clear he2 o0 o1 c0 c1
  have h2 := H.out.below hb2
  have d3 := h2.1.cell 3; have z3 := h2.1.frozen 3
  simp only [List.getElem?_toArray, List.getElem?_cons_zero, List.getElem?_cons_succ] at d3
  have H2 := Lib.hid h2
  clear h2
  go_wp2
  go_returns
  exact ⟨rfl, n0, HK.out, hn0, hn1, ⟨by simpa using H2.out.1.set_ 3 (.int .u64 n0), H2.out.run_set _ _, H2.out.2.2⟩, (show w.grownBy W2 (some d) from ⟨hb2.os, hb2.tape, hb2.output, hb2.size, fun k hk _ => hb2.block k hk⟩).trans (World.grownBy_setCell _ _ _)⟩

theorem anew_due (h : DebtAt w d r g F L R x A got aw el du) (hA : A ≠ []) (hg0 : 0 ≤ got) (hg1 : got ≤ 4611686018427387904) (n : Int) :
    Calls Tryz.prog 49 #[.pointer (some ⟨d, 0, none⟩), .int .i64 n] w fun e w' =>
      e = .returned (.tuple #[]) ∧ ∃ du', Back (fun t => vA F L R A (max t x)) x (dueY got n) du' ∧ 0 ≤ du' ∧ du' ≤ 9223372036854775808 ∧ DebtAt w' d r g F L R x A got aw el du' ∧ w.grownBy w' (some d) := by
  obtain ⟨G, hG⟩ : ∃ G, grainsL n = G := ⟨_, rfl⟩
  obtain ⟨Y, hY⟩ : ∃ Y, dueY got n = Y := ⟨_, rfl⟩
  have hGb := grainsL_bd n
  rw [hG] at hGb
  have hYb := dueY_bd (n := n) hg0
  rw [hY] at hYb
  have hYe : (if 4611686018427387904 < got + G then 4611686018427387904 else got + G) = Y := by rw [← hY, ← hG]; unfold dueY; omega
  rw [hY]
  obtain ⟨n0, hk, hn0, hn1, hc⟩ := reach_fix h.2.1 hA Y ⟨hYb.1, by omega⟩
  have c0 := h.1.cell 0; have c1 := h.1.cell 1
  simp only [List.getElem?_toArray, List.getElem?_cons_zero, List.getElem?_cons_succ] at c0 c1
  have hlt := h.1.lt
  have o0 := fun e => (over_cell (w := w) (e := e) hlt).trans c0
  have o1 := fun e => (over_cell (w := w) (e := e) hlt).trans c1
  have hr := h.2.1
  have H := Lib.hid h; have HC := Lib.hid hc; have HK := Lib.hid hk; have HR := Lib.hid hr
  clear h hc hk hr hY
  go_enter Tryz.func49, Tryz.ntmps49
  go_wp2
  refine wp_region_over_tail 17 (by kernel_rfl) (by kernel_rfl) ?_
  simp only [List.take_succ_cons, List.take_zero, List.drop_succ_cons, List.drop_zero]
  repeat (first | go_big_quiet_skip | (go_big_quiet_want; go_big_quiet_op; first | go_big_quiet_on | (apply Exists.intro; refine ⟨fun e => ?_, ?_⟩; (focus (first | (go_at_call 51; exact calls_over_same (hG ▸ grains_any n _)) | (go_at_call 50; exact calls_over (HC.out _ (HR.out.below (over_below _ e)))))); go_big_quiet_on)))
  refine wpQuiet_nil ?_
  rintro W2 ⟨e2, he2⟩
  have hb2 := over_below w e2
  rw [← he2] at hb2
  clear he2 o0 o1 c0 c1
  have h2 := H.out.below hb2
  have d4 := h2.1.cell 4; have z4 := h2.1.frozen 4
  simp only [List.getElem?_toArray, List.getElem?_cons_zero, List.getElem?_cons_succ] at d4
  have H2 := Lib.hid h2
  clear h2
  go_wp2
  go_returns
  exact ⟨rfl, n0, HK.out, hn0, hn1, ⟨by simpa using H2.out.1.set_ 4 (.int .u64 n0), H2.out.run_set _ _, H2.out.2.2⟩, (show w.grownBy W2 (some d) from ⟨hb2.os, hb2.tape, hb2.output, hb2.size, fun k hk _ => hb2.block k hk⟩).trans (World.grownBy_setCell _ _ _)⟩
end


section
variable {w w' : World} {d r g : Nat} {F L R x got el du : Int} {A : List (Int × Int)} {aw : Bool}

/-- what a debt holds while it is awake -/
def Debts (F L R x : Int) (A : List (Int × Int)) (got n el du : Int) : Prop :=
  Back (fun t => vE F L R A (max t x)) x got el ∧ 0 ≤ el ∧ el ≤ 9223372036854775808 ∧ Back (fun t => vA F L R A (max t x)) x (dueY got n) du ∧ 0 ≤ du ∧ du ≤ 9223372036854775808

/-- all but the debt and its run is as it was -/
structure Keeps (w w' : World) (g d : Nat) : Prop where
  low : ∀ B, B ≤ g → B ≤ d → Below B w w'
  blk : ∀ b t cs, Blk w b t cs → b ≠ g → b ≠ d → Blk w' b t cs
  size : w.heap.size ≤ w'.heap.size
theorem Keeps.same (w : World) (g d : Nat) : Keeps w w g d := ⟨fun B _ _ => Below.refl B w, fun _ _ _ h _ _ => h, Nat.le_refl _⟩
theorem Keeps.trans {w1 w2 w3 : World} {g d : Nat} (h : Keeps w1 w2 g d) (k : Keeps w2 w3 g d) : Keeps w1 w3 g d :=
  ⟨fun B hB hB2 => (h.low B hB hB2).trans (k.low B hB hB2), fun b t cs hB h1 h2 => k.blk b t cs (h.blk b t cs hB h1 h2) h1 h2, Nat.le_trans h.size k.size⟩
theorem Keeps.of_below {w w' : World} {g d : Nat} (h : Below w.heap.size w w') (hg : g < w.heap.size) : Keeps w w' g d :=
  ⟨fun B hB _ => h.mono (by omega), fun b t cs hB _ _ => hB.below h hB.lt, h.size⟩
theorem Keeps.of_grown {w w' : World} {g d : Nat} (h : w.grownBy w' (some g)) (hg : g < w.heap.size) : Keeps w w' g d :=
  ⟨fun B hB hB2 => (Below.refl B w).grown h (by omega) (fun j hj => by (injection hj with hj; omega)), fun b t cs hB h1 _ => hB.grown h (by simpa using h1), h.size⟩
theorem Keeps.of_grown_d {w w' : World} {g d : Nat} (h : w.grownBy w' (some d)) (hg : True) (hd : g < w.heap.size) : Keeps w w' g d :=
  ⟨fun B hB hB2 => (Below.refl B w).grown h (by omega) (fun j hj => by (injection hj with hj; omega)), fun b t cs hB _ h2 => hB.grown h (by simpa using h2), h.size⟩
theorem Keeps.of_set {w : World} {g d : Nat} (i : Nat) (u : Value) (hg : True) (hd : g < w.heap.size) : Keeps w (w.setCell ⟨d, i, none⟩ u) g d :=
  Keeps.of_grown_d (World.grownBy_setCell w ⟨d, i, none⟩ u) hg hd

theorem dwake_on (h : DebtAt w d r g F L R x A got true el du) (t n : Int) :
    Calls Tryz.prog 7 #[.pointer (some ⟨d, 0, none⟩), .int .u64 t, .int .i64 n] w fun e w' => e = .returned (.tuple #[]) ∧ w = w' := by
  have c2 := h.1.cell 2
  simp only [List.getElem?_toArray, List.getElem?_cons_zero, List.getElem?_cons_succ] at c2
  have H := Lib.hid h; clear h
  go_enter Tryz.func7, Tryz.ntmps7
  go_wp2_with (go_at_call 20; refine (dnone H.out).mono ?_; rintro e w' ⟨rfl, rfl⟩)
  go_returns
  exact ⟨rfl, rfl⟩
set_option maxRecDepth 100000 in
set_option maxHeartbeats 1000000 in
theorem dwake (h : DebtAt w d r g F L R x A got false el du) (t n X : Int) (ut : U t) (hg0 : 0 ≤ got) (hg1 : got ≤ 4611686018427387904) (hX : X = max (min t 9223372036854775808) x) (hfew : A.length < 900000) :
    Calls Tryz.prog 7 #[.pointer (some ⟨d, 0, none⟩), .int .u64 t, .int .i64 n] w fun e w' => e = .returned (.tuple #[]) ∧
      ∃ el' du', DebtAt w' d r g F L R X (A ++ [(X, got)]) got true el' du' ∧ Debts F L R X (A ++ [(X, got)]) got n el' du' ∧ Keeps w w' g d := by
  have c0 := h.1.cell 0; have c1 := h.1.cell 1; have c2 := h.1.cell 2
  simp only [List.getElem?_toArray, List.getElem?_cons_zero, List.getElem?_cons_succ] at c0 c1 c2
  have hlt := h.1.lt
  have o0 := fun e => (over_cell (w := w) (e := e) hlt).trans c0
  have o1 := fun e => (over_cell (w := w) (e := e) hlt).trans c1
  have hgd := trivial; have hgl := h.glt; have hrd := h.2.2
  have H := Lib.hid h; clear h
  go_enter Tryz.func7, Tryz.ntmps7
  go_wp2_with (go_at_call 20; refine (dnone H.out).mono ?_; rintro e w' ⟨rfl, rfl⟩)
  refine wp_region_over_tail 10 (by kernel_rfl) (by kernel_rfl) ?_
  simp only [List.take_succ_cons, List.take_zero, List.drop_succ_cons, List.drop_zero]
  repeat (first | go_big_quiet_skip | (go_big_quiet_want; go_big_quiet_op; go_big_quiet_on))
  refine wpQuiet_nil ?_
  rintro W2 ⟨e2, he2⟩
  have hb2 := over_below w e2
  rw [← he2] at hb2
  clear he2 o0 o1 c0 c1 c2
  have h2 := H.out.below hb2
  have HH2 := Lib.hid h2
  clear h2
  have u8 : U got := ⟨hg0, by omega⟩
  have hgm : got = min got 4611686018427387904 := by omega
  have HGM := Lib.hid hgm; have HXX := Lib.hid hX; clear hgm hX
  go_wp2_with (first
    | (go_at_call 21; refine (run_start HH2.out.2.1 t got X got ut u8 HXX.out HGM.out hfew).mono ?_; rintro e w3 ⟨rfl, hr3, hg3⟩; have hB3 := HH2.out.1.grown hg3 (by simp; omega); have d2 := hB3.cell 2; have z2 := hB3.frozen 2; simp only [List.getElem?_toArray, List.getElem?_cons_zero, List.getElem?_cons_succ] at d2; have HB3 := Lib.hid hB3; have HR3 := Lib.hid hr3; have HG3 := Lib.hid hg3; clear hB3 hr3 hg3)
    | (go_at_call 22; refine (anew_any _).mono ?_; rintro e w4 ⟨rfl, hb4⟩; have D3 : DebtAt (w3.setCell ⟨d, 2, none⟩ (.bool true)) d r g F L R X (A ++ [(X, got)]) got true el du := ⟨by (simpa using HB3.out.set_ 2 (.bool true)), RunAt.far HR3.out HB3.out (by decide) (by omega) (by omega) (World.grownBy_setCell _ _ _), hrd⟩; have hB4s := D3.1.lt; have D4 := D3.below hb4; have D5 := D4.below ((Below.refl _ _).alloc (Nat.le_refl _) (.cells #[.func (.func 47) #[] #[], .func (.func 49) #[] #[]] 64)); have HD5 := Lib.hid D5; have hd4 := D4.1.lt; have nm := Blk.new w4 64 #[.func (.func 47) #[] #[], .func (.func 49) #[] #[]]; have NM := Lib.hid nm; clear D3 D4 D5 nm)
    | (go_at_call 47; refine (anew_elig HD5.out (by simp) u8 n).mono ?_; rintro e w6 ⟨rfl, el', hk1, h10, h11, h6, hg6⟩; have nm6 := NM.out.grown hg6 (by (simp; omega)); have m1 := nm6.cell 1; simp only [List.getElem?_toArray, List.getElem?_cons_zero, List.getElem?_cons_succ] at m1; have HK1 := Lib.hid hk1; have H6 := Lib.hid h6; clear hk1 h6 nm6)
    | (go_at_call 49; refine (anew_due H6.out (by simp) hg0 hg1 n).mono ?_; rintro e w7 ⟨rfl, du', hk2, h20, h21, h7, hg7⟩; have HK2 := Lib.hid hk2; have H7 := Lib.hid h7; clear hk2 h7))
  go_returns
  refine ⟨rfl, el', du', H7.out, ⟨HK1.out, h10, h11, HK2.out, h20, h21⟩, ?_⟩
  have s2 := hb2.size; have s3 := HG3.out.size; have s4 := hb4.size; have s6 := hg6.size
  simp only [World.size_setCell] at s4
  simp only [World.size_alloc] at s6
  exact (((((Keeps.of_below hb2 (by omega)).trans (Keeps.of_grown HG3.out (by omega))).trans (Keeps.of_set 2 (.bool true) hgd (by omega))).trans (Keeps.of_below (hb4.alloc hb4.size (.cells #[.func (.func 47) #[] #[], .func (.func 49) #[] #[]] 64)) (by simp only [World.size_setCell]; omega))).trans (Keeps.of_grown_d hg6 hgd (by simp only [World.size_alloc]; omega))).trans (Keeps.of_grown_d hg7 hgd (by omega))




end

/-- the document's debt: what it got, whether it is awake, since when it is eligible, its head's length -/
def RDebt (w : World) (v p base : Nat) (F L R x : Int) (A : List (Int × Int)) (got : Int) (aw : Bool) (el n : Int) : Prop :=
  Blk w v 42 #[.pointer (some ⟨p, 0, none⟩), .int .u64 got, .bool aw, .int .u64 el, .int .i64 n] ∧ RefAt w p base F L R x A ∧ base ≤ v

/-- what the document's debt turns -/
structure DocGrown (w w' : World) (base v p : Nat) : Prop where
  os : w'.os = w.os
  tape : w'.tape = w.tape
  output : w'.output = w.output
  size : w.heap.size ≤ w'.heap.size
  block : ∀ k, k < w.heap.size → k ≠ v → k ≠ p → (k < base ∨ ∀ cs z, w.heap[k]? ≠ some (.cells cs 23 z)) → w'.heap[k]? = w.heap[k]?

section
variable {w w' w1 w2 w3 : World} {v p base : Nat} {F L R x got el n : Int} {A : List (Int × Int)} {aw : Bool}
theorem RDebt.below (h : RDebt w v p base F L R x A got aw el n) (hb : Below w.heap.size w w') : RDebt w' v p base F L R x A got aw el n :=
  ⟨h.1.below hb h.1.lt, h.2.1.below hb, h.2.2⟩
theorem DocGrown.trans (h1 : DocGrown w1 w2 base v p) (h2 : DocGrown w2 w3 base v p) : DocGrown w1 w3 base v p :=
  ⟨h2.os.trans h1.os, h2.tape.trans h1.tape, h2.output.trans h1.output, Nat.le_trans h1.size h2.size, fun k hk hv hp h => by
    have e1 := h1.block k hk hv hp h
    have e2 := h2.block k (Nat.lt_of_lt_of_le hk h1.size) hv hp (h.imp id fun h cs z => by rw [e1]; exact h cs z)
    exact e2.trans e1⟩
theorem DocGrown.of_below (h : Below w.heap.size w w') : DocGrown w w' base v p := ⟨h.os, h.tape, h.output, h.size, fun k hk _ _ _ => h.block k hk⟩
theorem DocGrown.of_ref (h : RefGrown w w' base p) : DocGrown w w' base v p := ⟨h.os, h.tape, h.output, h.size, fun k hk _ hp ht => h.block k hk hp ht⟩
theorem DocGrown.of_set (h : w.grownBy w' (some v)) : DocGrown w w' base v p := ⟨h.os, h.tape, h.output, h.size, fun k hk hv _ _ => h.block k hk (by simpa using hv)⟩
theorem DocGrown.low (h : DocGrown w w' base v p) (hv : base ≤ v) (hp : base ≤ p) (hs : base ≤ w.heap.size) : Below base w w' :=
  ⟨h.os, h.tape, h.output, h.size, fun k hk => h.block k (by omega) (by omega) (by omega) (.inl hk)⟩
theorem Blk.doc {g : Nat} {t : TypeId} {cs : Array Value} (h : Blk w g t cs) (hg : DocGrown w w' base v p) (h1 : g ≠ v) (h2 : g ≠ p) (ht : t ≠ 23) : Blk w' g t cs :=
  (hg.block g h.lt h1 h2 (.inr fun cs' z he => by
    unfold Blk at h
    rw [h] at he
    injection he with he
    injection he with h1 h2
    exact ht h2)).trans h
theorem RDebt.set (h : RDebt w v p base F L R x A got aw el n) (i : Nat) (u : Value) : RefAt (w.setCell ⟨v, i, none⟩ u) p base F L R x A ∧ DocGrown w (w.setCell ⟨v, i, none⟩ u) base v p :=
  ⟨h.2.1.grown (World.grownBy_setCell _ _ _) h.1 (by decide) (by decide), DocGrown.of_set (World.grownBy_setCell _ _ _)⟩

theorem rgrains_any (n : Int) (w : World) :
    Calls Tryz.prog 32 #[.int .i64 n] w fun e w' => e = .returned (.int .u64 (grainsL n)) ∧ w = w' := by
  by_cases h0 : n < 0
  · have hg : grainsL n = 0 := by unfold grainsL; omega
    rw [hg]
    clear hg
    go_enter Tryz.func32, Tryz.ntmps32
    go_wp2
    go_ret
    exact ⟨rfl, rfl⟩
  · have h1 : 0 ≤ n := by omega
    by_cases h2 : 65536 < n
    · have hg : grainsL n = 16777216 := by unfold grainsL; omega
      rw [hg]
      clear hg h0
      have hd : decide (n < 0) = false := by simp; omega
      go_enter Tryz.func32, Tryz.ntmps32
      go_wp2
      go_ret
      exact ⟨rfl, rfl⟩
    · have hg : grainsL n = n * 256 := by unfold grainsL; omega
      rw [hg]
      clear hg h0
      have hd : decide (n < 0) = false := by simp; omega
      have hd2 : decide (65536 < n) = false := by simp; omega
      have h3 : n ≤ 65536 := by omega
      clear h2
      go_enter Tryz.func32, Tryz.ntmps32
      go_wp2
      go_ret
      exact ⟨rfl, rfl⟩
theorem docplus_any (a n : Int) (w : World) (h0 : 0 ≤ a) (h1 : a ≤ 4611686018427387904) :
    Calls Tryz.prog 31 #[.int .u64 a, .int .u64 (grainsL n)] w fun e w' => e = .returned (.int .u64 (dueY a n)) ∧ w = w' := by
  have hb := grainsL_bd n
  have hd : dueY a n = min (a + grainsL n) 4611686018427387904 := rfl
  rw [hd]
  generalize grainsL n = b at *
  clear hd
  by_cases hc : 4611686018427387904 < a + b
  · have e : min (a + b) 4611686018427387904 = 4611686018427387904 := by omega
    rw [e]
    clear e
    go_enter Tryz.func31, Tryz.ntmps31
    go_wp2
    go_ret
    exact ⟨rfl, rfl⟩
  · have e : min (a + b) 4611686018427387904 = a + b := by omega
    have hd : decide (4611686018427387904 < a + b) = false := by simp; omega
    rw [e]
    clear e hc
    go_enter Tryz.func31, Tryz.ntmps31
    go_wp2
    go_ret
    exact ⟨rfl, rfl⟩

/-- what both tell of an eligible tick, of a deadline -/
def fromV (aw : Bool) (el : Int) : Int := match aw with | true => el | false => 9223372036854775808
theorem rdebt_from (h : RDebt w v p base F L R x A got aw el n) :
    Calls Tryz.prog 11 #[.pointer (some ⟨v, 0, none⟩)] w fun e w' => e = .returned (.int .u64 (fromV aw el)) ∧ w = w' := by
  have c2 := h.1.cell 2; have c3 := h.1.cell 3
  simp only [List.getElem?_toArray, List.getElem?_cons_zero, List.getElem?_cons_succ] at c2 c3
  clear h
  cases aw with
  | true =>
    go_enter Tryz.func11, Tryz.ntmps11
    go_wp2
    go_ret
    exact ⟨rfl, rfl⟩
  | false =>
    go_enter Tryz.func11, Tryz.ntmps11
    go_wp2
    go_ret
    exact ⟨rfl, rfl⟩
set_option maxHeartbeats 1000000 in
theorem rdebt_due (h : RDebt w v p base F L R x A got aw el n) (hg0 : 0 ≤ got) (hg1 : got ≤ 4611686018427387904) :
    Calls Tryz.prog 12 #[.pointer (some ⟨v, 0, none⟩)] w fun e w' => e = .returned (.int .u64 (fromV aw (qR F L R x A (dueY got n)))) ∧ Below w.heap.size w w' := by
  have c2 := h.1.cell 2
  simp only [List.getElem?_toArray, List.getElem?_cons_zero, List.getElem?_cons_succ] at c2
  cases aw with
  | false =>
    clear h
    go_enter Tryz.func12, Tryz.ntmps12
    go_wp2
    go_ret
    exact ⟨rfl, Below.refl _ _⟩
  | true =>
    have hlt := h.1.lt
    have o0 := fun e => (over_cell (w := w) (e := e) (o := 0) hlt).trans (h.1.cell 0)
    have o1 := fun e => (over_cell (w := w) (e := e) (o := 1) hlt).trans (h.1.cell 1)
    have o4 := fun e => (over_cell (w := w) (e := e) (o := 4) hlt).trans (h.1.cell 4)
    simp only [List.getElem?_toArray, List.getElem?_cons_zero, List.getElem?_cons_succ] at o0 o1 o4
    have HR := Lib.hid h.2.1
    have hY := dueY_bd (n := n) hg0
    have uY : U (dueY got n) := ⟨hY.1, by omega⟩
    clear h hY
    unfold fromV
    go_enter Tryz.func12, Tryz.ntmps12
    go_wp2
    refine wp_region_over (by kernel_rfl) (by kernel_rfl) ?_
    repeat (first | go_big_quiet_skip | (go_big_quiet_want; go_big_quiet_op; first | go_big_quiet_on | (apply Exists.intro; refine ⟨fun e => ?_, ?_⟩; (focus (first | (go_at_call 32; exact calls_over_same (rgrains_any n _)) | (go_at_call 31; exact calls_over_same (docplus_any got n _ hg0 hg1)) | (go_at_call 30; exact calls_over (ref_reach (HR.out.below (over_below _ e)) _ uY)))); go_big_quiet_on)))
    refine wpQuiet_nil ?_
    rintro W2 ⟨e, he⟩
    have hb2 := over_below w e
    rw [← he] at hb2
    clear he o0 o1 o4
    go_wp2
    go_ret
    exact ⟨rfl, hb2⟩

theorem rdebt_wake_on (h : RDebt w v p base F L R x A got true el n) (t m : Int) :
    Calls Tryz.prog 8 #[.pointer (some ⟨v, 0, none⟩), .int .u64 t, .int .i64 m] w fun e w' => e = .returned (.tuple #[]) ∧ w = w' := by
  have c2 := h.1.cell 2
  simp only [List.getElem?_toArray, List.getElem?_cons_zero, List.getElem?_cons_succ] at c2
  clear h
  go_enter Tryz.func8, Tryz.ntmps8
  go_wp2
  go_returns
  exact ⟨rfl, rfl⟩
set_option maxRecDepth 20000 in
set_option maxHeartbeats 2000000 in
theorem rdebt_wake (h : RDebt w v p base F L R x A got false el n) (hbs : base ≤ w.heap.size) (t m X : Int) (ut : U t) (hg0 : 0 ≤ got) (hg1 : got ≤ 4611686018427387904) (hX : X = max (min t 9223372036854775808) x) (hfew : A.length < 900000) :
    Calls Tryz.prog 8 #[.pointer (some ⟨v, 0, none⟩), .int .u64 t, .int .i64 m] w fun e w' => e = .returned (.tuple #[]) ∧ RDebt w' v p base F L R X (A ++ [(X, got)]) got true (qL F L R X (A ++ [(X, got)]) got) m ∧ DocGrown w w' base v p := by
  have c2 := h.1.cell 2
  simp only [List.getElem?_toArray, List.getElem?_cons_zero, List.getElem?_cons_succ] at c2
  have hlt := h.1.lt
  have o0 := fun e => (over_cell (w := w) (e := e) (o := 0) hlt).trans (h.1.cell 0)
  have o1 := fun e => (over_cell (w := w) (e := e) (o := 1) hlt).trans (h.1.cell 1)
  simp only [List.getElem?_toArray, List.getElem?_cons_zero, List.getElem?_cons_succ] at o0 o1
  have ug : U got := ⟨hg0, by omega⟩
  have hm : got = min got 4611686018427387904 := by omega
  have H := Lib.hid h; have HX := Lib.hid hX; have HMI := Lib.hid hm
  clear h hX hm
  go_enter Tryz.func8, Tryz.ntmps8
  go_wp2
  refine wp_region_over_tail 9 (by kernel_rfl) (by kernel_rfl) ?_
  simp only [List.take_succ_cons, List.take_zero, List.drop_succ_cons, List.drop_zero]
  repeat (first | go_big_quiet_skip | (go_big_quiet_want; go_big_quiet_op; go_big_quiet_on))
  refine wpQuiet_nil ?_
  rintro W2 ⟨e, he⟩
  have hb2 := over_below w e
  rw [← he] at hb2
  clear he o0 o1 c2
  have H2 := Lib.hid (H.out.below hb2)
  have hbs2 := Nat.le_trans hbs hb2.size
  go_wp2_with fail
  refine (ref_start H2.out.2.1 hbs2 t got X got ut ug HX.out HMI.out hfew).mono ?_
  rintro e' W3 ⟨rfl, hr3, hg3⟩
  obtain ⟨vx, vy, hpb, _⟩ := H2.out.2.1.at_
  have hvp : v ≠ p := blk_ne H2.out.1 hpb (by decide)
  have b3 := H2.out.1.ref hg3 hvp (by decide)
  have hdg3 : DocGrown w W3 base v p := (DocGrown.of_below hb2).trans (DocGrown.of_ref hg3)
  clear hpb
  have d2 := b3.cell 2; have z2 := b3.frozen 2
  simp only [List.getElem?_toArray, List.getElem?_cons_zero, List.getElem?_cons_succ] at d2
  have hD3 : RDebt W3 v p base F L R X (A ++ [(X, got)]) got false el n := ⟨b3, hr3, H2.out.2.2⟩
  have b4 := b3.set_ 2 (.bool true)
  simp only [List.setIfInBounds_toArray, List.set_cons_zero, List.set_cons_succ] at b4
  have hD4 : RDebt (W3.setCell ⟨v, 2, none⟩ (.bool true)) v p base F L R X (A ++ [(X, got)]) got true el n := ⟨b4, (hD3.set 2 (.bool true)).1, H2.out.2.2⟩
  have hdg4 := hdg3.trans (hD3.set 2 (.bool true)).2
  clear hD3 b3 hg3 hr3 hdg3 b4
  obtain ⟨W4, hW4⟩ : ∃ W4, W3.setCell ⟨v, 2, none⟩ (.bool true) = W4 := ⟨_, rfl⟩
  rw [hW4] at hD4 hdg4
  have HD4 := Lib.hid hD4; have HG4 := Lib.hid hdg4
  have o0 := fun e => (over_cell (w := W4) (e := e) (o := 0) hD4.1.lt).trans (hD4.1.cell 0)
  have o1 := fun e => (over_cell (w := W4) (e := e) (o := 1) hD4.1.lt).trans (hD4.1.cell 1)
  simp only [List.getElem?_toArray, List.getElem?_cons_zero, List.getElem?_cons_succ] at o0 o1
  clear hD4 hdg4
  go_wp2
  clear hW4 d2 z2
  refine wp_region_over_tail 12 (by kernel_rfl) (by kernel_rfl) ?_
  simp only [List.take_succ_cons, List.take_zero, List.drop_succ_cons, List.drop_zero]
  repeat (first | go_big_quiet_skip | (go_big_quiet_want; go_big_quiet_op; first | go_big_quiet_on | (apply Exists.intro; refine ⟨fun e => ?_, ?_⟩; (focus (go_at_call 24; exact calls_over (ref_elig (HD4.out.2.1.below (over_below _ e)) got ug))); go_big_quiet_on)))
  refine wpQuiet_nil ?_
  rintro W5 ⟨e, he⟩
  have hb5 := over_below W4 e
  rw [← he] at hb5
  clear he o0 o1
  have HD5 := Lib.hid (HD4.out.below hb5)
  have d3 := HD5.out.1.cell 3; have z3 := HD5.out.1.frozen 3; have d4 := HD5.out.1.cell 4; have z4 := HD5.out.1.frozen 4
  simp only [List.getElem?_toArray, List.getElem?_cons_zero, List.getElem?_cons_succ] at d3 d4
  obtain ⟨E, hE⟩ : ∃ E, qL F L R X (A ++ [(X, got)]) got = E := ⟨_, rfl⟩
  have HE := Lib.hid hE
  rw [hE]
  clear hE
  go_wp2
  go_returns
  have b6 := HD5.out.1.set_ 3 (.int .u64 E)
  simp only [List.setIfInBounds_toArray, List.set_cons_zero, List.set_cons_succ] at b6
  have hD6 : RDebt (W5.setCell ⟨v, 3, none⟩ (.int .u64 E)) v p base F L R X (A ++ [(X, got)]) got true E n := ⟨b6, (HD5.out.set 3 (.int .u64 E)).1, H2.out.2.2⟩
  have b7 := b6.set_ 4 (.int .i64 m)
  simp only [List.setIfInBounds_toArray, List.set_cons_zero, List.set_cons_succ] at b7
  refine ⟨rfl, ?_, ((HG4.out.trans (DocGrown.of_below hb5)).trans (HD5.out.set 3 (.int .u64 E)).2).trans (hD6.set 4 (.int .i64 m)).2⟩
  rw [HE.out]
  exact ⟨b7, (hD6.set 4 (.int .i64 m)).1, H2.out.2.2⟩
/-- a new one -/
def NewRDebt (base : Nat) (F L R : Int) (u : Value) (W' : World) : Prop := ∃ v p, u = .pointer (some ⟨v, 0, none⟩) ∧ RDebt W' v p base F L R 0 [] 0 false 9223372036854775808 0
theorem rdebt_no (F L R : Int) (w : World) (hL : 0 ≤ L) (h : mayB F L R = false) :
    Calls Tryz.prog 6 #[.agg #[.int .u64 F, .int .u64 L, .int .u64 R]] w fun e w' => e = .returned (.pointer none) ∧ Below w.heap.size w w' := by
  have hal := (Below.refl w.heap.size w).alloc (Nat.le_refl _) (.cells #[.int .u64 F, .int .u64 L, .int .u64 R] 31)
  have H := Lib.hid h; clear h
  go_enter Tryz.func6, Tryz.ntmps6
  go_wp2_with (go_at_call 18; refine (rmay_any F L R _ hL).mono ?_; rintro e w1 ⟨rfl, hb1⟩; rw [H.out])
  go_ret
  exact ⟨rfl, hal.trans (hb1.mono hal.size)⟩
theorem rdebt_new (F L R : Int) (w : World) (base : Nat) (hF : 0 ≤ F) (hL : 0 ≤ L) (hR : 0 ≤ R) (hbase : base ≤ w.heap.size) (h : mayB F L R = true) :
    Calls Tryz.prog 6 #[.agg #[.int .u64 F, .int .u64 L, .int .u64 R]] w fun e w' => ∃ u, e = .returned u ∧ Below w.heap.size w w' ∧ NewRDebt base F L R u w' := by
  have hal := (Below.refl w.heap.size w).alloc (Nat.le_refl _) (.cells #[.int .u64 F, .int .u64 L, .int .u64 R] 31)
  have nb := Blk.new w 31 #[.int .u64 F, .int .u64 L, .int .u64 R]
  have NB := Lib.hid nb; clear nb
  have H := Lib.hid h; clear h
  go_enter Tryz.func6, Tryz.ntmps6
  go_wp2_with (first
    | (go_at_call 18; refine (rmay_any F L R _ hL).mono ?_; rintro e w1 ⟨rfl, hb1⟩; rw [H.out]; have n1 := NB.out.below hb1 NB.out.lt; have a0 := n1.cell 0; have a1 := n1.cell 1; have a2 := n1.cell 2; simp only [List.getElem?_toArray, List.getElem?_cons_zero, List.getElem?_cons_succ] at a0 a1 a2)
    | (go_at_call 19; refine (refnew_some F L R _ base hF hL hR (Nat.le_trans hbase (Nat.le_trans hal.size hb1.size)) H.out).mono ?_; rintro e w2 ⟨p, rfl, hr, hb2⟩; have HR := Lib.hid hr; clear hr))
  go_ret
  have hb3 := hal.trans ((hb1.trans (hb2.mono hb1.size)).mono hal.size)
  have hal2 := (Below.refl w2.heap.size w2).alloc (Nat.le_refl _) (.cells #[.pointer (some ⟨p, 0, none⟩), .int .u64 0, .bool false, .int .u64 9223372036854775808, .int .i64 0] 42)
  exact ⟨_, rfl, hb3.alloc hb3.size _, w2.heap.size, p, rfl, Blk.new _ _ _, HR.out.below hal2, Nat.le_trans hbase hb3.size⟩
end

/-- a debt that tells what it should -/
def Deb (w : World) (d r g : Nat) (F L R x : Int) (A : List (Int × Int)) (got : Int) (aw : Bool) (el n : Int) : Prop :=
  ∃ eI dI, DebtAt w d r g F L R x A got aw eI dI ∧ (aw = true → A ≠ [] ∧ eI = el ∧ dI = qR F L R x A (dueY got n))
def NewDeb (n : Nat) (F L R : Int) (u : Value) (W' : World) : Prop := ∃ d r g, u = .pointer (some ⟨d, 0, none⟩) ∧ n ≤ g ∧ n ≤ d ∧ Deb W' d r g F L R 0 [] 0 false 9223372036854775808 0
theorem debts_fix {F L R x got n el du : Int} {A : List (Int × Int)} (hA : A ≠ []) (hM : MayC F L R) (hlow : ∀ a ∈ A, a.1 ≤ x ∧ 0 ≤ a.2) (h : Debts F L R x A got n el du) : el = qL F L R x A got ∧ du = qR F L R x A (dueY got n) := by
  unfold qL qR
  rw [not_empty hA]
  exact ⟨h.1.ans (vE_max_mono hM hlow), h.2.2.2.1.ans (vA_max_mono hM hlow)⟩

section
variable {w w' : World} {d r g v p base : Nat} {F L R x got el n : Int} {A : List (Int × Int)} {aw : Bool}
theorem Deb.below (h : Deb w d r g F L R x A got aw el n) (hb : Below w.heap.size w w') : Deb w' d r g F L R x A got aw el n := by
  obtain ⟨eI, dI, h1, h2⟩ := h
  exact ⟨eI, dI, h1.below hb, h2⟩
theorem Deb.run (h : Deb w d r g F L R x A got aw el n) : RunAt w r g F L R x A := by obtain ⟨_, _, h1, _⟩ := h; exact h1.2.1
theorem Deb.dblk (h : Deb w d r g F L R x A got aw el n) : ∃ cs, Blk w d 58 cs := by obtain ⟨_, _, h1, _⟩ := h; exact ⟨_, h1.1⟩
theorem deb_new (F L R : Int) (w : World) (n : Nat) (hF : 0 ≤ F) (hL : 0 ≤ L) (hR : 0 ≤ R) (hn : n ≤ w.heap.size) (h1 : mayB F L R = true) :
    Calls Tryz.prog 5 #[.agg #[.int .u64 F, .int .u64 L, .int .u64 R]] w fun e w' => ∃ u, e = .returned u ∧ Below w.heap.size w w' ∧ NewDeb n F L R u w' :=
  (real_new F L R w hF hL hR h1).mono fun e w' ⟨d, r, g, he, hg, hd, hdw, hb⟩ => ⟨_, he, hb, d, r, g, rfl, Nat.le_trans hn hg, Nat.le_trans hn hdw, 0, 0, hd, fun h => by cases h⟩
theorem real_no (F L R : Int) (w : World) (hL : 0 ≤ L) (h : mayB F L R = false) :
    Calls Tryz.prog 5 #[.agg #[.int .u64 F, .int .u64 L, .int .u64 R]] w fun e w' => e = .returned (.pointer none) ∧ Below w.heap.size w w' := by
  have hal := (Below.refl w.heap.size w).alloc (Nat.le_refl _) (.cells #[.int .u64 F, .int .u64 L, .int .u64 R] 31)
  have H := Lib.hid h; clear h
  go_enter Tryz.func5, Tryz.ntmps5
  go_wp2_with (go_at_call 16; refine (may_any F L R _ hL).mono ?_; rintro e w1 ⟨rfl, hb1⟩; rw [H.out])
  go_ret
  exact ⟨rfl, hal.trans (hb1.mono hal.size)⟩

theorem deb_wake_on (h : Deb w d r g F L R x A got true el n) (t m : Int) :
    Calls Tryz.prog 7 #[.pointer (some ⟨d, 0, none⟩), .int .u64 t, .int .i64 m] w fun e w' => e = .returned (.tuple #[]) ∧ w = w' := by
  obtain ⟨eI, dI, h1, h2⟩ := h
  exact dwake_on h1 t m
theorem deb_wake (h : Deb w d r g F L R x A got false el n) (t m X : Int) (ut : U t) (hg0 : 0 ≤ got) (hg1 : got ≤ 4611686018427387904) (hX : X = max (min t 9223372036854775808) x) (hfew : A.length < 900000) :
    Calls Tryz.prog 7 #[.pointer (some ⟨d, 0, none⟩), .int .u64 t, .int .i64 m] w fun e w' => e = .returned (.tuple #[]) ∧ Deb w' d r g F L R X (A ++ [(X, got)]) got true (qL F L R X (A ++ [(X, got)]) got) m ∧ Keeps w w' g d := by
  obtain ⟨eI, dI, h1, h2⟩ := h
  refine (dwake h1 t m X ut hg0 hg1 hX hfew).mono fun e w' ⟨he, el', du', hd, hk, hkp⟩ => ⟨he, ⟨el', du', hd, fun _ => ⟨by simp, ?_⟩⟩, hkp⟩
  exact debts_fix (by simp) hd.2.1.may hd.2.1.num.1 hk
theorem deb_awake (h : Deb w d r g F L R x A got aw el n) :
    Calls Tryz.prog 25 #[.pointer (some ⟨d, 0, none⟩)] w fun e w' => e = .returned (.bool aw) ∧ w = w' := by
  obtain ⟨eI, dI, h1, h2⟩ := h
  exact dawake h1
theorem deb_elig (h : Deb w d r g F L R x A got aw el n) :
    Calls Tryz.prog 28 #[.pointer (some ⟨d, 0, none⟩)] w fun e w' => e = .returned (.int .u64 (fromV aw el)) ∧ w = w' := by
  obtain ⟨eI, dI, h1, h2⟩ := h
  cases aw with
  | true => obtain ⟨_, rfl, _⟩ := h2 rfl; exact delig h1
  | false => exact delig_no h1
theorem deb_due (h : Deb w d r g F L R x A got aw el n) :
    Calls Tryz.prog 29 #[.pointer (some ⟨d, 0, none⟩)] w fun e w' => e = .returned (.int .u64 (fromV aw (qR F L R x A (dueY got n)))) ∧ w = w' := by
  obtain ⟨eI, dI, h1, h2⟩ := h
  cases aw with
  | true => obtain ⟨_, _, rfl⟩ := h2 rfl; exact ddue h1
  | false => exact ddue_no h1
/-- the document's debt turns: a debt is as it was -/
theorem RunAt.doc (h : RunAt w r g F L R x A) (hg : DocGrown w w' base v p) {cs cs' : Array Value} (hv : Blk w v 42 cs) (hp : Blk w p 104 cs') : RunAt w' r g F L R x A := by
  have key : ∀ {b : Nat} {t : TypeId} {c : Array Value}, Blk w b t c → t ≠ 23 → t ≠ 42 → t ≠ 104 → Blk w' b t c := fun hb h1 h2 h3 => hb.doc hg (blk_ne hb hv h2) (blk_ne hb hp h3) h1
  rcases h with ⟨h1, h2, h3⟩ | ⟨h1, ⟨K, h2⟩, h3⟩
  · obtain ⟨⟨a, b, hB, h4⟩, h5⟩ := h2
    exact .inl ⟨key h1 (by decide) (by decide) (by decide), ⟨⟨a, b, key hB (by decide) (by decide) (by decide), h4⟩, h5, ‹_›, ‹_›, ‹_›, ‹_›, ‹_›⟩, h3⟩
  · obtain ⟨u, hB, hr⟩ := h2.at_
    refine .inr ⟨key h1 (by decide) (by decide) (by decide), ⟨K, ⟨u, key hB (by decide) (by decide) (by decide), ?_⟩, h2.may, h2.le, h2.run, h2.num, h2.x0, h2.x1, h2.few, h2.one⟩, h3⟩
    obtain ⟨hl, hk | ⟨b, cap, cur, hu, hb, hblk, hrr⟩⟩ := hr
    · exact ⟨hl, .inl hk⟩
    · exact ⟨hl, .inr ⟨b, cap, cur, hu, hb, key (show Blk w b _ cur from hblk) (by decide) (by decide) (by decide), hrr⟩⟩
theorem Deb.doc (h : Deb w d r g F L R x A got aw el n) (hg : DocGrown w w' base v p) {cs cs' : Array Value} (hv : Blk w v 42 cs) (hp : Blk w p 104 cs') : Deb w' d r g F L R x A got aw el n := by
  obtain ⟨eI, dI, h1, h2⟩ := h
  exact ⟨eI, dI, ⟨h1.1.doc hg (blk_ne h1.1 hv (by decide)) (blk_ne h1.1 hp (by decide)) (by decide), h1.2.1.doc hg hv hp, h1.2.2⟩, h2⟩
/-- a debt turns: the document's is as it was -/
theorem RDebt.keeps {F' L' R' x' got' el' n' : Int} {A' : List (Int × Int)} {aw' : Bool} (h : RDebt w v p base F L R x A got aw el n) (h' : Deb w d r g F' L' R' x' A' got' aw' el' n') (hk : Keeps w w' g d) : RDebt w' v p base F L R x A got aw el n := by
  obtain ⟨cs, hd⟩ := h'.dblk
  obtain ⟨t, cg, hg, ht1, ht2, ht3, ht4⟩ : ∃ t cs, Blk w g t cs ∧ t ≠ 23 ∧ t ≠ 104 ∧ t ≠ 42 ∧ t ≠ 210 := by
    rcases h'.run with k | ⟨_, ⟨K, hK⟩, _⟩
    · obtain ⟨a1, a2, hB2, _⟩ := k.2.1.blk
      exact ⟨_, _, hB2, by decide, by decide, by decide, by decide⟩
    · obtain ⟨u, hB2, _⟩ := hK.at_
      exact ⟨_, _, hB2, by decide, by decide, by decide, by decide⟩
  have row : ∀ {u : Value} {xs : List Int}, RowU w base u xs → RowU w' base u xs := fun hr => by
    obtain ⟨hl, hk2 | ⟨b, cap, cur, hu, hb, hblk, hrr⟩⟩ := hr
    · exact ⟨hl, .inl hk2⟩
    · have hB : Blk w b 23 cur := hblk
      exact ⟨hl, .inr ⟨b, cap, cur, hu, hb, hk.blk b _ _ hB (blk_ne hB hg (Ne.symm ht1)) (blk_ne hB hd (by decide)), hrr⟩⟩
  obtain ⟨vx, vy, hB, hx, hy, hdj⟩ := h.2.1.at_
  exact ⟨hk.blk _ _ _ h.1 (blk_ne h.1 hg (Ne.symm ht3)) (blk_ne h.1 hd (by decide)), ⟨⟨vx, vy, hk.blk _ _ _ hB (blk_ne hB hg (Ne.symm ht2)) (blk_ne hB hd (by decide)), row hx, row hy, hdj⟩, h.2.1.may, h.2.1.nums, h.2.1.low⟩, h.2.2⟩
end

end Go.Proofs.YtbnnkkojlclgjaaGreat
/-
  A debt and the document's debt, together.
-/
namespace Go.Proofs.YtbnnkkojlclgjaaGreat
set_option linter.unusedVariables false
open Go.RowKit

/-- both debts, as the laws find them -/
def PairD (w W : World) (d r g v p k : Nat) (F L R x : Int) (A : List (Int × Int)) (got : Int) (aw : Bool) (el n : Int) : Prop :=
  A.length ≤ k ∧ w.heap.size ≤ g ∧ w.heap.size ≤ d ∧ (0 ≤ got ∧ got ≤ 4611686018427387904) ∧ Deb W d r g F L R x A got aw el n ∧ RDebt W v p w.heap.size F L R x A got aw el n ∧ Below w.heap.size w W
section
variable {w W W1 W2 : World} {d r g v p k k' : Nat} {F L R x x' got got' el el' n n' : Int} {A A' : List (Int × Int)} {aw aw' : Bool}
theorem PairD.below (h : PairD w W d r g v p k F L R x A got aw el n) (hb : Below W.heap.size W W1) : PairD w W1 d r g v p k F L R x A got aw el n :=
  ⟨h.1, h.2.1, h.2.2.1, h.2.2.2.1, h.2.2.2.2.1.below hb, h.2.2.2.2.2.1.below hb, h.2.2.2.2.2.2.trans (hb.mono h.2.2.2.2.2.2.size)⟩
theorem PairD.after (h : PairD w W d r g v p k F L R x A got aw el n) (hk : Keeps W W1 g d) : RDebt W1 v p w.heap.size F L R x A got aw el n ∧ Below w.heap.size w W1 :=
  ⟨h.2.2.2.2.2.1.keeps h.2.2.2.2.1 hk, h.2.2.2.2.2.2.trans (hk.low _ h.2.1 h.2.2.1)⟩
theorem pair_done (hA : A'.length ≤ k') (hgw : w.heap.size ≤ g) (hdw : w.heap.size ≤ d) (hgot : 0 ≤ got' ∧ got' ≤ 4611686018427387904) (hd : Deb W1 d r g F L R x' A' got' aw' el' n') (hr0 : RDebt W1 v p w.heap.size F L R x A got aw el n) (hb : Below w.heap.size w W1) (hr : RDebt W2 v p w.heap.size F L R x' A' got' aw' el' n') (hg : DocGrown W1 W2 w.heap.size v p) : PairD w W2 d r g v p k' F L R x' A' got' aw' el' n' := by
  obtain ⟨vx, vy, hpb, _⟩ := hr0.2.1.at_
  exact ⟨hA, hgw, hdw, hgot, hd.doc hg hr0.1 hpb, hr, hb.trans (hg.low hr0.2.2 hr0.2.1.low hb.size)⟩
theorem Blk.keepsD {b : Nat} {t : TypeId} {cs : Array Value} (h : Blk W b t cs) (hd : Deb W d r g F L R x A got aw el n) (hk : Keeps W W1 g d) (h1 : t ≠ 135) (h2 : t ≠ 138) (h3 : t ≠ 58) : Blk W1 b t cs := by
  obtain ⟨cd, hdb⟩ := hd.dblk
  refine hk.blk _ _ _ h ?_ (blk_ne h hdb h3)
  rcases hd.run with k | ⟨_, ⟨K, hK⟩, _⟩
  · obtain ⟨a1, a2, hB2, _⟩ := k.2.1.blk
    exact blk_ne h hB2 h1
  · obtain ⟨u, hB2, _⟩ := hK.at_
    exact blk_ne h hB2 h2
theorem Blk.docD {base b : Nat} {t : TypeId} {cs : Array Value} (h : Blk W1 b t cs) (hr0 : RDebt W1 v p base F L R x A got aw el n) (hg : DocGrown W1 W2 base v p) (h1 : t ≠ 23) (h2 : t ≠ 42) (h3 : t ≠ 104) : Blk W2 b t cs := by
  obtain ⟨vx, vy, hpb, _⟩ := hr0.2.1.at_
  exact h.doc hg (blk_ne h hr0.1 h2) (blk_ne h hpb h3) h1
/-- another debt turns -/
theorem Deb.keeps {d2 r2 g2 : Nat} {x2 got2 el2 n2 : Int} {A2 : List (Int × Int)} {aw2 : Bool} (h : Deb W d2 r2 g2 F L R x2 A2 got2 aw2 el2 n2) (h' : Deb W d r g F L R x A got aw el n) (hk : Keeps W W1 g d) (hdd : d2 ≠ d) (hgg : g2 ≠ g) : Deb W1 d2 r2 g2 F L R x2 A2 got2 aw2 el2 n2 := by
  obtain ⟨cd, hdb⟩ := h'.dblk
  obtain ⟨t, cg, hgb, ht1, ht2, ht3⟩ : ∃ t cs, Blk W g t cs ∧ t ≠ 58 ∧ t ≠ 96 ∧ t ≠ 210 := by
    rcases h'.run with k | ⟨_, ⟨K, hK⟩, _⟩
    · obtain ⟨a1, a2, hB2, _⟩ := k.2.1.blk
      exact ⟨_, _, hB2, by decide, by decide, by decide⟩
    · obtain ⟨u, hB2, _⟩ := hK.at_
      exact ⟨_, _, hB2, by decide, by decide, by decide⟩
  obtain ⟨eI, dI, ⟨k1, k2, k3⟩, k4⟩ := h
  refine ⟨eI, dI, ⟨hk.blk _ _ _ k1 (blk_ne k1 hgb (Ne.symm ht1)) hdd, ?_, k3⟩, k4⟩
  rcases k2 with ⟨a1, a2, a3⟩ | ⟨a1, ⟨K, a2⟩, a3⟩
  · obtain ⟨⟨p1, q1, hB, h4⟩, h5⟩ := a2
    exact .inl ⟨hk.blk _ _ _ a1 (blk_ne a1 hgb (Ne.symm ht2)) (blk_ne a1 hdb (by decide)), ⟨⟨p1, q1, hk.blk _ _ _ hB hgg (blk_ne hB hdb (by decide)), h4⟩, h5, ‹_›, ‹_›, ‹_›, ‹_›, ‹_›⟩, a3⟩
  · obtain ⟨u, hB, hr⟩ := a2.at_
    refine .inr ⟨hk.blk _ _ _ a1 (blk_ne a1 hgb (Ne.symm ht2)) (blk_ne a1 hdb (by decide)), ⟨K, ⟨u, hk.blk _ _ _ hB hgg (blk_ne hB hdb (by decide)), ?_⟩, a2.may, a2.le, a2.run, a2.num, a2.x0, a2.x1, a2.few, a2.one⟩, a3⟩
    obtain ⟨hl, hz | ⟨b, cap, cur, hu, hb, hblk, hrr⟩⟩ := hr
    · exact ⟨hl, .inl hz⟩
    · have hrb : Blk W b 210 cur := hblk
      exact ⟨hl, .inr ⟨b, cap, cur, hu, hb, hk.blk b _ _ hrb (blk_ne hrb hgb (Ne.symm ht3)) (blk_ne hrb hdb (by decide)), hrr⟩⟩
theorem Deb.glt (h : Deb W d r g F L R x A got aw el n) : g < W.heap.size ∧ d < W.heap.size := by
  obtain ⟨cd, hdb⟩ := h.dblk
  have := h.run.lt
  exact ⟨by omega, hdb.lt⟩
end

end Go.Proofs.YtbnnkkojlclgjaaGreat
/-
  A leaf noted by its debt; debts that came in; a debt that is woken, with the bounds of its ticks.
-/
namespace Go.Proofs.YtbnnkkojlclgjaaGreat
set_option linter.unusedVariables false
open Go.RowKit Go.Maps
attribute [local go_sem ↓] Go.wp_at_zero Go.wp_at_succ
attribute [local go_sem] quietR quietAtR quietUponR midAt midUpon plain plainUpon

/-- a debt that came in: Id, Length, C, Wake, At -/
structure DAct where
  i : Int
  n : Int
  F : Int
  L : Int
  R : Int
  wk : Bool
  t : Int
  deriving Inhabited
def DFit (q : DAct) : Prop := (Lit.int .i64 q.i).wf = true ∧ U q.F ∧ U q.L ∧ U q.R ∧ U q.t
def DActsAt (w : World) (a : Option Addr) (len : Nat) (z : List DAct) : Prop :=
  z.length = len ∧ (∀ q ∈ z, DFit q) ∧
  (len = 0 ∨ ∃ b off, a = some ⟨b, off, none⟩ ∧ b < w.heap.size ∧ ∀ i q, z[i]? = some q →
    w.cell? ⟨b, off + i * 7, none⟩ = some (.int .i64 q.i) ∧ w.cell? ⟨b, off + i * 7 + 1, none⟩ = some (.int .i64 q.n) ∧ w.cell? ⟨b, off + i * 7 + 2, none⟩ = some (.int .u64 q.F) ∧ w.cell? ⟨b, off + i * 7 + 3, none⟩ = some (.int .u64 q.L) ∧ w.cell? ⟨b, off + i * 7 + 4, none⟩ = some (.int .u64 q.R) ∧ w.cell? ⟨b, off + i * 7 + 5, none⟩ = some (.bool q.wk) ∧ w.cell? ⟨b, off + i * 7 + 6, none⟩ = some (.int .u64 q.t))
theorem DActsAt.later {w w' : World} {a : Option Addr} {len : Nat} {z : List DAct} (h : DActsAt w a len z) (hb : Below w.heap.size w w') : DActsAt w' a len z := by
  obtain ⟨h1, h2, h3⟩ := h
  refine ⟨h1, h2, ?_⟩
  rcases h3 with h3 | ⟨b, off, e, hl, hc⟩
  · exact .inl h3
  · refine .inr ⟨b, off, e, Nat.lt_of_lt_of_le hl hb.size, fun i q hq => ?_⟩
    obtain ⟨c0, c1, c2, c3, c4, c5, c6⟩ := hc i q hq
    exact ⟨(hb.cell (p := ⟨b, _, none⟩) hl).trans c0, (hb.cell (p := ⟨b, _, none⟩) hl).trans c1, (hb.cell (p := ⟨b, _, none⟩) hl).trans c2, (hb.cell (p := ⟨b, _, none⟩) hl).trans c3, (hb.cell (p := ⟨b, _, none⟩) hl).trans c4, (hb.cell (p := ⟨b, _, none⟩) hl).trans c5, (hb.cell (p := ⟨b, _, none⟩) hl).trans c6⟩
set_option maxRecDepth 20000 in
theorem dacts_of {w : World} {a : Option Addr} {len cap : Nat} {z : List (List Value)} (h : IsRows [some .i64, some .i64, some .u64, some .u64, some .u64, none, some .u64] w a len cap z) :
    len ≤ 9223372036854775807 ∧ ∃ l : List DAct, DActsAt w a len l := by
  obtain ⟨h1, h2, h3, h4, h5⟩ := h
  have h2' : cap ≤ 9223372036854775807 := by unfold maxLen at h2; exact h2
  refine ⟨Nat.le_trans h1 h2', ?_⟩
  obtain ⟨l, hl, hr⟩ := list_of (fun i (q : DAct) => z[i]? = some [.int .i64 q.i, .int .i64 q.n, .int .u64 q.F, .int .u64 q.L, .int .u64 q.R, .bool q.wk, .int .u64 q.t] ∧ DFit q) len (fun i hi => by
    have hz : z[i]? = some (z[i]'(by omega)) := List.getElem?_eq_getElem (by omega)
    have hk := h4 _ (List.getElem_mem (l := z) (n := i) (by omega))
    generalize z[i]'(by omega) = row at hz hk
    obtain ⟨n0, r0, e0, w0, hk⟩ := kinds_cons hk
    obtain ⟨n1, r1, e1, w1, hk⟩ := kinds_cons hk
    obtain ⟨n2, r2, e2, w2, hk⟩ := kinds_cons hk
    obtain ⟨n3, r3, e3, w3, hk⟩ := kinds_cons hk
    obtain ⟨n4, r4, e4, w4, hk⟩ := kinds_cons hk
    obtain ⟨b5, r5, e5, hk⟩ := kinds_bool hk
    obtain ⟨n6, r6, e6, w6, hk⟩ := kinds_cons hk
    have e7 := kinds_nil hk
    subst e7; subst e6; subst e5; subst e4; subst e3; subst e2; subst e1; subst e0
    have v2 := u64_range w2; have v3 := u64_range w3; have v4 := u64_range w4; have v6 := u64_range w6
    exact ⟨⟨n0, n1, n2, n3, n4, b5, n6⟩, hz, w0, ⟨v2.1, by show n2 ≤ _; omega⟩, ⟨v3.1, by show n3 ≤ _; omega⟩, ⟨v4.1, by show n4 ≤ _; omega⟩, ⟨v6.1, by show n6 ≤ _; omega⟩⟩)
  refine ⟨l, hl, fun q hq => ?_, ?_⟩
  · obtain ⟨i, hi, rfl⟩ := List.mem_iff_getElem.1 hq
    exact (hr i _ (List.getElem?_eq_getElem hi)).2
  · rcases h5 with h5 | ⟨b, off, e, hb, hc⟩
    · exact .inl h5
    · refine .inr ⟨b, off, e, hb, fun i q hq => ?_⟩
      have hz := (hr i q hq).1
      exact ⟨hc i _ hz 0 _ rfl, hc i _ hz 1 _ rfl, hc i _ hz 2 _ rfl, hc i _ hz 3 _ rfl, hc i _ hz 4 _ rfl, hc i _ hz 5 _ rfl, hc i _ hz 6 _ rfl⟩

/-- nothing of the document's debt changes -/
theorem RDebt.stay {w w' : World} {v p base : Nat} {F L R x got el n : Int} {A : List (Int × Int)} {aw : Bool} (h : RDebt w v p base F L R x A got aw el n) (hk : ∀ b, base ≤ b → b < w.heap.size → w'.heap[b]? = w.heap[b]?) : RDebt w' v p base F L R x A got aw el n := by
  have row : ∀ {u : Value} {xs : List Int}, RowU w base u xs → RowU w' base u xs := fun hr => by
    obtain ⟨hl, hk2 | ⟨b, cap, cur, hu, hb, hblk, hrr⟩⟩ := hr
    · exact ⟨hl, .inl hk2⟩
    · exact ⟨hl, .inr ⟨b, cap, cur, hu, hb, (hk b hb (Array.getElem?_eq_some_iff.1 hblk).1).trans hblk, hrr⟩⟩
  obtain ⟨vx, vy, hB, hx, hy, hdj⟩ := h.2.1.at_
  exact ⟨(hk v h.2.2 h.1.lt).trans h.1, ⟨⟨vx, vy, (hk p h.2.1.low hB.lt).trans hB, row hx, row hy, hdj⟩, h.2.1.may, h.2.1.nums, h.2.1.low⟩, h.2.2⟩
/-- the tick at which a debt, woken first, is eligible; at which its head is due -/
noncomputable def elN (F L R X : Int) : Int := qL F L R X ([] ++ [(X, 0)]) 0
noncomputable def duN (F L R X n : Int) : Int := qR F L R X ([] ++ [(X, 0)]) (dueY 0 n)
theorem deb_wakeB {w : World} {d r g : Nat} {F L R el n : Int} (h : Deb w d r g F L R 0 [] 0 false el n) (t m X : Int) (ut : U t) (hX : X = max (min t 9223372036854775808) 0) :
    Calls Tryz.prog 7 #[.pointer (some ⟨d, 0, none⟩), .int .u64 t, .int .i64 m] w fun e w' => e = .returned (.tuple #[]) ∧ Deb w' d r g F L R X ([] ++ [(X, 0)]) 0 true (elN F L R X) m ∧ Keeps w w' g d ∧ (0 ≤ elN F L R X ∧ elN F L R X ≤ 9223372036854775808) ∧ 0 ≤ duN F L R X m ∧ duN F L R X m ≤ 9223372036854775808 := by
  obtain ⟨eI, dI, h1, h2⟩ := h
  refine (dwake h1 t m X ut (by decide) (by decide) hX (by decide)).mono fun e w' ⟨he, el', du', hd, hk, hkp⟩ => ?_
  have hf := debts_fix (by simp) hd.2.1.may hd.2.1.num.1 hk
  obtain ⟨x1, x2, x3, x4, x5, x6⟩ := hk
  refine ⟨he, ⟨el', du', hd, fun _ => ⟨by simp, hf⟩⟩, hkp, ⟨?_, ?_⟩, ?_, ?_⟩
  · unfold elN; rw [← hf.1]; exact x2
  · unfold elN; rw [← hf.1]; exact x3
  · unfold duN; rw [← hf.2]; exact x5
  · unfold duN; rw [← hf.2]; exact x6
theorem dnone_nil (w : World) :
    Calls Tryz.prog 20 #[.pointer none] w fun e w' => e = .returned (.bool true) ∧ w = w' := by
  go_enter Tryz.func20, Tryz.ntmps20
  go_wp2
  go_ret
  exact ⟨rfl, rfl⟩
theorem dawake_nil (w : World) :
    Calls Tryz.prog 25 #[.pointer none] w fun e w' => e = .returned (.bool false) ∧ w = w' := by
  go_enter Tryz.func25, Tryz.ntmps25
  go_wp2_with (go_at_call 20; refine (dnone_nil _).mono ?_; rintro e w' ⟨rfl, rfl⟩)
  go_ret
  exact ⟨rfl, rfl⟩
theorem wf_tick {n : Int} (h : 0 ≤ n ∧ n ≤ 9223372036854775808) : (Lit.int .u64 n).wf = true := by
  simp [Lit.wf, IntKind.min, IntKind.max, IntKind.signed, IntKind.bits]
  omega
set_option maxRecDepth 100000 in
theorem rnote_any (r : Nat) (S : Nat → Prop) (L : List En) (i : Int) (dv : Value) (aw : Bool) (el du : Int) (w : World) (h : RowX w r S L) (hi : (Lit.int .i64 i).wf = true) (hfew : L.length < 900000)
    (hA : Calls Tryz.prog 25 #[dv] w fun e w' => e = .returned (.bool aw) ∧ w = w')
    (hE : aw = true → Calls Tryz.prog 28 #[dv] w fun e w' => e = .returned (.int .u64 el) ∧ w = w')
    (hD : aw = true → Calls Tryz.prog 29 #[dv] w fun e w' => e = .returned (.int .u64 du) ∧ w = w') :
    Calls Tryz.prog 9 #[.pointer (some ⟨r, 0, none⟩), .int .i64 i, dv] w fun e w' => e = .returned (.tuple #[]) ∧ TurnE w r S (if aw = true then putI L i el du else dropI L i) w' := by
  cases aw with
  | false =>
    have hd := rdrop_any r S L i w h hi hfew
    clear h hE hD
    go_enter Tryz.func9, Tryz.ntmps9
    go_wp2_with fail
    refine hA.mono ?_
    clear hA
    rintro e w1 ⟨rfl, rfl⟩
    go_wp2_with fail
    refine hd.mono ?_
    clear hd
    rintro e w2 ⟨rfl, ht⟩
    go_wp2_with fail
    go_returns
    exact ⟨rfl, ht⟩
  | true =>
    have hd := rput_any r S L i el du w h hi hfew
    replace hE := hE rfl
    replace hD := hD rfl
    clear h
    go_enter Tryz.func9, Tryz.ntmps9
    go_wp2_with fail
    refine hA.mono ?_
    clear hA
    rintro e w1 ⟨rfl, rfl⟩
    go_wp2_with fail
    refine hE.mono ?_
    clear hE
    rintro e w1 ⟨rfl, rfl⟩
    go_wp2_with fail
    refine hD.mono ?_
    clear hD
    rintro e w1 ⟨rfl, rfl⟩
    go_wp2_with fail
    refine hd.mono ?_
    clear hd
    rintro e w2 ⟨rfl, ht⟩
    go_wp2_with fail
    go_returns
    exact ⟨rfl, ht⟩
theorem PE.inv {w0 w : World} {r p : Nat} {M N : List En} {K : Nat → Prop} (h : PE w0 w r M p N K) : InvE M := by
  obtain ⟨S, v, h1, h2⟩ := h
  exact h1.inv
theorem PE.note {w0 w : World} {r p : Nat} {M N : List En} {K : Nat → Prop} (h : PE w0 w r M p N K) (i : Int) (dv : Value) (aw : Bool) (el du : Int) (hi : (Lit.int .i64 i).wf = true) (hfew : M.length < 900000)
    (hA : Calls Tryz.prog 25 #[dv] w fun e w' => e = .returned (.bool aw) ∧ w = w')
    (hE : aw = true → Calls Tryz.prog 28 #[dv] w fun e w' => e = .returned (.int .u64 el) ∧ w = w')
    (hD : aw = true → Calls Tryz.prog 29 #[dv] w fun e w' => e = .returned (.int .u64 du) ∧ w = w') :
    Calls Tryz.prog 9 #[.pointer (some ⟨r, 0, none⟩), .int .i64 i, dv] w fun e w' => e = .returned (.tuple #[]) ∧ PE w0 w' r (if aw = true then putI M i el du else dropI M i) p N K ∧ ∀ b, K b → w'.heap[b]? = w.heap[b]? := by
  obtain ⟨S, v, h1, h2, h3, h4, h5, h6, h7, h8⟩ := h
  exact (rnote_any r S M i dv aw el du w h1 hi hfew hA hE hD).mono fun e w' ⟨k1, k2⟩ => ⟨k1, PE.turnE h1 h2 h3 h4 h5 h6 h7 h8 k2⟩
end Go.Proofs.YtbnnkkojlclgjaaGreat
/-
  Law 19: a row of leaves noted by their debts answers as the document's row does. (Printed by wip/mkedfnotes.py.)
-/
namespace Go.Proofs.YtbnnkkojlclgjaaGreat
set_option linter.unusedVariables false
open Go.RowKit Go.Maps
attribute [local go_sem ↓] Go.wp_at_zero Go.wp_at_succ
attribute [local go_sem] quietR quietAtR quietUponR midAt midUpon plain plainUpon

set_option maxRecDepth 100000 in
set_option maxHeartbeats 8000000 in
theorem edfNotes_any (a0 : Option Addr) (len cap : Nat) (z : List DAct) (now id : Int) (w : World) (hz : DActsAt w a0 len z) (hn : 0 ≤ now ∧ now < 18446744073709551616) (hid : (Lit.int .i64 id).wf = true) :
    Calls Tryz.prog 3 #[.slice a0 len cap, .int .u64 now, .int .i64 id] w fun e w' => e = .returned (.bool true) ∧ Below w.heap.size w w' := by
  have HZ := Lib.hid hz
  have HID := Lib.hid hid
  have hzl : z.length = len := hz.1
  clear hz hid
  by_cases hlong : 30 < len
  · have hd : (30 : Int) < (len : Int) := by omega
    clear hlong
    go_enter Tryz.func3, Tryz.ntmps3
    go_wp2_with fail
    go_ret
    exact ⟨rfl, Below.refl _ _⟩
  have hd : ¬ (30 : Int) < (len : Int) := by omega
  subst hzl
  have hnw := rnew_any w
  go_enter Tryz.func3, Tryz.ntmps3
  go_wp2_with fail
  refine hnw.mono ?_
  clear hnw hd
  rintro e W1 ⟨r, S, rfl, h1, h2, h3⟩
  have hpe := PE.start (w0 := w) h1 h3 h2 ((Below.refl W1.heap.size W1).alloc (Nat.le_refl _) (.cells #[.slice none 0 0] 29)) (Blk.new W1 _ _)
  obtain ⟨p, hp⟩ : ∃ p, p = W1.heap.size := ⟨_, rfl⟩
  rw [← hp] at hpe
  have HP := Lib.hid hp
  have H := Lib.hid hpe
  clear h1 h2 h3 hpe hp
  go_upto_region 4 with fail
  rw [← HP.out]
  generalize W1.alloc (.cells #[.slice none 0 0] 29) = W2 at H ⊢
  clear HP
  go_wp2_with fail
  go_loopw [9] (fun v9 W => ∃ i : Nat, v9 = .int .i64 i ∧ i ≤ z.length ∧ ∃ LL, OkE LL ∧ LL.length ≤ i ∧ PE w W r LL p LL (fun _ => False)) (fun v9 _ => (z.length - Go.RowKit.intOf v9).toNat)
  case atStart => exact ⟨0, rfl, Nat.zero_le _, [], OkE.nil, Nat.le_refl _, H.out⟩
  case round =>
    obtain ⟨i, rfl, hi, LL, hok, hlen, hpl⟩ := hrel
    clear H
    have hinv := hpl.inv
    have HL := Lib.hid (And.intro hok (And.intro hinv (show LL.length ≤ i ∧ i ≤ 30 by omega)))
    clear hok hinv hlen
    by_cases hlt : i < z.length
    · obtain ⟨hzl, hzu, hzc⟩ := HZ.out.later hpl.below
      obtain ⟨b, off, rfl, hbl, hcl⟩ := hzc.resolve_left (by omega)
      obtain ⟨q, hq⟩ : ∃ q, z[i]? = some q := ⟨_, List.getElem?_eq_getElem hlt⟩
      obtain ⟨hqi, hF, hL, hR, hT⟩ := hzu q (List.mem_of_getElem? hq)
      obtain ⟨c0, c1, c2, c3, c4, c5, c6⟩ := hcl i q hq
      have HQ := Lib.hid hqi
      have HFLR := Lib.hid (show 0 ≤ q.F ∧ 0 ≤ q.L ∧ 0 ≤ q.R from ⟨hF.1, hL.1, hR.1⟩)
      obtain ⟨T, hTe⟩ : ∃ T, q.t.tmod 1099511627777 = T := ⟨_, rfl⟩
      have hTb : 0 ≤ T ∧ T ≤ 1099511627776 := by rw [← hTe, Int.tmod_eq_emod_of_nonneg hT.1]; omega
      have HTU := Lib.hid (show U T from ⟨hTb.1, by omega⟩)
      clear hzl hzu hzc hcl hq hqi hF hL hR hT hTb
      obtain ⟨qi, qn, F, L, R, wk, qt⟩ := q
      dsimp only at HQ HFLR hTe c0 c1 c2 c3 c4 c5 c6
      have hb6 := (Below.refl wr.heap.size wr).alloc (Nat.le_refl _) (.cells #[.int .i64 qi, .int .i64 qn, .int .u64 F, .int .u64 L, .int .u64 R, .bool wk, .int .u64 qt] 33)
      have hB6 := Blk.new wr 33 #[.int .i64 qi, .int .i64 qn, .int .u64 F, .int .u64 L, .int .u64 R, .bool wk, .int .u64 qt]
      have hP6 : PE w (wr.alloc (.cells #[.int .i64 qi, .int .i64 qn, .int .u64 F, .int .u64 L, .int .u64 R, .bool wk, .int .u64 qt] 33)) r LL p LL (fun b => b = wr.heap.size) := hpl.with hb6 (fun b hb => .inr ⟨Nat.le_of_eq hb.symm, by rw [hb]; simp⟩)
      have HB := Lib.hid hB6
      have H := Lib.hid hP6
      have HC := Lib.hid (show wr.heap.size < (wr.alloc (.cells #[.int .i64 qi, .int .i64 qn, .int .u64 F, .int .u64 L, .int .u64 R, .bool wk, .int .u64 qt] 33)).heap.size by simp)
      clear hb6 hB6 hP6 hpl
      go_upto_region 10 with fail
      clear c0 c1 c2 c3 c4 c5 c6 hbl
      generalize wr.alloc (.cells #[.int .i64 qi, .int .i64 qn, .int .u64 F, .int .u64 L, .int .u64 R, .bool wk, .int .u64 qt] 33) = Wb at H HB HC ⊢
      generalize wr.heap.size = C at H HB HC ⊢
      have o2 := fun e => (over_cell (w := Wb) (e := e) (o := 2) HB.out.lt).trans (HB.out.cell 2)
      have o3 := fun e => (over_cell (w := Wb) (e := e) (o := 3) HB.out.lt).trans (HB.out.cell 3)
      have o4 := fun e => (over_cell (w := Wb) (e := e) (o := 4) HB.out.lt).trans (HB.out.cell 4)
      simp only [List.getElem?_toArray, List.getElem?_cons_zero, List.getElem?_cons_succ] at o2 o3 o4
      cases hm : mayB F L R with
      | false =>
        have HM := Lib.hid hm
        clear hm
        refine wp_region_over (by kernel_rfl) (by kernel_rfl) ?_
        repeat (first | go_big_quiet_skip | (go_big_quiet_want; go_big_quiet_op; first | go_big_quiet_on | (apply Exists.intro; refine ⟨fun e => ?_, ?_⟩; (focus (first | (go_at_call 5; exact calls_over (real_no F L R _ HFLR.out.2.1 HM.out)) | (go_at_call 6; exact calls_over (rdebt_no F L R _ HFLR.out.2.1 HM.out)))); go_big_quiet_on)))
        refine wpQuiet_nil ?_
        rintro W1 ⟨e1, he1⟩
        have hb1 := over_below Wb e1
        rw [← he1] at hb1
        have H1 := Lib.hid (H.out.with (K' := fun b => b = C ∨ (Wb.heap.size ≤ b ∧ b < W1.heap.size)) hb1 fun b hb => hb)
        have HB1 := Lib.hid (HB.out.below hb1 HB.out.lt)
        clear H HB he1 hb1 o2 o3 o4
        have H := H1
        have HB := HB1
        clear H1 HB1
        have ha := H.out.note qi (.pointer none) false 0 0 HQ.out (by have := HL.out.2.2; omega) (dawake_nil W1) (fun h => by cases h) (fun h => by cases h)
        rw [if_neg (by decide)] at ha
        have a0 := HB.out.cell 0; have a1 := HB.out.cell 1; have a5 := HB.out.cell 5; have a6 := HB.out.cell 6
        simp only [List.getElem?_toArray, List.getElem?_cons_zero, List.getElem?_cons_succ] at a0 a1 a5 a6
        cases wk with
        | true =>
          go_wp2_with fail
          refine ha.mono ?_
          clear ha a0 a1 a5 a6
          rintro e W3 ⟨rfl, hT, hK⟩
          have HB4 := Lib.hid (show Blk W3 C 33 _ from (hK _ (.inl rfl)).trans HB.out)
          clear H HB hK
          have HB := HB4
          clear HB4
          have H := Lib.hid hT
          clear hT
          have ha := H.out.rdrop qi HL.out.2.1
          have a0 := HB.out.cell 0; have a1 := HB.out.cell 1; have a5 := HB.out.cell 5; have a6 := HB.out.cell 6
          simp only [List.getElem?_toArray, List.getElem?_cons_zero, List.getElem?_cons_succ] at a0 a1 a5 a6
          go_wp2_with fail
          refine ha.mono ?_
          clear ha a0 a1 a5 a6
          rintro e W4 ⟨rfl, hT, hK⟩
          have HB4 := Lib.hid (show Blk W4 C 33 _ from (hK _ (.inl rfl)).trans HB.out)
          clear H HB hK
          have HB := HB4
          clear HB4
          have H := Lib.hid hT
          clear hT
          have hok9 := HL.out.1.drop qi
          have hle9 := drop_le LL qi
          have hle8 := HL.out.2.2
          have HOk := Lib.hid hok9
          clear hok9
          have ha := H.out.same now id HOk.out HID.out (by omega)
          go_wp2_with fail
          refine ha.mono ?_
          clear ha
          rintro e W8 ⟨rfl, hb⟩
          have H8 := Lib.hid (H.out.later hb)
          clear H hb
          go_wp2_with fail
          go_roundw
          case measure => (simp [Go.RowKit.intOf]; try omega)
          case rel => exact ⟨i + 1, by go_num, by omega, _, HOk.out, by omega, H8.out.less fun _ h => h.elim⟩
        | false =>
          go_wp2_with fail
          refine ha.mono ?_
          clear ha a0 a1 a5 a6
          rintro e W3 ⟨rfl, hT, hK⟩
          have HB4 := Lib.hid (show Blk W3 C 33 _ from (hK _ (.inl rfl)).trans HB.out)
          clear H HB hK
          have HB := HB4
          clear HB4
          have H := Lib.hid hT
          clear hT
          have ha := H.out.rdrop qi HL.out.2.1
          have a0 := HB.out.cell 0; have a1 := HB.out.cell 1; have a5 := HB.out.cell 5; have a6 := HB.out.cell 6
          simp only [List.getElem?_toArray, List.getElem?_cons_zero, List.getElem?_cons_succ] at a0 a1 a5 a6
          go_wp2_with fail
          refine ha.mono ?_
          clear ha a0 a1 a5 a6
          rintro e W4 ⟨rfl, hT, hK⟩
          have HB4 := Lib.hid (show Blk W4 C 33 _ from (hK _ (.inl rfl)).trans HB.out)
          clear H HB hK
          have HB := HB4
          clear HB4
          have H := Lib.hid hT
          clear hT
          have hok9 := HL.out.1.drop qi
          have hle9 := drop_le LL qi
          have hle8 := HL.out.2.2
          have HOk := Lib.hid hok9
          clear hok9
          have ha := H.out.same now id HOk.out HID.out (by omega)
          go_wp2_with fail
          refine ha.mono ?_
          clear ha
          rintro e W8 ⟨rfl, hb⟩
          have H8 := Lib.hid (H.out.later hb)
          clear H hb
          go_wp2_with fail
          go_roundw
          case measure => (simp [Go.RowKit.intOf]; try omega)
          case rel => exact ⟨i + 1, by go_num, by omega, _, HOk.out, by omega, H8.out.less fun _ h => h.elim⟩
      | true =>
        have HM := Lib.hid hm
        clear hm
        refine wp_region_mid (w := Wb) 6 2 [2, 5] [] [(2, fun u W' => NewDeb Wb.heap.size F L R u W'), (5, fun u W' => NewRDebt Wb.heap.size F L R u W')] rfl (by kernel_rfl) (by kernel_rfl) (by kernel_rfl) (by kernel_rfl) (fun _ _ _ _ _ h => h) ⟨?st1, ?st2, trivial⟩ ?_
        case st1 => exact fun v W1 W2 ⟨d, r, g, h1, h2, h3, h4⟩ hb => ⟨d, r, g, h1, h2, h3, h4.below hb⟩
        case st2 => exact fun v W1 W2 ⟨q, p, h1, h3⟩ hb => ⟨q, p, h1, h3.below hb⟩
        intro LLL hLL
        have HLL := Lib.hid hLL
        clear hLL
        simp only [List.take_succ_cons, List.take_zero, putL]
        repeat (first | refine wpHead_skip (by decide) ?_ | (refine wpHead_step (by decide) (fun K hK => ?_); go_simp; first | (refine hK _ ?_; clear hK K) | (apply Exists.intro; refine ⟨fun _ => ?_, hK _ ?_⟩; (fail); clear hK K)))
        refine wpHead_nil (HLL.out _ ⟨?_, ?_, trivial⟩ ?_)
        · intro vs W1 hb1 hf
          clear hf HLL
          change midAt _ _ (Act.put (Act.put _ (some 33) (vs 2)) (some 36) (vs 5)) _ _
          go_simp
          exact deb_new F L R W1 Wb.heap.size HFLR.out.1 HFLR.out.2.1 HFLR.out.2.2 hb1.size HM.out
        · intro vs W1 hb1 hf
          clear hf HLL
          change midAt _ _ (Act.put (Act.put _ (some 33) (vs 2)) (some 36) (vs 5)) _ _
          go_simp
          exact rdebt_new F L R W1 Wb.heap.size HFLR.out.1 HFLR.out.2.1 HFLR.out.2.2 hb1.size HM.out
        · intro vs W1 hb1 hf
          obtain ⟨⟨d, rr, g, hf1, hgw, hdw, hdeb⟩, ⟨v, pp, hf2, href⟩, hff⟩ := hf
          clear hff
          clear HLL o2 o3 o4
          change wpList _ _ _ _ (Act.put (Act.put _ (some 33) (vs 2)) (some 36) (vs 5)) _
          rw [hf1, hf2]
          clear hf1 hf2
          simp only [List.drop_succ_cons, List.drop_zero, List.take_succ_cons, List.take_zero]
          have hpair : PairD Wb W1 d rr g v pp 0 F L R 0 [] 0 false 9223372036854775808 0 := ⟨by simp, hgw, hdw, by decide, hdeb, href, hb1⟩
          have HP := Lib.hid hpair
          have HGD := Lib.hid (And.intro hgw hdw)
          clear hdeb href hpair hgw hdw
          have HB1 := Lib.hid (HB.out.below hb1 HB.out.lt)
          clear HB hb1
          have HB := HB1
          clear HB1
          cases wk with
          | false =>
            have H1 := Lib.hid (H.out.with (K' := fun b => b = C ∨ (Wb.heap.size ≤ b ∧ b < W1.heap.size)) HP.out.2.2.2.2.2.2 fun b hb => hb)
            clear H
            have H := H1
            clear H1
            have ha := H.out.note qi (.pointer (some ⟨d, 0, none⟩)) false 0 0 HQ.out (by have := HL.out.2.2; omega) (deb_awake HP.out.2.2.2.2.1) (fun h => by cases h) (fun h => by cases h)
            rw [if_neg (by decide)] at ha
            have a0 := HB.out.cell 0; have a1 := HB.out.cell 1; have a5 := HB.out.cell 5; have a6 := HB.out.cell 6
            simp only [List.getElem?_toArray, List.getElem?_cons_zero, List.getElem?_cons_succ] at a0 a1 a5 a6
            go_wp2_with fail
            refine ha.mono ?_
            clear ha a0 a1 a5 a6
            rintro e W3 ⟨rfl, hT, hK⟩
            have HB4 := Lib.hid (show Blk W3 C 33 _ from (hK _ (.inl rfl)).trans HB.out)
            have HR3 := Lib.hid (HP.out.2.2.2.2.2.1.stay fun b hb hl => hK b (.inr ⟨hb, hl⟩))
            clear H HB hK
            have HB := HB4
            clear HB4
            have H := Lib.hid hT
            clear hT
            clear HP
            have y2 := HR3.out.1.cell 2
            simp only [List.getElem?_toArray, List.getElem?_cons_zero, List.getElem?_cons_succ] at y2
            have ha := H.out.rdrop qi HL.out.2.1
            have a0 := HB.out.cell 0; have a1 := HB.out.cell 1; have a5 := HB.out.cell 5; have a6 := HB.out.cell 6
            simp only [List.getElem?_toArray, List.getElem?_cons_zero, List.getElem?_cons_succ] at a0 a1 a5 a6
            go_wp2_with fail
            refine ha.mono ?_
            clear ha a0 a1 a5 a6 y2 HR3
            rintro e W4 ⟨rfl, hT, hK⟩
            have HB4 := Lib.hid (show Blk W4 C 33 _ from (hK _ (.inl rfl)).trans HB.out)
            clear H HB hK
            have HB := HB4
            clear HB4
            have H := Lib.hid hT
            clear hT
            have hok9 := HL.out.1.drop qi
            have hle9 := drop_le LL qi
            have hle8 := HL.out.2.2
            have HOk := Lib.hid hok9
            clear hok9
            have ha := H.out.same now id HOk.out HID.out (by omega)
            go_wp2_with fail
            refine ha.mono ?_
            clear ha
            rintro e W8 ⟨rfl, hb⟩
            have H8 := Lib.hid (H.out.later hb)
            clear H hb
            go_wp2_with fail
            go_roundw
            case measure => (simp [Go.RowKit.intOf]; try omega)
            case rel => exact ⟨i + 1, by go_num, by omega, _, HOk.out, by omega, H8.out.less fun _ h => h.elim⟩
          | true =>
            have a0 := HB.out.cell 0; have a1 := HB.out.cell 1; have a5 := HB.out.cell 5; have a6 := HB.out.cell 6
            simp only [List.getElem?_toArray, List.getElem?_cons_zero, List.getElem?_cons_succ] at a0 a1 a5 a6
            have ha := deb_wakeB HP.out.2.2.2.2.1 T qn _ HTU.out rfl
            go_wp2_with fail
            refine ha.mono ?_
            clear ha a0 a1 a5 a6
            rintro e W2 ⟨rfl, hd1, hk1, hel, hdu⟩
            obtain ⟨hr1, hbb⟩ := HP.out.after hk1
            have HB4 := Lib.hid (HB.out.keepsD HP.out.2.2.2.2.1 hk1 (by decide) (by decide) (by decide))
            have HE := Lib.hid (And.intro hel hdu)
            have H2 := Lib.hid (And.intro hd1 (And.intro hr1 hbb))
            clear HB hd1 hk1 hel hdu hr1 hbb HP
            have HB := HB4
            clear HB4
            have a0 := HB.out.cell 0; have a1 := HB.out.cell 1; have a5 := HB.out.cell 5; have a6 := HB.out.cell 6
            simp only [List.getElem?_toArray, List.getElem?_cons_zero, List.getElem?_cons_succ] at a0 a1 a5 a6
            have ha := rdebt_wake H2.out.2.1 H2.out.2.2.size T qn _ HTU.out (by decide) (by decide) rfl (by decide)
            go_wp2_with fail
            refine ha.mono ?_
            clear ha a0 a1 a5 a6
            rintro e W3 ⟨rfl, hr2, hg2⟩
            have HB4 := Lib.hid (HB.out.docD H2.out.2.1 hg2 (by decide) (by decide) (by decide))
            have HP := Lib.hid (pair_done (k' := 1) (by simp) HGD.out.1 HGD.out.2 (by decide) H2.out.1 H2.out.2.1 H2.out.2.2 hr2 hg2)
            clear HB hr2 hg2 H2
            have HB := HB4
            clear HB4
            have H1 := Lib.hid (H.out.with (K' := fun b => b = C ∨ (Wb.heap.size ≤ b ∧ b < W3.heap.size)) HP.out.2.2.2.2.2.2 fun b hb => hb)
            clear H
            have H := H1
            clear H1
            have ha := H.out.note qi (.pointer (some ⟨d, 0, none⟩)) true (elN F L R (max (min T 9223372036854775808) 0)) (duN F L R (max (min T 9223372036854775808) 0) qn) HQ.out (by have := HL.out.2.2; omega) (deb_awake HP.out.2.2.2.2.1) (fun _ => deb_elig HP.out.2.2.2.2.1) (fun _ => deb_due HP.out.2.2.2.2.1)
            rw [if_pos rfl] at ha
            have a0 := HB.out.cell 0; have a1 := HB.out.cell 1; have a5 := HB.out.cell 5; have a6 := HB.out.cell 6
            simp only [List.getElem?_toArray, List.getElem?_cons_zero, List.getElem?_cons_succ] at a0 a1 a5 a6
            go_wp2_with fail
            refine ha.mono ?_
            clear ha a0 a1 a5 a6
            rintro e W4 ⟨rfl, hT, hK⟩
            have HB4 := Lib.hid (show Blk W4 C 33 _ from (hK _ (.inl rfl)).trans HB.out)
            have HR4 := Lib.hid (HP.out.2.2.2.2.2.1.stay fun b hb hl => hK b (.inr ⟨hb, hl⟩))
            clear H HB hK
            have HB := HB4
            clear HB4
            have H := Lib.hid hT
            clear hT
            clear HP
            have y2 := HR4.out.1.cell 2
            simp only [List.getElem?_toArray, List.getElem?_cons_zero, List.getElem?_cons_succ] at y2
            have hfr := fun e => rdebt_from (HR4.out.below (over_below W4 e))
            have hdr := fun e => rdebt_due (HR4.out.below (over_below W4 e)) (by decide) (by decide)
            have HFD := Lib.hid (And.intro (show ∀ e, Calls Tryz.prog 11 #[.pointer (some ⟨v, 0, none⟩)] (over W4 e) fun e' w' => e' = .returned (.int .u64 (elN F L R (max (min T 9223372036854775808) 0))) ∧ over W4 e = w' from hfr) (show ∀ e, Calls Tryz.prog 12 #[.pointer (some ⟨v, 0, none⟩)] (over W4 e) fun e' w' => e' = .returned (.int .u64 (duN F L R (max (min T 9223372036854775808) 0) qn)) ∧ Below (over W4 e).heap.size (over W4 e) w' from hdr))
            clear hfr hdr
            generalize elN F L R (max (min T 9223372036854775808) 0) = el at H HE HFD ⊢
            generalize duN F L R (max (min T 9223372036854775808) 0) qn = du at H HE HFD ⊢
            have a0 := HB.out.cell 0
            simp only [List.getElem?_toArray, List.getElem?_cons_zero, List.getElem?_cons_succ] at a0
            have o0 := fun e => (over_cell (w := W4) (e := e) (o := 0) HB.out.lt).trans a0
            go_upto_region 16 with fail
            clear y2
            refine wp_region_over_tail 7 (by kernel_rfl) (by kernel_rfl) ?_
            simp only [List.take_succ_cons, List.take_zero, List.drop_succ_cons, List.drop_zero]
            repeat (first | go_big_quiet_skip | (go_big_quiet_want; go_big_quiet_op; first | go_big_quiet_on | (apply Exists.intro; refine ⟨fun e => ?_, ?_⟩; (focus (first | (go_at_call 11; with_reducible exact calls_over_same (HFD.out.1 _)) | (go_at_call 12; with_reducible exact calls_over (HFD.out.2 _)))); go_big_quiet_on)))
            refine wpQuiet_nil ?_
            rintro W5 ⟨e5, he5⟩
            have hb5 := over_below W4 e5
            rw [← he5] at hb5
            have H5 := Lib.hid (H.out.later hb5)
            clear H HB he5 hb5 o0 a0 HFD HR4
            have H := H5
            clear H5
            have ha := H.out.rput qi el du HL.out.2.1 (by have := HL.out.2.2; omega)
            go_wp2_with fail
            refine ha.mono ?_
            clear ha
            rintro e W6 ⟨rfl, hT, hK⟩
            clear H hK
            have H := Lib.hid hT
            clear hT
            have hok9 := HL.out.1.put (i := qi) (a := el) (b := du) HQ.out (wf_tick HE.out.1) (wf_tick HE.out.2)
            have hle9 := put_le LL qi el du
            have hle8 := HL.out.2.2
            have HOk := Lib.hid hok9
            clear hok9
            have ha := H.out.same now id HOk.out HID.out (by omega)
            go_wp2_with fail
            refine ha.mono ?_
            clear ha
            rintro e W8 ⟨rfl, hb⟩
            have H8 := Lib.hid (H.out.later hb)
            clear H hb
            go_wp2_with fail
            go_roundw
            case measure => (simp [Go.RowKit.intOf]; try omega)
            case rel => exact ⟨i + 1, by go_num, by omega, _, HOk.out, by omega, H8.out.less fun _ h => h.elim⟩
    · obtain rfl : i = z.length := by omega
      have ha := hpl.note id (.pointer none) false 0 0 HID.out (by have := HL.out.2.2; omega) (dawake_nil wr) (fun h => by cases h) (fun h => by cases h)
      rw [if_neg (by decide)] at ha
      clear hpl
      go_wp2_with fail
      refine ha.mono ?_
      clear ha
      rintro e W3 ⟨rfl, hT, -⟩
      have H := Lib.hid hT
      clear hT
      have ha := H.out.rdrop id HL.out.2.1
      go_wp2_with fail
      refine ha.mono ?_
      clear ha H
      rintro e W4 ⟨rfl, hT, -⟩
      have H := Lib.hid hT
      clear hT
      have hle9 := drop_le LL id
      have hle8 := HL.out.2.2
      have ha := H.out.same now id (HL.out.1.drop id) HID.out (by omega)
      go_wp2_with fail
      refine ha.mono ?_
      clear ha
      rintro e W9 ⟨rfl, hb⟩
      have HF := Lib.hid (H.out.later hb)
      clear H hb
      go_wp2_with fail
      go_ret
      exact ⟨rfl, HF.out.below⟩
end Go.Proofs.YtbnnkkojlclgjaaGreat
