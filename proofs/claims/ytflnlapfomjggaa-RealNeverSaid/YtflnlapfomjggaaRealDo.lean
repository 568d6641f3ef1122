/-
  What changes a debt: it is made, it wakes, it is served.
-/
import Derived.Test.YtflnlapfomjggaaReal
import Derived.Laws.EntriesVeiled
namespace Go.Proofs.Ytflnlapfomjggaa
set_option linter.unusedVariables false
open Go.RowKit

/-- what is due of a head: got, and its grains -/
def dueY (got n : Int) : Int := min (got + grainsL n) 4611686018427387904
theorem dueY_bd {got n : Int} (h : 0 ≤ got) : 0 ≤ dueY got n ∧ dueY got n ≤ 4611686018427387904 := by have := grainsL_bd n; unfold dueY; omega

theorem real_new (F L R : Int) (w : World) (hF : 0 ≤ F) (hL : 0 ≤ L) (hR : 0 ≤ R) (h1 : mayB F L R = true) :
    Calls Try.prog 38 #[.agg #[.int .u64 F, .int .u64 L, .int .u64 R]] w fun e w' =>
      ∃ d r g, e = .returned (.pointer (some ⟨d, 0, none⟩)) ∧ w.heap.size ≤ g ∧ DebtAt w' d r g F L R 0 [] 0 false 0 0 ∧ Below w.heap.size w w' := by
  have hal := (Below.refl w.heap.size w).alloc (Nat.le_refl _) (.cells #[.int .u64 F, .int .u64 L, .int .u64 R] 24)
  have nb := Blk.new w 24 #[.int .u64 F, .int .u64 L, .int .u64 R]
  have HN := Lib.hid nb; have H := Lib.hid h1
  clear nb h1
  go_enter Try.func38, Try.ntmps38
  go_wp2_with (first
    | (go_at_call 30; refine (may_any F L R _ hL).mono ?_; rintro e w1 ⟨rfl, hb1⟩; rw [H.out]; have n1 := HN.out.below hb1 HN.out.lt; have a0 := n1.cell 0; have a1 := n1.cell 1; have a2 := n1.cell 2; simp only [List.getElem?_toArray, List.getElem?_cons_zero, List.getElem?_cons_succ] at a0 a1 a2)
    | (go_at_call 23; refine (run_new F L R _ hF hL hR H.out).mono ?_; rintro e w2 ⟨r, g, rfl, hg, hr, hb2⟩; have HR := Lib.hid hr; clear hr))
  go_ret
  have hb3 := hb1.trans (hb2.mono hb1.size)
  have hb4 : Below w.heap.size w w2 := hal.trans (hb3.mono hal.size)
  have hal2 := (Below.refl w2.heap.size w2).alloc (Nat.le_refl _) (.cells #[.pointer (some ⟨r, 0, none⟩), .int .u64 0, .bool false, .int .u64 0, .int .u64 0] 113)
  exact ⟨w2.heap.size, r, g, rfl, Nat.le_trans (Nat.le_trans hal.size hb1.size) hg, ⟨Blk.new _ _ _, HR.out.below hal2, HR.out.lt.2⟩, hb4.trans (hal2.mono hb4.size)⟩

theorem anew_any (w : World) :
    Calls Try.prog 66 #[] w fun e w' => e = .returned (.agg #[.func (.func 81) #[] #[], .func (.func 82) #[] #[]]) ∧ Below w.heap.size w w' := by
  go_enter Try.func66, Try.ntmps66
  go_wp2
  go_returns
  exact ⟨rfl, by go_grown⟩

section
variable {w w' : World} {d r g : Nat} {F L R x got el du : Int} {A : List (Int × Int)} {aw : Bool}

theorem RunAt.far {t : Nat} {cs : Array Value} (h : RunAt w r g F L R x A) (hB : Blk w d t cs) (ht : t ≠ 180) (h1 : d ≠ r) (h2 : d ≠ g) (hw : w.grownBy w' (some d)) : RunAt w' r g F L R x A := by
  rcases h with ⟨k1, k2, k3⟩ | ⟨k1, ⟨K, k2⟩, k3⟩
  · exact .inl ⟨k1.grown hw (by simpa using Ne.symm h1), k2.stay h2 hw, k3⟩
  · exact .inr ⟨k1.grown hw (by simpa using Ne.symm h1), ⟨K, k2.stay2 h2 hB ht hw⟩, k3⟩
theorem DebtAt.run_set (h : DebtAt w d r g F L R x A got aw el du) (i : Nat) (u : Value) : RunAt (w.setCell ⟨d, i, none⟩ u) r g F L R x A :=
  h.2.1.far h.1 (by decide) (by have := h.2.2; omega) (by have := h.glt; omega) (World.grownBy_setCell _ _ _)

theorem anew_elig (h : DebtAt w d r g F L R x A got aw el du) (hA : A ≠ []) (hg : U got) (n : Int) :
    Calls Try.prog 81 #[.pointer (some ⟨d, 0, none⟩), .int .i64 n] w fun e w' =>
      e = .returned (.tuple #[]) ∧ ∃ el', Back (fun t => vE F L R A (max t x)) x got el' ∧ 0 ≤ el' ∧ el' ≤ 9223372036854775808 ∧ DebtAt w' d r g F L R x A got aw el' du ∧ w.grownBy w' (some d) := by
  obtain ⟨n0, hk, hn0, hn1, hc⟩ := elig_fix h.2.1 hA got hg
  have c0 := h.1.cell 0; have c1 := h.1.cell 1
  simp only [List.getElem?_toArray, List.getElem?_cons_zero, List.getElem?_cons_succ] at c0 c1
  have hlt := h.1.lt
  have o0 := fun e => (over_cell (w := w) (e := e) hlt).trans c0
  have o1 := fun e => (over_cell (w := w) (e := e) hlt).trans c1
  have hr := h.2.1
  have H := Lib.hid h; have HC := Lib.hid hc; have HK := Lib.hid hk; have HR := Lib.hid hr
  clear h hc hk hr
  go_enter Try.func81, Try.ntmps81
  go_wp2
  refine wp_region_over_tail 13 (by kernel_rfl) (by kernel_rfl) ?_
  simp only [List.take_succ_cons, List.take_zero, List.drop_succ_cons, List.drop_zero]
  repeat (first | go_big_quiet_skip | (go_big_quiet_want; go_big_quiet_op; first | go_big_quiet_on | (apply Exists.intro; refine ⟨fun e => ?_, ?_⟩; (focus (go_at_call 18; exact calls_over (HC.out _ (HR.out.below (over_below _ e))))); go_big_quiet_on)))
  refine wpQuiet_nil ?_
  rintro W2 ⟨e2, he2⟩
  have hb2 := over_below w e2
  rw [← he2] at hb2
  clear he2 o0 o1 c0 c1
  have h2 := H.out.below hb2
  have d3 := h2.1.cell 3; have z3 := h2.1.frozen 3
  simp only [List.getElem?_toArray, List.getElem?_cons_zero, List.getElem?_cons_succ] at d3
  have H2 := Lib.hid h2
  clear h2
  go_wp2
  go_returns
  exact ⟨rfl, n0, HK.out, hn0, hn1, ⟨by simpa using H2.out.1.set_ 3 (.int .u64 n0), H2.out.run_set _ _, H2.out.2.2⟩, (show w.grownBy W2 (some d) from ⟨hb2.os, hb2.tape, hb2.output, hb2.size, fun k hk _ => hb2.block k hk⟩).trans (World.grownBy_setCell _ _ _)⟩

theorem anew_due (h : DebtAt w d r g F L R x A got aw el du) (hA : A ≠ []) (hg0 : 0 ≤ got) (hg1 : got ≤ 4611686018427387904) (n : Int) :
    Calls Try.prog 82 #[.pointer (some ⟨d, 0, none⟩), .int .i64 n] w fun e w' =>
      e = .returned (.tuple #[]) ∧ ∃ du', Back (fun t => vA F L R A (max t x)) x (dueY got n) du' ∧ 0 ≤ du' ∧ du' ≤ 9223372036854775808 ∧ DebtAt w' d r g F L R x A got aw el du' ∧ w.grownBy w' (some d) := by
  obtain ⟨G, hG⟩ : ∃ G, grainsL n = G := ⟨_, rfl⟩
  obtain ⟨Y, hY⟩ : ∃ Y, dueY got n = Y := ⟨_, rfl⟩
  have hGb := grainsL_bd n
  rw [hG] at hGb
  have hYb := dueY_bd (n := n) hg0
  rw [hY] at hYb
  have hYe : (if 4611686018427387904 < got + G then 4611686018427387904 else got + G) = Y := by rw [← hY, ← hG]; unfold dueY; omega
  rw [hY]
  obtain ⟨n0, hk, hn0, hn1, hc⟩ := reach_fix h.2.1 hA Y ⟨hYb.1, by omega⟩
  have c0 := h.1.cell 0; have c1 := h.1.cell 1
  simp only [List.getElem?_toArray, List.getElem?_cons_zero, List.getElem?_cons_succ] at c0 c1
  have hlt := h.1.lt
  have o0 := fun e => (over_cell (w := w) (e := e) hlt).trans c0
  have o1 := fun e => (over_cell (w := w) (e := e) hlt).trans c1
  have hr := h.2.1
  have H := Lib.hid h; have HC := Lib.hid hc; have HK := Lib.hid hk; have HR := Lib.hid hr
  clear h hc hk hr hY
  go_enter Try.func82, Try.ntmps82
  go_wp2
  refine wp_region_over_tail 17 (by kernel_rfl) (by kernel_rfl) ?_
  simp only [List.take_succ_cons, List.take_zero, List.drop_succ_cons, List.drop_zero]
  repeat (first | go_big_quiet_skip | (go_big_quiet_want; go_big_quiet_op; first | go_big_quiet_on | (apply Exists.intro; refine ⟨fun e => ?_, ?_⟩; (focus (first | (go_at_call 67; exact calls_over_same (hG ▸ grains_any n _)) | (go_at_call 19; exact calls_over (HC.out _ (HR.out.below (over_below _ e)))))); go_big_quiet_on)))
  refine wpQuiet_nil ?_
  rintro W2 ⟨e2, he2⟩
  have hb2 := over_below w e2
  rw [← he2] at hb2
  clear he2 o0 o1 c0 c1
  have h2 := H.out.below hb2
  have d4 := h2.1.cell 4; have z4 := h2.1.frozen 4
  simp only [List.getElem?_toArray, List.getElem?_cons_zero, List.getElem?_cons_succ] at d4
  have H2 := Lib.hid h2
  clear h2
  go_wp2
  go_returns
  exact ⟨rfl, n0, HK.out, hn0, hn1, ⟨by simpa using H2.out.1.set_ 4 (.int .u64 n0), H2.out.run_set _ _, H2.out.2.2⟩, (show w.grownBy W2 (some d) from ⟨hb2.os, hb2.tape, hb2.output, hb2.size, fun k hk _ => hb2.block k hk⟩).trans (World.grownBy_setCell _ _ _)⟩
end

end Go.Proofs.Ytflnlapfomjggaa
