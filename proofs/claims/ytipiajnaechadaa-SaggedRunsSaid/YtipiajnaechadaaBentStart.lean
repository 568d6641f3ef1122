/-
  bent.Start: one more copy starts.
-/
import Derived.Test.YtipiajnaechadaaBent
namespace Go.Proofs.Ytipiajnaechadaa
set_option linter.unusedVariables false
open Go.RowKit

theorem burst_any (F L R : Int) (w : World) (hF : U F) (hL : U L) (hR : U R) (h : R < F) :
    Calls Try.prog 126 #[.agg #[.int .u64 F, .int .u64 L, .int .u64 R]] w fun e w' => e = .returned (.tuple #[.int .u64 (cap ((F - R) * L)), .bool true]) ∧ Below w.heap.size w w' := by
  have hal := (Below.refl w.heap.size w).alloc (Nat.le_refl _) (.cells #[.int .u64 F, .int .u64 L, .int .u64 R] 24)
  have nb := Blk.new w 24 #[.int .u64 F, .int .u64 L, .int .u64 R]
  have hd : decide (R < F) = true := by simp; omega
  have uF : U (F - R) := by unfold U at *; omega
  have wd : IntKind.u64.wrap (F - R) = F - R := wrap_u uF
  have NB := Lib.hid nb; clear nb
  go_enter Try.func126, Try.ntmps126
  go_wp2_with (first
    | (go_at_call 49; refine (bent_any F L R _).mono ?_; rintro e w1 ⟨rfl, hb1⟩; have n1 := NB.out.below hb1 NB.out.lt; have a0 := n1.cell 0; have a1 := n1.cell 1; have a2 := n1.cell 2; simp only [List.getElem?_toArray, List.getElem?_cons_zero, List.getElem?_cons_succ] at a0 a1 a2; clear n1)
    | (go_at_call 78; refine (times_any _ _ _ uF hL).mono ?_; rintro e w2 ⟨rfl, hb2⟩))
  go_ret2
  exact ⟨rfl, (hal.trans (hb1.mono hal.size)).trans (hb2.mono (Nat.le_trans hal.size hb1.size))⟩

abbrev bentRow (F L R n x h1 h2 : Int) : Array Value := #[.int .u64 F, .int .u64 L, .int .u64 R, .int .i64 n, .int .u64 x, .int .u64 F, .int .u64 h1, .int .u64 R, .int .u64 h2]

/-- in the midst of the loop -/
def MidB (w W : World) (g hb : Nat) (F L R n x a0 a1 h1 h2 : Int) : Prop :=
  Blk W hb 131 #[.int .u64 a0, .int .u64 a1] ∧ Blk W g 105 (bentRow F L R n x h1 h2) ∧ w.grownBy W (some g) ∧ g < hb ∧ w.heap.size ≤ hb

theorem MidB.below {w W W' : World} {g hb : Nat} {F L R n x a0 a1 h1 h2 : Int} (h : MidB w W g hb F L R n x a0 a1 h1 h2) (hb' : Below W.heap.size W W') : MidB w W' g hb F L R n x a0 a1 h1 h2 := by
  obtain ⟨h1, h2, h3, h4, h5⟩ := h
  exact ⟨h1.below hb' h1.lt, h2.below hb' h2.lt, ⟨hb'.os.trans h3.os, hb'.tape.trans h3.tape, hb'.output.trans h3.output, Nat.le_trans h3.size hb'.size, fun k hk hne => (hb'.block k (Nat.lt_of_lt_of_le hk h3.size)).trans (h3.block k hk hne)⟩, h4, h5⟩

theorem grownBy_below {w W W' : World} {g : Nat} (h3 : w.grownBy W (some g)) (hb' : Below w.heap.size W W') (hs : w.heap.size ≤ W'.heap.size) : w.grownBy W' (some g) :=
  ⟨hb'.os.trans h3.os, hb'.tape.trans h3.tape, hb'.output.trans h3.output, hs, fun k hk hne => (hb'.block k hk).trans (h3.block k hk hne)⟩
theorem grownBy_set {w W : World} {g i : Nat} {u : Value} (h : w.grownBy W (some g)) : w.grownBy (W.setCell ⟨g, i, none⟩ u) (some g) :=
  ⟨h.os, h.tape, h.output, by simp [World.setCell]; exact h.size, fun k hk hne => (Below.heap_setCell _ _ _ k (by intro he; exact hne (by rw [he]))).trans (h.block k hk hne)⟩
theorem grownBy_set_new {w W : World} {g hb i : Nat} {u : Value} (h : w.grownBy W (some g)) (hn : w.heap.size ≤ hb) : w.grownBy (W.setCell ⟨hb, i, none⟩ u) (some g) :=
  ⟨h.os, h.tape, h.output, by simp [World.setCell]; exact h.size, fun k hk hne => (Below.heap_setCell _ _ _ k (by simp only; omega)).trans (h.block k hk hne)⟩

set_option maxRecDepth 100000 in
set_option maxHeartbeats 2000000 in
theorem bstart_any (g : Nat) (F L R n x h1 h2 t y M X Y ov a1 p1 p2 H1 H2 : Int) (w : World) (hF : U F) (hL : U L) (hR : U R) (hRF : R < F) (hx : U x) (ht : U t) (hy : U y) (hh1 : U h1) (hh2 : U h2) (hn0 : 0 ≤ n) (hn1 : n ≤ 1000000)
    (hM : (if 9223372036854775808 < t then 9223372036854775808 else t) = M) (hX : (if M < x then x else M) = X) (hY : (if 4611686018427387904 < y then 4611686018427387904 else y) = Y)
    (hov : cap ((F - R) * L) = ov) (ha1 : cap (Y + ov) = a1) (hp1 : cap (h1 + cap (F * (X - x))) = p1) (hp2 : cap (h2 + cap (R * (X - x))) = p2)
    (hH1 : H1 = if 0 < n ∧ p1 < Y then p1 else Y) (hH2 : H2 = if 0 < n ∧ p2 < a1 then p2 else a1)
    (hB : Blk w g 105 (bentRow F L R n x h1 h2)) :
    Calls Try.prog 121 #[.pointer (some ⟨g, 0, none⟩), .int .u64 t, .int .u64 y] w fun e w' =>
      e = .returned (.tuple #[]) ∧ Blk w' g 105 (bentRow F L R (n + 1) X H1 H2) ∧ w.grownBy w' (some g) := by
  have uX : U (X - x) := by unfold U at *; omega
  have wd : IntKind.u64.wrap (X - x) = X - x := wrap_u uX
  have uov : U ov := by rw [← hov]; exact U_cap (Int.mul_nonneg (by omega) hL.1)
  have uY : U Y := by unfold U at *; omega
  have hd : decide (R < F) = true := by simp; omega
  obtain ⟨c0, c1, c2, c3, c4, c5, c6, c7, c8⟩ := bent_cells hB
  have hg := hB.lt
  have HB := Lib.hid hB; have HOV := Lib.hid hov; have HA1 := Lib.hid ha1; have HP1 := Lib.hid hp1; have HP2 := Lib.hid hp2; have HH1 := Lib.hid hH1; have HH2 := Lib.hid hH2
  clear hB hov ha1 hp1 hp2 hH1 hH2 c3 c4 c5 c6 c7 c8
  go_enter Try.func121, Try.ntmps121
  go_wp2_with (first
    | (go_at_call 49; refine (bent_any F L R _).mono ?_; rintro e w1 ⟨rfl, hb1⟩; have B1 := HB.out.below hb1 hg; obtain ⟨c0, c1, c2, c3, c4, c5, c6, c7, c8⟩ := bent_cells B1; clear c3 c5 c6 c7 c8)
    | (go_at_call 126; refine (burst_any F L R _ hF hL hR hRF).mono ?_; rintro e w2 ⟨rfl, hb2⟩; rw [HOV.out])
    | (go_at_call 85; refine (rplus_any Y ov _ uY uov).mono ?_; rintro e w' ⟨rfl, rfl⟩; rw [HA1.out]))
  have hgw2 : g < w2.heap.size := Nat.lt_of_lt_of_le hg (Nat.le_trans hb1.size hb2.size)
  have hbw : Below w.heap.size w w2 := hb1.trans (hb2.mono hb1.size)
  have B2 := (HB.out.below hb1 hg).below hb2 (HB.out.below hb1 hg).lt
  have hal := (Below.refl w2.heap.size w2).alloc (Nat.le_refl _) (.cells #[.int .u64 Y, .int .u64 a1] 131)
  have hS0 : MidB w (w2.alloc (.cells #[.int .u64 Y, .int .u64 a1] 131)) g w2.heap.size F L R n x Y a1 h1 h2 :=
    ⟨Blk.new _ _ _, B2.below hal hgw2, ⟨(hbw.trans (hal.mono hbw.size)).os, (hbw.trans (hal.mono hbw.size)).tape, (hbw.trans (hal.mono hbw.size)).output, (hbw.trans (hal.mono hbw.size)).size, fun k hk _ => (hbw.trans (hal.mono hbw.size)).block k hk⟩, hgw2, hbw.size⟩
  generalize w2.alloc (.cells #[.int .u64 Y, .int .u64 a1] 131) = w3 at *
  have HS0 := Lib.hid hS0
  clear hS0 B2 hb1 hb2 hal c0 c1 c2 c4
  refine wp_region_over (by kernel_rfl) (by kernel_rfl) ?_
  repeat (first | go_big_quiet_skip | (go_big_quiet_want; go_big_quiet_op; go_big_quiet_on))
  refine wpQuiet_nil ?_
  rintro W4 ⟨e, he⟩
  have hb4 := over_below w3 e
  rw [← he] at hb4
  clear he
  have hS1 := HS0.out.below hb4
  obtain ⟨hb, hhb⟩ : ∃ hb, hb = w2.heap.size := ⟨_, rfl⟩
  rw [← hhb] at hS1 ⊢
  have HS1 := Lib.hid hS1
  clear hS1 hb4 hhb HS0
  go_wp2
  go_loopw [52] (fun i W => ∃ k : Nat, k ≤ 2 ∧ i = .int .i64 k ∧ (k = 0 → MidB w W g hb F L R n x Y a1 h1 h2) ∧ (k = 1 → MidB w W g hb F L R n x H1 a1 H1 h2) ∧ (k = 2 → MidB w W g hb F L R n x H1 H2 H1 H2)) (fun i _ => 2 - (intOf i).toNat)
  case atStart => exact ⟨0, by omega, rfl, fun _ => HS1.out, fun h => by omega, fun h => by omega⟩
  case round =>
    obtain ⟨k, hk, rfl, hs0, hs1, hs2⟩ := hrel
    by_cases h2k : k = 2
    · subst h2k
      obtain ⟨B1, B2, hgr, hgb, hwb⟩ := hs2 rfl
      obtain ⟨c0, c1, c2, c3, c4, c5, c6, c7, c8⟩ := bent_cells B2
      have z3 := B2.frozen 3; have z4 := B2.frozen 4
      have BB2 := Lib.hid B2; have HGR := Lib.hid hgr
      clear B1 B2 hgr hs0 hs1 hs2 c0 c1 c2 c5 c6 c7 c8
      go_wp2
      go_returns
      exact ⟨rfl, by simpa using (BB2.out.set_ 4 (.int .u64 X)).set_ 3 (.int .i64 (n + 1)), grownBy_set (grownBy_set HGR.out)⟩
    · by_cases h1k : k = 1
      · subst h1k
        have hS := hs1 rfl
        obtain ⟨B1, B2, hgr, hgb, hwb⟩ := hS
        have i0 : ∀ w : World, (Instr.index 164 (.agg #[.pointer (some ⟨g, 5, none⟩), .pointer (some ⟨g, 7, none⟩)]) (.int .i64 1)).run Try.prog w = .ok (.pointer (some ⟨g, 7, none⟩)) w := fun _ => by kernel_rfl
        obtain ⟨c0, c1, c2, c3, c4, c5, c6, c7, c8⟩ := bent_cells B2
        have z6 := B2.frozen 8
        have e0 := B1.cell 0; have e1 := B1.cell 1; have y0 := B1.frozen 1
        simp only [List.getElem?_toArray, List.getElem?_cons_zero, List.getElem?_cons_succ] at e0 e1
        have hgl := B2.lt; have hbl := B1.lt
        have BB1 := Lib.hid B1; have BB2 := Lib.hid B2; have HGR := Lib.hid hgr
        clear B1 B2 hgr hs0 hs1 hs2
        go_wp2_with (go_at_call 124; refine (lhas_any R h2 _ _ hR hh2 uX).mono ?_; rintro e w4 ⟨rfl, hb4⟩; rw [HP2.out]; have B1 := BB1.out.below hb4 hbl; have B2 := BB2.out.below hb4 hgl; obtain ⟨c0, c1, c2, c3, c4, c5, c6, c7, c8⟩ := bent_cells B2; have z6 := B2.frozen 8; have e0 := B1.cell 0; have e1 := B1.cell 1; have y0 := B1.frozen 1; simp only [List.getElem?_toArray, List.getElem?_cons_zero, List.getElem?_cons_succ] at e0 e1)
        all_goals
          have hgr4 := grownBy_below HGR.out (hb4.mono HGR.out.size) (Nat.le_trans HGR.out.size hb4.size)
          go_roundw
          case rel =>
            first
              | (have hv : H2 = p2 := by have hh := HH2.out; split at hh <;> omega
                 refine ⟨2, by omega, by go_num, fun h => by omega, fun h => by omega, fun _ => ?_⟩
                 rw [hv]
                 exact ⟨by simpa using (B1.set_ 1 (.int .u64 p2)).far (p := ⟨g, 8, none⟩) (by simp only; omega) (.int .u64 p2), by simpa using (B2.far (p := ⟨hb, 1, none⟩) (by simp only; omega) (.int .u64 p2)).set_ 8 (.int .u64 p2), grownBy_set (grownBy_set_new hgr4 hwb), hgb, hwb⟩)
              | (have hv : H2 = a1 := by have hh := HH2.out; split at hh <;> omega
                 refine ⟨2, by omega, by go_num, fun h => by omega, fun h => by omega, fun _ => ?_⟩
                 rw [hv]
                 exact ⟨by simpa using B1.far (p := ⟨g, 8, none⟩) (by simp only; omega) (.int .u64 a1), by simpa using B2.set_ 8 (.int .u64 a1), grownBy_set hgr4, hgb, hwb⟩)
          case measure => simp [intOf]
      · obtain rfl : k = 0 := by omega
        have hS := hs0 rfl
        obtain ⟨B1, B2, hgr, hgb, hwb⟩ := hS
        have i0 : ∀ w : World, (Instr.index 164 (.agg #[.pointer (some ⟨g, 5, none⟩), .pointer (some ⟨g, 7, none⟩)]) (.int .i64 0)).run Try.prog w = .ok (.pointer (some ⟨g, 5, none⟩)) w := fun _ => by kernel_rfl
        obtain ⟨c0, c1, c2, c3, c4, c5, c6, c7, c8⟩ := bent_cells B2
        have z6 := B2.frozen 6
        have e0 := B1.cell 0; have e1 := B1.cell 1; have y0 := B1.frozen 0
        simp only [List.getElem?_toArray, List.getElem?_cons_zero, List.getElem?_cons_succ] at e0 e1
        have hgl := B2.lt; have hbl := B1.lt
        have BB1 := Lib.hid B1; have BB2 := Lib.hid B2; have HGR := Lib.hid hgr
        clear B1 B2 hgr hs0 hs1 hs2
        go_wp2_with (go_at_call 124; refine (lhas_any F h1 _ _ hF hh1 uX).mono ?_; rintro e w4 ⟨rfl, hb4⟩; rw [HP1.out]; have B1 := BB1.out.below hb4 hbl; have B2 := BB2.out.below hb4 hgl; obtain ⟨c0, c1, c2, c3, c4, c5, c6, c7, c8⟩ := bent_cells B2; have z6 := B2.frozen 6; have e0 := B1.cell 0; have e1 := B1.cell 1; have y0 := B1.frozen 0; simp only [List.getElem?_toArray, List.getElem?_cons_zero, List.getElem?_cons_succ] at e0 e1)
        all_goals
          have hgr4 := grownBy_below HGR.out (hb4.mono HGR.out.size) (Nat.le_trans HGR.out.size hb4.size)
          go_roundw
          case rel =>
            first
              | (have hv : H1 = p1 := by have hh := HH1.out; split at hh <;> omega
                 refine ⟨1, by omega, by go_num, fun h => by omega, fun _ => ?_, fun h => by omega⟩
                 rw [hv]
                 exact ⟨by simpa using (B1.set_ 0 (.int .u64 p1)).far (p := ⟨g, 6, none⟩) (by simp only; omega) (.int .u64 p1), by simpa using (B2.far (p := ⟨hb, 0, none⟩) (by simp only; omega) (.int .u64 p1)).set_ 6 (.int .u64 p1), grownBy_set (grownBy_set_new hgr4 hwb), hgb, hwb⟩)
              | (have hv : H1 = Y := by have hh := HH1.out; split at hh <;> omega
                 refine ⟨1, by omega, by go_num, fun h => by omega, fun _ => ?_, fun h => by omega⟩
                 rw [hv]
                 exact ⟨by simpa using B1.far (p := ⟨g, 6, none⟩) (by simp only; omega) (.int .u64 Y), by simpa using B2.set_ 6 (.int .u64 Y), grownBy_set hgr4, hgb, hwb⟩)
          case measure => simp [intOf]

end Go.Proofs.Ytipiajnaechadaa
