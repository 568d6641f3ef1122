/-
  The document's run starts a copy; a run and the document's have the same (distributarylaw07.same).
-/
import Derived.Test.YtipiajnaechadaaRefRun
namespace Go.Proofs.Ytipiajnaechadaa
set_option linter.unusedVariables false
open Go.RowKit

section
variable {w w' : World} {r base : Nat} {F L R x : Int} {A : List (Int × Int)} {vx vy : Value}
theorem grown_trans {w1 w2 w3 : World} {row : Option Nat} (h1 : w1.grownBy w2 row) (h2 : w2.grownBy w3 row) : w1.grownBy w3 row :=
  ⟨h2.os.trans h1.os, h2.tape.trans h1.tape, h2.output.trans h1.output, Nat.le_trans h1.size h2.size, fun k hk hne => (h2.block k (Nat.lt_of_lt_of_le hk h1.size) hne).trans (h1.block k hk hne)⟩
theorem ref_end {w w1 w2 w3 : World} {c : Nat} {X Y : Int} {vx' vy' : Value} (h : RefAt w r base F L R x A) (hb1 : Below w.heap.size w w1) (hcl : w.heap.size ≤ c) (hg : RefGrown w1 w2 base c) (hN : Nums X (A ++ [(X, Y)]))
    (hx : RowU w2 base vx' ((A ++ [(X, Y)]).map (·.1))) (hy : RowU w2 base vy' ((A ++ [(X, Y)]).map (·.2))) (hd : vx'.ownBlock = none ∨ vx'.ownBlock ≠ vy'.ownBlock) (hw3 : w3 = (w2.setCell ⟨r, 3, none⟩ vx').setCell ⟨r, 4, none⟩ vy' ∨ w3 = (w2.setCell ⟨r, 4, none⟩ vy').setCell ⟨r, 3, none⟩ vx') :
    RefAt w3 r base F L R X (A ++ [(X, Y)]) ∧ RefGrown w w3 base r := by
  obtain ⟨vx, vy, hB, _⟩ := h.at_
  have hrc : r ≠ c := by have := hB.lt; omega
  have hB2 := (hB.below hb1 hB.lt).ref hg hrc (by decide)
  have hg0 : RefGrown w w2 base r := by
    have h1 : RefGrown w w1 base c := RefGrown.of_below hb1
    have h2 := h1.trans hg
    exact ⟨h2.os, h2.tape, h2.output, h2.size, fun k hk _ ht => h2.block k hk (by omega) ht⟩
  have key : ∀ (w3 : World), w2.grownBy w3 (some r) → Blk w3 r 70 #[.int .u64 F, .int .u64 L, .int .u64 R, vx', vy'] → RefAt w3 r base F L R X (A ++ [(X, Y)]) ∧ RefGrown w w3 base r := fun w3 hgr hB3 =>
    ⟨⟨⟨vx', vy', hB3, hx.kept hgr (.inr (Ne.symm (row_blk hx hB2 (by decide)))), hy.kept hgr (.inr (Ne.symm (row_blk hy hB2 (by decide)))), hd⟩, h.may, hN, h.low⟩, hg0.trans (RefGrown.of_set hgr)⟩
  rcases hw3 with rfl | rfl
  · exact key _ (grown_trans (World.grownBy_setCell w2 ⟨r, 3, none⟩ vx') (World.grownBy_setCell _ ⟨r, 4, none⟩ vy')) (by simpa using (hB2.set_ 3 vx').set_ 4 vy')
  · exact key _ (grown_trans (World.grownBy_setCell w2 ⟨r, 4, none⟩ vy') (World.grownBy_setCell _ ⟨r, 3, none⟩ vx')) (by simpa using (hB2.set_ 4 vy').set_ 3 vx')

set_option maxHeartbeats 2000000 in
theorem ref_start (h : RefAt w r base F L R x A) (hbs : base ≤ w.heap.size) (t y X Y : Int) (ht : U t) (hy : U y) (hX : X = max (min t 9223372036854775808) x) (hY : Y = min y 4611686018427387904) (hfew : A.length < 900000) :
    Calls Try.prog 11 #[.pointer (some ⟨r, 0, none⟩), .int .u64 t, .int .u64 y] w fun e w' => e = .returned (.tuple #[]) ∧ RefAt w' r base F L R X (A ++ [(X, Y)]) ∧ RefGrown w w' base r := by
  have hN := h.nums.start t y X Y ht hy hX hY hfew
  obtain ⟨vx, vy, hB, hx, hyy, hd⟩ := h.at_
  have hn := h.nums
  have HR := Lib.hid h; have HN := Lib.hid hN; have HB := Lib.hid hB; have HX := Lib.hid hx; have HY := Lib.hid hyy; have HD := Lib.hid hd; have HN0 := Lib.hid hn; have HXE := Lib.hid hX; have HYE := Lib.hid hY
  have hrl := hB.lt
  clear h hN hB hx hyy hd hn hX hY
  go_enter Try.func11, Try.ntmps11
  go_wp2_with (first
    | (go_at_call 45; refine (run_copies HX.out.slc HY.out.slc HB.out).mono ?_; rintro e w1 ⟨c, rfl, hcl, hcb, hb1⟩; have HCB := Lib.hid hcb; clear hcb)
    | (go_at_call 27; refine (copies_start HCB.out (HX.out.below hb1) (HY.out.below hb1) HD.out (Nat.le_trans hbs hb1.size) HN0.out t y X Y HXE.out HYE.out hfew).mono ?_; rintro e w2 ⟨rfl, vx', vy', hc2, hx2, hy2, hd2, hg2⟩; obtain ⟨ax2, nx2, cx2, rfl⟩ := hx2.slc; obtain ⟨ay2, ny2, cy2, rfl⟩ := hy2.slc; have HC2 := Lib.hid hc2; have HX2 := Lib.hid hx2; have HY2 := Lib.hid hy2; have HD2 := Lib.hid hd2; have HG2 := Lib.hid hg2; clear hc2 hx2 hy2 hd2 hg2))
  have hrc : r ≠ c := by omega
  have hcr : c ≠ r := by omega
  have hB2 := (HB.out.below hb1 HB.out.lt).ref HG2.out hrc (by decide)
  have r3 := hB2.cell 3; have r4 := hB2.cell 4; have z3 := hB2.frozen 3; have z4 := hB2.frozen 4
  have c3 := HC2.out.cell 3; have c4 := HC2.out.cell 4
  simp only [List.getElem?_toArray, List.getElem?_cons_zero, List.getElem?_cons_succ] at r3 r4 c3 c4
  clear hB2
  go_region
  all_goals
    go_wp2
    go_returns
    refine ⟨rfl, ?_⟩
    first
      | (have hh := ref_end HR.out hb1 hcl HG2.out HN.out HX2.out HY2.out HD2.out (.inl rfl); exact ⟨hh.1.below (by go_grown), hh.2.trans (RefGrown.of_below (by go_grown))⟩)
      | (have hh := ref_end HR.out hb1 hcl HG2.out HN.out HX2.out HY2.out HD2.out (.inr rfl); exact ⟨hh.1.below (by go_grown), hh.2.trans (RefGrown.of_below (by go_grown))⟩)

set_option maxHeartbeats 1000000 in
theorem ref_last (h : RefAt w r base F L R x A) :
    Calls Try.prog 32 #[.pointer (some ⟨r, 0, none⟩)] w fun e w' => e = .returned (.tuple #[.int .u64 x, .bool (!A.isEmpty)]) ∧ Below w.heap.size w w' := by
  obtain ⟨vx, vy, ⟨hsx, hsy⟩, hB, hc⟩ := h.copies
  obtain ⟨vx1, vy1, hB1, hx1, hy1, _⟩ := h.at_
  obtain ⟨ax, cx, hvx⟩ := hx1.shape
  rw [List.length_map] at hvx
  have hl := h.nums.last; have hf := h.nums.few
  have h3 : w.cell? ⟨r, 3, none⟩ = some (.slice ax A.length cx) := by rw [← hvx]; simpa using hB1.cell 3
  have hd : (A.isEmpty = true ∧ A.length = 0) ∨ (A.isEmpty = false ∧ (0 : Int) < (A.length : Int)) := by cases A <;> simp <;> omega
  have HB := Lib.hid hB; have HC := Lib.hid hc; have HL := Lib.hid hl
  clear h hB hc hB1 hx1 hy1 hvx hl
  have hrl := HB.out.lt
  have hne : ¬ r = w.heap.size := by omega
  rcases hd with ⟨hd, hn⟩ | ⟨hd, hn⟩
  · rw [hd]
    rw [hn] at h3
    clear hd
    go_enter Try.func32, Try.ntmps32
    go_wp2
    go_region_law (go_simp; first
      | (go_at_call 45; refine (run_copies hsx hsy (HB.out.below (by go_grown <;> exact below_drewN (Below.refl _ _) _) hrl)).mono ?_; rintro e w1 ⟨c, rfl, hcl, hcb, hb1⟩; have hbb := (show Below w.heap.size w _ by go_grown <;> exact below_drewN (Below.refl _ _) _).trans hb1; have d3 := (hbb.cell (p := ⟨r, 3, none⟩) hrl).trans h3; have HCB := Lib.hid hcb; clear hcb)
      | (go_at_call 54; refine (copies_last (HC.out _ c hbb HCB.out) hf).mono ?_; rintro e w2 ⟨rfl, n, rfl⟩; rw [HL.out]))
    all_goals
      go_wp2
      go_ret2
      exact ⟨rfl, by go_grown <;> exact below_drewN hbb _⟩
  · rw [hd]
    clear hd
    go_enter Try.func32, Try.ntmps32
    go_wp2
    go_region_law (go_simp; first
      | (go_at_call 45; refine (run_copies hsx hsy (HB.out.below (by go_grown <;> exact below_drewN (Below.refl _ _) _) hrl)).mono ?_; rintro e w1 ⟨c, rfl, hcl, hcb, hb1⟩; have hbb := (show Below w.heap.size w _ by go_grown <;> exact below_drewN (Below.refl _ _) _).trans hb1; have d3 := (hbb.cell (p := ⟨r, 3, none⟩) hrl).trans h3; have HCB := Lib.hid hcb; clear hcb)
      | (go_at_call 54; refine (copies_last (HC.out _ c hbb HCB.out) hf).mono ?_; rintro e w2 ⟨rfl, n, rfl⟩; rw [HL.out]))
    all_goals
      go_wp2
      go_ret2
      exact ⟨(show Ending.returned (.tuple #[.int .u64 x, .bool (decide (0 < A.length))]) = Ending.returned (.tuple #[.int .u64 x, .bool !false]) by rw [decide_eq_true (show 0 < A.length by omega)]; rfl), by go_grown <;> exact below_drewN hbb _⟩
end

end Go.Proofs.Ytipiajnaechadaa
