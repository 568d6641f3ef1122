/-
  A tree of classes: what Get, Len, Ids, Under tell.
-/
import Derived.Test.YtclhhegfffccgaaGreatHMem
namespace Go.Proofs.YtclhhegfffccgaaGreat
set_option linter.unusedVariables false
open Go.RowKit Go.Maps Go.Sort Go.Shelf
attribute [local go_sem ↓] Go.wp_at_zero Go.wp_at_succ
attribute [local go_sem] quietR quietAtR quietUponR midAt midUpon

theorem TreeX.look {W : World} {base g ma mu : Nat} {U : List (Int × Value)} {M : Mp} (h : TreeX W base g ma mu U M) {id : Int} (hid : (Lit.int .i64 id).wf = true) :
    (Instr.lookup 55 (.map (some ma)) (.int .i64 id) true).run Tryz.prog W = .ok (.tuple #[clV ((lookM M id).getD cl0), .bool (lookM M id).isSome]) W := by
  have hq := h.all.look_ok (k := id) (E := 60) (T := 55) (z := clV cl0) Tryz.underlying3 Tryz.underlying55 (by exact Tryz.zeroValue60 _) hid
  have hval : (lookM (mapV clV M) id).getD (clV cl0) = clV ((lookM M id).getD cl0) := by rw [look_map]; cases lookM M id <;> rfl
  have hsm : (lookM (mapV clV M) id).isSome = (lookM M id).isSome := by rw [look_map]; cases lookM M id <;> rfl
  rw [hval, hsm] at hq
  exact hq
theorem TreeX.look1 {W : World} {base g ma mu : Nat} {U : List (Int × Value)} {M : Mp} (h : TreeX W base g ma mu U M) {id : Int} (hid : (Lit.int .i64 id).wf = true) :
    (Instr.lookup 55 (.map (some ma)) (.int .i64 id) false).run Tryz.prog W = .ok (clV ((lookM M id).getD cl0)) W := by
  have hq := h.all.look (k := id) (E := 60) (T := 55) (z := clV cl0) Tryz.underlying3 Tryz.underlying55 (by exact Tryz.zeroValue60 _) hid
  have hval : (lookM (mapV clV M) id).getD (clV cl0) = clV ((lookM M id).getD cl0) := by rw [look_map]; cases lookM M id <;> rfl
  rw [hval] at hq
  exact hq
theorem TreeX.lookU {W : World} {base g ma mu : Nat} {U : List (Int × Value)} {M : Mp} (h : TreeX W base g ma mu U M) {id : Int} (hid : (Lit.int .i64 id).wf = true) :
    (Instr.lookup 56 (.map (some mu)) (.int .i64 id) false).run Tryz.prog W = .ok (rowV U id) W :=
  h.und.look (k := id) (E := 47) (T := 56) (z := .slice none 0 0) Tryz.underlying3 Tryz.underlying56 (by exact Tryz.zeroValue47 _) hid

/-- the spec that Get tells -/
def getS (M : Mp) (id : Int) : Sp := ((lookM M id).getD cl0).1
def GetW (w : World) (M : Mp) (id : Int) (e : Ending) (w' : World) : Prop := e = .returned (.tuple #[spV (getS M id), .bool (lookM M id).isSome]) ∧ Below w.heap.size w w'
set_option maxRecDepth 100000 in
set_option maxHeartbeats 4000000 in
theorem tget_any (id : Int) (base g ma mu : Nat) (U : List (Int × Value)) (M : Mp) (w : World) (hid : (Lit.int .i64 id).wf = true) (h : TreeX w base g ma mu U M) :
    Calls Tryz.prog 18 #[.pointer (some ⟨g, 0, none⟩), .int .i64 id] w (GetW w M id) := by
  have hb0 := (Below.refl w.heap.size w).alloc (Nat.le_refl _) (.cells (spC sp0) 36)
  have h0 := h.later hb0
  have hn := htnone_no g ma _ _ h0.blk
  have hlook := h0.look hid
  have y0 := h0.blk.cell 0
  have hB := Blk.new w 36 (spC sp0)
  unfold spC sp0 at *
  simp only [List.getElem?_toArray, List.getElem?_cons_zero, List.getElem?_cons_succ] at y0
  unfold GetW getS
  generalize (lookM M id).isSome = bs at hlook ⊢
  generalize (lookM M id).getD cl0 = c at hlook ⊢
  obtain ⟨⟨i1, i2, i3, ⟨F1, L1, R1⟩, ⟨F2, L2, R2⟩, ⟨F3, L3, R3⟩, i4, i5⟩, d⟩ := c
  unfold spV spC
  unfold clV clC at hlook
  dsimp only at hlook hn y0 ⊢
  have HB := Lib.hid hb0
  clear h h0 hb0 hB
  go_enter Tryz.func18, Tryz.ntmps18
  go_wp2_with (go_at_call 26; refine hn.mono ?_; rintro e w1 ⟨rfl, rfl⟩)
  have hE := (Blk.new w 36 #[.int .i64 i1, .int .i64 i2, .bool i3, .int .u64 F1, .int .u64 L1, .int .u64 R1, .int .u64 F2, .int .u64 L2, .int .u64 R2, .int .u64 F3, .int .u64 L3, .int .u64 R3, .int .i64 i4, .int .i64 i5]).alloc (.cells #[.int .i64 i1, .int .i64 i2, .bool i3, .int .u64 F1, .int .u64 L1, .int .u64 R1, .int .u64 F2, .int .u64 L2, .int .u64 R2, .int .u64 F3, .int .u64 L3, .int .u64 R3, .int .i64 i4, .int .i64 i5, .int .i64 d] 60)
  have q0 := hE.cell 0; have q1 := hE.cell 1; have q2 := hE.cell 2; have q3 := hE.cell 3; have q4 := hE.cell 4; have q5 := hE.cell 5; have q6 := hE.cell 6; have q7 := hE.cell 7; have q8 := hE.cell 8; have q9 := hE.cell 9; have q10 := hE.cell 10; have q11 := hE.cell 11; have q12 := hE.cell 12; have q13 := hE.cell 13
  simp only [List.getElem?_toArray, List.getElem?_cons_zero, List.getElem?_cons_succ] at q0 q1 q2 q3 q4 q5 q6 q7 q8 q9 q10 q11 q12 q13
  refine bodyPost_ret (v := .tuple #[.agg #[.int .i64 i1, .int .i64 i2, .bool i3, .int .u64 F1, .int .u64 L1, .int .u64 R1, .int .u64 F2, .int .u64 L2, .int .u64 R2, .int .u64 F3, .int .u64 L3, .int .u64 R3, .int .i64 i4, .int .i64 i5], .bool bs]) (by simp [results, Tryz.results18, go_sem, q0, q1, q2, q3, q4, q5, q6, q7, q8, q9, q10, q11, q12, q13]) rfl ⟨rfl, ((Below.refl w.heap.size w).alloc (Nat.le_refl _) _).alloc (by simp) _⟩
theorem tlen_any (base g ma mu : Nat) (U : List (Int × Value)) (M : Mp) (w : World) (h : TreeX w base g ma mu U M) :
    Calls Tryz.prog 23 #[.pointer (some ⟨g, 0, none⟩)] w fun e w' => e = .returned (.int .i64 M.length) ∧ Below w.heap.size w w' := by
  have hn := htnone_no g ma _ _ h.blk
  have y0 := h.blk.cell 0
  simp only [List.getElem?_toArray, List.getElem?_cons_zero, List.getElem?_cons_succ] at y0
  have hl := fun ty => h.all.len (T := 55) Tryz.underlying55 ty
  rw [mapV_length] at hl
  clear h
  go_enter Tryz.func23, Tryz.ntmps23
  go_wp2_with (first | (go_at_call 26; refine hn.mono ?_; rintro e w' ⟨rfl, rfl⟩) | (at_builtin; refine wpList_builtin_runH (hl _) ?_))
  go_ret
  exact ⟨rfl, Below.refl _ _⟩
end Go.Proofs.YtclhhegfffccgaaGreat
