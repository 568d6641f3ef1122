/-
  A tree of classes in memory: two maps, and the rows of those that are under each.
-/
import Derived.Test.YtclhhegfffccgaaGreatHMay
import Derived.Test.YtclhhegfffccgaaGreatHPlain
import Derived.Test.YtclhhegfffccgaaGreatLayH
namespace Go.Proofs.YtclhhegfffccgaaGreat
set_option linter.unusedVariables false
open Go.RowKit Go.Maps Go.Sort Go.Shelf

def clC (c : Cl) : Array Value := #[.int .i64 c.1.id, .int .i64 c.1.pa, .bool c.1.lf, .int .u64 c.1.r.1, .int .u64 c.1.r.2.1, .int .u64 c.1.r.2.2, .int .u64 c.1.s.1, .int .u64 c.1.s.2.1, .int .u64 c.1.s.2.2, .int .u64 c.1.u.1, .int .u64 c.1.u.2.1, .int .u64 c.1.u.2.2, .int .i64 c.1.pk, .int .i64 c.1.by_, .int .i64 c.2]
def clV (c : Cl) : Value := .agg (clC c)
def sp0 : Sp := ⟨0, 0, false, (0, 0, 0), (0, 0, 0), (0, 0, 0), 0, 0⟩
def cl0 : Cl := (sp0, 0)
def rowV (U : List (Int × Value)) (k : Int) : Value := (lookM U k).getD (.slice none 0 0)
/-- the blocks that a tree may change -/
def own (ma mu : Nat) (U : List (Int × Value)) (b : Nat) : Prop := b = ma ∨ b = mu ∨ ∃ k, (rowV U k).ownBlock = some b
/-- only some blocks, and new ones, are changed -/
structure Fr (S : Nat → Prop) (w w' : World) : Prop where
  os : w'.os = w.os
  tape : w'.tape = w.tape
  output : w'.output = w.output
  size : w.heap.size ≤ w'.heap.size
  block : ∀ b, b < w.heap.size → ¬ S b → w'.heap[b]? = w.heap[b]?
section
variable {S : Nat → Prop} {w w1 w' : World} {base : Nat}
theorem grown_noneH (h : Below w.heap.size w w') : w.grownBy w' none := ⟨h.os, h.tape, h.output, h.size, fun k hk _ => h.block k hk⟩
theorem Fr.refl (S : Nat → Prop) (w : World) : Fr S w w := ⟨rfl, rfl, rfl, Nat.le_refl _, fun _ _ _ => rfl⟩
theorem Fr.trans (h : Fr S w w1) (k : Fr S w1 w') : Fr S w w' := ⟨k.os.trans h.os, k.tape.trans h.tape, k.output.trans h.output, Nat.le_trans h.size k.size, fun b hb hn => (k.block b (Nat.lt_of_lt_of_le hb h.size) hn).trans (h.block b hb hn)⟩
theorem Fr.of_grown {r : Option Nat} (h : w.grownBy w' r) (hr : ∀ b, r = some b → S b) : Fr S w w' := ⟨h.os, h.tape, h.output, h.size, fun b hb hn => h.block b hb fun e => hn (hr b e.symm)⟩
theorem Fr.of_below (h : Below w.heap.size w w') : Fr S w w' := ⟨h.os, h.tape, h.output, h.size, fun b hb _ => h.block b hb⟩
theorem Fr.below (h : Fr S w w') (hS : ∀ b, S b → base ≤ b) (hb : base ≤ w.heap.size) : Below base w w' := ⟨h.os, h.tape, h.output, h.size, fun b hlt => h.block b (by omega) fun hs => by have := hS b hs; omega⟩
theorem Fr.weak {S' : Nat → Prop} (h : Fr S w w') (hS : ∀ b, b < w.heap.size → S b → S' b) : Fr S' w w' := ⟨h.os, h.tape, h.output, h.size, fun b hb hn => h.block b hb fun hs => hn (hS b hb hs)⟩
end

/-- a tree -/
structure TreeX (W : World) (base g ma mu : Nat) (U : List (Int × Value)) (M : Mp) : Prop where
  blk : Blk W g 58 #[.map (some ma), .map (some mu)]
  all : MapI Tryz.prog 3 W ma (mapV clV M)
  und : MapI Tryz.prog 3 W mu U
  rows : ∀ k, W.ownsRow base 3 1 (rowV U k) (kids M k).length ((kids M k).map (Value.int .i64))
  apart : ∀ k k' b, k ≠ k' → (rowV U k).ownBlock = some b → (rowV U k').ownBlock = some b → False
  gb : base ≤ g
  ab : base ≤ ma
  ub : base ≤ mu
  ne : ma ≠ mu
  keys : ∀ q ∈ U, 0 ≤ q.1 ∧ q.1 ≤ 65535
  inv : InvT M
section
variable {W W' : World} {base g ma mu : Nat} {U : List (Int × Value)} {M : Mp}
theorem owns_laterH {w w' : World} {base sz n : Nat} {e : TypeId} {v : Value} {xs : List Value} (h : w.ownsRow base e sz v n xs) (hb : Below w.heap.size w w') : w'.ownsRow base e sz v n xs :=
  h.kept (grown_noneH hb) (by cases hv : v.ownBlock <;> simp)
theorem owns_baseH {w : World} {b b' sz n : Nat} {e : TypeId} {v : Value} {xs : List Value} (h : w.ownsRow b e sz v n xs) (hb : b' ≤ b) : w.ownsRow b' e sz v n xs :=
  ⟨h.1, h.2.imp id fun ⟨g, cap, cur, e, h1, h2⟩ => ⟨g, cap, cur, e, Nat.le_trans hb h1, h2⟩⟩
theorem TreeX.later (h : TreeX W base g ma mu U M) (hb : Below W.heap.size W W') : TreeX W' base g ma mu U M :=
  ⟨h.blk.below hb h.blk.lt, h.all.kept (grown_noneH hb) (by simp), h.und.kept (grown_noneH hb) (by simp), fun k => owns_laterH (h.rows k) hb, h.apart, h.gb, h.ab, h.ub, h.ne, h.keys, h.inv⟩
theorem TreeX.owned (h : TreeX W base g ma mu U M) {b : Nat} (hb : own ma mu U b) : base ≤ b ∧ b < W.heap.size := by
  rcases hb with rfl | rfl | ⟨k, hk⟩
  · exact ⟨h.ab, h.all.lt⟩
  · exact ⟨h.ub, h.und.lt⟩
  · exact (h.rows k).lt b hk
theorem row_map {w : World} {base sz n m : Nat} {e K : TypeId} {v : Value} {xs : List Value} {N : List (Int × Value)} (h : w.ownsRow base e sz v n xs) (hm : MapI Tryz.prog K w m N) : v.ownBlock = none ∨ v.ownBlock ≠ some m := by
  rcases h.2 with ⟨rfl, _⟩ | ⟨g, c, cur, rfl, _, h2, _⟩
  · exact .inl rfl
  · right
    intro e
    have e : g = m := by simpa [Value.ownBlock] using e
    subst e
    obtain ⟨es, clock, hb, _⟩ := hm
    rw [hb] at h2
    cases h2
theorem blk_map {w : World} {g m : Nat} {t K : TypeId} {cs : Array Value} {N : List (Int × Value)} (h : Blk w g t cs) (hm : MapI Tryz.prog K w m N) : g ≠ m := by
  rintro rfl
  obtain ⟨es, clock, hb, _⟩ := hm
  have := hb.symm.trans h
  cases this
/-- the map of classes turns -/
theorem TreeX.all_turn (h : TreeX W base g ma mu U M) {M' : Mp} (hm : MapI Tryz.prog 3 W' ma (mapV clV M')) (hg : W.grownBy W' (some ma)) :
    Blk W' g 58 #[.map (some ma), .map (some mu)] ∧ MapI Tryz.prog 3 W' mu U ∧ ∀ k, W'.ownsRow base 3 1 (rowV U k) (kids M k).length ((kids M k).map (Value.int .i64)) :=
  ⟨h.blk.grown hg (by simpa using blk_map h.blk h.all), h.und.kept hg (by simpa using h.ne.symm), fun k => (h.rows k).kept hg (row_map (h.rows k) h.all)⟩
theorem keys_len : ∀ (n : Nat) {U : List (Int × Value)} (a : Int), Rising U → (∀ q ∈ U, a ≤ q.1 ∧ q.1 < a + n) → U.length ≤ n
  | n, [], a, _, _ => by simp
  | 0, q :: U, a, _, h => by have := h q (.head _); omega
  | n + 1, q :: U, a, hr, h => by
    have h1 := (List.pairwise_cons.1 hr).1
    have := keys_len n (a + 1) (List.pairwise_cons.1 hr).2 fun x hx => by
      have := h1 x hx
      have h2 := h q (.head _)
      have h3 := h x (.tail _ hx)
      omega
    rw [List.length_cons]
    omega
theorem TreeX.few (h : TreeX W base g ma mu U M) : U.length ≤ 65536 := keys_len 65536 0 (h.und.rising (int_keyed Tryz.underlying3)) fun q hq => by have := h.keys q hq; omega
end

theorem info_int : (Tryz.prog.info? 3).map (fun i => (i.zero, i.size, i.bytes)) = some (some (.int .i64 0), 1, 8) := by kernel_rfl
theorem htnone_no (g ma : Nat) (v : Value) (w : World) (h : Blk w g 58 #[.map (some ma), v]) :
    Calls Tryz.prog 26 #[.pointer (some ⟨g, 0, none⟩)] w fun e w' => e = .returned (.bool false) ∧ w = w' := by
  have c0 := h.cell 0
  simp only [List.getElem?_toArray, List.getElem?_cons_zero, List.getElem?_cons_succ] at c0
  have qT : ∀ (w : World) (r : Option Nat), (binOp .eql 55 (.map r) (.map none)).run Tryz.prog w = .ok (.bool r.isNone) w := fun w r => run_eql_map_nil w _ _ _ r Tryz.underlying55
  go_enter Tryz.func26, Tryz.ntmps26
  go_wp2
  go_ret
  exact ⟨rfl, rfl⟩
theorem rowV_nil (k : Int) : rowV [] k = .slice none 0 0 := rfl
/-- a new tree -/
def TnewW (w : World) (e : Ending) (w' : World) : Prop := ∃ g ma mu, e = .returned (.pointer (some ⟨g, 0, none⟩)) ∧ TreeX w' w.heap.size g ma mu [] [] ∧ Below w.heap.size w w'
theorem tnew_any (w : World) : Calls Tryz.prog 7 #[] w (TnewW w) := by
  have m1 := MapI.made (P := Tryz.prog) (K := 3) w
  have m2 := MapI.made (P := Tryz.prog) (K := 3) (w.alloc (.map #[] 0))
  have m3 := m1.kept (World.grownBy_alloc (w.alloc (.map #[] 0)) (.map #[] 0) none) (by simp)
  have HM := Lib.hid (And.intro m3 m2)
  clear m1 m2 m3
  have hmm := @run_makeMap Tryz.prog
  go_enter Tryz.func7, Tryz.ntmps7
  go_wp2
  go_ret
  have hs : (w.alloc (.map #[] 0)).heap.size = w.heap.size + 1 := Array.size_push _
  have hs2 : ((w.alloc (.map #[] 0)).alloc (.map #[] 0)).heap.size = w.heap.size + 2 := by rw [World.alloc]; exact (Array.size_push _).trans (by rw [hs])
  have hb := (((Below.refl w.heap.size w).alloc (Nat.le_refl _) (.map #[] 0)).alloc (by omega) (.map #[] 0))
  have hB := Blk.new ((w.alloc (.map #[] 0)).alloc (.map #[] 0)) 58 #[.map (some w.heap.size), .map (some (w.heap.size + 1))]
  have k1 := HM.out.1.kept (World.grownBy_alloc ((w.alloc (.map #[] 0)).alloc (.map #[] 0)) (.cells #[.map (some w.heap.size), .map (some (w.heap.size + 1))] 58) none) (by simp)
  have k2 := HM.out.2.kept (World.grownBy_alloc ((w.alloc (.map #[] 0)).alloc (.map #[] 0)) (.cells #[.map (some w.heap.size), .map (some (w.heap.size + 1))] 58) none) (by simp)
  rw [hs] at k2
  rw [hs2] at hB
  refine ⟨w.heap.size + 2, w.heap.size, w.heap.size + 1, rfl, ⟨hB, k1, k2, fun k => World.ownsRow_nil _ _ _ _, fun k k' b _ h => (by cases h), by omega, Nat.le_refl _, by omega, by omega, fun q hq => (by cases hq), inv_nil⟩, hb.alloc (by omega) _⟩
end Go.Proofs.YtclhhegfffccgaaGreat
