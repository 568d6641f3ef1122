/- Lemmas of the claim, merged: HMem, Sep, Sr, Rt, HRead, HIds, HDepth, HPath, RtPath, RtIds. No conditions beyond those that each states. -/
import Derived.Test.YtclhhegfffccgaaGreatHP1
import Derived.Test.YtclhhegfffccgaaGreatLayH
import Derived.Test.YtclhhegfffccgaaGreatHSpecA
import Derived.Deep.AppendLies
import Derived.Deep.Upon
import Derived.Deep.AppendSrc
import Derived.ArgAppend
import Derived.ScopeJumps
import Derived.WalkMore
import Derived.Maps.AppendAt
/-
  A tree of classes in memory: two maps, and the rows of those that are under each.
-/
namespace Go.Proofs.YtclhhegfffccgaaGreat
set_option linter.unusedVariables false
open Go.RowKit Go.Maps Go.Sort Go.Shelf

def clC (c : Cl) : Array Value := #[.int .i64 c.1.id, .int .i64 c.1.pa, .bool c.1.lf, .int .u64 c.1.r.1, .int .u64 c.1.r.2.1, .int .u64 c.1.r.2.2, .int .u64 c.1.s.1, .int .u64 c.1.s.2.1, .int .u64 c.1.s.2.2, .int .u64 c.1.u.1, .int .u64 c.1.u.2.1, .int .u64 c.1.u.2.2, .int .i64 c.1.pk, .int .i64 c.1.by_, .int .i64 c.2]
def clV (c : Cl) : Value := .agg (clC c)
def sp0 : Sp := ⟨0, 0, false, (0, 0, 0), (0, 0, 0), (0, 0, 0), 0, 0⟩
def cl0 : Cl := (sp0, 0)
def rowV (U : List (Int × Value)) (k : Int) : Value := (lookM U k).getD (.slice none 0 0)
/-- the blocks that a tree may change -/
def own (ma mu : Nat) (U : List (Int × Value)) (b : Nat) : Prop := b = ma ∨ b = mu ∨ ∃ k, (rowV U k).ownBlock = some b
/-- only some blocks, and new ones, are changed -/
structure Fr (S : Nat → Prop) (w w' : World) : Prop where
  os : w'.os = w.os
  tape : w'.tape = w.tape
  output : w'.output = w.output
  size : w.heap.size ≤ w'.heap.size
  block : ∀ b, b < w.heap.size → ¬ S b → w'.heap[b]? = w.heap[b]?
section
variable {S : Nat → Prop} {w w1 w' : World} {base : Nat}
theorem grown_noneH (h : Below w.heap.size w w') : w.grownBy w' none := ⟨h.os, h.tape, h.output, h.size, fun k hk _ => h.block k hk⟩
theorem Fr.refl (S : Nat → Prop) (w : World) : Fr S w w := ⟨rfl, rfl, rfl, Nat.le_refl _, fun _ _ _ => rfl⟩
theorem Fr.trans (h : Fr S w w1) (k : Fr S w1 w') : Fr S w w' := ⟨k.os.trans h.os, k.tape.trans h.tape, k.output.trans h.output, Nat.le_trans h.size k.size, fun b hb hn => (k.block b (Nat.lt_of_lt_of_le hb h.size) hn).trans (h.block b hb hn)⟩
theorem Fr.of_grown {r : Option Nat} (h : w.grownBy w' r) (hr : ∀ b, r = some b → S b) : Fr S w w' := ⟨h.os, h.tape, h.output, h.size, fun b hb hn => h.block b hb fun e => hn (hr b e.symm)⟩
theorem Fr.of_below (h : Below w.heap.size w w') : Fr S w w' := ⟨h.os, h.tape, h.output, h.size, fun b hb _ => h.block b hb⟩
theorem Fr.below (h : Fr S w w') (hS : ∀ b, S b → base ≤ b) (hb : base ≤ w.heap.size) : Below base w w' := ⟨h.os, h.tape, h.output, h.size, fun b hlt => h.block b (by omega) fun hs => by have := hS b hs; omega⟩
theorem Fr.weak {S' : Nat → Prop} (h : Fr S w w') (hS : ∀ b, b < w.heap.size → S b → S' b) : Fr S' w w' := ⟨h.os, h.tape, h.output, h.size, fun b hb hn => h.block b hb fun hs => hn (hS b hb hs)⟩
end

/-- a tree -/
structure TreeX (W : World) (base g ma mu : Nat) (U : List (Int × Value)) (M : Mp) : Prop where
  blk : Blk W g 58 #[.map (some ma), .map (some mu)]
  all : MapI Tryz.prog 3 W ma (mapV clV M)
  und : MapI Tryz.prog 3 W mu U
  rows : ∀ k, W.ownsRow base 3 1 (rowV U k) (kids M k).length ((kids M k).map (Value.int .i64))
  apart : ∀ k k' b, k ≠ k' → (rowV U k).ownBlock = some b → (rowV U k').ownBlock = some b → False
  gb : base ≤ g
  ab : base ≤ ma
  ub : base ≤ mu
  ne : ma ≠ mu
  keys : ∀ q ∈ U, 0 ≤ q.1 ∧ q.1 ≤ 65535
  inv : InvT M
section
variable {W W' : World} {base g ma mu : Nat} {U : List (Int × Value)} {M : Mp}
theorem owns_laterH {w w' : World} {base sz n : Nat} {e : TypeId} {v : Value} {xs : List Value} (h : w.ownsRow base e sz v n xs) (hb : Below w.heap.size w w') : w'.ownsRow base e sz v n xs :=
  h.kept (grown_noneH hb) (by cases hv : v.ownBlock <;> simp)
theorem owns_baseH {w : World} {b b' sz n : Nat} {e : TypeId} {v : Value} {xs : List Value} (h : w.ownsRow b e sz v n xs) (hb : b' ≤ b) : w.ownsRow b' e sz v n xs :=
  ⟨h.1, h.2.imp id fun ⟨g, cap, cur, e, h1, h2⟩ => ⟨g, cap, cur, e, Nat.le_trans hb h1, h2⟩⟩
theorem TreeX.later (h : TreeX W base g ma mu U M) (hb : Below W.heap.size W W') : TreeX W' base g ma mu U M :=
  ⟨h.blk.below hb h.blk.lt, h.all.kept (grown_noneH hb) (by simp), h.und.kept (grown_noneH hb) (by simp), fun k => owns_laterH (h.rows k) hb, h.apart, h.gb, h.ab, h.ub, h.ne, h.keys, h.inv⟩
theorem TreeX.owned (h : TreeX W base g ma mu U M) {b : Nat} (hb : own ma mu U b) : base ≤ b ∧ b < W.heap.size := by
  rcases hb with rfl | rfl | ⟨k, hk⟩
  · exact ⟨h.ab, h.all.lt⟩
  · exact ⟨h.ub, h.und.lt⟩
  · exact (h.rows k).lt b hk
theorem row_map {w : World} {base sz n m : Nat} {e K : TypeId} {v : Value} {xs : List Value} {N : List (Int × Value)} (h : w.ownsRow base e sz v n xs) (hm : MapI Tryz.prog K w m N) : v.ownBlock = none ∨ v.ownBlock ≠ some m := by
  rcases h.2 with ⟨rfl, _⟩ | ⟨g, c, cur, rfl, _, h2, _⟩
  · exact .inl rfl
  · right
    intro e
    have e : g = m := by simpa [Value.ownBlock] using e
    subst e
    obtain ⟨es, clock, hb, _⟩ := hm
    rw [hb] at h2
    cases h2
theorem blk_map {w : World} {g m : Nat} {t K : TypeId} {cs : Array Value} {N : List (Int × Value)} (h : Blk w g t cs) (hm : MapI Tryz.prog K w m N) : g ≠ m := by
  rintro rfl
  obtain ⟨es, clock, hb, _⟩ := hm
  have := hb.symm.trans h
  cases this
/-- the map of classes turns -/
theorem TreeX.all_turn (h : TreeX W base g ma mu U M) {M' : Mp} (hm : MapI Tryz.prog 3 W' ma (mapV clV M')) (hg : W.grownBy W' (some ma)) :
    Blk W' g 58 #[.map (some ma), .map (some mu)] ∧ MapI Tryz.prog 3 W' mu U ∧ ∀ k, W'.ownsRow base 3 1 (rowV U k) (kids M k).length ((kids M k).map (Value.int .i64)) :=
  ⟨h.blk.grown hg (by simpa using blk_map h.blk h.all), h.und.kept hg (by simpa using h.ne.symm), fun k => (h.rows k).kept hg (row_map (h.rows k) h.all)⟩
theorem keys_len : ∀ (n : Nat) {U : List (Int × Value)} (a : Int), Rising U → (∀ q ∈ U, a ≤ q.1 ∧ q.1 < a + n) → U.length ≤ n
  | n, [], a, _, _ => by simp
  | 0, q :: U, a, _, h => by have := h q (.head _); omega
  | n + 1, q :: U, a, hr, h => by
    have h1 := (List.pairwise_cons.1 hr).1
    have := keys_len n (a + 1) (List.pairwise_cons.1 hr).2 fun x hx => by
      have := h1 x hx
      have h2 := h q (.head _)
      have h3 := h x (.tail _ hx)
      omega
    rw [List.length_cons]
    omega
theorem TreeX.few (h : TreeX W base g ma mu U M) : U.length ≤ 65536 := keys_len 65536 0 (h.und.rising (int_keyed Tryz.underlying3)) fun q hq => by have := h.keys q hq; omega
end

theorem info_int : (Tryz.prog.info? 3).map (fun i => (i.zero, i.size, i.bytes)) = some (some (.int .i64 0), 1, 8) := by kernel_rfl
theorem htnone_no (g ma : Nat) (v : Value) (w : World) (h : Blk w g 58 #[.map (some ma), v]) :
    Calls Tryz.prog 26 #[.pointer (some ⟨g, 0, none⟩)] w fun e w' => e = .returned (.bool false) ∧ w = w' := by
  have c0 := h.cell 0
  simp only [List.getElem?_toArray, List.getElem?_cons_zero, List.getElem?_cons_succ] at c0
  have qT : ∀ (w : World) (r : Option Nat), (binOp .eql 55 (.map r) (.map none)).run Tryz.prog w = .ok (.bool r.isNone) w := fun w r => run_eql_map_nil w _ _ _ r Tryz.underlying55
  go_enter Tryz.func26, Tryz.ntmps26
  go_wp2
  go_ret
  exact ⟨rfl, rfl⟩
theorem rowV_nil (k : Int) : rowV [] k = .slice none 0 0 := rfl
/-- a new tree -/
def TnewW (w : World) (e : Ending) (w' : World) : Prop := ∃ g ma mu, e = .returned (.pointer (some ⟨g, 0, none⟩)) ∧ TreeX w' w.heap.size g ma mu [] [] ∧ Below w.heap.size w w'
theorem tnew_any (w : World) : Calls Tryz.prog 7 #[] w (TnewW w) := by
  have m1 := MapI.made (P := Tryz.prog) (K := 3) w
  have m2 := MapI.made (P := Tryz.prog) (K := 3) (w.alloc (.map #[] 0))
  have m3 := m1.kept (World.grownBy_alloc (w.alloc (.map #[] 0)) (.map #[] 0) none) (by simp)
  have HM := Lib.hid (And.intro m3 m2)
  clear m1 m2 m3
  have hmm := @run_makeMap Tryz.prog
  go_enter Tryz.func7, Tryz.ntmps7
  go_wp2
  go_ret
  have hs : (w.alloc (.map #[] 0)).heap.size = w.heap.size + 1 := Array.size_push _
  have hs2 : ((w.alloc (.map #[] 0)).alloc (.map #[] 0)).heap.size = w.heap.size + 2 := by rw [World.alloc]; exact (Array.size_push _).trans (by rw [hs])
  have hb := (((Below.refl w.heap.size w).alloc (Nat.le_refl _) (.map #[] 0)).alloc (by omega) (.map #[] 0))
  have hB := Blk.new ((w.alloc (.map #[] 0)).alloc (.map #[] 0)) 58 #[.map (some w.heap.size), .map (some (w.heap.size + 1))]
  have k1 := HM.out.1.kept (World.grownBy_alloc ((w.alloc (.map #[] 0)).alloc (.map #[] 0)) (.cells #[.map (some w.heap.size), .map (some (w.heap.size + 1))] 58) none) (by simp)
  have k2 := HM.out.2.kept (World.grownBy_alloc ((w.alloc (.map #[] 0)).alloc (.map #[] 0)) (.cells #[.map (some w.heap.size), .map (some (w.heap.size + 1))] 58) none) (by simp)
  rw [hs] at k2
  rw [hs2] at hB
  refine ⟨w.heap.size + 2, w.heap.size, w.heap.size + 1, rfl, ⟨hB, k1, k2, fun k => World.ownsRow_nil _ _ _ _, fun k k' b _ h => (by cases h), by omega, Nat.le_refl _, by omega, by omega, fun q hq => (by cases hq), inv_nil⟩, hb.alloc (by omega) _⟩
end Go.Proofs.YtclhhegfffccgaaGreat
/-
  Things in memory side by side: each has blocks of its own; what one act changes of one of them leaves the others.
-/
namespace Go.Proofs.YtclhhegfffccgaaGreat
set_option linter.unusedVariables false
open Go.RowKit Go.Maps

/-- a thing in memory, and the blocks that are its own -/
abbrev Ob := World → (Nat → Prop) → Prop
structure Good (P : Ob) : Prop where
  lt : ∀ {W : World} {S : Nat → Prop}, P W S → ∀ b, S b → b < W.heap.size
  kept : ∀ {W W' : World} {S : Nat → Prop}, P W S → W.heap.size ≤ W'.heap.size → (∀ b, S b → W'.heap[b]? = W.heap[b]?) → P W' S
def Star (P Q : Ob) : Ob := fun W S => ∃ A B : Nat → Prop, (∀ b, S b ↔ A b ∨ B b) ∧ (∀ b, A b → ¬ B b) ∧ P W A ∧ Q W B
def Emp : Ob := fun _ S => ∀ b, ¬ S b
theorem good_emp : Good Emp := ⟨fun h b hb => absurd hb (h b), fun h _ _ => h⟩
theorem Good.star {P Q : Ob} (hP : Good P) (hQ : Good Q) : Good (Star P Q) := by
  refine ⟨fun ⟨A, B, hS, _, hp, hq⟩ b hb => ?_, fun ⟨A, B, hS, hd, hp, hq⟩ hs hk => ⟨A, B, hS, hd, hP.kept hp hs fun b hb => hk b ((hS b).2 (.inl hb)), hQ.kept hq hs fun b hb => hk b ((hS b).2 (.inr hb))⟩⟩
  rcases (hS b).1 hb with h | h
  · exact hP.lt hp b h
  · exact hQ.lt hq b h
theorem Star.comm {P Q : Ob} {W : World} {S : Nat → Prop} (h : Star P Q W S) : Star Q P W S := by
  obtain ⟨A, B, hS, hd, hp, hq⟩ := h
  exact ⟨B, A, fun b => (hS b).trans Or.comm, fun b h1 h2 => hd b h2 h1, hq, hp⟩
theorem Star.swap {P Q R : Ob} {W : World} {S : Nat → Prop} (h : Star P (Star Q R) W S) : Star Q (Star P R) W S := by
  obtain ⟨A, B, hS, hd, hp, C, D, hB, hd2, hq, hr⟩ := h
  refine ⟨C, fun b => A b ∨ D b, fun b => ?_, fun b hc => ?_, hq, A, D, fun b => Iff.rfl, fun b ha hdd => hd b ha ((hB b).2 (.inr hdd)), hp, hr⟩
  · rw [hS b, hB b]
    constructor
    · rintro (h | h | h)
      · exact .inr (.inl h)
      · exact .inl h
      · exact .inr (.inr h)
    · rintro (h | h | h)
      · exact .inr (.inl h)
      · exact .inl h
      · exact .inr (.inr h)
  · rintro (h | h)
    · exact hd b h ((hB b).2 (.inl hc))
    · exact hd2 b hc h
/-- an act: only own blocks, and new ones, are changed -/
structure Went (W W' : World) (S S' : Nat → Prop) : Prop where
  fr : Fr S W W'
  own : ∀ b, S' b → S b ∨ W.heap.size ≤ b
theorem Star.step {P Q R : Ob} {W W' : World} {S A B : Nat → Prop} (hP : Good P) (hR : Good R) (hS : ∀ b, S b ↔ A b ∨ B b) (hd : ∀ b, A b → ¬ B b) (hp : P W A) (hr : R W B) {A' : Nat → Prop} (hq : Q W' A') (hw : Went W W' A A') : ∃ S', Star Q R W' S' ∧ Went W W' S S' := by
  refine ⟨fun b => A' b ∨ B b, ⟨A', B, fun b => Iff.rfl, fun b ha hb => ?_, hq, hR.kept hr hw.fr.size fun b hb => hw.fr.block b (hR.lt hr b hb) fun ha => hd b ha hb⟩, ⟨hw.fr.weak fun b _ h => (hS b).2 (.inl h), fun b hb => ?_⟩⟩
  · rcases hw.own b ha with h | h
    · exact hd b h hb
    · have := hR.lt hr b hb; omega
  · rcases hb with hb | hb
    · exact (hw.own b hb).imp (fun h => (hS b).2 (.inl h)) id
    · exact .inl ((hS b).2 (.inr hb))
/-- what a function has made, all of it behind a world -/
def St (w0 W : World) (P : Ob) : Prop := Below w0.heap.size w0 W ∧ ∃ S, P W S ∧ ∀ b, S b → w0.heap.size ≤ b
/-- an act on one thing -/
def Acts (φ : Ending → Prop) (P Q : Ob) (f : FuncId) (args : Array Value) (prog : Program) (W : World) : Prop := ∀ A, P W A → Calls prog f args W fun e W' => φ e ∧ ∃ A', Q W' A' ∧ Went W W' A A'
section
variable {w0 W W' : World} {P P1 P2 P3 Q R : Ob} {φ : Ending → Prop} {f : FuncId} {args : Array Value} {prog : Program}
theorem St.went {S S' : Nat → Prop} (h : Below w0.heap.size w0 W) (hS : ∀ b, S b → w0.heap.size ≤ b) (hw : Went W W' S S') (hq : Q W' S') : St w0 W' Q :=
  ⟨h.trans (hw.fr.below hS h.size), S', hq, fun b hb => (hw.own b hb).elim (hS b) fun h2 => Nat.le_trans h.size h2⟩
theorem St.later (hP : Good P) (h : St w0 W P) (hb : Below W.heap.size W W') : St w0 W' P := by
  obtain ⟨h0, S, hp, hS⟩ := h
  exact ⟨h0.trans (hb.mono h0.size), S, hP.kept hp hb.size fun b hb2 => hb.block b (hP.lt hp b hb2), hS⟩
theorem St.weak (h : St w0 W P) (hw : ∀ {S}, P W S → Q W S) : St w0 W Q := by
  obtain ⟨h0, S, hp, hS⟩ := h
  exact ⟨h0, S, hw hp, hS⟩
theorem St.swap (h : St w0 W (Star P (Star Q R))) : St w0 W (Star Q (Star P R)) := h.weak Star.swap
theorem St.swap2 (h : St w0 W (Star P1 (Star P (Star Q R)))) : St w0 W (Star P1 (Star Q (Star P R))) :=
  h.weak fun ⟨A, B, hS, hd, hp, hq⟩ => ⟨A, B, hS, hd, hp, Star.swap hq⟩
theorem St.rot (h : St w0 W (Star P1 (Star P (Star Q R)))) : St w0 W (Star P (Star Q (Star P1 R))) := h.swap.swap2
theorem St.first (h : St w0 W (Star P Q)) : ∃ S, P W S := by
  obtain ⟨_, _, ⟨A, B, _, _, hp, _⟩, _⟩ := h
  exact ⟨A, hp⟩
theorem St.rest (h : St w0 W (Star P Q)) : St w0 W Q := by
  obtain ⟨h0, S, ⟨A, B, hS, _, _, hq⟩, hlo⟩ := h
  exact ⟨h0, B, hq, fun b hb => hlo b ((hS b).2 (.inr hb))⟩
theorem St.second (h : St w0 W (Star P (Star Q R))) : ∃ S, Q W S := h.rest.first
/-- an act on the first thing -/
theorem St.act (hP : Good P) (hR : Good R) (h : St w0 W (Star P R)) (ha : Acts φ P Q f args prog W) : Calls prog f args W fun e W' => φ e ∧ St w0 W' (Star Q R) := by
  obtain ⟨h0, S, ⟨A, B, hS, hd, hp, hr⟩, hlo⟩ := h
  refine (ha A hp).mono fun e W' ⟨h1, A', hq, hw⟩ => ⟨h1, ?_⟩
  obtain ⟨S', hs, hw2⟩ := Star.step hP hR hS hd hp hr hq hw
  exact St.went h0 hlo hw2 hs
theorem St.act2 (hP1 : Good P1) (hP : Good P) (hR : Good R) (h : St w0 W (Star P1 (Star P R))) (ha : Acts φ P Q f args prog W) : Calls prog f args W fun e W' => φ e ∧ St w0 W' (Star P1 (Star Q R)) :=
  (h.swap.act hP (hP1.star hR) ha).mono fun e W' ⟨h1, h2⟩ => ⟨h1, h2.swap⟩
theorem St.act3 (hP1 : Good P1) (hP2 : Good P2) (hP : Good P) (hR : Good R) (h : St w0 W (Star P1 (Star P2 (Star P R)))) (ha : Acts φ P Q f args prog W) : Calls prog f args W fun e W' => φ e ∧ St w0 W' (Star P1 (Star P2 (Star Q R))) :=
  (h.swap2.act2 hP1 hP (hP2.star hR) ha).mono fun e W' ⟨h1, h2⟩ => ⟨h1, h2.swap2⟩
/-- a thing that was made beside the others -/
theorem St.made {S : Nat → Prop} (hP : Good P) (hQ : Good Q) (h : St w0 W P) (hb : Below W.heap.size W W') (hq : Q W' S) (hlo : ∀ b, S b → W.heap.size ≤ b) : St w0 W' (Star Q P) := by
  obtain ⟨h0, A, hp, hA⟩ := h
  refine ⟨h0.trans (hb.mono h0.size), fun b => S b ∨ A b, ⟨S, A, fun b => Iff.rfl, fun b h1 h2 => ?_, hq, hP.kept hp hb.size fun b hb2 => hb.block b (hP.lt hp b hb2)⟩, fun b hb2 => ?_⟩
  · have := hlo b h1; have := hP.lt hp b h2; omega
  · rcases hb2 with h1 | h1
    · exact Nat.le_trans h0.size (hlo b h1)
    · exact hA b h1
theorem St.emp (w : World) : St w w Emp := ⟨Below.refl _ _, fun _ => False, fun b h => h, fun b h => h.elim⟩
end
/-- a block -/
def BoxO (g : Nat) (t : TypeId) (cs : Array Value) : Ob := fun W S => Blk W g t cs ∧ ∀ b, S b ↔ b = g
theorem good_box (g : Nat) (t : TypeId) (cs : Array Value) : Good (BoxO g t cs) :=
  ⟨fun ⟨h, hS⟩ b hb => by rw [(hS b).1 hb]; exact h.lt, fun ⟨h, hS⟩ _ hk => ⟨(hk g ((hS g).2 rfl)).trans h, hS⟩⟩
/-- a tree of classes -/
def TO (g ma mu : Nat) (M : Mp) : Ob := fun W S => ∃ U, TreeX W 0 g ma mu U M ∧ ∀ b, S b ↔ b = g ∨ own ma mu U b
theorem owns_heapH {w w' : World} {base sz n : Nat} {e : TypeId} {v : Value} {xs : List Value} (h : w.ownsRow base e sz v n xs) (hk : ∀ b, v.ownBlock = some b → w'.heap[b]? = w.heap[b]?) : w'.ownsRow base e sz v n xs := by
  refine ⟨h.1, ?_⟩
  rcases h.2 with h2 | ⟨g, c, cur, rfl, h1, h2, h3⟩
  · exact .inl h2
  · exact .inr ⟨g, c, cur, rfl, h1, (hk g rfl).trans h2, h3⟩
theorem TreeX.heap {W W' : World} {base g ma mu : Nat} {U : List (Int × Value)} {M : Mp} (h : TreeX W base g ma mu U M) (hg : W'.heap[g]? = W.heap[g]?) (hk : ∀ b, own ma mu U b → W'.heap[b]? = W.heap[b]?) : TreeX W' base g ma mu U M :=
  ⟨hg.trans h.blk, h.all.heap (hk ma (.inl rfl)), h.und.heap (hk mu (.inr (.inl rfl))), fun k => owns_heapH (h.rows k) fun b hb => hk b (.inr (.inr ⟨k, hb⟩)), h.apart, h.gb, h.ab, h.ub, h.ne, h.keys, h.inv⟩
theorem good_tree (g ma mu : Nat) (M : Mp) : Good (TO g ma mu M) := by
  refine ⟨fun ⟨U, h, hS⟩ b hb => ?_, fun ⟨U, h, hS⟩ _ hk => ⟨U, h.heap (hk g ((hS g).2 (.inl rfl))) fun b hb => hk b ((hS b).2 (.inr hb)), hS⟩⟩
  rcases (hS b).1 hb with rfl | h2
  · exact h.blk.lt
  · exact (h.owned h2).2
end Go.Proofs.YtclhhegfffccgaaGreat
/-
  Rows of specs of the document's answer in memory: taken in part, laid one behind another.
-/
namespace Go.Proofs.YtclhhegfffccgaaGreat
set_option linter.unusedVariables false
open Go.RowKit Go.Maps

theorem info_sp : (Tryz.prog.info? 36).map (fun i => (i.zero, i.size, i.bytes)) = some (some (.agg #[.int .i64 0, .int .i64 0, .bool false, .int .u64 0, .int .u64 0, .int .u64 0, .int .u64 0, .int .u64 0, .int .u64 0, .int .u64 0, .int .u64 0, .int .u64 0, .int .i64 0, .int .i64 0]), 14, 112) := by kernel_rfl
def spL (s : Sp) : List Value := (spC s).toList
theorem spL_len (s : Sp) : (spL s).length = 14 := rfl
def srCells (L : List Sp) : List Value := L.flatMap spL
theorem srCells_cons (s : Sp) (L : List Sp) : srCells (s :: L) = spL s ++ srCells L := rfl
theorem srCells_append (A B : List Sp) : srCells (A ++ B) = srCells A ++ srCells B := by simp [srCells]
theorem srCells_length (L : List Sp) : (srCells L).length = L.length * 14 := by
  induction L with
  | nil => rfl
  | cons e L ih => rw [srCells_cons, List.length_append, spL_len, ih, List.length_cons]; omega
theorem srCells_at : ∀ (L : List Sp) (i : Nat) (e : Sp) (c : Nat), L[i]? = some e → c < 14 → (srCells L)[i * 14 + c]? = (spL e)[c]?
  | [], i, e, c, h, _ => by cases h
  | x :: L, 0, e, c, h, hc => by
    cases h
    rw [srCells_cons, List.getElem?_append_left (by rw [spL_len]; omega)]
    congr 1; omega
  | x :: L, i + 1, e, c, h, hc => by
    have := srCells_at L i e c h hc
    rw [srCells_cons, List.getElem?_append_right (by rw [spL_len]; omega), spL_len, ← this]
    congr 1; omega
theorem srCells_all {P : Nat → Value → Prop} {L : List Sp} (h : ∀ i e, L[i]? = some e → ∀ c u, (spL e)[c]? = some u → P (i * 14 + c) u) : ∀ j u, (srCells L)[j]? = some u → P j u := by
  intro j u hj
  have hlt : j < L.length * 14 := by
    have := (List.getElem?_eq_some_iff.1 hj).1
    rw [srCells_length] at this; exact this
  obtain ⟨e, he⟩ : ∃ e, L[j / 14]? = some e := ⟨_, List.getElem?_eq_getElem (by omega)⟩
  have hd : j = j / 14 * 14 + j % 14 := by omega
  have hm : j % 14 < 14 := by omega
  rw [hd] at hj ⊢
  rw [srCells_at L _ e _ he hm] at hj
  exact h _ e he _ u hj
theorem spL_one (s : Sp) : ∀ u ∈ spL s, u.oneCell' = true := by
  intro u hu
  simp only [spL, spC, List.mem_cons, List.not_mem_nil, or_false] at hu
  rcases hu with rfl | rfl | rfl | rfl | rfl | rfl | rfl | rfl | rfl | rfl | rfl | rfl | rfl | rfl <;> rfl
/-- specs that may be read -/
def SrAt (w : World) (v : Value) (L : List Sp) : Prop :=
  L.length ≤ 1000000 ∧ ∃ a cap, v = .slice a L.length cap ∧ (L = [] ∨ ∃ b off, a = some ⟨b, off, none⟩ ∧ b < w.heap.size ∧ L.length ≤ cap ∧ ∀ (i : Nat) e, L[i]? = some e → ∀ (c : Nat) u, (spL e)[c]? = some u → w.cell? ⟨b, off + (i * 14 + c), none⟩ = some u)
theorem SrAt.kept {w w' : World} {v : Value} {L : List Sp} (h : SrAt w v L) (hs : w.heap.size ≤ w'.heap.size) (hb : ∀ b, v.ownBlock = some b → L ≠ [] → w'.heap[b]? = w.heap[b]?) : SrAt w' v L := by
  obtain ⟨h2, a, cap, e, h3⟩ := h
  refine ⟨h2, a, cap, e, ?_⟩
  rcases h3 with h3 | ⟨b, off, e2, hbl, hcap, hc⟩
  · exact .inl h3
  · by_cases hn : L = []
    · exact .inl hn
    · subst e2; subst e
      refine .inr ⟨b, off, rfl, Nat.lt_of_lt_of_le hbl hs, hcap, fun i x hx c u hu => ?_⟩
      exact (World.cell?_of_block (w := w) (w' := w') (a := ⟨b, _, none⟩) (hb b rfl hn)).trans (hc i x hx c u hu)
theorem SrAt.lt {w : World} {v : Value} {L : List Sp} (h : SrAt w v L) (hn : L ≠ []) : ∀ b, v.ownBlock = some b → b < w.heap.size := by
  obtain ⟨h2, a, cap, e, h3⟩ := h
  intro b hb
  rcases h3 with h3 | ⟨b', off, e2, hbl, _⟩
  · exact absurd h3 hn
  · subst e; subst e2; cases hb; exact hbl
theorem SrAt.later {w w' : World} {v : Value} {L : List Sp} (h : SrAt w v L) (hb : Below w.heap.size w w') : SrAt w' v L := h.kept hb.size fun b hv hn => hb.block b (h.lt hn b hv)
theorem SrAt.of_owns {w : World} {base : Nat} {v : Value} {L : List Sp} (h : w.ownsRow base 36 14 v L.length (srCells L)) (hl : L.length ≤ 1000000) : SrAt w v L := by
  rcases h.2 with ⟨rfl, h0⟩ | ⟨g, cap, cur, rfl, h1, h2, h3, h4⟩
  · obtain rfl : L = [] := List.eq_nil_of_length_eq_zero h0
    exact ⟨hl, none, 0, rfl, .inl rfl⟩
  · refine ⟨hl, _, _, rfl, .inr ⟨g, 0, rfl, (Array.getElem?_eq_some_iff.1 h2).1, h3, fun i e he c u hu => ?_⟩⟩
    have hlt := (List.getElem?_eq_some_iff.1 he).1
    have hc := (List.getElem?_eq_some_iff.1 hu).1
    rw [spL_len] at hc
    rw [Nat.zero_add, h.cellAt (i * 14 + c) (by omega), srCells_at L i e c he hc]
    exact hu
theorem SrAt.cells {w : World} {a : Option Addr} {cap : Nat} {L : List Sp} (h : SrAt w (.slice a L.length cap) L) (hne : L ≠ []) : ∃ ad, a = some ad ∧ L.length ≤ cap ∧ ∀ j u, (srCells L)[j]? = some u → w.cell? (ad.add j) = some u := by
  obtain ⟨_, a', cap', e, h3⟩ := h
  cases e
  rcases h3 with h3 | ⟨b, off, rfl, hl, hcap, hc⟩
  · exact absurd h3 hne
  · refine ⟨_, rfl, hcap, srCells_all fun i e hi c u hu => ?_⟩
    simp only [Addr.add_lit]
    exact hc i e hi c u hu
theorem sr_cap {w : World} {a : Option Addr} {cap k : Nat} {L : List Sp} (h : SrAt w (.slice a L.length cap) L) (hk : k ≤ L.length) : k ≤ cap := by
  obtain ⟨_, a', cap', e, h3⟩ := h
  cases e
  rcases h3 with h3 | ⟨b, off, rfl, hl, hcap, hc⟩
  · subst h3; simp at hk; omega
  · omega
theorem sr_take {w : World} {a : Option Addr} {cap k : Nat} {L : List Sp} (h : SrAt w (.slice a L.length cap) L) (hk : k ≤ L.length) : SrAt w (.slice a k cap) (L.take k) := by
  obtain ⟨h2, a', cap', e, h3⟩ := h
  cases e
  refine ⟨by rw [List.length_take]; omega, _, _, by rw [List.length_take, Nat.min_eq_left hk], ?_⟩
  rcases h3 with h3 | ⟨b, off, rfl, hl, hcap, hc⟩
  · subst h3; exact .inl (by simp)
  · refine .inr ⟨b, off, rfl, hl, by rw [List.length_take]; omega, fun i c hi => ?_⟩
    rw [List.getElem?_take] at hi
    split at hi
    · exact hc i c hi
    · cases hi
theorem sr_drop {w : World} {a : Option Addr} {cap k : Nat} {L : List Sp} (h : SrAt w (.slice a L.length cap) L) (hk : k ≤ L.length) : SrAt w (.slice (if cap = k then a else Option.map (fun x => x.add (k * 14)) a) (L.length - k) (cap - k)) (L.drop k) := by
  obtain ⟨h2, a', cap', e, h3⟩ := h
  cases e
  refine ⟨by rw [List.length_drop]; omega, _, _, by rw [List.length_drop], ?_⟩
  rcases h3 with h3 | ⟨b, off, rfl, hl, hcap, hc⟩
  · subst h3; exact .inl (by simp)
  · by_cases hc0 : k = L.length
    · subst hc0; exact .inl (by simp)
    · refine .inr ⟨b, off + k * 14, ?_, hl, by rw [List.length_drop]; omega, fun i e hi c u hu => ?_⟩
      · rw [if_neg (by omega)]; simp [Addr.add_lit]
      · rw [List.getElem?_drop] at hi
        have := hc _ e hi c u hu
        rw [show off + k * 14 + (i * 14 + c) = off + ((k + i) * 14 + c) by omega]
        exact this
/-- all of a row, laid behind a row of the call's own -/
theorem sr_app (ty : TypeId) {A B : List Sp} {w : World} {v x : Value} {base : Nat} (h : SrAt w x B) (hown : w.ownsRow base 36 14 v A.length (srCells A)) (hb : base ≤ w.heap.size) (hl : A.length + B.length ≤ 3000000) :
    ∃ v' w', (Builtin.append_ #[27, 27] ty #[v, x]).run Tryz.prog w = .ok v' w' ∧ w'.ownsRow base 36 14 v' (A ++ B).length (srCells (A ++ B)) ∧ Below base w w' ∧ w.grownBy w' v.ownBlock := by
  obtain ⟨i0, hi0, hz0, hz1, hz2⟩ := info_parts info_sp
  obtain ⟨a, cap, rfl⟩ : ∃ a cap, x = .slice a B.length cap := by obtain ⟨_, a, cap, e, _⟩ := h; exact ⟨a, cap, e⟩
  by_cases hne : B = []
  · subst hne
    have hsrc : Src Tryz.prog i0.size 27 (.slice a ([] : List Sp).length cap) 0 [] w := by
      cases a with
      | none => exact Src.ofNil w Tryz.underlying27 cap
      | some ad => exact Src.ofSlice w Tryz.underlying27 ad 0 cap [] (by simp) (fun j u hj => by simp at hj) (fun u hu => by simp at hu)
    rcases hown.2 with ⟨rfl, h0⟩ | ⟨g, c, cur, rfl, h1, h2, h3, h4⟩
    · refine ⟨_, w, run_append_nothing w _ _ ty _ i0 Tryz.underlying27 hi0 _ 0 0 (Nat.le_refl _) _ hsrc, ?_, Below.refl _ _, ⟨rfl, rfl, rfl, Nat.le_refl _, fun _ _ _ => rfl⟩⟩
      simpa [h0] using hown
    · refine ⟨_, w, run_append_nothing w _ _ ty _ i0 Tryz.underlying27 hi0 _ A.length c h3 _ hsrc, by simpa using hown, Below.refl _ _, ⟨rfl, rfl, rfl, Nat.le_refl _, fun _ _ _ => rfl⟩⟩
  · obtain ⟨ad, rfl, hcap, hc⟩ := h.cells hne
    obtain ⟨v', w', hr, ho, hg, _⟩ := run_append_own (P := Tryz.prog) (w := w) base 27 ty 36 i0 _ 14 112 Tryz.underlying27 hi0 hz0 hz1 hz2 rfl (by decide) v A.length _ hown ad B.length cap (srCells B) (srCells_length B) hc (by
        intro u hu
        obtain ⟨e, _, he⟩ := List.mem_flatMap.1 hu
        exact spL_one e u he) (by unfold maxLen; omega) (by omega) hb
    exact ⟨v', w', hr, by simpa [srCells_append] using ho, (Below.refl base w).grown hg hb fun k hk => (hown.lt k hk).1, hg⟩
theorem sr_lit {w : World} {B : Nat} {e : Sp} (h : Blk w B 36 (spC e)) : SrAt w (.slice (some ⟨B, 0, none⟩) 1 1) [e] := by
  refine ⟨by simp, _, _, rfl, .inr ⟨B, 0, rfl, h.lt, by simp, fun i d hi c u hu => ?_⟩⟩
  cases i with
  | zero =>
    cases hi
    rw [show (0 : Nat) + (0 * 14 + c) = c by omega]
    have := h.cell c
    rw [this]
    simpa [spL] using hu
  | succ i => cases hi
theorem owns_laterS {w w' : World} {base sz n : Nat} {e : TypeId} {v : Value} {xs : List Value} (h : w.ownsRow base e sz v n xs) (hb : Below w.heap.size w w') : w'.ownsRow base e sz v n xs := by
  obtain ⟨h1, h2⟩ := h
  refine ⟨h1, ?_⟩
  rcases h2 with h2 | ⟨g, cap, cur, h3, h4, h5, h6⟩
  · exact .inl h2
  · exact .inr ⟨g, cap, cur, h3, h4, (hb.block g (Array.getElem?_eq_some_iff.1 h5).1).trans h5, h6⟩
theorem owns_sliceS {w : World} {base sz n : Nat} {e : TypeId} {v : Value} {xs : List Value} (h : w.ownsRow base e sz v n xs) : ∃ a cap, v = .slice a n cap := by
  rcases h.2 with ⟨rfl, rfl⟩ | ⟨g, c, cur, rfl, _⟩
  · exact ⟨none, 0, rfl⟩
  · exact ⟨_, _, rfl⟩
theorem owns_baseS {w : World} {b b' sz n : Nat} {e : TypeId} {v : Value} {xs : List Value} (h : w.ownsRow b e sz v n xs) (hb : b' ≤ b) : w.ownsRow b' e sz v n xs :=
  ⟨h.1, h.2.imp id fun ⟨g, cap, cur, e, h1, h2⟩ => ⟨g, cap, cur, e, Nat.le_trans hb h1, h2⟩⟩
theorem owns_heapS {w w' : World} {base sz n : Nat} {e : TypeId} {v : Value} {xs : List Value} (h : w.ownsRow base e sz v n xs) (hk : ∀ b, v.ownBlock = some b → w'.heap[b]? = w.heap[b]?) : w'.ownsRow base e sz v n xs := by
  refine ⟨h.1, ?_⟩
  rcases h.2 with h2 | ⟨g, c, cur, rfl, h1, h2, h3⟩
  · exact .inl h2
  · exact .inr ⟨g, c, cur, rfl, h1, (hk g rfl).trans h2, h3⟩
theorem owns_geS {w : World} {base sz n : Nat} {e : TypeId} {v : Value} {xs : List Value} (h : w.ownsRow base e sz v n xs) : ∀ b, v.ownBlock = some b → base ≤ b ∧ b < w.heap.size := fun b hb => by
  rcases h.2 with ⟨rfl, rfl⟩ | ⟨g, c, cur, rfl, h1, h2, _⟩
  · cases hb
  · cases hb; exact ⟨h1, (Array.getElem?_eq_some_iff.1 h2).1⟩
/-- a spec's cells -/
theorem sr_row {w : World} {b off i : Nat} {e : Sp} (hc : ∀ (c : Nat) u, (spL e)[c]? = some u → w.cell? ⟨b, off + (i * 14 + c), none⟩ = some u) : w.cell? ⟨b, off + i * 14, none⟩ = some (.int .i64 e.id) ∧ w.cell? ⟨b, off + i * 14 + 1, none⟩ = some (.int .i64 e.pa) ∧ w.cell? ⟨b, off + i * 14 + 2, none⟩ = some (.bool e.lf) ∧ w.cell? ⟨b, off + i * 14 + 3, none⟩ = some (.int .u64 e.r.1) ∧ w.cell? ⟨b, off + i * 14 + 4, none⟩ = some (.int .u64 e.r.2.1) ∧ w.cell? ⟨b, off + i * 14 + 5, none⟩ = some (.int .u64 e.r.2.2) ∧ w.cell? ⟨b, off + i * 14 + 6, none⟩ = some (.int .u64 e.s.1) ∧ w.cell? ⟨b, off + i * 14 + 7, none⟩ = some (.int .u64 e.s.2.1) ∧ w.cell? ⟨b, off + i * 14 + 8, none⟩ = some (.int .u64 e.s.2.2) ∧ w.cell? ⟨b, off + i * 14 + 9, none⟩ = some (.int .u64 e.u.1) ∧ w.cell? ⟨b, off + i * 14 + 10, none⟩ = some (.int .u64 e.u.2.1) ∧ w.cell? ⟨b, off + i * 14 + 11, none⟩ = some (.int .u64 e.u.2.2) ∧ w.cell? ⟨b, off + i * 14 + 12, none⟩ = some (.int .i64 e.pk) ∧ w.cell? ⟨b, off + i * 14 + 13, none⟩ = some (.int .i64 e.by_) := by
  have g : ∀ (c : Nat) u, (spL e)[c]? = some u → w.cell? ⟨b, off + i * 14 + c, none⟩ = some u := fun c u hu => by
    have := hc c u hu
    rwa [← Nat.add_assoc] at this
  exact ⟨g 0 _ rfl, g 1 _ rfl, g 2 _ rfl, g 3 _ rfl, g 4 _ rfl, g 5 _ rfl, g 6 _ rfl, g 7 _ rfl, g 8 _ rfl, g 9 _ rfl, g 10 _ rfl, g 11 _ rfl, g 12 _ rfl, g 13 _ rfl⟩
end Go.Proofs.YtclhhegfffccgaaGreat
/-
  The document's tree: how it lies in memory; where a class stands, its spec.
-/
namespace Go.Proofs.YtclhhegfffccgaaGreat
set_option linter.unusedVariables false
open Go.RowKit Go.Maps
attribute [local go_sem ↓] Go.wp_at_zero Go.wp_at_succ
attribute [local go_sem] quietR quietAtR quietUponR midAt midUpon

structure RtAt (w : World) (p : Nat) (v : Value) (L : List Sp) : Prop where
  blk : Blk w p 29 #[v]
  sr : SrAt w v L
  own : w.ownsRow 0 36 14 v L.length (srCells L)
theorem RtAt.later {w w' : World} {p : Nat} {v : Value} {L : List Sp} (h : RtAt w p v L) (hb : Below w.heap.size w w') : RtAt w' p v L := ⟨h.blk.below hb h.blk.lt, h.sr.later hb, owns_laterS h.own hb⟩
theorem RtAt.lt {w : World} {p : Nat} {v : Value} {L : List Sp} (h : RtAt w p v L) : ∀ b, v.ownBlock = some b → b < w.heap.size := fun b hb => (h.own.lt b hb).2
def getL (L : List Sp) (id : Int) : Option Sp := L.find? fun e => decide (e.id = id)
/-- where a class stands -/
def PosS (L : List Sp) (id r : Int) : Prop := (∃ (i : Nat) (e : Sp), L[i]? = some e ∧ e.id = id ∧ r = i ∧ getL L id = some e) ∨ ((∀ e ∈ L, e.id ≠ id) ∧ r = -1 ∧ getL L id = none)
theorem getL_at {L : List Sp} {id : Int} {i : Nat} {e : Sp} (he : L[i]? = some e) (hid : e.id = id) (hno : ∀ (j : Nat) x, j < i → L[j]? = some x → x.id ≠ id) : getL L id = some e := by
  induction L generalizing i with
  | nil => cases he
  | cons x L ih =>
    cases i with
    | zero =>
      cases he
      unfold getL
      rw [List.find?_cons_of_pos (by simpa using hid)]
    | succ i =>
      have h0 := hno 0 x (by omega) rfl
      unfold getL
      rw [List.find?_cons_of_neg (by simpa using h0)]
      exact ih he fun j y hj hy => hno (j + 1) y (by omega) hy
theorem getL_no {L : List Sp} {id : Int} (h : ∀ e ∈ L, e.id ≠ id) : getL L id = none := by
  unfold getL
  rw [List.find?_eq_none]
  intro e he
  simpa using h e he
set_option maxRecDepth 100000 in
set_option maxHeartbeats 4000000 in
theorem rtat_any (p : Nat) (v : Value) (L : List Sp) (id : Int) (w : World) (h : RtAt w p v L) :
    Calls Tryz.prog 32 #[.pointer (some ⟨p, 0, none⟩), .int .i64 id] w fun e w' => ∃ r, e = .returned (.int .i64 r) ∧ PosS L id r ∧ w' = w := by
  obtain ⟨hl, a, cap, rfl, h3⟩ := h.sr
  have c0 := h.blk.cell 0
  simp only [List.getElem?_toArray, List.getElem?_cons_zero, List.getElem?_cons_succ] at c0
  have H3 := Lib.hid h3
  clear h h3
  go_enter Tryz.func32, Tryz.ntmps32
  go_wp2_with fail
  go_loopw [5] (fun v5 wr => ∃ i : Nat, v5 = .int .i64 i ∧ i ≤ L.length ∧ wr = w ∧ ∀ (j : Nat) x, j < i → L[j]? = some x → x.id ≠ id) (fun v5 _ => (L.length - Go.RowKit.intOf v5).toNat)
  case atStart => exact ⟨0, rfl, Nat.zero_le _, rfl, fun j x hj => by omega⟩
  case round =>
    obtain ⟨i, rfl, hi, hwr, hno⟩ := hrel
    rw [hwr]
    clear hwr
    have HNO := Lib.hid hno
    clear hno
    by_cases hlt : i < L.length
    · obtain ⟨e, he⟩ : ∃ e, L[i]? = some e := ⟨_, List.getElem?_eq_getElem hlt⟩
      obtain ⟨b, off, rfl, hbl, hcap, hc⟩ := H3.out.resolve_left (fun h => by rw [h] at hlt; cases hlt)
      have k0 := (sr_row (hc i e he)).1
      by_cases hid : e.id = id
      · have heq : (e.id == id) = true := by simpa using hid
        have HG := Lib.hid (show PosS L id i from .inl ⟨i, e, he, hid, rfl, getL_at he hid HNO.out⟩)
        clear hid he hc
        go_wp2_with fail
        go_ret
        exact ⟨_, rfl, HG.out, rfl⟩
      · have heq : (e.id == id) = false := by simpa using hid
        have HID := Lib.hid (And.intro hid he)
        clear hid hc
        go_wp2_with fail
        go_roundw
        case measure => (simp [Go.RowKit.intOf]; try omega)
        case rel => exact ⟨i + 1, by go_num, by omega, (by first | rfl | trivial), fun j x hj hx => by
          by_cases hji : j = i
          · subst hji
            rw [HID.out.2] at hx
            cases hx
            exact HID.out.1
          · exact HNO.out j x (by omega) hx⟩
    · have hn : ∀ e ∈ L, e.id ≠ id := fun e he => by
        obtain ⟨j, hj, hej⟩ := List.mem_iff_getElem.1 he
        exact HNO.out j e (by omega) (by rw [List.getElem?_eq_getElem hj, hej])
      have HG := Lib.hid (show PosS L id (-1) from .inr ⟨hn, rfl, getL_no hn⟩)
      clear hn
      go_wp2_with fail
      go_ret
      exact ⟨_, rfl, HG.out, rfl⟩
set_option maxRecDepth 100000 in
set_option maxHeartbeats 4000000 in
theorem rtget_any (p : Nat) (v : Value) (L : List Sp) (id : Int) (w : World) (h : RtAt w p v L) :
    Calls Tryz.prog 33 #[.pointer (some ⟨p, 0, none⟩), .int .i64 id] w fun e w' => e = .returned (.tuple #[spV ((getL L id).getD sp0), .bool (getL L id).isSome]) ∧ Below w.heap.size w w' := by
  have hb0 := (Below.refl w.heap.size w).alloc (Nat.le_refl _) (.cells (spC sp0) 36)
  have hat := rtat_any p v L id _ (h.later hb0)
  have H := Lib.hid (h.later hb0)
  unfold spC sp0 at *
  obtain ⟨hl, a, cap, rfl, h3⟩ := h.sr
  have c0 := H.out.blk.cell 0
  simp only [List.getElem?_toArray, List.getElem?_cons_zero, List.getElem?_cons_succ] at c0
  clear h hb0 h3
  go_enter Tryz.func33, Tryz.ntmps33
  go_wp2_with fail
  refine hat.mono ?_
  clear hat
  rintro e w1 ⟨r, rfl, hpos, rfl⟩
  rcases hpos with ⟨i, e, he, hid, rfl, hg⟩ | ⟨_, rfl, hg⟩
  · obtain ⟨_, a', cap', e1, h3⟩ := H.out.sr
    cases e1
    have hlt := (List.getElem?_eq_some_iff.1 he).1
    obtain ⟨b, off, rfl, hbl, hcap, hc⟩ := h3.resolve_left (fun h => by rw [h] at he; cases he)
    obtain ⟨k0, k1, k2, k3, k4, k5, k6, k7, k8, k9, k10, k11, k12, k13⟩ := sr_row (hc i e he)
    have HG := Lib.hid hg
    obtain ⟨i1, i2, i3, ⟨F1, L1, R1⟩, ⟨F2, L2, R2⟩, ⟨F3, L3, R3⟩, i4, i5⟩ := e
    dsimp only at k0 k1 k2 k3 k4 k5 k6 k7 k8 k9 k10 k11 k12 k13
    clear hc h3 he hid hg H
    go_wp2_with fail
    have hE := Blk.new w 36 #[.int .i64 i1, .int .i64 i2, .bool i3, .int .u64 F1, .int .u64 L1, .int .u64 R1, .int .u64 F2, .int .u64 L2, .int .u64 R2, .int .u64 F3, .int .u64 L3, .int .u64 R3, .int .i64 i4, .int .i64 i5]
    have q0 := hE.cell 0; have q1 := hE.cell 1; have q2 := hE.cell 2; have q3 := hE.cell 3; have q4 := hE.cell 4; have q5 := hE.cell 5; have q6 := hE.cell 6; have q7 := hE.cell 7; have q8 := hE.cell 8; have q9 := hE.cell 9; have q10 := hE.cell 10; have q11 := hE.cell 11; have q12 := hE.cell 12; have q13 := hE.cell 13
    simp only [List.getElem?_toArray, List.getElem?_cons_zero, List.getElem?_cons_succ] at q0 q1 q2 q3 q4 q5 q6 q7 q8 q9 q10 q11 q12 q13
    refine bodyPost_ret (v := .tuple #[.agg #[.int .i64 i1, .int .i64 i2, .bool i3, .int .u64 F1, .int .u64 L1, .int .u64 R1, .int .u64 F2, .int .u64 L2, .int .u64 R2, .int .u64 F3, .int .u64 L3, .int .u64 R3, .int .i64 i4, .int .i64 i5], .bool true]) (by simp [results, Tryz.results33, go_sem, q0, q1, q2, q3, q4, q5, q6, q7, q8, q9, q10, q11, q12, q13]) rfl ⟨?_, (Below.refl w.heap.size w).alloc (Nat.le_refl _) _⟩
    rw [HG.out]; rfl
  · have HG := Lib.hid hg
    clear H hg
    go_wp2_with fail
    have hE := Blk.new w 36 #[.int .i64 0, .int .i64 0, .bool false, .int .u64 0, .int .u64 0, .int .u64 0, .int .u64 0, .int .u64 0, .int .u64 0, .int .u64 0, .int .u64 0, .int .u64 0, .int .i64 0, .int .i64 0]
    have q0 := hE.cell 0; have q1 := hE.cell 1; have q2 := hE.cell 2; have q3 := hE.cell 3; have q4 := hE.cell 4; have q5 := hE.cell 5; have q6 := hE.cell 6; have q7 := hE.cell 7; have q8 := hE.cell 8; have q9 := hE.cell 9; have q10 := hE.cell 10; have q11 := hE.cell 11; have q12 := hE.cell 12; have q13 := hE.cell 13
    simp only [List.getElem?_toArray, List.getElem?_cons_zero, List.getElem?_cons_succ] at q0 q1 q2 q3 q4 q5 q6 q7 q8 q9 q10 q11 q12 q13
    refine bodyPost_ret (v := .tuple #[.agg #[.int .i64 0, .int .i64 0, .bool false, .int .u64 0, .int .u64 0, .int .u64 0, .int .u64 0, .int .u64 0, .int .u64 0, .int .u64 0, .int .u64 0, .int .u64 0, .int .i64 0, .int .i64 0], .bool false]) (by simp [results, Tryz.results33, go_sem, q0, q1, q2, q3, q4, q5, q6, q7, q8, q9, q10, q11, q12, q13]) rfl ⟨?_, (Below.refl w.heap.size w).alloc (Nat.le_refl _) _⟩
    rw [HG.out]; rfl
end Go.Proofs.YtclhhegfffccgaaGreat
/-
  A tree of classes: what Get, Len, Ids, Under tell.
-/
namespace Go.Proofs.YtclhhegfffccgaaGreat
set_option linter.unusedVariables false
open Go.RowKit Go.Maps Go.Sort Go.Shelf
attribute [local go_sem ↓] Go.wp_at_zero Go.wp_at_succ
attribute [local go_sem] quietR quietAtR quietUponR midAt midUpon

theorem TreeX.look {W : World} {base g ma mu : Nat} {U : List (Int × Value)} {M : Mp} (h : TreeX W base g ma mu U M) {id : Int} (hid : (Lit.int .i64 id).wf = true) :
    (Instr.lookup 55 (.map (some ma)) (.int .i64 id) true).run Tryz.prog W = .ok (.tuple #[clV ((lookM M id).getD cl0), .bool (lookM M id).isSome]) W := by
  have hq := h.all.look_ok (k := id) (E := 60) (T := 55) (z := clV cl0) Tryz.underlying3 Tryz.underlying55 (by exact Tryz.zeroValue60 _) hid
  have hval : (lookM (mapV clV M) id).getD (clV cl0) = clV ((lookM M id).getD cl0) := by rw [look_map]; cases lookM M id <;> rfl
  have hsm : (lookM (mapV clV M) id).isSome = (lookM M id).isSome := by rw [look_map]; cases lookM M id <;> rfl
  rw [hval, hsm] at hq
  exact hq
theorem TreeX.look1 {W : World} {base g ma mu : Nat} {U : List (Int × Value)} {M : Mp} (h : TreeX W base g ma mu U M) {id : Int} (hid : (Lit.int .i64 id).wf = true) :
    (Instr.lookup 55 (.map (some ma)) (.int .i64 id) false).run Tryz.prog W = .ok (clV ((lookM M id).getD cl0)) W := by
  have hq := h.all.look (k := id) (E := 60) (T := 55) (z := clV cl0) Tryz.underlying3 Tryz.underlying55 (by exact Tryz.zeroValue60 _) hid
  have hval : (lookM (mapV clV M) id).getD (clV cl0) = clV ((lookM M id).getD cl0) := by rw [look_map]; cases lookM M id <;> rfl
  rw [hval] at hq
  exact hq
theorem TreeX.lookU {W : World} {base g ma mu : Nat} {U : List (Int × Value)} {M : Mp} (h : TreeX W base g ma mu U M) {id : Int} (hid : (Lit.int .i64 id).wf = true) :
    (Instr.lookup 56 (.map (some mu)) (.int .i64 id) false).run Tryz.prog W = .ok (rowV U id) W :=
  h.und.look (k := id) (E := 47) (T := 56) (z := .slice none 0 0) Tryz.underlying3 Tryz.underlying56 (by exact Tryz.zeroValue47 _) hid

/-- the spec that Get tells -/
def getS (M : Mp) (id : Int) : Sp := ((lookM M id).getD cl0).1
def GetW (w : World) (M : Mp) (id : Int) (e : Ending) (w' : World) : Prop := e = .returned (.tuple #[spV (getS M id), .bool (lookM M id).isSome]) ∧ Below w.heap.size w w'
set_option maxRecDepth 100000 in
set_option maxHeartbeats 4000000 in
theorem tget_any (id : Int) (base g ma mu : Nat) (U : List (Int × Value)) (M : Mp) (w : World) (hid : (Lit.int .i64 id).wf = true) (h : TreeX w base g ma mu U M) :
    Calls Tryz.prog 18 #[.pointer (some ⟨g, 0, none⟩), .int .i64 id] w (GetW w M id) := by
  have hb0 := (Below.refl w.heap.size w).alloc (Nat.le_refl _) (.cells (spC sp0) 36)
  have h0 := h.later hb0
  have hn := htnone_no g ma _ _ h0.blk
  have hlook := h0.look hid
  have y0 := h0.blk.cell 0
  have hB := Blk.new w 36 (spC sp0)
  unfold spC sp0 at *
  simp only [List.getElem?_toArray, List.getElem?_cons_zero, List.getElem?_cons_succ] at y0
  unfold GetW getS
  generalize (lookM M id).isSome = bs at hlook ⊢
  generalize (lookM M id).getD cl0 = c at hlook ⊢
  obtain ⟨⟨i1, i2, i3, ⟨F1, L1, R1⟩, ⟨F2, L2, R2⟩, ⟨F3, L3, R3⟩, i4, i5⟩, d⟩ := c
  unfold spV spC
  unfold clV clC at hlook
  dsimp only at hlook hn y0 ⊢
  have HB := Lib.hid hb0
  clear h h0 hb0 hB
  go_enter Tryz.func18, Tryz.ntmps18
  go_wp2_with (go_at_call 26; refine hn.mono ?_; rintro e w1 ⟨rfl, rfl⟩)
  have hE := (Blk.new w 36 #[.int .i64 i1, .int .i64 i2, .bool i3, .int .u64 F1, .int .u64 L1, .int .u64 R1, .int .u64 F2, .int .u64 L2, .int .u64 R2, .int .u64 F3, .int .u64 L3, .int .u64 R3, .int .i64 i4, .int .i64 i5]).alloc (.cells #[.int .i64 i1, .int .i64 i2, .bool i3, .int .u64 F1, .int .u64 L1, .int .u64 R1, .int .u64 F2, .int .u64 L2, .int .u64 R2, .int .u64 F3, .int .u64 L3, .int .u64 R3, .int .i64 i4, .int .i64 i5, .int .i64 d] 60)
  have q0 := hE.cell 0; have q1 := hE.cell 1; have q2 := hE.cell 2; have q3 := hE.cell 3; have q4 := hE.cell 4; have q5 := hE.cell 5; have q6 := hE.cell 6; have q7 := hE.cell 7; have q8 := hE.cell 8; have q9 := hE.cell 9; have q10 := hE.cell 10; have q11 := hE.cell 11; have q12 := hE.cell 12; have q13 := hE.cell 13
  simp only [List.getElem?_toArray, List.getElem?_cons_zero, List.getElem?_cons_succ] at q0 q1 q2 q3 q4 q5 q6 q7 q8 q9 q10 q11 q12 q13
  refine bodyPost_ret (v := .tuple #[.agg #[.int .i64 i1, .int .i64 i2, .bool i3, .int .u64 F1, .int .u64 L1, .int .u64 R1, .int .u64 F2, .int .u64 L2, .int .u64 R2, .int .u64 F3, .int .u64 L3, .int .u64 R3, .int .i64 i4, .int .i64 i5], .bool bs]) (by simp [results, Tryz.results18, go_sem, q0, q1, q2, q3, q4, q5, q6, q7, q8, q9, q10, q11, q12, q13]) rfl ⟨rfl, ((Below.refl w.heap.size w).alloc (Nat.le_refl _) _).alloc (by simp) _⟩
theorem tlen_any (base g ma mu : Nat) (U : List (Int × Value)) (M : Mp) (w : World) (h : TreeX w base g ma mu U M) :
    Calls Tryz.prog 23 #[.pointer (some ⟨g, 0, none⟩)] w fun e w' => e = .returned (.int .i64 M.length) ∧ Below w.heap.size w w' := by
  have hn := htnone_no g ma _ _ h.blk
  have y0 := h.blk.cell 0
  simp only [List.getElem?_toArray, List.getElem?_cons_zero, List.getElem?_cons_succ] at y0
  have hl := fun ty => h.all.len (T := 55) Tryz.underlying55 ty
  rw [mapV_length] at hl
  clear h
  go_enter Tryz.func23, Tryz.ntmps23
  go_wp2_with (first | (go_at_call 26; refine hn.mono ?_; rintro e w' ⟨rfl, rfl⟩) | (at_builtin; refine wpList_builtin_runH (hl _) ?_))
  go_ret
  exact ⟨rfl, Below.refl _ _⟩
end Go.Proofs.YtclhhegfffccgaaGreat
/-
  A tree of classes: Ids, Under.
-/
namespace Go.Proofs.YtclhhegfffccgaaGreat
set_option linter.unusedVariables false
open Go.RowKit Go.Maps Go.Sort Go.Shelf

theorem sortsI (m : Nat) : AnyZI.SortsIn Tryz.prog sortedI_ren Fence.wide m :=
  ⟨fun blk off cap ss W hH hblk hsz => callsIn_wide.2 (AnyM.slices_Sort_int sortI blk off cap ss W hH hblk hsz),
   fun p cap W => callsIn_wide.2 (AnyM.slices_Sort_int_none sortI p cap W)⟩
/-- numbers handed back in memory of the call's own -/
def IdsW (w : World) (l : List Int) (e : Ending) (w' : World) : Prop := ∃ v, e = .returned v ∧ w'.ownsRow w.heap.size 3 1 v l.length (l.map (Value.int .i64)) ∧ Below w.heap.size w w'
theorem sorted_postH (M : Mp) (w : World) (m : Nat) (h : MapI Tryz.prog 3 w m (mapV clV M)) (e : Ending) (W : World) (hh : ∃ (v : Value) (ss : List Int), e = .returned v ∧ ss.Perm (intKeys (toD (mapV clV M))) ∧
      W.ownsRow (w.alloc (.cells #[.map (some m)] 55)).heap.size (sortedI_ren.t 26) 1 v ss.length ((ss.mergeSort (fun x y => decide (x ≤ y))).map encZ) ∧ (v = .slice none 0 0 ↔ ss = []) ∧ Below (w.alloc (.cells #[.map (some m)] 55)).heap.size (w.alloc (.cells #[.map (some m)] 55)) W) : IdsW w (M.map (·.1)) e W := by
  obtain ⟨v, ss, he, hS, hrow, hnil, hb⟩ := hh
  rw [intKeys_toD, mapV_keys] at hS
  have hr := h.rising (int_keyed Tryz.underlying3)
  have hks := sorted_keys hr (ss := ss) (by rw [mapV_keys]; exact hS)
  rw [mapV_keys] at hks
  rw [hks] at hrow
  have hl := hS.length_eq
  rw [hl] at hrow
  exact ⟨v, he, owns_baseH (show W.ownsRow _ 3 1 v (M.map (·.1)).length ((M.map (·.1)).map (Value.int .i64)) from hrow) (by simp), ((Below.refl _ w).alloc (Nat.le_refl _) _).trans (hb.mono (by simp))⟩

set_option maxHeartbeats 1000000 in
theorem tids_any (base g ma mu : Nat) (U : List (Int × Value)) (M : Mp) (w : World) (h : TreeX w base g ma mu U M) :
    Calls Tryz.prog 17 #[.pointer (some ⟨g, 0, none⟩)] w (IdsW w (M.map (·.1))) := by
  refine (callsIn_wide (n := 6)).1 ?_
  have hbl := h.all.lt
  have c0 := h.blk.cell 0
  simp only [List.getElem?_toArray, List.getElem?_cons_zero, List.getElem?_cons_succ] at c0
  have hn0 := htnone_no g ma _ w h.blk
  have hfew := h.inv.few
  have h1 := h.all.kept (World.grownBy_alloc w (.cells #[.map (some ma)] 55) none) (by simp)
  unfold MapI at h1
  have hseq : SeqGives Fence.wide 2 Tryz.prog 64 #[.pointer (some ⟨w.heap.size, 0, none⟩)] encZ (fun ss => ss.Perm (intKeys (toD (mapV clV M)))) (Maps.size (toD (mapV clV M))) (w.alloc (.cells #[.map (some ma)] 55)) :=
    AnyZI.keys_gives (ρ := keysH_ren) { keysH with } Fence.wide _ trivial rfl (by omega) w.heap.size ma _ (toD (mapV clV M)) _ (by simp) (by simp) h1
  have cK : ∀ mb W, CallsIn Fence.wide 5 Tryz.prog 46 #[.map mb] W fun e w' => e = .returned (.func (.func 64) #[] #[.pointer (some ⟨W.heap.size, 0, none⟩)]) ∧ w' = W.alloc (.cells #[.map mb] 55) := fun mb W => AnyZI.keys_in keysH Fence.wide 5 trivial rfl mb W
  have hsz : Maps.size (toD (mapV clV M)) < 1000000 := by rw [size_toD, mapV_length]; omega
  have cS := AnyZI.sorted_in sortedI Fence.wide 5 trivial trivial trivial trivial rfl (by omega) (sortsI _) (enters_of Tryz.func47 (by kernel_rfl) rfl) 64 #[.pointer (some ⟨w.heap.size, 0, none⟩)] trivial (enters_of Tryz.func64 (by kernel_rfl) rfl) _ _ (by unfold maxLen; omega) (by omega) _ hseq
  change CallsIn _ _ Tryz.prog 45 _ _ _ at cS
  have hfK : Fence.wide.fn 46 := trivial
  have hfS : Fence.wide.fn 45 := trivial
  have hfN : Fence.wide.fn 26 := trivial
  have hnF : CallsIn Fence.wide 5 Tryz.prog 26 #[.pointer (some ⟨g, 0, none⟩)] w _ := callsIn_wide.2 hn0
  have cS := cS.mono (sorted_postH M w ma h.all)
  clear h1 hseq hn0 hsz h
  refine callsIn_of_wp Tryz.func17 rfl trivial ?_ rfl
  simp only [Tryz.ntmps17, List.size_toArray, List.length_cons, List.length_nil, Nat.reduceAdd, Nat.reduceSub, Array.replicate_succ, Array.replicate_zero, List.push_toArray, List.append_toArray, List.nil_append, List.cons_append]
  gi_wp2_with (first
    | (gi_at_call 26; refine hnF.mono ?_; rintro e w' ⟨rfl, rfl⟩)
    | (gi_at_call 46; refine (cK _ _).mono ?_; rintro e w' ⟨rfl, rfl⟩)
    | (gi_at_call 45; refine cS.mono ?_; rintro e W ⟨v, rfl, hrow, hb⟩))
  go_ret
  exact ⟨_, rfl, hrow, hb⟩

theorem clone_int (base : Nat) (v : Value) (l : List Int) (w : World) (h : w.ownsRow base 3 1 v l.length (l.map (Value.int .i64))) (hl : l.length ≤ 1000) :
    Calls Tryz.prog 37 #[v] w (IdsW w l) := by
  rcases h.2 with ⟨rfl, h0⟩ | ⟨g, cap, cur, rfl, h1, h2, h3, h4⟩
  · obtain rfl : l = [] := List.eq_nil_of_length_eq_zero h0
    refine (AnyE.slices_Clone_nil cloneI 0 0 w).mono ?_
    rintro e w' ⟨rfl, rfl⟩
    exact ⟨_, rfl, World.ownsRow_nil _ _ _ _, Below.refl _ _⟩
  · obtain ⟨i0, hi0, hz0, hz1, hz2⟩ := info_parts info_int
    refine (AnyE.slices_Clone cloneI i0 (.int .i64 0) 1 8 hi0 hz0 hz1 hz2 rfl (by decide) (by exact Tryz.sizeOf3) g 0 l.length cap (l.map (Value.int .i64)) w (by simp) (by unfold maxLen; omega) (by omega) (fun j u hj => ?_) (fun u hu => ?_)).mono ?_
    · rw [Nat.zero_add, h.cellAt j (by have := (List.getElem?_eq_some_iff.1 hj).1; simp at this; omega)]
      exact hj
    · obtain ⟨x, _, rfl⟩ := List.mem_map.1 hu
      rfl
    · rintro e w' ⟨v', rfl, hr, _, hb⟩
      exact ⟨v', rfl, hr, hb⟩
set_option maxRecDepth 100000 in
set_option maxHeartbeats 1000000 in
theorem tunder_any (id : Int) (base g ma mu : Nat) (U : List (Int × Value)) (M : Mp) (w : World) (hid : (Lit.int .i64 id).wf = true) (h : TreeX w base g ma mu U M) :
    Calls Tryz.prog 21 #[.pointer (some ⟨g, 0, none⟩), .int .i64 id] w (IdsW w (kids M id)) := by
  have hn := htnone_no g ma _ _ h.blk
  have hlook := h.lookU hid
  have y1 := h.blk.cell 1
  simp only [List.getElem?_toArray, List.getElem?_cons_zero, List.getElem?_cons_succ] at y1
  have hc := clone_int base (rowV U id) (kids M id) w (h.rows id) (by have := h.inv.few; have := kids_len M id; omega)
  generalize rowV U id = v at hlook hc
  clear h
  go_enter Tryz.func21, Tryz.ntmps21
  go_wp2_with (first | (go_at_call 26; refine hn.mono ?_; rintro e w' ⟨rfl, rfl⟩) | (go_at_call 37; refine hc.mono ?_; rintro e w' ⟨v', rfl, hrow, hb⟩))
  go_ret
  exact ⟨_, rfl, hrow, hb⟩
end Go.Proofs.YtclhhegfffccgaaGreat
/-
  A tree of classes: how deep a class under a parent would stand; the path of a class.
-/
namespace Go.Proofs.YtclhhegfffccgaaGreat
set_option linter.unusedVariables false
open Go.RowKit Go.Maps Go.Sort Go.Shelf
attribute [local go_sem ↓] Go.wp_at_zero Go.wp_at_succ
attribute [local go_sem] quietR quietAtR quietUponR midAt midUpon

theorem depth_cases {M : Mp} (h : InvT M) {pa : Int} (h0 : pa ≠ 0) : (lookM M pa = none ∧ depthM M pa = 0) ∨ ∃ c, lookM M pa = some c ∧ 1 ≤ c.2 ∧ c.2 ≤ 8 ∧ ((c.1.lf = true ∧ depthM M pa = 0) ∨ (c.1.lf = false ∧ 8 ≤ c.2 ∧ depthM M pa = 0) ∨ (c.1.lf = false ∧ ¬ 8 ≤ c.2 ∧ depthM M pa = c.2 + 1)) := by
  cases e : lookM M pa with
  | none => left; exact ⟨rfl, by unfold depthM; rw [if_neg h0, e]⟩
  | some c =>
    right
    have o := h.ok _ _ e
    refine ⟨c, rfl, o.d1, o.d8, ?_⟩
    have hd : depthM M pa = if c.1.lf = true ∨ 8 ≤ c.2 then 0 else c.2 + 1 := by unfold depthM; rw [if_neg h0, e]
    rw [hd]
    cases hl : c.1.lf
    · by_cases h8 : 8 ≤ c.2
      · exact .inr (.inl ⟨rfl, h8, by simp [h8]⟩)
      · exact .inr (.inr ⟨rfl, h8, by simp [h8]⟩)
    · exact .inl ⟨rfl, by simp⟩
set_option maxRecDepth 100000 in
set_option maxHeartbeats 4000000 in
theorem tdepth_any (pa : Int) (base g ma mu : Nat) (U : List (Int × Value)) (M : Mp) (w : World) (hid : (Lit.int .i64 pa).wf = true) (h : TreeX w base g ma mu U M) :
    Calls Tryz.prog 28 #[.pointer (some ⟨g, 0, none⟩), .int .i64 pa] w fun e w' => e = .returned (.int .i64 (depthM M pa)) ∧ Below w.heap.size w w' := by
  by_cases h0 : pa = 0
  · subst h0
    have hd : depthM M 0 = 1 := by unfold depthM; simp
    have HD := Lib.hid hd
    clear h hd
    go_enter Tryz.func28, Tryz.ntmps28
    go_wp2_with fail
    go_ret
    exact ⟨by rw [HD.out]; rfl, Below.refl _ _⟩
  · have hlook := h.look hid
    have y0 := h.blk.cell 0
    simp only [List.getElem?_toArray, List.getElem?_cons_zero, List.getElem?_cons_succ] at y0
    have hcs := depth_cases h.inv h0
    clear h
    have h0b : (pa == 0) = false := by simpa using h0
    rcases hcs with ⟨e, hd⟩ | ⟨c, e, hd1, hd8, hcs⟩
    · rw [e] at hlook
      unfold clV clC cl0 sp0 at hlook
      dsimp only [Option.getD, Option.isSome] at hlook
      have HD := Lib.hid hd
      clear hd e
      go_enter Tryz.func28, Tryz.ntmps28
      go_wp2_with fail
      go_ret
      exact ⟨by rw [HD.out]; rfl, by go_grown⟩
    · rw [e] at hlook
      obtain ⟨⟨i1, i2, i3, ⟨F1, L1, R1⟩, ⟨F2, L2, R2⟩, ⟨F3, L3, R3⟩, i4, i5⟩, d⟩ := c
      unfold clV clC at hlook
      dsimp only [Option.getD, Option.isSome] at hlook hcs hd1 hd8
      clear e
      rcases hcs with ⟨rfl, hd⟩ | ⟨rfl, h8, hd⟩ | ⟨rfl, h8, hd⟩
      all_goals
        have HD := Lib.hid hd
        clear hd
        go_enter Tryz.func28, Tryz.ntmps28
        go_wp2_with fail
        go_ret
        exact ⟨by rw [HD.out]; first | rfl | simp, by go_grown⟩
end Go.Proofs.YtclhhegfffccgaaGreat
/-
  A tree of classes: the path of a class. (Printed by wip/mkhpath.py.)
-/
namespace Go.Proofs.YtclhhegfffccgaaGreat
set_option linter.unusedVariables false
open Go.RowKit Go.Maps
attribute [local go_sem ↓] Go.wp_at_zero Go.wp_at_succ
attribute [local go_sem] quietR quietAtR quietUponR midAt midUpon

theorem wpList_append_runH {P : Program} {w w' : World} {ops : Array Oper} {rest : List Oper} {o : Oper} {a : Act} {Q : Exit → Act → World → Prop} (hgd : o.guard = none) (s x : Operand) (t : TypeId)
    (ho : o.op = .call { callee := .builtin .append, args := #[s, x], argTypes := #[t, t] }) (va vx v : Value) (hs : a.eval s = va) (hx : a.eval x = vx)
    (hr : (Builtin.append_ #[t, t] o.type #[va, vx]).run P w = .ok v w') (h : wpList P ops Q rest (a.put o.dst v) w') : wpList P ops Q (o :: rest) a w :=
  wpList_plain hgd fun K hK => by
    unfold Oper.wp execOp
    simp only [ho, resolve, invoke, builtin, Sem.run_bind, Sem.run_pure, Result.andThen_ok, List.map_toArray, List.map_cons, List.map_nil, hs, hx, hr]
    exact hK _ _ h
theorem app_one (ty : TypeId) {A : List Int} {x : Int} {w : World} {v : Value} {base b : Nat} (hc : w.cell? ⟨b, 0, none⟩ = some (.int .i64 x)) (hown : w.ownsRow base 3 1 v A.length (A.map (Value.int .i64))) (hb : base ≤ w.heap.size) (hl : A.length ≤ 3000000) :
    ∃ v' w', (Builtin.append_ #[47, 47] ty #[v, .slice (some ⟨b, 0, none⟩) 1 1]).run Tryz.prog w = .ok v' w' ∧ w'.ownsRow base 3 1 v' (A ++ [x]).length ((A ++ [x]).map (Value.int .i64)) ∧ w.grownBy w' v.ownBlock := by
  obtain ⟨i0, hi0, hz0, hz1, hz2⟩ := info_parts info_int
  obtain ⟨v', w', hr, ho, hg, _⟩ := run_append_own (P := Tryz.prog) (w := w) base 47 ty 3 i0 _ 1 8 Tryz.underlying47 hi0 hz0 hz1 hz2 rfl (by decide) v A.length _ hown ⟨b, 0, none⟩ 1 1 ([x].map (Value.int .i64)) (by simp) (fun j u hj => by
        match j with
        | 0 => simp at hj; subst hj; simpa [Addr.add_lit] using hc
        | j + 1 => simp at hj) (by intro u hu; obtain ⟨x, _, rfl⟩ := List.mem_map.1 hu; rfl) (by unfold maxLen; omega) (by omega) hb
  exact ⟨v', w', hr, by simpa using ho, hg⟩
theorem pathF_le (M : Mp) : ∀ (n : Nat) (id : Int), (pathF M n id).length ≤ n
  | 0, _ => Nat.le_refl _
  | n + 1, id => by
    unfold pathF
    cases lookM M id with
    | none => simp
    | some c => have := pathF_le M n c.1.pa; simp; omega
theorem InvT.path_step {M : Mp} (h : InvT M) {id : Int} {c : Cl} (e : lookM M id = some c) : pathM M id = id :: pathM M c.1.pa := by
  unfold pathM
  rw [pathF_some e 7, h.pathF_more 7 8 fun c' hc' => by
    have o := h.ok _ _ e
    have := o.d8
    rcases o.up with ⟨h0, _⟩ | ⟨p, hp, _, hd⟩
    · rw [h0, h.zero] at hc'; cases hc'
    · rw [hp] at hc'; cases hc'; omega]
def dep (M : Mp) (x : Int) : Nat := ((lookM M x).map fun c => c.2.toNat).getD 0
theorem InvT.dep_lt {M : Mp} (h : InvT M) {id : Int} {c : Cl} (e : lookM M id = some c) : dep M c.1.pa < dep M id := by
  have o := h.ok _ _ e
  have := o.d1
  unfold dep
  rw [e]
  rcases o.up with ⟨h0, h1⟩ | ⟨p, hp, _, hd⟩
  · rw [h0, h.zero]; simp; omega
  · rw [hp]; have := (h.ok _ _ hp).d1; simp; omega
theorem InvT.pa_wf {M : Mp} (h : InvT M) {id : Int} {c : Cl} (e : lookM M id = some c) : (Lit.int .i64 c.1.pa).wf = true := (h.ok _ _ e).wf.1.2.1
def PathJ (w : World) (g : Nat) (M : Mp) (id : Int) (a' : Act) (w' : World) : Prop :=
  ∃ (A : List Int) (cur : Int) (v u2 u3 u6 u7 u8 u9 u10 u11 u12 u13 u14 u15 u16 u17 u18 u19 u20 u21 : Value), a' = { tmps := #[.pointer (some ⟨g, 0, none⟩), .int .i64 cur, u2, u3, .slice none 0 0, v, u6, u7, u8, u9, u10, u11, u12, u13, u14, u15, u16, u17, u18, u19, u20, u21], defers := [] } ∧ Below w.heap.size w w' ∧ w'.ownsRow w.heap.size 3 1 v A.length (A.map (Value.int .i64)) ∧ A ++ pathM M cur = pathM M id ∧ (Lit.int .i64 cur).wf = true

set_option maxRecDepth 100000 in
set_option maxHeartbeats 8000000 in
theorem tpath_any (id : Int) (base g ma mu : Nat) (U : List (Int × Value)) (M : Mp) (w : World) (hid : (Lit.int .i64 id).wf = true) (h : TreeX w base g ma mu U M) :
    Calls Tryz.prog 19 #[.pointer (some ⟨g, 0, none⟩), .int .i64 id] w (IdsW w (pathM M id)) := by
  have H := Lib.hid h
  clear h
  go_enter Tryz.func19, Tryz.ntmps19
  go_wp2
  refine wp_scope_jumps 0 (PathJ w g M id) (fun a' _ => dep M (Go.RowKit.intOf (a'.tmps.getD 1 undef))) rfl ?_ ?_
  · go_wp2_with fail
    go_step3
    have hget := tget_any id base g ma mu U M w hid (H.out.later (Below.refl w.heap.size w))
    unfold GetW getS spV spC at hget
    have HS := Lib.hid (And.intro (Below.refl w.heap.size w) (And.intro (show w.ownsRow w.heap.size 3 1 (.slice none 0 0) ([] : List Int).length (([] : List Int).map (Value.int .i64)) from World.ownsRow_nil _ _ _ _) (show ([] : List Int) ++ pathM M id = pathM M id from rfl)))
    cases e : lookM M id with
    | none =>
      rw [e] at hget
      unfold cl0 sp0 at hget
      dsimp only [Option.getD, Option.isSome] at hget
      have HE := Lib.hid e
      clear e
      go_wp2_with fail
      refine hget.mono ?_
      clear hget
      rintro e w1 ⟨rfl, hb1⟩
      have hw1 := HS.out.1.trans (hb1.mono HS.out.1.size)
      have ho1 := owns_laterH HS.out.2.1 hb1
      have hb2 := (Below.refl w1.heap.size w1).alloc (Nat.le_refl _) (.cells #[.int .i64 0, .int .i64 0, .bool false, .int .u64 0, .int .u64 0, .int .u64 0, .int .u64 0, .int .u64 0, .int .u64 0, .int .u64 0, .int .u64 0, .int .u64 0, .int .i64 0, .int .i64 0] 36)
      have HF := Lib.hid (And.intro (owns_laterH ho1 hb2) (hw1.trans (hb2.mono hw1.size)))
      clear hw1 ho1 hb2 hb1
      go_wp2_with fail
      simp only [Exit.jump]
      go_ret
      have hA := HS.out.2.2
      have hz : pathM M id = [] := pathF_none HE.out 8
      exact ⟨_, rfl, by rw [hz]; exact HF.out.1, HF.out.2⟩
    | some c =>
      have HP := Lib.hid (And.intro (H.out.inv.path_step e) (And.intro (H.out.inv.dep_lt e) (H.out.inv.pa_wf e)))
      rw [e] at hget
      obtain ⟨⟨i1, pa, i3, ⟨F1, L1, R1⟩, ⟨F2, L2, R2⟩, ⟨F3, L3, R3⟩, i4, i5⟩, d⟩ := c
      dsimp only [Option.getD, Option.isSome] at hget HP
      clear e
      go_wp2_with fail
      refine hget.mono ?_
      clear hget
      rintro e w1 ⟨rfl, hb1⟩
      have hw1 := HS.out.1.trans (hb1.mono HS.out.1.size)
      have ho1 := owns_laterH HS.out.2.1 hb1
      have hb2 := (Below.refl w1.heap.size w1).alloc (Nat.le_refl _) (.cells #[.int .i64 i1, .int .i64 pa, .bool i3, .int .u64 F1, .int .u64 L1, .int .u64 R1, .int .u64 F2, .int .u64 L2, .int .u64 R2, .int .u64 F3, .int .u64 L3, .int .u64 R3, .int .i64 i4, .int .i64 i5] 36)
      have hX := Blk.new w1 36 #[.int .i64 i1, .int .i64 pa, .bool i3, .int .u64 F1, .int .u64 L1, .int .u64 R1, .int .u64 F2, .int .u64 L2, .int .u64 R2, .int .u64 F3, .int .u64 L3, .int .u64 R3, .int .i64 i4, .int .i64 i5]
      have ho2 := owns_laterH ho1 hb2
      have hw2 := hw1.trans (hb2.mono hw1.size)
      have hvlt := fun k hk => (ho1.lt k hk).2
      have hx1 := hX.lt
      go_upto_region 3 with fail
      generalize w1.alloc (.cells #[.int .i64 i1, .int .i64 pa, .bool i3, .int .u64 F1, .int .u64 L1, .int .u64 R1, .int .u64 F2, .int .u64 L2, .int .u64 R2, .int .u64 F3, .int .u64 L3, .int .u64 R3, .int .i64 i4, .int .i64 i5] 36) = w2 at hX ho2 hw2 hx1 ⊢
      have hb3 := (Below.refl w2.heap.size w2).alloc (Nat.le_refl _) (.cells #[.int .i64 id] 3)
      have k2 := Blk.new w2 3 #[.int .i64 id]
      have hX3 := hX.below hb3 hX.lt
      have ho3 := owns_laterH ho2 hb3
      have hw3 := hw2.trans (hb3.mono hw2.size)
      have hAl : ([] : List Int).length ≤ 8 := by
        have h8 := pathF_le M 8 id
        have hA := congrArg List.length HS.out.2.2
        unfold pathM at hA
        simp only [List.length_append, List.length_nil] at hA ⊢
        omega
      obtain ⟨v', w', hr, ho', hg⟩ := app_one 47 (A := []) (k2.cell 0) ho3 hw3.size (by omega)
      have hX4 := hX3.grown hg (fun e => by have := hvlt _ e.symm; omega)
      have k1 := hX4.cell 1
      simp only [List.getElem?_toArray, List.getElem?_cons_zero, List.getElem?_cons_succ] at k1
      have hw4 := hw3.grown hg hw3.size fun k hk => (ho3.lt k hk).1
      have HF := Lib.hid (And.intro ho' hw4)
      clear hw1 ho1 hb2 hb1 hX ho2 hw2 hvlt hb3 k2 hX3 ho3 hw3 hAl ho' hg hX4 hw4 hx1
      go_wp2_with (at_builtin; refine wpList_append_runH rfl _ _ _ rfl _ _ _ rfl rfl hr ?_; clear hr)
      go_step3
      change _ ∧ PathJ w g M id _ _
      refine ⟨rfl, ?_⟩
      unfold PathJ
      refine ⟨[] ++ [id], pa, v', _, _, _, _, _, _, _, _, _, _, _, _, _, _, _, _, _, _, rfl, HF.out.2, HF.out.1, ?_, HP.out.2.2⟩
      rw [HP.out.1]; rfl
  · rintro a' w' ⟨A, cur, v, u2, u3, u6, u7, u8, u9, u10, u11, u12, u13, u14, u15, u16, u17, u18, u19, u20, u21, rfl, hbc, hoc, hac, hcc⟩
    have hget := tget_any cur base g ma mu U M w' hcc (H.out.later hbc)
    unfold GetW getS spV spC at hget
    have HS := Lib.hid (And.intro hbc (And.intro hoc hac))
    clear hbc hoc hac
    cases e : lookM M cur with
    | none =>
      rw [e] at hget
      unfold cl0 sp0 at hget
      dsimp only [Option.getD, Option.isSome] at hget
      have HE := Lib.hid e
      clear e
      go_wp2_with fail
      refine hget.mono ?_
      clear hget
      rintro e w1 ⟨rfl, hb1⟩
      have hw1 := HS.out.1.trans (hb1.mono HS.out.1.size)
      have ho1 := owns_laterH HS.out.2.1 hb1
      have hb2 := (Below.refl w1.heap.size w1).alloc (Nat.le_refl _) (.cells #[.int .i64 0, .int .i64 0, .bool false, .int .u64 0, .int .u64 0, .int .u64 0, .int .u64 0, .int .u64 0, .int .u64 0, .int .u64 0, .int .u64 0, .int .u64 0, .int .i64 0, .int .i64 0] 36)
      have HF := Lib.hid (And.intro (owns_laterH ho1 hb2) (hw1.trans (hb2.mono hw1.size)))
      clear hw1 ho1 hb2 hb1
      go_wp2_with fail
      simp only [Exit.jump]
      go_ret
      have hA := HS.out.2.2
      have hz : pathM M cur = [] := pathF_none HE.out 8
      rw [hz, List.append_nil] at hA; exact ⟨_, rfl, by rw [← hA]; exact HF.out.1, HF.out.2⟩
    | some c =>
      have HP := Lib.hid (And.intro (H.out.inv.path_step e) (And.intro (H.out.inv.dep_lt e) (H.out.inv.pa_wf e)))
      rw [e] at hget
      obtain ⟨⟨i1, pa, i3, ⟨F1, L1, R1⟩, ⟨F2, L2, R2⟩, ⟨F3, L3, R3⟩, i4, i5⟩, d⟩ := c
      dsimp only [Option.getD, Option.isSome] at hget HP
      clear e
      go_wp2_with fail
      refine hget.mono ?_
      clear hget
      rintro e w1 ⟨rfl, hb1⟩
      have hw1 := HS.out.1.trans (hb1.mono HS.out.1.size)
      have ho1 := owns_laterH HS.out.2.1 hb1
      have hb2 := (Below.refl w1.heap.size w1).alloc (Nat.le_refl _) (.cells #[.int .i64 i1, .int .i64 pa, .bool i3, .int .u64 F1, .int .u64 L1, .int .u64 R1, .int .u64 F2, .int .u64 L2, .int .u64 R2, .int .u64 F3, .int .u64 L3, .int .u64 R3, .int .i64 i4, .int .i64 i5] 36)
      have hX := Blk.new w1 36 #[.int .i64 i1, .int .i64 pa, .bool i3, .int .u64 F1, .int .u64 L1, .int .u64 R1, .int .u64 F2, .int .u64 L2, .int .u64 R2, .int .u64 F3, .int .u64 L3, .int .u64 R3, .int .i64 i4, .int .i64 i5]
      have ho2 := owns_laterH ho1 hb2
      have hw2 := hw1.trans (hb2.mono hw1.size)
      have hvlt := fun k hk => (ho1.lt k hk).2
      have hx1 := hX.lt
      go_upto_region 3 with fail
      generalize w1.alloc (.cells #[.int .i64 i1, .int .i64 pa, .bool i3, .int .u64 F1, .int .u64 L1, .int .u64 R1, .int .u64 F2, .int .u64 L2, .int .u64 R2, .int .u64 F3, .int .u64 L3, .int .u64 R3, .int .i64 i4, .int .i64 i5] 36) = w2 at hX ho2 hw2 hx1 ⊢
      have hb3 := (Below.refl w2.heap.size w2).alloc (Nat.le_refl _) (.cells #[.int .i64 cur] 3)
      have k2 := Blk.new w2 3 #[.int .i64 cur]
      have hX3 := hX.below hb3 hX.lt
      have ho3 := owns_laterH ho2 hb3
      have hw3 := hw2.trans (hb3.mono hw2.size)
      have hAl : A.length ≤ 8 := by
        have h8 := pathF_le M 8 id
        have hA := congrArg List.length HS.out.2.2
        unfold pathM at hA
        simp only [List.length_append, List.length_nil] at hA ⊢
        omega
      obtain ⟨v'', w'', hr, ho', hg⟩ := app_one 47 (A := A) (k2.cell 0) ho3 hw3.size (by omega)
      have hX4 := hX3.grown hg (fun e => by have := hvlt _ e.symm; omega)
      have k1 := hX4.cell 1
      simp only [List.getElem?_toArray, List.getElem?_cons_zero, List.getElem?_cons_succ] at k1
      have hw4 := hw3.grown hg hw3.size fun k hk => (ho3.lt k hk).1
      have HF := Lib.hid (And.intro ho' hw4)
      clear hw1 ho1 hb2 hb1 hX ho2 hw2 hvlt hb3 k2 hX3 ho3 hw3 hAl ho' hg hX4 hw4 hx1
      go_wp2_with (at_builtin; refine wpList_append_runH rfl _ _ _ rfl _ _ _ rfl rfl hr ?_; clear hr)
      go_step3
      change _ ∧ (PathJ w g M id _ _ ∧ _)
      refine ⟨rfl, ?_, ?_⟩
      unfold PathJ
      refine ⟨A ++ [cur], pa, v'', _, _, _, _, _, _, _, _, _, _, _, _, _, _, _, _, _, _, rfl, HF.out.2, HF.out.1, ?_, HP.out.2.2⟩
      · rw [← HS.out.2.2, HP.out.1, List.append_assoc]; rfl
      · exact HP.out.2.1
end Go.Proofs.YtclhhegfffccgaaGreat
/-
  The document's tree: the path of a class. (Printed by wip/mkrtpath.py.)
-/
namespace Go.Proofs.YtclhhegfffccgaaGreat
set_option linter.unusedVariables false
open Go.RowKit Go.Maps
attribute [local go_sem ↓] Go.wp_at_zero Go.wp_at_succ
attribute [local go_sem] quietR quietAtR quietUponR midAt midUpon

/-- a path, of at most so many classes -/
def pathL (L : List Sp) : Nat → Int → List Int
  | 0, _ => []
  | n + 1, id => match getL L id with
    | none => []
    | some c => id :: pathL L n c.pa
theorem pathL_le (L : List Sp) : ∀ (n : Nat) (id : Int), (pathL L n id).length ≤ n
  | 0, _ => Nat.le_refl _
  | n + 1, id => by
    unfold pathL
    cases getL L id with
    | none => simp
    | some c => have := pathL_le L n c.pa; simp; omega
set_option maxRecDepth 100000 in
set_option maxHeartbeats 4000000 in
theorem rtpath_any (p : Nat) (v : Value) (L : List Sp) (id : Int) (w : World) (h : RtAt w p v L) (hfew : L.length ≤ 1000) :
    Calls Tryz.prog 34 #[.pointer (some ⟨p, 0, none⟩), .int .i64 id] w fun e w' => ∃ u, e = .returned u ∧ w'.ownsRow w.heap.size 3 1 u (pathL L (L.length + 1) id).length ((pathL L (L.length + 1) id).map (Value.int .i64)) ∧ Below w.heap.size w w' := by
  obtain ⟨a, cap, hv⟩ : ∃ a cap, v = .slice a L.length cap := by obtain ⟨_, a, cap, e, _⟩ := h.sr; exact ⟨a, cap, e⟩
  have H := Lib.hid h
  clear h
  go_enter Tryz.func34, Tryz.ntmps34
  go_wp2_with fail
  go_loopw [1, 5, 6] (fun v1 v5 v6 W => ∃ (n : Nat) (cur : Int) (A : List Int), v1 = .int .i64 cur ∧ v6 = .int .i64 n ∧ n ≤ L.length + 1 ∧ W.ownsRow w.heap.size 3 1 v5 A.length (A.map (Value.int .i64)) ∧ Below w.heap.size w W ∧ A ++ pathL L (L.length + 1 - n) cur = pathL L (L.length + 1) id ∧ A.length ≤ n) (fun _ _ v6 _ => (L.length + 1 - Go.RowKit.intOf v6).toNat)
  case atStart => exact ⟨0, id, [], rfl, rfl, by omega, World.ownsRow_nil _ _ _ _, Below.refl _ _, rfl, Nat.le_refl _⟩
  case round =>
    obtain ⟨n, cur, A, rfl, rfl, hn, hown, hbr, hA, hAl⟩ := hrel
    have HR := Lib.hid (H.out.later hbr)
    have c0 := HR.out.blk.cell 0
    simp only [List.getElem?_toArray, List.getElem?_cons_zero, List.getElem?_cons_succ] at c0
    rw [hv] at c0
    by_cases hlt : n ≤ L.length
    · have hget := rtget_any p v L cur wr HR.out
      obtain ⟨f, hf⟩ : ∃ f, L.length + 1 - n = f + 1 := ⟨L.length - n, by omega⟩
      rw [hf] at hA
      have hA2 : A ++ (match getL L cur with | none => [] | some c => cur :: pathL L f c.pa) = pathL L (L.length + 1) id := hA
      have HF := Lib.hid (show L.length + 1 - (n + 1) = f by omega)
      have HS := Lib.hid (And.intro hown (And.intro hbr hAl))
      have hni : (n : Int) ≤ (L.length : Int) := by omega
      clear hown hbr hA hAl hf
      cases e : getL L cur with
      | none =>
        rw [e] at hget hA2
        unfold spV spC sp0 at hget
        dsimp only [Option.getD, Option.isSome] at hget hA2
        have HA := Lib.hid hA2
        clear e hA2
        go_wp2_with fail
        refine hget.mono ?_
        clear hget c0
        rintro e w1 ⟨rfl, hb1⟩
        have ho1 := owns_laterH HS.out.1 hb1
        have hw1 := HS.out.2.1.trans (hb1.mono HS.out.2.1.size)
        have hb2 := (Below.refl w1.heap.size w1).alloc (Nat.le_refl _) (.cells #[.int .i64 0, .int .i64 0, .bool false, .int .u64 0, .int .u64 0, .int .u64 0, .int .u64 0, .int .u64 0, .int .u64 0, .int .u64 0, .int .u64 0, .int .u64 0, .int .i64 0, .int .i64 0] 36)
        have HE := Lib.hid (And.intro (owns_laterH ho1 hb2) (hw1.trans (hb2.mono hw1.size)))
        clear ho1 hw1 hb1 hb2
        go_wp2_with fail
        go_ret
        exact ⟨_, rfl, by rw [← HA.out, List.append_nil]; exact HE.out.1, HE.out.2⟩
      | some c =>
        rw [e] at hget hA2
        obtain ⟨i1, pa, i3, ⟨F1, L1, R1⟩, ⟨F2, L2, R2⟩, ⟨F3, L3, R3⟩, i4, i5⟩ := c
        unfold spV spC at hget
        dsimp only [Option.getD, Option.isSome] at hget hA2
        have HA := Lib.hid hA2
        clear e hA2
        go_wp2_with fail
        refine hget.mono ?_
        clear hget c0
        rintro e w1 ⟨rfl, hb1⟩
        have ho1 := owns_laterH HS.out.1 hb1
        have hw1 := HS.out.2.1.trans (hb1.mono HS.out.2.1.size)
        have hb2 := (Below.refl w1.heap.size w1).alloc (Nat.le_refl _) (.cells #[.int .i64 i1, .int .i64 pa, .bool i3, .int .u64 F1, .int .u64 L1, .int .u64 R1, .int .u64 F2, .int .u64 L2, .int .u64 R2, .int .u64 F3, .int .u64 L3, .int .u64 R3, .int .i64 i4, .int .i64 i5] 36)
        have hX := Blk.new w1 36 #[.int .i64 i1, .int .i64 pa, .bool i3, .int .u64 F1, .int .u64 L1, .int .u64 R1, .int .u64 F2, .int .u64 L2, .int .u64 R2, .int .u64 F3, .int .u64 L3, .int .u64 R3, .int .i64 i4, .int .i64 i5]
        have ho2 := owns_laterH ho1 hb2
        have hw2 := hw1.trans (hb2.mono hw1.size)
        have hvlt := fun k hk => (ho1.lt k hk).2
        have hx1 := hX.lt
        go_upto_region 8 with fail
        generalize w1.alloc (.cells #[.int .i64 i1, .int .i64 pa, .bool i3, .int .u64 F1, .int .u64 L1, .int .u64 R1, .int .u64 F2, .int .u64 L2, .int .u64 R2, .int .u64 F3, .int .u64 L3, .int .u64 R3, .int .i64 i4, .int .i64 i5] 36) = w2 at hX ho2 hw2 hx1 ⊢
        have hb3 := (Below.refl w2.heap.size w2).alloc (Nat.le_refl _) (.cells #[.int .i64 cur] 3)
        have k2 := Blk.new w2 3 #[.int .i64 cur]
        have hX3 := hX.below hb3 hX.lt
        have ho3 := owns_laterH ho2 hb3
        have hw3 := hw2.trans (hb3.mono hw2.size)
        obtain ⟨v', w', hr, ho', hg⟩ := app_one 47 (A := A) (k2.cell 0) ho3 hw3.size (by have := HS.out.2.2; omega)
        have hX4 := hX3.grown hg (fun e => by have := hvlt _ e.symm; omega)
        have k1 := hX4.cell 1
        simp only [List.getElem?_toArray, List.getElem?_cons_zero, List.getElem?_cons_succ] at k1
        have hw4 := hw3.grown hg hw3.size fun k hk => (ho3.lt k hk).1
        have HO := Lib.hid (And.intro ho' hw4)
        clear ho1 hw1 hb1 hb2 hX ho2 hw2 hvlt hb3 k2 hX3 ho3 hw3 ho' hg hX4 hw4 hx1
        go_wp2_with (at_builtin; refine wpList_append_runH rfl _ _ _ rfl _ _ _ rfl rfl hr ?_; clear hr)
        go_roundw
        case measure => (simp [Go.RowKit.intOf]; try omega)
        case rel => exact ⟨n + 1, pa, A ++ [cur], rfl, by go_num, by omega, HO.out.1, HO.out.2, by rw [HF.out, List.append_assoc]; exact HA.out, by have := HS.out.2.2; simp only [List.length_append, List.length_cons, List.length_nil]; omega⟩
    · have hz : L.length + 1 - n = 0 := by omega
      rw [hz] at hA
      have HA := Lib.hid (show A = pathL L (L.length + 1) id from (List.append_nil A).symm.trans hA)
      have HE := Lib.hid (And.intro hown hbr)
      have hni : ¬ (n : Int) ≤ (L.length : Int) := by omega
      clear hA hz hown hbr
      go_wp2_with fail
      go_ret
      exact ⟨_, rfl, by rw [← HA.out]; exact HE.out.1, HE.out.2⟩
end Go.Proofs.YtclhhegfffccgaaGreat
/-
  The document's tree: all classes, who is under whom. (Printed by wip/mkrtids.py.)
-/
namespace Go.Proofs.YtclhhegfffccgaaGreat
set_option linter.unusedVariables false
open Go.RowKit Go.Maps
attribute [local go_sem ↓] Go.wp_at_zero Go.wp_at_succ
attribute [local go_sem] quietR quietAtR quietUponR midAt midUpon

theorem filt_snoc {α β : Type} {q : α → Bool} {f : α → β} {L : List α} {i : Nat} {e : α} (he : L[i]? = some e) : ((L.take (i + 1)).filter q).map f = ((L.take i).filter q).map f ++ (if q e = true then [f e] else []) := by
  rw [List.take_add_one, he, List.filter_append, List.map_append]
  cases h : q e <;> simp [h]
def underL (L : List Sp) (id : Int) : List Int := (L.filter fun e => decide (e.pa = id)).map (·.id)
set_option maxRecDepth 100000 in
set_option maxHeartbeats 4000000 in
theorem rtids_any (p : Nat) (v : Value) (L : List Sp) (w : World) (h : RtAt w p v L) :
    Calls Tryz.prog 41 #[.pointer (some ⟨p, 0, none⟩)] w fun e w' => ∃ u, e = .returned u ∧ w'.ownsRow w.heap.size 3 1 u ((L.filter fun _ => true).map (·.id)).length (((L.filter fun _ => true).map (·.id)).map (Value.int .i64)) ∧ Below w.heap.size w w' := by
  obtain ⟨hl, a, cap, hv, _⟩ := h.sr
  have H := Lib.hid h
  clear h
  go_enter Tryz.func41, Tryz.ntmps41
  go_wp2_with fail
  go_loopw [3, 4] (fun vo vi W => ∃ (i : Nat) (A : List Int), vi = .int .i64 i ∧ i ≤ L.length ∧ W.ownsRow w.heap.size 3 1 vo A.length (A.map (Value.int .i64)) ∧ Below w.heap.size w W ∧ A = ((L.take i).filter (fun _ => true)).map (·.id)) (fun _ vi _ => (L.length - Go.RowKit.intOf vi).toNat)
  case atStart => exact ⟨0, [], rfl, by omega, World.ownsRow_nil _ _ _ _, Below.refl _ _, by simp⟩
  case round =>
    obtain ⟨i, A, rfl, hi, hown, hbr, hA⟩ := hrel
    have HR := Lib.hid (H.out.later hbr)
    have c0 := HR.out.blk.cell 0
    simp only [List.getElem?_toArray, List.getElem?_cons_zero, List.getElem?_cons_succ] at c0
    rw [hv] at c0
    have hAl : A.length ≤ i := by rw [hA, List.length_map]; exact Nat.le_trans (List.length_filter_le _ _) (by rw [List.length_take]; omega)
    by_cases hlt : i < L.length
    · obtain ⟨e, he⟩ : ∃ e, L[i]? = some e := ⟨_, List.getElem?_eq_getElem hlt⟩
      obtain ⟨_, a', cap', e1, h3⟩ := HR.out.sr
      rw [hv] at e1
      cases e1
      obtain ⟨b, off, rfl, hbl, hcap, hc⟩ := h3.resolve_left (fun h => by rw [h] at hlt; cases hlt)
      obtain ⟨k0, k1, k2, -⟩ := sr_row (hc i e he)
      have hsn := filt_snoc (q := (fun _ => true)) (f := (·.id)) he
      rw [← hA] at hsn
      have HS := Lib.hid (And.intro hown (And.intro hbr hAl))
      clear h3 hc he hown hbr hA hAl
      obtain ⟨i1, pa, i3, ⟨F1, L1, R1⟩, ⟨F2, L2, R2⟩, ⟨F3, L3, R3⟩, i4, i5⟩ := e
      dsimp only at k0 k1 k2 hsn
      rw [if_pos rfl] at hsn
      have hb3 := (Below.refl wr.heap.size wr).alloc (Nat.le_refl _) (.cells #[.int .i64 i1] 3)
      have k9 := Blk.new wr 3 #[.int .i64 i1]
      have ho3 := owns_laterH HS.out.1 hb3
      have hw3 := HS.out.2.1.trans (hb3.mono HS.out.2.1.size)
      obtain ⟨v', w', hr, ho', hg⟩ := app_one 47 (A := A) (k9.cell 0) ho3 hw3.size (by have := HS.out.2.2; omega)
      have HO := Lib.hid (And.intro ho' (hw3.grown hg hw3.size fun k hk => (ho3.lt k hk).1))
      have HSN := Lib.hid hsn
      clear hb3 k9 ho3 hw3 ho' hg hsn
      go_wp2_with (at_builtin; refine wpList_append_runH rfl _ _ _ rfl _ _ _ rfl rfl hr ?_; clear hr)
      go_roundw
      case measure => (simp [Go.RowKit.intOf]; try omega)
      case rel => exact ⟨i + 1, A ++ [i1], by go_num, by omega, HO.out.1, HO.out.2, HSN.out.symm⟩
    · obtain rfl : i = L.length := by omega
      rw [List.take_length] at hA
      have HA := Lib.hid (show A = (L.filter fun _ => true).map (·.id) from hA)
      have HE := Lib.hid (And.intro hown hbr)
      clear hA hown hbr
      go_wp2_with fail
      go_ret
      exact ⟨_, rfl, by rw [← HA.out]; exact HE.out.1, HE.out.2⟩
set_option maxRecDepth 100000 in
set_option maxHeartbeats 4000000 in
theorem rtunder_any (p : Nat) (v : Value) (L : List Sp) (id : Int) (w : World) (h : RtAt w p v L) :
    Calls Tryz.prog 40 #[.pointer (some ⟨p, 0, none⟩), .int .i64 id] w fun e w' => ∃ u, e = .returned u ∧ w'.ownsRow w.heap.size 3 1 u (underL L id).length ((underL L id).map (Value.int .i64)) ∧ Below w.heap.size w w' := by
  obtain ⟨hl, a, cap, hv, _⟩ := h.sr
  have H := Lib.hid h
  clear h
  go_enter Tryz.func40, Tryz.ntmps40
  go_wp2_with fail
  go_loopw [5, 6] (fun vo vi W => ∃ (i : Nat) (A : List Int), vi = .int .i64 i ∧ i ≤ L.length ∧ W.ownsRow w.heap.size 3 1 vo A.length (A.map (Value.int .i64)) ∧ Below w.heap.size w W ∧ A = ((L.take i).filter (fun e => decide (e.pa = id))).map (·.id)) (fun _ vi _ => (L.length - Go.RowKit.intOf vi).toNat)
  case atStart => exact ⟨0, [], rfl, by omega, World.ownsRow_nil _ _ _ _, Below.refl _ _, by simp⟩
  case round =>
    obtain ⟨i, A, rfl, hi, hown, hbr, hA⟩ := hrel
    have HR := Lib.hid (H.out.later hbr)
    have c0 := HR.out.blk.cell 0
    simp only [List.getElem?_toArray, List.getElem?_cons_zero, List.getElem?_cons_succ] at c0
    rw [hv] at c0
    have hAl : A.length ≤ i := by rw [hA, List.length_map]; exact Nat.le_trans (List.length_filter_le _ _) (by rw [List.length_take]; omega)
    by_cases hlt : i < L.length
    · obtain ⟨e, he⟩ : ∃ e, L[i]? = some e := ⟨_, List.getElem?_eq_getElem hlt⟩
      obtain ⟨_, a', cap', e1, h3⟩ := HR.out.sr
      rw [hv] at e1
      cases e1
      obtain ⟨b, off, rfl, hbl, hcap, hc⟩ := h3.resolve_left (fun h => by rw [h] at hlt; cases hlt)
      obtain ⟨k0, k1, k2, -⟩ := sr_row (hc i e he)
      have hsn := filt_snoc (q := (fun e => decide (e.pa = id))) (f := (·.id)) he
      rw [← hA] at hsn
      have HS := Lib.hid (And.intro hown (And.intro hbr hAl))
      clear h3 hc he hown hbr hA hAl
      obtain ⟨i1, pa, i3, ⟨F1, L1, R1⟩, ⟨F2, L2, R2⟩, ⟨F3, L3, R3⟩, i4, i5⟩ := e
      dsimp only at k0 k1 k2 hsn
      by_cases hpa : pa = id
      · have heq : (pa == id) = true := by simpa using hpa
        rw [if_pos (decide_eq_true hpa)] at hsn
        clear hpa
        have hb3 := (Below.refl wr.heap.size wr).alloc (Nat.le_refl _) (.cells #[.int .i64 i1] 3)
        have k9 := Blk.new wr 3 #[.int .i64 i1]
        have ho3 := owns_laterH HS.out.1 hb3
        have hw3 := HS.out.2.1.trans (hb3.mono HS.out.2.1.size)
        obtain ⟨v', w', hr, ho', hg⟩ := app_one 47 (A := A) (k9.cell 0) ho3 hw3.size (by have := HS.out.2.2; omega)
        have HO := Lib.hid (And.intro ho' (hw3.grown hg hw3.size fun k hk => (ho3.lt k hk).1))
        have HSN := Lib.hid hsn
        clear hb3 k9 ho3 hw3 ho' hg hsn
        go_wp2_with (at_builtin; refine wpList_append_runH rfl _ _ _ rfl _ _ _ rfl rfl hr ?_; clear hr)
        go_roundw
        case measure => (simp [Go.RowKit.intOf]; try omega)
        case rel => exact ⟨i + 1, A ++ [i1], by go_num, by omega, HO.out.1, HO.out.2, HSN.out.symm⟩
      · have heq : (pa == id) = false := by simpa using hpa
        rw [if_neg (by simpa using hpa), List.append_nil] at hsn
        clear hpa
        have HSN := Lib.hid hsn
        clear hsn
        go_wp2_with fail
        go_roundw
        case measure => (simp [Go.RowKit.intOf]; try omega)
        case rel => exact ⟨i + 1, A, by go_num, by omega, HS.out.1, HS.out.2.1, HSN.out.symm⟩
    · obtain rfl : i = L.length := by omega
      rw [List.take_length] at hA
      have HA := Lib.hid (show A = underL L id from hA)
      have HE := Lib.hid (And.intro hown hbr)
      clear hA hown hbr
      go_wp2_with fail
      go_ret
      exact ⟨_, rfl, by rw [← HA.out]; exact HE.out.1, HE.out.2⟩
end Go.Proofs.YtclhhegfffccgaaGreat
