/- Lemmas of the claim. No conditions beyond those that each states. -/
import Derived.Test.YtmmeopjemkjllaaGreatPT3
set_option linter.unusedVariables false
set_option linter.unusedSimpArgs false
set_option maxRecDepth 100000
set_option maxHeartbeats 8000000
namespace Go.Proofs.YtmmeopjemkjllaaGreat
section
open Go.RowKit
structure Fr (S:Nat→Prop)(w w':World):Prop where
 os:w'.os=w.os
 tape:w'.tape=w.tape
 output:w'.output=w.output
 size:w.heap.size≤w'.heap.size
 block:∀ b,b < w.heap.size→¬ S b→w'.heap[b]?=w.heap[b]?
section
variable {S S' : Nat → Prop} {w w1 w' : World} {base : Nat}
theorem grown_noneH (h:Below w.heap.size w w'):w.grownBy w' none:=⟨h.os,h.tape,h.output,h.size,fun k hk _=>h.block k hk⟩
theorem Fr.refl (S:Nat→Prop)(w:World):Fr S w w:=⟨rfl,rfl,rfl,Nat.le_refl _,fun _ _ _=>rfl⟩
theorem Fr.trans (h:Fr S w w1)(k:Fr S w1 w'):Fr S w w':=⟨k.os.trans h.os,k.tape.trans h.tape,k.output.trans h.output,Nat.le_trans h.size k.size,fun b hb hn=>(k.block b (Nat.lt_of_lt_of_le hb h.size) hn).trans (h.block b hb hn)⟩
theorem Fr.of_grown {r:Option Nat} (h:w.grownBy w' r)(hr:∀ b,r=some b→S b):Fr S w w':=⟨h.os,h.tape,h.output,h.size,fun b hb hn=>h.block b hb fun e=>hn (hr b e.symm)⟩
theorem Fr.of_below (h:Below w.heap.size w w'):Fr S w w':=⟨h.os,h.tape,h.output,h.size,fun b hb _=>h.block b hb⟩
theorem Fr.weak (h:Fr S w w')(hS:∀ b,b < w.heap.size→S b→S' b):Fr S' w w':=⟨h.os,h.tape,h.output,h.size,fun b hb hn=>h.block b hb fun hs=>hn (hS b hb hs)⟩
theorem Fr.set {b o:Nat} {u:Value} (hb:S b):Fr S w (w.setCell ⟨b,o,none⟩ u):=by
 exact⟨rfl,rfl,rfl,by simp,fun k hk hn=>Below.heap_setCell w ⟨b,o,none⟩ u k fun e=>hn (by rw [e];exact hb)⟩
theorem Fr.alloc (o:Obj):Fr S w (w.alloc o):=Fr.of_below ((Below.refl _ w).alloc (Nat.le_refl _) o)
end
end
end Go.Proofs.YtmmeopjemkjllaaGreat
