/- Lemmas of the claim. No conditions beyond those that each states. -/
import Derived.Test.YtmmeopjemkjllaaGreatPU31
import Derived.Test.YtmmeopjemkjllaaGreatPU32
import Derived.ScopeJumps
import Derived.WalkMore
set_option linter.unusedVariables false
set_option linter.unusedSimpArgs false
set_option maxRecDepth 100000
set_option maxHeartbeats 8000000
namespace Go.Proofs.YtmmeopjemkjllaaGreat
section
open Go.RowKit Go.Maps Go.Sort Go.Shelf
def sp0:Sp:=⟨0,0,false,(0,0,0),(0,0,0),(0,0,0),0,0⟩
def rowV (U:List (Int × Value))(k:Int):Value:=(lookM U k).getD (.slice none 0 0)
def own (ma mu:Nat)(U:List (Int × Value))(b:Nat):Prop:=b=ma∨b=mu∨∃ k,(rowV U k).ownBlock=some b
section
variable {W W' : World} {base g ma mu : Nat} {U : List (Int × Value)} {M : Mp}
end
end
section
open Go.RowKit Go.Maps
abbrev Ob:=World→(Nat→Prop)→Prop
structure Good (P:Ob):Prop where
 lt:∀ {W:World} {S:Nat→Prop},P W S→∀ b,S b→b < W.heap.size
 kept:∀ {W W':World} {S:Nat→Prop},P W S→W.heap.size≤W'.heap.size→(∀ b,S b→W'.heap[b]?=W.heap[b]?)→P W' S
def Star (P Q:Ob):Ob:=fun W S=>∃ A B:Nat→Prop,(∀ b,S b↔A b∨B b)∧(∀ b,A b→¬ B b)∧P W A∧Q W B
def Emp:Ob:=fun _ S=>∀ b,¬ S b
theorem good_emp:Good Emp:=⟨fun h b hb=>absurd hb (h b),fun h _ _=>h⟩
theorem Good.star {P Q:Ob} (hP:Good P)(hQ:Good Q):Good (Star P Q):=by
 refine⟨fun ⟨A,B,hS,_,hp,hq⟩ b hb=>?_,fun ⟨A,B,hS,hd,hp,hq⟩ hs hk=>⟨A,B,hS,hd,hP.kept hp hs fun b hb=>hk b ((hS b).2 (.inl hb)),hQ.kept hq hs fun b hb=>hk b ((hS b).2 (.inr hb))⟩⟩
 rcases (hS b).1 hb with h | h
 ·exact hP.lt hp b h
 ·exact hQ.lt hq b h
theorem Star.comm {P Q:Ob} {W:World} {S:Nat→Prop} (h:Star P Q W S):Star Q P W S:=by
 obtain⟨A,B,hS,hd,hp,hq⟩:=h
 exact⟨B,A,fun b=>(hS b).trans Or.comm,fun b h1 h2=>hd b h2 h1,hq,hp⟩
theorem Star.swap {P Q R:Ob} {W:World} {S:Nat→Prop} (h:Star P (Star Q R) W S):Star Q (Star P R) W S:=by
 obtain⟨A,B,hS,hd,hp,C,D,hB,hd2,hq,hr⟩:=h
 refine⟨C,fun b=>A b∨D b,fun b=>?_,fun b hc=>?_,hq,A,D,fun b=>Iff.rfl,fun b ha hdd=>hd b ha ((hB b).2 (.inr hdd)),hp,hr⟩
 ·rw [hS b,hB b]
  constructor
  ·rintro (h | h | h)
   ·exact .inr (.inl h)
   ·exact .inl h
   ·exact .inr (.inr h)
  ·rintro (h | h | h)
   ·exact .inr (.inl h)
   ·exact .inl h
   ·exact .inr (.inr h)
 ·rintro (h | h)
  ·exact hd b h ((hB b).2 (.inl hc))
  ·exact hd2 b hc h
structure Went (W W':World)(S S':Nat→Prop):Prop where
 fr:Fr S W W'
 own:∀ b,S' b→S b∨W.heap.size≤b
theorem Star.step {P Q R:Ob} {W W':World} {S A B:Nat→Prop} (hP:Good P)(hR:Good R)(hS:∀ b,S b↔A b∨B b)(hd:∀ b,A b→¬ B b)(hp:P W A)(hr:R W B) {A':Nat→Prop} (hq:Q W' A')(hw:Went W W' A A'):∃ S',Star Q R W' S'∧Went W W' S S':=by
 refine⟨fun b=>A' b∨B b,⟨A',B,fun b=>Iff.rfl,fun b ha hb=>?_,hq,hR.kept hr hw.fr.size fun b hb=>hw.fr.block b (hR.lt hr b hb) fun ha=>hd b ha hb⟩,⟨hw.fr.weak fun b _ h=>(hS b).2 (.inl h),fun b hb=>?_⟩⟩
 ·rcases hw.own b ha with h | h
  ·exact hd b h hb
  ·have:=hR.lt hr b hb;omega
 ·rcases hb with hb | hb
  ·exact (hw.own b hb).imp (fun h=>(hS b).2 (.inl h)) id
  ·exact .inl ((hS b).2 (.inr hb))
def St (w0 W:World)(P:Ob):Prop:=Below w0.heap.size w0 W∧∃ S,P W S∧∀ b,S b→w0.heap.size≤b
def Acts (φ:Ending→Prop)(P Q:Ob)(f:FuncId)(args:Array Value)(prog:Program)(W:World):Prop:=∀ A,P W A→Calls prog f args W fun e W'=>φ e∧∃ A',Q W' A'∧Went W W' A A'
section
variable {w0 W W' : World} {P P1 P2 P3 Q R : Ob} {φ : Ending → Prop} {f : FuncId} {args : Array Value} {prog : Program}
end
def BoxO (g:Nat)(t:TypeId)(cs:Array Value):Ob:=fun W S=>Blk W g t cs∧∀ b,S b↔b=g
theorem good_box (g:Nat)(t:TypeId)(cs:Array Value):Good (BoxO g t cs) :=
 ⟨fun ⟨h,hS⟩ b hb=>by rw [(hS b).1 hb];exact h.lt,fun ⟨h,hS⟩ _ hk=>⟨(hk g ((hS g).2 rfl)).trans h,hS⟩⟩
theorem owns_heapH {w w':World} {base sz n:Nat} {e:TypeId} {v:Value} {xs:List Value} (h:w.ownsRow base e sz v n xs)(hk:∀ b,v.ownBlock=some b→w'.heap[b]?=w.heap[b]?):w'.ownsRow base e sz v n xs:=by
 refine⟨h.1,?_⟩
 rcases h.2 with h2 | ⟨g,c,cur,rfl,h1,h2,h3⟩
 ·exact .inl h2
 ·exact .inr ⟨g,c,cur,rfl,h1,(hk g rfl).trans h2,h3⟩
end
section
open Go.RowKit Go.Maps Go.Sort Go.Shelf
def IdsW (w:World)(l:List Int)(e:Ending)(w':World):Prop:=∃ v,e=.returned v∧w'.ownsRow w.heap.size 3 1 v l.length (l.map (Value.int .i64))∧Below w.heap.size w w'
end
end Go.Proofs.YtmmeopjemkjllaaGreat
