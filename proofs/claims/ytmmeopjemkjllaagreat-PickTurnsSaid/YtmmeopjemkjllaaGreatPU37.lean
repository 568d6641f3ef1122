/- Lemmas of the claim. No conditions beyond those that each states. -/
import Derived.Test.YtmmeopjemkjllaaGreatPU35
import Derived.Test.YtmmeopjemkjllaaGreatPU36
import Derived.Test.YtmmeopjemkjllaaGreatPU7
import Derived.BigRegionIn
import Derived.Stop.RegionWithIn
import Derived.Test.YtmmeopjemkjllaaGreatPU5
set_option linter.unusedVariables false
set_option linter.unusedSimpArgs false
set_option maxRecDepth 100000
set_option maxHeartbeats 8000000
namespace Go.Proofs.YtmmeopjemkjllaaGreat
section
open Go.RowKit Go.Maps
theorem Went.refl (W:World)(S:Nat→Prop):Went W W S S:=⟨Fr.refl _ _,fun b h=>.inl h⟩
theorem Went.trans {W W1 W2:World} {S S1 S2:Nat→Prop} (h:Went W W1 S S1)(k:Went W1 W2 S1 S2):Went W W2 S S2 :=
 ⟨⟨k.fr.os.trans h.fr.os,k.fr.tape.trans h.fr.tape,k.fr.output.trans h.fr.output,Nat.le_trans h.fr.size k.fr.size,fun b hb hn=>(k.fr.block b (Nat.lt_of_lt_of_le hb h.fr.size) fun h1=>(h.own b h1).elim hn fun h2=>by omega).trans (h.fr.block b hb hn)⟩,
  fun b hb=>(k.own b hb).elim (h.own b) fun h2=>.inr (Nat.le_trans h.fr.size h2)⟩
def Sx (w0:World)(A:Nat→Prop)(W:World)(P:Ob):Prop:=∃ S,P W S∧Went w0 W A S
section
variable {w0 W W' : World} {A : Nat → Prop} {P P1 P2 P3 Q R : Ob} {φ : Ending → Prop} {f : FuncId} {args : Array Value} {prog : Program}
theorem Sx.start (h:P W A):Sx W A W P:=⟨A,h,Went.refl _ _⟩
theorem Sx.done (h:Sx w0 A W Q):∃ A',Q W A'∧Went w0 W A A':=h
theorem Sx.later (hP:Good P)(h:Sx w0 A W P)(hb:Below W.heap.size W W'):Sx w0 A W' P:=by
 obtain⟨S,hp,hw⟩:=h
 exact⟨S,hP.kept hp hb.size fun b hb2=>hb.block b (hP.lt hp b hb2),hw.trans ⟨Fr.of_below hb,fun b h=>.inl h⟩⟩
theorem Sx.weak (h:Sx w0 A W P)(hw:∀ {S},P W S→Q W S):Sx w0 A W Q:=by
 obtain⟨S,hp,h⟩:=h
 exact⟨S,hw hp,h⟩
theorem Sx.swap (h:Sx w0 A W (Star P (Star Q R))):Sx w0 A W (Star Q (Star P R)):=h.weak Star.swap
theorem Star.under {S:Nat→Prop} (h:Star P Q W S)(hw:∀ {B},Q W B→R W B):Star P R W S:=by
 obtain⟨A,B,hS,hd,hp,hq⟩:=h
 exact⟨A,B,hS,hd,hp,hw hq⟩
theorem Star.over {S:Nat→Prop} (h:Star P Q W S)(hw:∀ {B},P W B→R W B):Star R Q W S:=by
 obtain⟨A,B,hS,hd,hp,hq⟩:=h
 exact⟨A,B,hS,hd,hw hp,hq⟩
theorem Sx.swap2 (h:Sx w0 A W (Star P1 (Star P (Star Q R)))):Sx w0 A W (Star P1 (Star Q (Star P R))):=h.weak fun h=>h.under Star.swap
theorem Sx.swap3 (h:Sx w0 A W (Star P1 (Star P2 (Star P (Star Q R))))):Sx w0 A W (Star P1 (Star P2 (Star Q (Star P R)))):=h.weak fun h=>h.under fun h=>h.under Star.swap
theorem Sx.first (h:Sx w0 A W (Star P Q)):∃ S,P W S:=by
 obtain⟨_,⟨A,B,_,_,hp,_⟩,_⟩:=h
 exact⟨A,hp⟩
theorem Sx.rest (h:Sx w0 A W (Star P Q)):Sx w0 A W Q:=by
 obtain⟨S,⟨A,B,hS,_,_,hq⟩,hw⟩:=h
 exact⟨B,hq,hw.fr,fun b hb=>hw.own b ((hS b).2 (.inr hb))⟩
theorem Sx.act (hP:Good P)(hR:Good R)(h:Sx w0 A W (Star P R))(ha:Acts φ P Q f args prog W):Calls prog f args W fun e W'=>φ e∧Sx w0 A W' (Star Q R):=by
 obtain⟨S,⟨A,B,hS,hd,hp,hr⟩,hw0⟩:=h
 refine (ha A hp).mono fun e W' ⟨h1,A',hq,hw⟩=>⟨h1,?_⟩
 obtain⟨S',hs,hw2⟩:=Star.step hP hR hS hd hp hr hq hw
 exact⟨S',hs,hw0.trans hw2⟩
theorem Sx.act0 (h:Sx w0 A W P)(ha:Acts φ P Q f args prog W):Calls prog f args W fun e W'=>φ e∧Sx w0 A W' Q:=by
 obtain⟨S,hp,hw0⟩:=h
 exact (ha S hp).mono fun e W' ⟨h1,A',hq,hw⟩=>⟨h1,A',hq,hw0.trans hw⟩
theorem Sx.made {S:Nat→Prop} (hP:Good P)(hQ:Good Q)(h:Sx w0 A W P)(hb:Below W.heap.size W W')(hq:Q W' S)(hlo:∀ b,S b→W.heap.size≤b):Sx w0 A W' (Star Q P):=by
 obtain⟨B,hp,hw⟩:=h
 refine⟨fun b=>S b∨B b,⟨S,B,fun b=>Iff.rfl,fun b h1 h2=>?_,hq,hP.kept hp hb.size fun b hb2=>hb.block b (hP.lt hp b hb2)⟩,(hw.trans ⟨Fr.of_below hb,fun b h=>.inl h⟩).fr,fun b hb2=>?_⟩
 ·have:=hlo b h1;have:=hP.lt hp b h2;omega
 ·rcases hb2 with h1 | h1
  ·exact .inr (Nat.le_trans hw.fr.size (hlo b h1))
  ·exact hw.own b h1
theorem Sx.new {Z:Nat→Ob} (hP:Good P)(hZ:∀ q,Good (Z q))(h:Sx w0 A W P) {e:Ending} (hn:NewO W Z e W'):∃ q,e=.returned (.pointer (some ⟨q,0,none⟩))∧Sx w0 A W' (Star (Z q) P):=by
 obtain⟨q,he,hb,S,hq,hlo⟩:=hn
 exact⟨q,he,h.made hP (hZ q) hb hq hlo⟩
theorem Sx.alloc (hR:Good R)(h:Sx w0 A W R)(cs:Array Value)(t:TypeId):Sx w0 A (W.alloc (.cells cs t)) (Star (BoxO W.heap.size t cs) R) :=
 h.made (S:=fun b=>b=W.heap.size) hR (good_box _ t cs) ((Below.refl W.heap.size W).alloc (Nat.le_refl _) _) ⟨Blk.new W t cs,fun b=>Iff.rfl⟩ fun b hb=>by rw [hb];exact Nat.le_refl _
theorem Sx.box {B:Nat} {t:TypeId} {cs:Array Value} (h:Sx w0 A W (Star (BoxO B t cs) R)):Blk W B t cs:=by
 obtain⟨S,h,_⟩:=h.first
 exact h
theorem Sx.set {B i:Nat} {t:TypeId} {cs cs':Array Value} {u:Value} (hR:Good R)(h:Sx w0 A W (Star (BoxO B t cs) R))(he:cs.setIfInBounds i u=cs'):Sx w0 A (W.setCell ⟨B,i,none⟩ u) (Star (BoxO B t cs') R):=by
 obtain⟨S,⟨A1,B1,hS,hd,⟨hp,hA1⟩,hr⟩,hw0⟩:=h
 have hg:W.grownBy (W.setCell ⟨B,i,none⟩ u) (some B):=⟨rfl,rfl,rfl,by simp [World.setCell],fun k hk hne=>Below.heap_setCell W ⟨B,i,none⟩ u k (by show k≠B;rintro rfl;exact hne rfl)⟩
 have hq:BoxO B t cs' (W.setCell ⟨B,i,none⟩ u) A1:=⟨by rw [← he];exact hp.set_ i u,hA1⟩
 obtain⟨S',hs,hw2⟩:=Star.step (good_box B t cs) hR hS hd ⟨hp,hA1⟩ hr hq ⟨Fr.of_grown hg fun b e=>by cases e;exact (hA1 B).2 rfl,fun b h=>.inl h⟩
 exact⟨S',hs,hw0.trans hw2⟩
end
def StarL {α:Type} (f:α→Ob):List α→Ob
 | []=>Emp
 | a :: l=>Star (f a) (StarL f l)
theorem good_starL {α:Type} {f:α→Ob} (hf:∀ a,Good (f a)):∀ l:List α,Good (StarL f l)
 | []=>good_emp
 | a :: l=>(hf a).star (good_starL hf l)
theorem starL_congr {α:Type} {f g:α→Ob} {W:World}:∀ {l:List α} {S:Nat→Prop},(∀ a∈l,∀ S,f a W S→g a W S)→StarL f l W S→StarL g l W S
 | [],S,_,h=>h
 | a :: l,S,h,⟨A,B,hS,hd,hp,hq⟩=>⟨A,B,hS,hd,h a (.head _) A hp,starL_congr (fun b hb=>h b (.tail _ hb)) hq⟩
section
variable {α : Type} {f : Int × α → Ob} {W : World}
theorem del_none {M:List (Int × α)} {k:Int} (h:lookM M k=none):delM M k=M:=by
 unfold delM
 refine List.filter_eq_self.2 fun p hp=>?_
 simpa using look_none.1 h p hp
theorem del_head {r:List (Int × α)} {p:Int × α} (hR:Rising (p :: r)):delM r p.1=r:=by
 refine del_none (look_none.2 fun q hq=>?_)
 have:=(List.pairwise_cons.1 hR).1 q hq
 omega
theorem starL_put {k:Int} {v:α}:∀ {M:List (Int × α)} {S:Nat→Prop},Rising M→(StarL f (putM M k v) W S↔Star (f (k,v)) (StarL f (delM M k)) W S)
 | [],S,_=>Iff.rfl
 | p :: r,S,hR=>by
  have hRr:=(List.pairwise_cons.1 hR).2
  unfold putM
  by_cases h1:k < p.1
  ·rw [if_pos h1]
   have:delM (p :: r) k=p :: r:=del_none (look_none.2 fun q hq=>by
    rcases List.mem_cons.1 hq with rfl | hq
    ·omega
    ·have:=(List.pairwise_cons.1 hR).1 q hq;omega)
   rw [this]
   exact Iff.rfl
  ·rw [if_neg h1]
   by_cases h2:p.1=k
   ·rw [if_pos h2]
    have:delM (p :: r) k=r:=by
     unfold delM
     rw [List.filter_cons_of_neg (by simp [h2])]
     rw [← h2]
     exact del_head hR
    rw [this]
    exact Iff.rfl
   ·rw [if_neg h2]
    have:delM (p :: r) k=p :: delM r k:=by
     unfold delM
     rw [List.filter_cons_of_pos (by simp [h2])]
    rw [this]
    constructor
    ·exact fun h=>Star.swap (h.under fun h=>(starL_put hRr).1 h)
    ·exact fun h=>(Star.swap h).under fun h=>(starL_put hRr).2 h
theorem starL_look {k:Int} {v:α} {M:List (Int × α)} {S:Nat→Prop} (hR:Rising M)(hv:lookM M k=some v):StarL f M W S↔Star (f (k,v)) (StarL f (delM M k)) W S:=by
 rw [← starL_put hR,put_look hR hv]
theorem starL_mem {k:Int} {v:α} {M:List (Int × α)} {S:Nat→Prop} (hR:Rising M)(hv:lookM M k=some v)(h:StarL f M W S):∃ B,f (k,v) W B:=by
 obtain⟨A,B,_,_,hp,_⟩:=(starL_look hR hv).1 h
 exact⟨A,hp⟩
end
end
section
open Go.RowKit Go.Maps
def recC {α:Type} (f:α→List Value)(L:List α):List Value:=L.flatMap f
section
variable {α : Type} {f : α → List Value} {sz : Nat}
theorem recC_cons (a:α)(L:List α):recC f (a :: L)=f a ++ recC f L:=rfl
theorem recC_append (A B:List α):recC f (A ++ B)=recC f A ++ recC f B:=by simp [recC]
theorem recC_at (hf:∀ a,(f a).length=sz):∀ (L:List α)(i:Nat)(e:α)(c:Nat),L[i]?=some e→c < sz→(recC f L)[i*sz+c]?=(f e)[c]?
 | [],i,e,c,h,_=>by cases h
 | x :: L,0,e,c,h,hc=>by
  cases h
  rw [recC_cons,Nat.zero_mul,Nat.zero_add,List.getElem?_append_left (by rw [hf];exact hc)]
 | x :: L,i+1,e,c,h,hc=>by
  have:=recC_at hf L i e c h hc
  rw [recC_cons,show (i+1)*sz+c=sz+(i*sz+c) by rw [Nat.add_mul];omega,List.getElem?_append_right (by rw [hf];omega),hf,← this]
  congr 1;omega
theorem recC_set (hf:∀ a,(f a).length=sz):∀ (L:List α)(i:Nat)(e e':α)(c:Nat)(u:Value),L[i]?=some e→c < sz→f e'=(f e).set c u→(recC f L).set (i*sz+c) u=recC f (L.set i e')
 | [],i,e,e',c,u,h,_,_=>by cases h
 | x :: L,0,e,e',c,u,h,hc,he=>by
  cases h
  rw [recC_cons,Nat.zero_mul,Nat.zero_add,List.set_append_left _ _ (by rw [hf];exact hc),List.set_cons_zero,recC_cons,he]
 | x :: L,i+1,e,e',c,u,h,hc,he=>by
  have:=recC_set hf L i e e' c u h hc he
  rw [recC_cons,show (i+1)*sz+c=sz+(i*sz+c) by rw [Nat.add_mul];omega,List.set_append_right _ _ (by rw [hf];omega),hf,show sz+(i*sz+c) - sz=i*sz+c by omega,this,List.set_cons_succ,recC_cons]
theorem recC_same:∀ {L:List α} {i:Nat} {e e':α},L[i]?=some e→f e'=f e→recC f (L.set i e')=recC f L
 | [],i,e,e',h,_=>by cases h
 | x :: L,0,e,e',h,he=>by cases h;rw [List.set_cons_zero,recC_cons,recC_cons,he]
 | x :: L,i+1,e,e',h,he=>by
  have hi:L[i]?=some e:=h
  rw [List.set_cons_succ,recC_cons,recC_cons,recC_same hi he]
end
def RecO {α:Type} (ty:TypeId)(sz:Nat)(f:α→List Value)(v:Value)(L:List α):Ob:=fun W S=>W.ownsRow 0 ty sz v L.length (recC f L)∧∀ b,S b↔v.ownBlock=some b
section
variable {α : Type} {ty : TypeId} {f : α → List Value} {sz : Nat} {v : Value} {L : List α} {W : World} {S : Nat → Prop}
theorem good_rec:Good (RecO ty sz f v L) :=
 ⟨fun ⟨h,hS⟩ b hb=>(h.lt b ((hS b).1 hb)).2,fun ⟨h,hS⟩ _ hk=>⟨owns_heapH h fun b hb=>hk b ((hS b).2 hb),hS⟩⟩
theorem RecO.form (h:RecO ty sz f v L W S):(v=.slice none 0 0∧L=[])∨∃ g cap,v=.slice (some ⟨g,0,none⟩) L.length cap∧L.length≤cap∧g < W.heap.size:=by
 rcases h.1.2 with ⟨h1,h2⟩ | ⟨g,c,cur,h1,_,h3,h4,_⟩
 ·exact .inl ⟨h1,List.eq_nil_of_length_eq_zero h2⟩
 ·exact .inr ⟨g,c,h1,h4,(Array.getElem?_eq_some_iff.1 h3).1⟩
theorem RecO.slice (h:RecO ty sz f v L W S):∃ a cap,v=.slice a L.length cap:=by
 rcases h.form with ⟨h1,h2⟩ | ⟨g,c,h1,_⟩
 ·exact⟨none,0,by rw [h1,h2];rfl⟩
 ·exact⟨_,_,h1⟩
theorem RecO.isS (h:RecO ty sz f v L W S) {i:Nat} {e:α} (he:L[i]?=some e):∃ g cap,v=.slice (some ⟨g,0,none⟩) L.length cap∧L.length≤cap∧g < W.heap.size:=by
 rcases h.form with ⟨_,rfl⟩ | h
 ·cases he
 ·exact h
theorem RecO.cell (hf:∀ a,(f a).length=sz) {g cap:Nat} (h:RecO ty sz f (.slice (some ⟨g,0,none⟩) L.length cap) L W S) {i:Nat} {e:α} (he:L[i]?=some e)(c:Nat)(hc:c < sz):W.cell? ⟨g,i*sz+c,none⟩=(f e)[c]?:=by
 have hlt:=(List.getElem?_eq_some_iff.1 he).1
 have h2:(i+1)*sz≤L.length*sz:=Nat.mul_le_mul_right _ hlt
 rw [Nat.add_mul] at h2
 rw [h.1.cellAt (i*sz+c) (by omega),recC_at hf L i e c he hc]
theorem RecO.set (hf:∀ a,(f a).length=sz) {g cap:Nat} (h:RecO ty sz f (.slice (some ⟨g,0,none⟩) L.length cap) L W S) {i:Nat} {e e':α} (he:L[i]?=some e) {c:Nat} (hc:c < sz) {u:Value} (hu:f e'=(f e).set c u) :
  RecO ty sz f (.slice (some ⟨g,0,none⟩) L.length cap) (L.set i e') (W.setCell ⟨g,i*sz+c,none⟩ u) S∧W.grownBy (W.setCell ⟨g,i*sz+c,none⟩ u) (some g):=by
 have h1:=h.1.stored (i*sz+c) u
 rw [recC_set hf L i e e' c u he hc hu] at h1
 refine⟨⟨?_,h.2⟩,h1.2⟩
 rw [List.length_set]
 exact h1.1
end
section
variable {α : Type} {ty : TypeId} {f : α → List Value} {sz : Nat} {v : Value} {L : List α} {w0 W W' : World} {A : Nat → Prop} {R P1 : Ob}
theorem Sx.setR (hf:∀ a,(f a).length=sz) {g cap:Nat} (hR:Good R)(h:Sx w0 A W (Star (RecO ty sz f (.slice (some ⟨g,0,none⟩) L.length cap) L) R)) {i:Nat} {e e':α} (he:L[i]?=some e) {c:Nat} (hc:c < sz) {u:Value} (hu:f e'=(f e).set c u) :
  Sx w0 A (W.setCell ⟨g,i*sz+c,none⟩ u) (Star (RecO ty sz f (.slice (some ⟨g,0,none⟩) L.length cap) (L.set i e')) R):=by
 obtain⟨S,⟨A1,B1,hS,hd,hp,hr⟩,hw0⟩:=h
 obtain⟨hq,hg⟩:=hp.set hf he hc hu
 obtain⟨S',hs,hw2⟩:=Star.step (A':=A1) good_rec hR hS hd hp hr hq ⟨Fr.of_grown hg fun b e=>by cases e;exact (hp.2 g).2 rfl,fun b h=>.inl h⟩
 exact⟨S',hs,hw0.trans hw2⟩
theorem Sx.turnR {v':Value} {L':List α} (hR:Good R)(h:Sx w0 A W (Star (RecO ty sz f v L) R))(hq:W'.ownsRow 0 ty sz v' L'.length (recC f L'))(hg:W.grownBy W' v.ownBlock)(hn:∀ b,v'.ownBlock=some b→v.ownBlock=some b∨W.heap.size≤b) :
  Sx w0 A W' (Star (RecO ty sz f v' L') R):=by
 obtain⟨S,⟨A1,B1,hS,hd,hp,hr⟩,hw0⟩:=h
 obtain⟨S',hs,hw2⟩:=Star.step (A':=fun b=>v'.ownBlock=some b) (Q:=RecO ty sz f v' L') good_rec hR hS hd hp hr ⟨hq,fun b=>Iff.rfl⟩ ⟨Fr.of_grown hg fun b e=>(hp.2 b).2 e,fun b hb=>(hn b hb).imp (fun h=>(hp.2 b).2 h) id⟩
 exact⟨S',hs,hw0.trans hw2⟩
end
end
section
open Go.RowKit Go.Maps
def MapO (mb:Nat)(L:List (Int × Value)):Ob:=fun W S=>MapI Tryz.prog 3 W mb L∧∀ b,S b↔b=mb
theorem good_map (mb:Nat)(L:List (Int × Value)):Good (MapO mb L) :=
 ⟨fun ⟨h,hS⟩ b hb=>by rw [(hS b).1 hb];exact h.lt,fun ⟨h,hS⟩ _ hk=>⟨h.heap (hk mb ((hS mb).2 rfl)),hS⟩⟩
def ptV {α:Type} (ps:Int→Nat)(M:List (Int × α)):List (Int × Value):=M.map fun q=>(q.1,.pointer (some ⟨ps q.1,0,none⟩))
theorem look_pt {α:Type} (ps:Int→Nat)(k:Int):∀ M:List (Int × α),lookM (ptV ps M) k=(lookM M k).map fun _=>.pointer (some ⟨ps k,0,none⟩)
 | []=>rfl
 | p :: r=>by
  have:=look_pt ps k r
  unfold ptV at this ⊢
  rw [List.map_cons]
  unfold lookM
  by_cases e:p.1=k
  ·rw [if_pos e,if_pos e,e];rfl
  ·rw [if_neg e,if_neg e,this]
theorem rising_pt {α:Type} {ps:Int→Nat} {M:List (Int × α)}:Rising (ptV ps M)↔Rising M:=by
 unfold Rising ptV
 rw [List.pairwise_map]
theorem put_pt {α:Type} {ps ps':Int→Nat} {k:Int} {v:α}:∀ {M:List (Int × α)},Rising M→(∀ q∈M,q.1≠k→ps' q.1=ps q.1)→ptV ps' (putM M k v)=putM (ptV ps M) k (.pointer (some ⟨ps' k,0,none⟩))
 | [],_,_=>rfl
 | p :: r,hR,h=>by
  have hr:∀ q∈r,q.1≠k→ps' q.1=ps q.1:=fun q hq=>h q (.tail _ hq)
  have ih:=put_pt (v:=v) (List.pairwise_cons.1 hR).2 hr
  have hgt:=(List.pairwise_cons.1 hR).1
  have hptr:(∀ q∈r,q.1≠k)→ptV ps' r=ptV ps r:=fun hn=>List.map_congr_left fun q hq=>by rw [hr q hq (hn q hq)]
  show ptV ps' (putM (p :: r) k v)=putM ((p.1,.pointer (some ⟨ps p.1,0,none⟩)) :: ptV ps r) k _
  unfold putM
  dsimp only
  by_cases h1:k < p.1
  ·rw [if_pos h1,if_pos h1]
   have h2:=hptr fun q hq=>by have:=hgt q hq;omega
   have h3:=h p (.head _) (by omega)
   show (k,Value.pointer (some ⟨ps' k,0,none⟩)) :: (p.1,.pointer (some ⟨ps' p.1,0,none⟩)) :: ptV ps' r=_
   rw [h2,h3]
  ·rw [if_neg h1,if_neg h1]
   by_cases h2:p.1=k
   ·rw [if_pos h2,if_pos h2]
    have h3:=hptr fun q hq=>by have:=hgt q hq;omega
    show (k,Value.pointer (some ⟨ps' k,0,none⟩)) :: ptV ps' r=_
    rw [h3]
   ·rw [if_neg h2,if_neg h2]
    show (p.1,Value.pointer (some ⟨ps' p.1,0,none⟩)) :: ptV ps' (putM r k v)=_
    rw [ih,h p (.head _) h2]
def memB (p:Nat)(m:Mem):Ob:=fun W S=>∃ r,Star (BoxO p 139 #[.int .u64 m.tot,.int .u64 m.v,.pointer (some ⟨r,0,none⟩),.bool m.aw]) (RunO r m.rn) W S
theorem good_mem (p:Nat)(m:Mem):Good (memB p m) :=
 ⟨fun ⟨r,h⟩ b hb=>((good_box _ _ _).star (good_run r m.rn)).lt h b hb,fun ⟨r,h⟩ hs hk=>⟨r,((good_box _ _ _).star (good_run r m.rn)).kept h hs hk⟩⟩
def FamX (f mb:Nat)(ps:Int→Nat)(F:Fam):Ob:=Star (BoxO f 112 #[.map (some mb),.int .u64 F.mark]) (Star (MapO mb (ptV ps F.m)) (StarL (fun q=>memB (ps q.1) q.2) F.m))
theorem good_famX (f mb:Nat)(ps:Int→Nat)(F:Fam):Good (FamX f mb ps F):=(good_box _ _ _).star ((good_map _ _).star (good_starL (fun q=>good_mem _ _) _))
def FamO (f:Nat)(F:Fam):Ob:=fun W S=>∃ mb ps,FamX f mb ps F W S
theorem good_fam (f:Nat)(F:Fam):Good (FamO f F) :=
 ⟨fun ⟨mb,ps,h⟩ b hb=>(good_famX _ _ _ _).lt h b hb,fun ⟨mb,ps,h⟩ hs hk=>⟨mb,ps,(good_famX _ _ _ _).kept h hs hk⟩⟩
section
variable {W : World} {f mb : Nat} {ps : Int → Nat} {F : Fam} {S : Nat → Prop}
theorem FamX.map (h:FamX f mb ps F W S):MapI Tryz.prog 3 W mb (ptV ps F.m):=by
 obtain⟨_,B,_,_,_,C,_,_,_,hm,_⟩:=h
 exact hm.1
theorem FamX.box (h:FamX f mb ps F W S):Blk W f 112 #[.map (some mb),.int .u64 F.mark]:=by
 obtain⟨_,B,_,_,hp,_⟩:=h
 exact hp.1
theorem FamX.rising (h:FamX f mb ps F W S):Rising F.m:=rising_pt.1 (h.map.rising (int_keyed Tryz.underlying3))
theorem FamX.mem (h:FamX f mb ps F W S) {id:Int} {m:Mem} (hm:lookM F.m id=some m):∃ r,Blk W (ps id) 139 #[.int .u64 m.tot,.int .u64 m.v,.pointer (some ⟨r,0,none⟩),.bool m.aw]:=by
 have hr:=h.rising
 obtain⟨_,B,_,_,hp,_,D,_,_,_,hl⟩:=h
 obtain⟨B',r,_,_,_,_,hb,_⟩:=starL_mem hr hm hl
 exact⟨r,hb.1⟩
def mpV (ps:Int→Nat)(F:Fam)(id:Int):Value:=match lookM F.m id with
 | none=>.pointer none
 | some _=>.pointer (some ⟨ps id,0,none⟩)
theorem vat_any (id:Int)(hid:(Lit.int .i64 id).wf=true)(h:FamX f mb ps F W S) :
  Calls Tryz.prog 84 #[.pointer (some ⟨f,0,none⟩),.int .i64 id] W fun e W'=>e=.returned (mpV ps F id)∧W=W':=by
 have hq:=h.map.look (k:=id) (E:=136) (T:=110) (z:=.pointer none) Tryz.underlying3 Tryz.underlying110 (by exact Tryz.zeroValue136 _) hid
 rw [look_pt] at hq
 have hz:((lookM F.m id).map fun _=>Value.pointer (some ⟨ps id,0,none⟩)).getD (.pointer none)=mpV ps F id:=by
  unfold mpV
  cases lookM F.m id <;> rfl
 rw [hz] at hq
 have c0:=h.box.cell 0
 simp only [lTA,lCZ,lCS] at c0
 clear h hz
 go_enter Tryz.func84,Tryz.ntmps84
 go_wp2_with fail
 go_ret
 exact⟨rfl,rfl⟩
def fvF (F:Fam)(id:Int):Int:=match lookM F.m id with
 | none=>0
 | some m=>m.v
def fawF (F:Fam)(id:Int):Bool:=match lookM F.m id with
 | none=>false
 | some m=>m.aw
theorem vv_any (id:Int)(hid:(Lit.int .i64 id).wf=true)(h:FamX f mb ps F W S) :
  Calls Tryz.prog 76 #[.pointer (some ⟨f,0,none⟩),.int .i64 id] W fun e W'=>e=.returned (.int .u64 (fvF F id))∧W=W':=by
 have ha:=vat_any id hid h
 unfold mpV at ha
 unfold fvF
 cases hl:lookM F.m id with
 | none =>
  rw [hl] at ha
  dsimp only at ha ⊢
  clear h
  go_enter Tryz.func76,Tryz.ntmps76
  go_wp2_with (go_at_call 84;refine ha.mono ?_;rintro e w1 ⟨rfl,rfl⟩)
  go_ret
  exact⟨rfl,rfl⟩
 | some m =>
  rw [hl] at ha
  obtain⟨r,hb⟩:=h.mem hl
  have c1:=hb.cell 1
  simp only [lTA,lCZ,lCS] at c1
  dsimp only at ha ⊢
  clear h hb
  go_enter Tryz.func76,Tryz.ntmps76
  go_wp2_with (go_at_call 84;refine ha.mono ?_;rintro e w1 ⟨rfl,rfl⟩)
  go_ret
  exact⟨rfl,rfl⟩
theorem vawake_any (id:Int)(hid:(Lit.int .i64 id).wf=true)(h:FamX f mb ps F W S) :
  Calls Tryz.prog 71 #[.pointer (some ⟨f,0,none⟩),.int .i64 id] W fun e W'=>e=.returned (.bool (fawF F id))∧W=W':=by
 have ha:=vat_any id hid h
 unfold mpV at ha
 unfold fawF
 cases hl:lookM F.m id with
 | none =>
  rw [hl] at ha
  dsimp only at ha ⊢
  clear h
  go_enter Tryz.func71,Tryz.ntmps71
  go_wp2_with (go_at_call 84;refine ha.mono ?_;rintro e w1 ⟨rfl,rfl⟩)
  go_ret
  exact⟨rfl,rfl⟩
 | some m =>
  rw [hl] at ha
  obtain⟨r,hb⟩:=h.mem hl
  have c3:=hb.cell 3
  simp only [lTA,lCZ,lCS] at c3
  dsimp only at ha ⊢
  clear h hb
  go_enter Tryz.func71,Tryz.ntmps71
  go_wp2_with (go_at_call 84;refine ha.mono ?_;rintro e w1 ⟨rfl,rfl⟩)
  go_ret
  exact⟨rfl,rfl⟩
end
end
section
open Go.RowKit Go.Maps
def famC (mb:Nat)(mark:Int):Array Value:=#[.map (some mb),.int .u64 mark]
def memC (m:Mem)(r:Nat):Array Value:=#[.int .u64 m.tot,.int .u64 m.v,.pointer (some ⟨r,0,none⟩),.bool m.aw]
def RestF (mb:Nat)(ps:Int→Nat)(F:Fam)(id:Int):Ob:=Star (MapO mb (ptV ps F.m)) (StarL (fun q=>memB (ps q.1) q.2) (delM F.m id))
theorem good_restF (mb:Nat)(ps:Int→Nat)(F:Fam)(id:Int):Good (RestF mb ps F id):=(good_map _ _).star (good_starL (fun q=>good_mem _ _) _)
def FocX (f mb:Nat)(ps:Int→Nat)(id:Int)(r:Nat)(cs:Array Value)(x:Rn)(mark:Int)(F:Fam):Ob:=Star (BoxO (ps id) 139 cs) (Star (RunO r x) (Star (BoxO f 112 (famC mb mark)) (RestF mb ps F id)))
section
variable {w0 W : World} {A : Nat → Prop} {f mb r : Nat} {ps : Int → Nat} {F : Fam} {id mark : Int} {m m' : Mem} {S : Nat → Prop} {cs : Array Value} {x : Rn}
theorem good_foc2:Good (Star (BoxO f 112 (famC mb mark)) (RestF mb ps F id)):=(good_box _ _ _).star (good_restF _ _ _ _)
theorem good_foc1:Good (Star (RunO r x) (Star (BoxO f 112 (famC mb mark)) (RestF mb ps F id))):=(good_run _ _).star good_foc2
theorem good_foc:Good (FocX f mb ps id r cs x mark F):=(good_box _ _ _).star good_foc1
theorem Star.assoc {P Q R:Ob} {W:World} {S:Nat→Prop} (h:Star (Star P Q) R W S):Star P (Star Q R) W S:=by
 obtain⟨A,B,hS,hd,⟨C,D,hA,hd2,hp,hq⟩,hr⟩:=h
 refine⟨C,fun b=>D b∨B b,fun b=>by rw [hS,hA];exact or_assoc,fun b hc=>?_,hp,D,B,fun b=>Iff.rfl,fun b hdd=>hd b ((hA b).2 (.inr hdd)),hq,hr⟩
 rintro (h | h)
 ·exact hd2 b hc h
 ·exact hd b ((hA b).2 (.inl hc)) h
theorem Star.unassoc {P Q R:Ob} {W:World} {S:Nat→Prop} (h:Star P (Star Q R) W S):Star (Star P Q) R W S:=by
 obtain⟨C,E,hS,hd,hp,D,B,hE,hd2,hq,hr⟩:=h
 refine⟨fun b=>C b∨D b,B,fun b=>by rw [hS,hE];exact or_assoc.symm,fun b hc hb=>?_,⟨C,D,fun b=>Iff.rfl,fun b hc hdd=>hd b hc ((hE b).2 (.inl hdd)),hp,hq⟩,hr⟩
 rcases hc with hc | hc
 ·exact hd b hc ((hE b).2 (.inr hb))
 ·exact hd2 b hc hb
theorem Sx.focus (h:Sx w0 A W (FamX f mb ps F))(hm:lookM F.m id=some m):∃ r,Sx w0 A W (FocX f mb ps id r (memC m r) m.rn F.mark F):=by
 obtain⟨S,hf,hw⟩:=h
 have hR:=hf.rising
 have h1:Star (BoxO f 112 (famC mb F.mark)) (Star (MapO mb (ptV ps F.m)) (Star (memB (ps id) m) (StarL (fun q=>memB (ps q.1) q.2) (delM F.m id)))) W S :=
  hf.under fun h=>h.under fun h=>(starL_look hR hm).1 h
 have h2:Star (memB (ps id) m) (Star (BoxO f 112 (famC mb F.mark)) (RestF mb ps F id)) W S:=Star.swap (h1.under Star.swap)
 obtain⟨A1,B,hS,hd,⟨r,hp⟩,hq⟩:=h2
 exact⟨r,S,Star.assoc ⟨A1,B,hS,hd,hp,hq⟩,hw⟩
theorem Sx.unfocus (h:Sx w0 A W (FocX f mb ps id r (memC m' r) m'.rn mark F))(hm:lookM F.m id=some m):Sx w0 A W (FamO f ⟨putM F.m id m',mark⟩):=by
 refine h.weak fun {S} h=>?_
 have hR:Rising F.m:=by
  obtain⟨_,_,_,_,_,_,_,_,_,_,_,_,_,_,_,_,_,_,_,hmm,_⟩:=h
  exact rising_pt.1 (hmm.1.rising (int_keyed Tryz.underlying3))
 obtain⟨A1,B,hS,hd,hp,hq⟩:=Star.unassoc h
 have h2:Star (memB (ps id) m') (Star (BoxO f 112 (famC mb mark)) (RestF mb ps F id)) W S:=⟨A1,B,hS,hd,⟨r,hp⟩,hq⟩
 have h1:Star (BoxO f 112 (famC mb mark)) (Star (MapO mb (ptV ps F.m)) (Star (memB (ps id) m') (StarL (fun q=>memB (ps q.1) q.2) (delM F.m id)))) W S:=(Star.swap h2).under Star.swap
 refine⟨mb,ps,h1.under fun h=>(h.under fun h=>(starL_put hR).2 h).over fun h=>?_⟩
 have:ptV ps (putM F.m id m')=ptV ps F.m:=by
  rw [put_pt (ps:=ps) hR fun _ _ _=>rfl]
  exact put_look (rising_pt.2 hR) (by rw [look_pt,hm];rfl)
 rw [this]
 exact h
end
theorem fo_sleep {W:World} {f:Nat} {F:Fam} (id:Int)(hid:(Lit.int .i64 id).wf=true) :
  Acts (fun e=>e=.returned (.tuple #[])) (FamO f F) (FamO f (sleepF id F)) 59 #[.pointer (some ⟨f,0,none⟩),.int .i64 id] Tryz.prog W:=fun A ⟨mb,ps,h⟩=>by
 have ha:=vat_any id hid h
 unfold mpV at ha
 unfold sleepF
 cases hl:lookM F.m id with
 | none =>
  rw [hl] at ha
  dsimp only at ha ⊢
  have H:=Lib.hid h
  clear h
  go_enter Tryz.func59,Tryz.ntmps59
  go_wp2_with (go_at_call 84;refine ha.mono ?_;rintro e w1 ⟨rfl,rfl⟩)
  go_returns
  exact⟨rfl,A,⟨mb,ps,H.out⟩,Went.refl _ _⟩
 | some m =>
  rw [hl] at ha
  obtain⟨r,hs⟩:=(Sx.start (P:=FamX f mb ps F) h).focus hl
  have f3:=hs.box.frozen 3
  have c3:=hs.box.cell 3
  unfold memC at c3
  simp only [lTA,lCZ,lCS] at c3
  dsimp only at ha ⊢
  have H:=Lib.hid hs
  have HL:=Lib.hid hl
  clear h hs hl
  go_enter Tryz.func59,Tryz.ntmps59
  go_wp2_with (go_at_call 84;refine ha.mono ?_;rintro e w1 ⟨rfl,rfl⟩)
  go_returns
  exact⟨rfl,(Sx.unfocus (m':={ m with aw:=false }) (H.out.set good_foc1 rfl) HL.out).done⟩
end
section
open Go.RowKit Go.Maps Go.Shelf
attribute [local go_sem] Oper.semAt_some
def KpU (n0:Nat)(A B:World):Prop:=Below n0 A B∧KeepsWalks A B
abbrev AwX (M:List (Int × Mem)):={x:Int // ∃ m,lookM M x=some m∧m.aw=true}
abbrev encUp {M:List (Int × Mem)} (ps:Int→Nat)(x:AwX M):Array Value:=#[.int .i64 x.1,.pointer (some ⟨ps x.1,0,none⟩)]
def Awk (M:List (Int × Mem))(ss:List Int):Prop:=ss.Nodup∧∀ x,x∈ss↔∃ m,lookM M x=some m∧m.aw=true
def CameA (M:List (Int × Mem))(left:Lit→Bool)(ss:List Int):Prop:=ss.Nodup∧∀ x,x∈ss↔((∃ m,lookM M x=some m∧m.aw=true)∧left (.int .i64 x)=false)
theorem CameA.start {M:List (Int × Mem)} {ps:Int→Nat}:CameA M (Maps.has (toD (ptV ps M))) []:=⟨List.nodup_nil,fun x=>by
 rw [toD_has,look_pt]
 constructor
 ·intro h;cases h
 ·rintro ⟨⟨m,hm,_⟩,h⟩
  rw [hm] at h;cases h⟩
theorem CameA.step {M:List (Int × Mem)} {left:Lit→Bool} {ss:List Int} (h:CameA M left ss) {x:Int} {m:Mem} (hlk:left (.int .i64 x)=true)(hm:lookM M x=some m) :
  CameA M (fun z=>left z && !z.sameKey (.int .i64 x)) (if m.aw=true then ss ++ [x] else ss):=by
 have hnew:x ∉ ss:=fun hx=>by have:=((h.2 x).1 hx).2;rw [hlk] at this;cases this
 by_cases ha:m.aw=true
 ·rw [if_pos ha]
  refine⟨List.nodup_append.2 ⟨h.1,by simp,fun a ha b hb=>by simp at hb;subst hb;exact fun e=>hnew (e ▸ ha)⟩,fun y=>?_⟩
  by_cases hy:y=x
  ·subst hy;simp [hm,ha,Lit.sameKey]
  ·simp [h.2 y,hy,Lit.sameKey]
 ·rw [if_neg ha]
  refine⟨h.1,fun y=>?_⟩
  by_cases hy:y=x
  ·subst hy;simp [hm,ha,hnew]
  ·simp [h.2 y,hy,Lit.sameKey]
theorem CameA.done {M:List (Int × Mem)} {left:Lit→Bool} {ss:List Int} (h:CameA M left ss)(hl:∀ kl,left kl=false):Awk M ss:=⟨h.1,fun x=>by rw [h.2 x,hl];simp⟩
def MemsR (w:World)(n0:Nat)(ps:Int→Nat)(M:List (Int × Mem)):Prop:=∀ id m,lookM M id=some m→∃ r,Blk w (ps id) 139 (memC m r)∧ps id < n0
theorem MemsR.below {w w':World} {n0:Nat} {ps:Int→Nat} {M:List (Int × Mem)} (h:MemsR w n0 ps M)(hb:Below n0 w w'):MemsR w' n0 ps M:=fun id m hm=>by
 obtain⟨r,hB,hlt⟩:=h id m hm
 exact⟨r,hB.below hb hlt,hlt⟩
theorem up_stops (n n0 B f mb:Nat)(mark:Value)(ps:Int→Nat)(M:List (Int × Mem))(w:World)(hB:Blk w B 59 #[.pointer (some ⟨f,0,none⟩)])(hf:Blk w f 112 #[.map (some mb),mark])(hm:MapI Tryz.prog 3 w mb (ptV ps M))(hc:MemsR w n0 ps M)(hn0:n0≤w.heap.size) :
  SeqStopsK Fence.wide n Tryz.prog 150 #[.pointer (some ⟨B,0,none⟩)] (encUp (M:=M) ps) (KpU n0) (fun ss=>Awk M (ss.map (·.1))) (fun _=>True) M.length w:=fun l J Jx W hW hJ hJx hY h0=>by
 have c0:=(hB.below hW hB.lt).cell 0
 have c1:=(hf.below hW hf.lt).cell 0
 have hm':=hm.heap (hW.block mb hm.lt)
 have hc':=hc.below (hW.mono hn0)
 simp only [lTA,lCZ,lCS] at c0 c1
 have HN:=Lib.hid (Nat.le_trans hn0 hW.size)
 have HC:=Lib.hid hc'
 have HY:=Lib.hid hY
 have HJ:=Lib.hid hJ
 have H0:=Lib.hid h0
 clear hB hf hm hc hW hn0 hY hJ h0 hc' hJx
 unfold MapI at hm'
 have ku:Keyed Tryz.prog 3:=int_keyed Tryz.underlying3
 refine callsIn_of_wp Tryz.func150 rfl trivial ?_ rfl
 simp only [Tryz.ntmps150,List.size_toArray,List.length_cons,List.length_nil,Nat.reduceAdd,Nat.reduceSub,Array.replicate_succ,Array.replicate_zero,List.push_toArray,List.append_toArray,List.nil_append,List.cons_append]
 gi_wp2_with (first
  | (gi_at_range;refine wpListIn_range_own _ rfl _ 110 rfl 3 136 ku Tryz.underlying110 _ mb _ _ rfl hm' ?_;intro w0 hrg0 hg0 hs0)
  | gi_in)
 try go_frame
 gi_loopw [3,4] (fun _ _ wr=>∃ (left:Lit→Bool) (cnt:Nat) (ss:List (AwX M)),wr.ranges Tryz.prog 3 asIs mb W.heap.size (ptV ps M).length (toD (ptV ps M)) left cnt∧ss.length+cnt≤M.length∧CameA M left (ss.map (·.1))∧J ss wr∧Below n0 W wr)
  (fun _ _ wr=>wr.rangeLeft mb W.heap.size)
 case atStart =>
  exact⟨_,_,[],hrg0,by simp [size_toD,ptV],CameA.start,HJ.out [] W w0 none H0.out hg0 (fun r e=>by cases e),⟨hg0.os,hg0.tape,hg0.output,hg0.size,fun k hk=>hg0.block k (Nat.lt_of_lt_of_le hk HN.out) (by simp)⟩⟩
 case round =>
  obtain⟨left,cnt,ss,hrg,hcs,hC,hJs,hBW⟩:=hrel
  have HB:=Lib.hid hBW
  have HX:=Lib.hid (And.intro hcs hC)
  clear hBW hcs hC
  gi_wp2_with (first
   | (gi_at_next;refine wpListIn_next_ranges _ rfl _ rfl 3 ku asIs (Value.int .i64) id (fun key kl hk=>by obtain⟨x,hx,_⟩:=Maps.keyOf_int_inv Tryz.underlying3 hk;exact⟨x,hx⟩) (fun v _ _=>⟨v,rfl⟩) mb W.heap.size _ _ _ _ rfl hrg ?_ ?_)
   | gi_in)
  ·intro hc0 hl0
   gi_wp2
   go_end0
   exact⟨⟨_,rfl⟩,.inl ⟨ss,HX.out.2.done hl0,hJs⟩⟩
  ·intro x c kl yd yp w2 cnt2 hkey hlk hv hat hrg2 hlt hg2 hs2 hen
   obtain⟨x',ex,rfl,hxw⟩:=Maps.keyOf_int_inv Tryz.underlying3 hkey
   obtain rfl:x=x':=by simpa using ex
   obtain⟨m,hm,hcv⟩:∃ m,lookM M x=some m∧c=.pointer (some ⟨ps x,0,none⟩):=by
    have e:yd=.held c:=by
     simp only [asIs,Option.some.injEq] at hv
     exact (congrArg Prod.fst hv).symm
    have h1:=hat (.held (.bool true))
    have h2:=hat (.held (.bool false))
    rw [toD_at,look_pt,e] at h1 h2
    cases hl:lookM M x with
    | none =>
     rw [hl] at h1 h2
     have:Value.bool true=Value.bool false:=by simpa using h1.trans h2.symm
     cases this
    | some m =>
     rw [hl] at h1
     exact⟨m,rfl,by simpa using h1.symm⟩
   subst hcv
   have hJ2:J ss w2:=HJ.out ss wr w2 (some W.heap.size) hJs hg2 (fun r e=>by cases e;exact⟨Nat.le_refl _,hrg.iter_walk⟩)
   have hB2:Below n0 W w2:=HB.out.trans ⟨hg2.os,hg2.tape,hg2.output,hg2.size,fun k hk=>hg2.block k (by have:=HN.out;have:=HB.out.size;omega) (by intro e;cases e;exact absurd HN.out (by omega))⟩
   obtain⟨r,hBl,hplt⟩:=HC.out x m hm
   have o3:=(hBl.below hB2 hplt).cell 3
   unfold memC at o3
   simp only [lTA,lCZ,lCS] at o3
   have HC2:=Lib.hid (HX.out.2.step hlk hm)
   have HB2:=Lib.hid hB2
   have hlt1:ss.length < M.length:=by have:=HX.out.1;omega
   clear hBl hB2
   by_cases ha:m.aw=true
   ·rw [ha] at o3
    rw [if_pos ha] at HC2
    obtain⟨fn,tmps,assign,body,hy,hR⟩:=HY.out ss ⟨x,m,hm,ha⟩ w2 hJ2 hlt1
    dsimp only [encUp] at hy
    clear hs2 hv hat
    gi_wp2
    refine⟨room_wideE,hR.mono ?_⟩
    rintro e W3 (⟨rfl,hJ3,hk3⟩ | ⟨rfl,hJx3⟩)
    ·gi_wp2
     have hrg3:=hrg2.of_walks hk3.2
     go_roundw
     case rel=>exact⟨_,cnt2,ss ++ [⟨x,m,hm,ha⟩],hrg3,by have:=HX.out.1;simp;omega,by rw [List.map_append];exact HC2.out,hJ3,HB2.out.trans hk3.1⟩
     case measure=>rw [hrg3.left_eq,hrg.left_eq];exact hlt
    ·gi_wp2
     refine bodyPost_ret (results_none rfl _ _ _) rfl ?_
     exact⟨⟨_,rfl⟩,.inr ⟨ss ++ [⟨x,m,hm,ha⟩],trivial,hJx3⟩⟩
   ·rw [Bool.eq_false_iff.2 ha] at o3
    rw [if_neg ha] at HC2
    clear hs2 hm hv hat
    gi_wp2
    refine⟨fun _ hf=>(by cases hf),?_⟩
    gi_wp2
    go_roundw
    case rel=>exact⟨_,cnt2,ss,hrg2,by have:=HX.out.1;omega,HC2.out,hJ2,HB2.out⟩
    case measure=>rw [hrg2.left_eq,hrg.left_eq];exact hlt
end
section
open Go.RowKit Go.Maps
attribute [local go_sem ↓] Go.wp_at_zero Go.wp_at_succ
attribute [local go_sem] quietR quietAtR quietUponR midAt midUpon
theorem meets_any (B1 B2:Nat)(a b v:Int)(w:World)(h1:Blk w B1 28 #[.int .u64 a])(h2:Blk w B2 28 #[.int .u64 b])(hne:¬ B1=B2) :
  Calls Tryz.prog 120 #[.int .u64 v,.pointer (some ⟨B1,0,none⟩),.pointer (some ⟨B2,0,none⟩)] w fun e w'=>e=.returned (.tuple #[])∧w'=((w.setCell ⟨B1,0,none⟩ (.int .u64 (min a v))).setCell ⟨B2,0,none⟩ (.int .u64 (max b v))).drew:=by
 have c1:=h1.cell 0;have c2:=h2.cell 0
 have f1:=h1.frozen 0;have f2:=h2.frozen 0
 simp only [lTA,lCZ,lCS] at c1 c2
 have hne2:¬ B2=B1:=fun e=>hne e.symm
 clear h1 h2
 go_enter Tryz.func120,Tryz.ntmps120
 go_region
 go_returns
 exact⟨rfl,rfl⟩
end
section
open Go.RowKit Go.Maps Go.Shelf
section
attribute [local go_sem] Oper.semAt_some
theorem up_any (f:Nat)(w:World) :
  Calls Tryz.prog 121 #[.pointer (some ⟨f,0,none⟩)] w fun e w'=>e=.returned (.func (.func 150) #[] #[.pointer (some ⟨w.heap.size,0,none⟩)])∧w.alloc (.cells #[.pointer (some ⟨f,0,none⟩)] 59)=w':=by
 go_enter Tryz.func121,Tryz.ntmps121
 go_wp2
 go_ret
 exact⟨rfl,rfl⟩
def loU (F:Fam)(xs:List Int):Int:=xs.foldl (fun a x=>min a (fvF F x)) 9223372036854775808
def hiU (F:Fam)(xs:List Int):Int:=xs.foldl (fun a x=>max a (fvF F x)) 0
def startU (F:Fam)(m:Mem)(xs:List Int):Int:=if hiU F xs < loU F xs then max m.v F.mark else max m.v (loU F xs+(hiU F xs - loU F xs) / 2)
theorem fold_bound (F:Fam)(hv:∀ x m,lookM F.m x=some m→0≤m.v∧m.v≤9223372036854775808):∀ (xs:List Int)(a b:Int),0≤a→a≤9223372036854775808→0≤b→b≤9223372036854775808 →
  (0≤xs.foldl (fun a x=>min a (fvF F x)) a∧xs.foldl (fun a x=>min a (fvF F x)) a≤9223372036854775808)∧(0≤xs.foldl (fun a x=>max a (fvF F x)) b∧xs.foldl (fun a x=>max a (fvF F x)) b≤9223372036854775808)
 | [],a,b,h1,h2,h3,h4=>⟨⟨h1,h2⟩,⟨h3,h4⟩⟩
 | x :: xs,a,b,h1,h2,h3,h4=>by
  have hx:0≤fvF F x∧fvF F x≤9223372036854775808:=by
   unfold fvF
   cases hl:lookM F.m x with
   | none=>exact⟨by decide,by decide⟩
   | some m=>exact hv x m hl
  exact fold_bound F hv xs _ _ (by dsimp only;omega) (by dsimp only;omega) (by dsimp only;omega) (by dsimp only;omega)
def loX (F:Fam)(pre:List (AwX F.m)):Int:=loU F (pre.map (·.1))
def hiX (F:Fam)(pre:List (AwX F.m)):Int:=hiU F (pre.map (·.1))
def StartW (w:World)(F:Fam)(m:Mem)(e:Ending)(w':World):Prop:=∃ xs,Awk F.m xs∧e=.returned (.int .u64 (startU F m xs))∧Below w.heap.size w w'
theorem vstart_any (f mb:Nat)(ps:Int→Nat)(F:Fam)(id:Int)(m:Mem)(w:World)(S:Nat→Prop)(h:FamX f mb ps F w S)(hm:lookM F.m id=some m)(hv:∀ x m,lookM F.m x=some m→0≤m.v∧m.v≤9223372036854775808) :
  Calls Tryz.prog 87 #[.pointer (some ⟨f,0,none⟩),.pointer (some ⟨ps id,0,none⟩)] w (StartW w F m):=by
 have hmr:MemsR w w.heap.size ps F.m:=fun id m hm=>by
  obtain⟨r,hb⟩:=h.mem hm
  exact⟨r,hb,hb.lt⟩
 have hfb:=h.box
 have hmp:=h.map
 clear h
 refine (callsIn_wide (n:=9)).1 ?_
 refine callsIn_of_wp_marks Tryz.func87 rfl trivial ?_ rfl
 simp only [Tryz.ntmps87,List.size_toArray,List.length_cons,List.length_nil,Nat.reduceAdd,Nat.reduceSub,Array.replicate_succ,Array.replicate_zero,List.push_toArray,List.append_toArray,List.nil_append,List.cons_append]
 gi_wp2_with (refine⟨trivial,?_⟩;gi_at_call 121;refine (callsIn_wide.2 (up_any f _)).mono ?_;rintro e w' ⟨rfl,rfl⟩)
 obtain⟨W0,hW0,bL,bH,bF,bU,hB0,hsz⟩:∃ W0,((((w.alloc (.cells #[.int .u64 9223372036854775808] 28)).alloc (.cells #[.int .u64 0] 28)).alloc (.cells #[.func (.func 120) #[] #[.pointer (some ⟨w.heap.size,0,none⟩),.pointer (some ⟨w.heap.size+1,0,none⟩)]] 182)).alloc (.cells #[.pointer (some ⟨f,0,none⟩)] 59))=W0∧Blk W0 w.heap.size 28 #[.int .u64 9223372036854775808]∧Blk W0 (w.heap.size+1) 28 #[.int .u64 0]∧Blk W0 (w.heap.size+1+1) 182 #[.func (.func 120) #[] #[.pointer (some ⟨w.heap.size,0,none⟩),.pointer (some ⟨w.heap.size+1,0,none⟩)]]∧Blk W0 (w.heap.size+1+1+1) 59 #[.pointer (some ⟨f,0,none⟩)]∧Below w.heap.size w W0∧W0.heap.size=w.heap.size+4:=by
  refine⟨_,rfl,?_⟩
  have b1:=Blk.new w 28 #[.int .u64 9223372036854775808]
  have s1:(w.alloc (.cells #[.int .u64 9223372036854775808] 28)).heap.size=w.heap.size+1:=by simp
  have l1:=(Below.refl w.heap.size w).alloc (Nat.le_refl _) (.cells #[.int .u64 9223372036854775808] 28)
  generalize w.alloc (.cells #[.int .u64 9223372036854775808] 28)=V1 at b1 s1 l1 ⊢
  have b2:=Blk.new V1 28 #[.int .u64 0]
  have s2:(V1.alloc (.cells #[.int .u64 0] 28)).heap.size=w.heap.size+1+1:=by simp [s1]
  have l2:=l1.alloc (by omega) (.cells #[.int .u64 0] 28)
  have b1:=b1.alloc (.cells #[.int .u64 0] 28)
  rw [s1] at b2
  generalize V1.alloc (.cells #[.int .u64 0] 28)=V2 at b1 b2 s2 l2 ⊢
  have b3:=Blk.new V2 182 #[.func (.func 120) #[] #[.pointer (some ⟨w.heap.size,0,none⟩),.pointer (some ⟨w.heap.size+1,0,none⟩)]]
  generalize hO:Obj.cells #[.func (.func 120) #[] #[.pointer (some ⟨w.heap.size,0,none⟩),.pointer (some ⟨w.heap.size+1,0,none⟩)]] 182=O at b3 ⊢
  have s3:(V2.alloc O).heap.size=w.heap.size+1+1+1:=by simp [s2]
  have l3:=l2.alloc (by omega) O
  have b1:=b1.alloc O
  have b2:=b2.alloc O
  rw [s2] at b3
  generalize V2.alloc O=V3 at b1 b2 b3 s3 l3 ⊢
  have b4:=Blk.new V3 59 #[.pointer (some ⟨f,0,none⟩)]
  rw [s3] at b4
  exact⟨b1.alloc _,b2.alloc _,b3.alloc _,b4,l3.alloc (by omega) _,by simp [s3]⟩
 try simp only [World.size_alloc]
 rw [hW0]
 clear hW0
 obtain⟨B1,hB1⟩:∃ B1,B1=w.heap.size:=⟨_,rfl⟩
 obtain⟨B2,hB2⟩:∃ B2,B2=w.heap.size+1:=⟨_,rfl⟩
 obtain⟨B3,hB3⟩:∃ B3,B3=w.heap.size+1+1:=⟨_,rfl⟩
 obtain⟨B4,hB4⟩:∃ B4,B4=w.heap.size+1+1+1:=⟨_,rfl⟩
 rw [← hB1] at bL
 rw [← hB2] at bH
 rw [← hB3,← hB2,← hB1] at bF
 rw [← hB4] at bU
 rw [← hB4,← hB3,← hB2,← hB1]
 have n12:¬ B1=B2:=by omega
 have n13:¬ B1=B3:=by omega
 have n23:¬ B2=B3:=by omega
 have HE:=Lib.hid (And.intro hB1 (And.intro hB2 (And.intro hB3 (And.intro hB4 hsz))))
 clear hB1 hB2 hB3 hB4 hsz
 refine wpIn_rangeFunc_ownH rfl (by omega) (gf:=150) (lb:=#[.pointer (some ⟨B4,0,none⟩)]) rfl trivial (enters_of Tryz.func150 (by kernel_rfl) rfl)
  (up_stops _ w.heap.size B4 f mb _ ps F.m W0 bU (hfb.below hB0 hfb.lt) (hmp.heap (hB0.block mb hmp.lt)) (hmr.below hB0) hB0.size) (fun h k=>⟨belowK_t h.1 k.1,walksK_t h.2 k.2⟩) (fun W l o o' h1 h2 h3 h4=>⟨belowK_b (w:=W0) hB0.size W l o o' h1 h2 h3 h4,walksK_b (w:=W0) W l o o' h1 h2 h3 h4⟩) (Below.refl _ _) (fun _=>rfl)
  (fun (pre:List (AwX F.m)) W=>(Blk W B1 28 #[.int .u64 (loX F pre)]∧Blk W B2 28 #[.int .u64 (hiX F pre)]∧Blk W B3 182 #[.func (.func 120) #[] #[.pointer (some ⟨B1,0,none⟩),.pointer (some ⟨B2,0,none⟩)]])∧Below w.heap.size w W)
  (fun c pre W=>False)
  (OwnFrom.and (fun s X Y row hs hg hr=>⟨blk_own (β:=Unit) _ _ _ _ () X Y row hs.1 hg hr,blk_own (β:=Unit) _ _ _ _ () X Y row hs.2.1 hg hr,blk_own (β:=Unit) _ _ _ _ () X Y row hs.2.2 hg hr⟩) (ownFrom_below (Nat.le_refl _) hB0.size))
  (fun c s X Y row hs hg hr=>hs)
  ⟨⟨bL,bH,bF⟩,hB0⟩
  (fun (x:AwX F.m) a' W=>a'={ tmps:=#[.pointer (some ⟨f,0,none⟩),.pointer (some ⟨ps id,0,none⟩),undef,undef,.int .u64 0,.pointer (some ⟨B1,0,none⟩),.pointer (some ⟨B2,0,none⟩),.pointer (some ⟨B3,0,none⟩),undef,.pointer (some ⟨ps x.1,0,none⟩),.func (.func 120) #[] #[.pointer (some ⟨B1,0,none⟩),.pointer (some ⟨B2,0,none⟩)],.pointer (some ⟨f,0,none⟩),.func (.func 150) #[] #[.pointer (some ⟨B4,0,none⟩)],.int .i64 x.1,.pointer (some ⟨ps x.1,0,none⟩),undef,undef,undef,undef,undef,undef,undef,undef,undef,undef,undef,undef,undef,undef,undef,undef,undef,undef,undef,undef,undef,undef,undef,undef,undef,undef,undef,undef,undef],defers:=[] })
  (fun x a' _ X Y row hs hg hr=>hs)
  ?assign ?body ?done ?stop
 case assign =>
  rintro l pre x W K hI hK
  dsimp only [encUp]
  gi_wp2
  exact hK _ _ ((KeepsOthers.refl _).from _) ⟨Below.refl _ _,KeepsWalks.refl _⟩ hI rfl
 case body =>
  rintro l pre x a' W hl ⟨r,hr⟩ ⟨⟨b1,b2,b3⟩,hBw⟩ rfl hlt
  dsimp only
  have c3:=b3.cell 0;have hb1:=hBw
  obtain⟨mx,hmx,hax⟩:=x.2
  obtain⟨rx,hbx,hxl⟩:=hmr x.1 mx hmx
  have cx:=(hbx.below hBw hxl).cell 1
  unfold memC at cx
  have ef:fvF F x.1=mx.v:=by unfold fvF;rw [hmx]
  simp only [lTA,lCZ,lCS] at c3 cx
  have HM:=Lib.hid (And.intro b1.drew b2.drew)
  have HB:=Lib.hid (And.intro b1 (And.intro b2 (And.intro b3 hBw)))
  have HF:=Lib.hid (And.intro hmr (And.intro hfb hmp))
  have HV:=Lib.hid hv
  clear b1 b2 b3 hBw hb1 hmr hfb hmp hv hbx bL bH bF bU hB0
  gi_wp2
  gi_region_with (refine⟨trivial,?_⟩;gi_at_call 120;refine (CallsIn.inRound l (callsIn_wide.2 (meets_any B1 B2 _ _ _ _ HM.out.1 HM.out.2 n12))).mono ?_;rintro e w' ⟨rfl,rfl⟩)
  all_goals
   obtain⟨b1,b2,b3,hBw⟩:=HB.out
   have e1:loX F (pre ++ [x])=min (loX F pre) mx.v:=by unfold loX loU;rw [List.map_append,List.foldl_append];show min _ (fvF F x.1)=_;rw [ef]
   have e2:hiX F (pre ++ [x])=max (hiX F pre) mx.v:=by unfold hiX hiU;rw [List.map_append,List.foldl_append];show max _ (fvF F x.1)=_;rw [ef]
   have q1:=((b1.set_ 0 (.int .u64 (min (loX F pre) mx.v))).far (p:=⟨B2,0,none⟩) n12 (.int .u64 (max (hiX F pre) mx.v))).drew.drew
   have q2:=((b2.far (p:=⟨B1,0,none⟩) (fun e=>n12 e.symm) (.int .u64 (min (loX F pre) mx.v))).set_ 0 (.int .u64 (max (hiX F pre) mx.v))).drew.drew
   have q3:=((b3.far (p:=⟨B1,0,none⟩) (fun e=>n13 e.symm) (.int .u64 (min (loX F pre) mx.v))).far (p:=⟨B2,0,none⟩) (fun e=>n23 e.symm) (.int .u64 (max (hiX F pre) mx.v))).drew.drew
   have hlo1:w.heap.size≤B1:=by have:=HE.out.1;omega
   have hlo2:w.heap.size≤B2:=by have:=HE.out.2.1;omega
   have q4:=((((Below.refl w.heap.size W).setCell (p:=⟨B1,0,none⟩) hlo1 (.int .u64 (min (loX F pre) mx.v))).setCell (p:=⟨B2,0,none⟩) hlo2 (.int .u64 (max (hiX F pre) mx.v))).drew).drew
   have q5:=(((KeepsOthers.setCell W ⟨B1,0,none⟩ (.int .u64 (min (loX F pre) mx.v))).trans (KeepsOthers.setCell _ ⟨B2,0,none⟩ (.int .u64 (max (hiX F pre) mx.v)))).trans (KeepsOthers.drew _)).trans (KeepsOthers.drew _)
   have EE:=Lib.hid (And.intro e1 e2)
   have HQ:=Lib.hid (And.intro q1 (And.intro q2 (And.intro q3 (And.intro q4 (And.intro q5 (hBw.trans q4))))))
   clear b1 b2 b3 hBw q1 q2 q3 q4 q5 e1 e2 hlo1 hlo2
   gi_wp2
   exact⟨HQ.out.2.2.2.2.1.from _,⟨HQ.out.2.2.2.1,HQ.out.2.2.2.2.1.walks⟩,⟨by rw [EE.out.1];exact HQ.out.1,by rw [EE.out.2];exact HQ.out.2.1,HQ.out.2.2.1⟩,HQ.out.2.2.2.2.2⟩
 case done =>
  rintro D xs W hD hA ⟨⟨b1,b2,b3⟩,hBw⟩ hK
  obtain⟨rm,hbm,hml⟩:=hmr id m hm
  have cm:=(hbm.below hBw hml).cell 1
  have cf:=(hfb.below hBw hfb.lt).cell 1
  have c1:=b1.cell 0;have c2:=b2.cell 0
  unfold memC at cm
  simp only [lTA,lCZ,lCS] at cm cf c1 c2
  obtain⟨⟨l0,l1⟩,⟨g0,g1⟩⟩:=fold_bound F hv (xs.map (·.1)) 9223372036854775808 0 (by omega) (by omega) (by omega) (by omega)
  have hm0:=hv id m hm
  have hst:startU F m (xs.map (·.1))=if hiX F xs < loX F xs then max m.v F.mark else max m.v (loX F xs+(hiX F xs - loX F xs) / 2):=rfl
  have l0:0≤loX F xs:=l0
  have l1:loX F xs≤9223372036854775808:=l1
  have g0:0≤hiX F xs:=g0
  have g1:hiX F xs≤9223372036854775808:=g1
  have HA:=Lib.hid (show Awk F.m (xs.map (·.1)) from hA)
  have HS:=Lib.hid hst
  have HB:=Lib.hid (And.intro hBw hK)
  have hK':=hK
  clear hbm hml hst hBw b1 b2 b3 hA hmr hfb hmp hv hK bL bH bF bU hB0 hm
  generalize hlo:loX F xs=lo at *
  generalize hhi:hiX F xs=hi at *
  clear hlo hhi
  by_cases hlt:hi < lo
  ·gi_wp2
   gi_region
   gi_wp2
   have hK2:W.drew.heap[D]?=some (.deferred (some [])):=HB.out.2
   refine⟨by simp,.inl ⟨_,_,rfl,run_takeDeferred hK2,?_⟩⟩
   exact⟨_,results_tmp rfl _ _ _,_,HA.out,by rw [HS.out,if_pos hlt];rfl,HB.out.1.drew.trans (belowK_b (w:=w) (Nat.le_refl _) _ D _ _ (by have:=HE.out.2.2.2.2;omega) hK2 rfl rfl)⟩
  ·gi_wp2
   gi_region
   gi_wp2
   have hK2:W.drew.heap[D]?=some (.deferred (some [])):=HB.out.2
   refine⟨by simp,.inl ⟨_,_,rfl,run_takeDeferred hK2,?_⟩⟩
   exact⟨_,results_tmp rfl _ _ _,_,HA.out,by rw [HS.out,if_neg (by omega)];rfl,HB.out.1.drew.trans (belowK_b (w:=w) (Nat.le_refl _) _ D _ _ (by have:=HE.out.2.2.2.2;omega) hK2 rfl rfl)⟩
 case stop =>
  rintro D c pre W _ _ h _
  exact h.elim
end
end
section
open Go.RowKit Go.Maps
theorem leastL_spec:∀ {l:List Int},l≠[]→leastL l∈l∧∀ x∈l,leastL l≤x
 | [],h=>absurd rfl h
 | [a],_=>⟨.head _,fun x hx=>by rw [List.mem_singleton.1 hx];exact Int.le_refl _⟩
 | a :: b :: l,_=>by
  obtain⟨h1,h2⟩:=leastL_spec (l:=b :: l) (by simp)
  show min a (leastL (b :: l))∈_∧∀ x∈_,min a (leastL (b :: l))≤x
  refine⟨?_,fun x hx=>?_⟩
  ·by_cases h:a≤leastL (b :: l)
   ·rw [Int.min_eq_left h];exact .head _
   ·rw [Int.min_eq_right (by omega)];exact .tail _ h1
  ·rcases List.mem_cons.1 hx with rfl | hx
   ·omega
   ·have:=h2 x hx;omega
theorem greatL_spec:∀ {l:List Int},l≠[]→greatL l∈l∧∀ x∈l,x≤greatL l
 | [],h=>absurd rfl h
 | [a],_=>⟨.head _,fun x hx=>by rw [List.mem_singleton.1 hx];exact Int.le_refl _⟩
 | a :: b :: l,_=>by
  obtain⟨h1,h2⟩:=greatL_spec (l:=b :: l) (by simp)
  show max a (greatL (b :: l))∈_∧∀ x∈_,x≤max a (greatL (b :: l))
  refine⟨?_,fun x hx=>?_⟩
  ·by_cases h:greatL (b :: l)≤a
   ·rw [Int.max_eq_left h];exact .head _
   ·rw [Int.max_eq_right (by omega)];exact .tail _ h1
  ·rcases List.mem_cons.1 hx with rfl | hx
   ·omega
   ·have:=h2 x hx;omega
theorem fold_min (v:Int→Int):∀ (xs:List Int)(a:Int),xs.foldl (fun a x=>min a (v x)) a≤a∧(∀ x∈xs,xs.foldl (fun a x=>min a (v x)) a≤v x)∧(xs.foldl (fun a x=>min a (v x)) a=a∨∃ x∈xs,xs.foldl (fun a x=>min a (v x)) a=v x)
 | [],a=>⟨Int.le_refl _,fun x hx=>(by cases hx),.inl rfl⟩
 | y :: xs,a=>by
  obtain⟨h1,h2,h3⟩:=fold_min v xs (min a (v y))
  refine⟨?_,fun x hx=>?_,?_⟩
  ·show xs.foldl _ (min a (v y))≤a
   omega
  ·rcases List.mem_cons.1 hx with rfl | hx
   ·show xs.foldl _ (min a (v x))≤v x
    omega
   ·exact h2 x hx
  ·show xs.foldl _ (min a (v y))=a∨_
   rcases h3 with h3 | ⟨x,hx,h3⟩
   ·by_cases h:a≤v y
    ·exact .inl (by omega)
    ·exact .inr ⟨y,.head _,by show xs.foldl _ (min a (v y))=_;omega⟩
   ·exact .inr ⟨x,.tail _ hx,h3⟩
theorem fold_max (v:Int→Int):∀ (xs:List Int)(a:Int),a≤xs.foldl (fun a x=>max a (v x)) a∧(∀ x∈xs,v x≤xs.foldl (fun a x=>max a (v x)) a)∧(xs.foldl (fun a x=>max a (v x)) a=a∨∃ x∈xs,xs.foldl (fun a x=>max a (v x)) a=v x)
 | [],a=>⟨Int.le_refl _,fun x hx=>(by cases hx),.inl rfl⟩
 | y :: xs,a=>by
  obtain⟨h1,h2,h3⟩:=fold_max v xs (max a (v y))
  refine⟨?_,fun x hx=>?_,?_⟩
  ·show a≤xs.foldl _ (max a (v y))
   omega
  ·rcases List.mem_cons.1 hx with rfl | hx
   ·show v x≤xs.foldl _ (max a (v x))
    omega
   ·exact h2 x hx
  ·show xs.foldl _ (max a (v y))=a∨_
   rcases h3 with h3 | ⟨x,hx,h3⟩
   ·by_cases h:v y≤a
    ·exact .inl (by omega)
    ·exact .inr ⟨y,.head _,by show xs.foldl _ (max a (v y))=_;omega⟩
   ·exact .inr ⟨x,.tail _ hx,h3⟩
theorem mem_of_lookK {α:Type} {k:Int} {v:α}:∀ {M:List (Int × α)},lookM M k=some v→(k,v)∈M
 | [],h=>by cases h
 | p :: r,h=>by
  unfold lookM at h
  by_cases e:p.1=k
  ·rw [if_pos e] at h
   cases h
   rw [← e];exact .head _
  ·rw [if_neg e] at h
   exact .tail _ (mem_of_lookK h)
theorem awk_mem {F:Fam} (hR:Rising F.m) {xs:List Int} (hA:Awk F.m xs)(v:Int):(∃ x∈xs,fvF F x=v)↔v∈upV F:=by
 unfold upV
 constructor
 ·rintro ⟨x,hx,rfl⟩
  obtain⟨m,hm,ha⟩:=(hA.2 x).1 hx
  unfold fvF
  rw [hm]
  exact List.mem_map.2 ⟨(x,m),List.mem_filter.2 ⟨mem_of_lookK hm,ha⟩,rfl⟩
 ·intro h
  obtain⟨q,hq,rfl⟩:=List.mem_map.1 h
  obtain⟨hq,ha⟩:=List.mem_filter.1 hq
  have hl:=look_of_mem (k:=q.1) (c:=q.2) hR hq
  exact⟨q.1,(hA.2 q.1).2 ⟨q.2,hl,ha⟩,by unfold fvF;rw [hl]⟩
theorem startU_eq {F:Fam} (hR:Rising F.m)(hv:∀ x m,lookM F.m x=some m→0≤m.v∧m.v≤9223372036854775808)(m:Mem) {xs:List Int} (hA:Awk F.m xs):startU F m xs=startV F m:=by
 have hmem:=awk_mem hR hA
 have hb:∀ v∈upV F,0≤v∧v≤9223372036854775808:=fun v h=>by
  unfold upV at h
  obtain⟨q,hq,rfl⟩:=List.mem_map.1 h
  exact hv q.1 q.2 (look_of_mem (k:=q.1) (c:=q.2) hR (List.mem_filter.1 hq).1)
 obtain⟨a1,a2,a3⟩:=fold_min (fvF F) xs 9223372036854775808
 obtain⟨b1,b2,b3⟩:=fold_max (fvF F) xs 0
 unfold startU startV
 by_cases hn:upV F=[]
 ·have hx:xs=[]:=by
   cases xs with
   | nil=>rfl
   | cons x r =>
    have:=(hmem (fvF F x)).1 ⟨x,.head _,rfl⟩
    rw [hn] at this;cases this
  rw [if_pos hn,hx]
  rfl
 ·rw [if_neg hn]
  obtain⟨c1,c2⟩:=leastL_spec hn
  obtain⟨d1,d2⟩:=greatL_spec hn
  have hl:loU F xs=leastL (upV F):=by
   obtain⟨x,hx,e⟩:=(hmem _).2 c1
   have h1:loU F xs≤leastL (upV F):=by rw [← e];exact a2 x hx
   have h2:leastL (upV F)≤loU F xs:=by
    rcases a3 with a3 | ⟨y,hy,a3⟩
    ·have:=(hb _ c1).2
     show leastL (upV F)≤xs.foldl _ _
     omega
    ·show leastL (upV F)≤xs.foldl _ _
     rw [a3]
     exact c2 _ ((hmem _).1 ⟨y,hy,rfl⟩)
   omega
  have hg:hiU F xs=greatL (upV F):=by
   obtain⟨x,hx,e⟩:=(hmem _).2 d1
   have h1:greatL (upV F)≤hiU F xs:=by rw [← e];exact b2 x hx
   have h2:hiU F xs≤greatL (upV F):=by
    rcases b3 with b3 | ⟨y,hy,b3⟩
    ·have:=(hb _ d1).1
     show xs.foldl _ _≤greatL (upV F)
     omega
    ·show xs.foldl _ _≤greatL (upV F)
     rw [b3]
     exact d2 _ ((hmem _).1 ⟨y,hy,rfl⟩)
   omega
  rw [hl,hg,if_neg]
  have:=c2 _ d1
  omega
theorem startV_bound {F:Fam} (hR:Rising F.m)(hv:∀ x m,lookM F.m x=some m→0≤m.v∧m.v≤9223372036854775808)(hk:0≤F.mark∧F.mark≤9223372036854775808) {id:Int} {m:Mem} (hm:lookM F.m id=some m):0≤startV F m∧startV F m≤9223372036854775808:=by
 have hb:∀ v∈upV F,0≤v∧v≤9223372036854775808:=fun v h=>by
  unfold upV at h
  obtain⟨q,hq,rfl⟩:=List.mem_map.1 h
  exact hv q.1 q.2 (look_of_mem (k:=q.1) (c:=q.2) hR (List.mem_filter.1 hq).1)
 have h0:=hv id m hm
 unfold startV
 by_cases hn:upV F=[]
 ·rw [if_pos hn];omega
 ·rw [if_neg hn]
  have c:=leastL_spec hn
  have d:=greatL_spec hn
  have:=hb _ c.1
  have:=hb _ d.1
  have:=c.2 _ d.1
  omega
end
section
open Go.RowKit Go.Maps
attribute [local go_sem ↓] Go.wp_at_zero Go.wp_at_succ
attribute [local go_sem] quietR quietAtR quietUponR midAt midUpon
structure FamN (F:Fam):Prop where
 v:∀ x m,lookM F.m x=some m→0≤m.v∧m.v≤9223372036854775808
 tot:∀ x m,lookM F.m x=some m→0≤m.tot∧m.tot≤4611686018427387904
 few:∀ x m,lookM F.m x=some m→m.rn.A.length < 800000
 mark:0≤F.mark∧F.mark≤9223372036854775808
 len:F.m.length < 100000
section
variable {w0 W W' : World} {A : Nat → Prop} {f mb r : Nat} {ps : Int → Nat} {F : Fam} {id mark mark' : Int} {m m' : Mem} {S : Nat → Prop} {cs cs' : Array Value} {x x' : Rn} {v v' : Value}
theorem Sx.foc_fam (h:Sx w0 A W (FocX f mb ps id r cs x mark F)):Blk W f 112 (famC mb mark):=(Sx.swap2 h).swap.box
theorem Sx.foc_set (h:Sx w0 A W (FocX f mb ps id r cs x mark F))(i:Nat)(he:cs.setIfInBounds i v=cs'):Sx w0 A (W.setCell ⟨ps id,i,none⟩ v) (FocX f mb ps id r cs' x mark F):=h.set good_foc1 he
theorem Sx.foc_mark (h:Sx w0 A W (FocX f mb ps id r cs x mark F)):Sx w0 A (W.setCell ⟨f,1,none⟩ (.int .u64 mark')) (FocX f mb ps id r cs x mark' F) :=
 (((Sx.swap2 h).swap.set (cs':=famC mb mark') ((good_box _ _ _).star ((good_run _ _).star (good_restF _ _ _ _))) rfl).swap).swap2
theorem Sx.foc_run {φ:Ending→Prop} {fn:FuncId} {args:Array Value} {prog:Program} (h:Sx w0 A W (FocX f mb ps id r cs x mark F))(ha:Acts φ (RunO r x) (RunO r x') fn args prog W):Calls prog fn args W fun e W'=>φ e∧Sx w0 A W' (FocX f mb ps id r cs x' mark F) :=
 (h.swap.act (good_run _ _) ((good_box _ _ _).star good_foc2) ha).mono fun e W' ⟨h1,h2⟩=>⟨h1,h2.swap⟩
theorem Sx.foc_getRun (h:Sx w0 A W (FocX f mb ps id r cs x mark F)):∃ S,RunO r x W S:=h.rest.first
theorem Sx.foc_ne (h:Sx w0 A W (FocX f mb ps id r cs x mark F)):¬ ps id=f:=fun e=>by
 have h1:=h.box
 have h2:=h.foc_fam
 rw [e] at h1
 have:=h1.symm.trans h2
 simp only [Option.some.injEq,Obj.cells.injEq] at this
 exact absurd this.2.1 (by decide)
end
theorem made_any (p f mb r:Nat)(m:Mem)(mark v:Int)(w:World)(h1:Blk w p 139 (memC m r))(h2:Blk w f 112 (famC mb mark))(hne:¬ p=f) :
  Calls Tryz.prog 86 #[.pointer (some ⟨f,0,none⟩),.pointer (some ⟨p,0,none⟩),.int .u64 v] w fun e w'=>e=.returned (.tuple #[])∧(w.setCell ⟨p,1,none⟩ (.int .u64 v)).setCell ⟨f,1,none⟩ (.int .u64 (max mark v))=w':=by
 have c1:=h1.cell 1;have f1:=h1.frozen 1
 have g1:=h2.cell 1;have e1:=h2.frozen 1
 have hne2:¬ f=p:=fun e=>hne e.symm
 unfold memC at c1
 unfold famC at g1
 simp only [lTA,lCZ,lCS] at c1 g1
 clear h1 h2
 go_enter Tryz.func86,Tryz.ntmps86
 go_wp2_with fail
 go_returns
 exact⟨rfl,rfl⟩
theorem fo_wake {W:World} {f:Nat} {F:Fam} (id:Int)(hid:(Lit.int .i64 id).wf=true)(hN:FamN F) :
  Acts (fun e=>e=.returned (.tuple #[])) (FamO f F) (FamO f (wakeF id F)) 43 #[.pointer (some ⟨f,0,none⟩),.int .i64 id] Tryz.prog W:=fun A ⟨mb,ps,h⟩=>by
 have ha:=vat_any id hid h
 have hR:=h.rising
 unfold mpV at ha
 unfold wakeF
 cases hl:lookM F.m id with
 | none =>
  rw [hl] at ha
  dsimp only at ha ⊢
  have H:=Lib.hid h
  clear h hR hN
  go_enter Tryz.func43,Tryz.ntmps43
  go_wp2_with (go_at_call 84;refine ha.mono ?_;rintro e w1 ⟨rfl,rfl⟩)
  go_returns
  exact⟨rfl,A,⟨mb,ps,H.out⟩,Went.refl _ _⟩
 | some m =>
  rw [hl] at ha
  have hst:=vstart_any f mb ps F id m W A h hl hN.v
  have hsb:=startV_bound hR hN.v hN.mark hl
  have hse:∀ xs,Awk F.m xs→startU F m xs=startV F m:=fun xs hx=>startU_eq hR hN.v m hx
  obtain⟨r,hs⟩:=(Sx.start (P:=FamX f mb ps F) h).focus hl
  have htb:=hN.tot id m hl
  have hfw:=hN.few id m hl
  have c3:=hs.box.cell 3
  unfold memC at c3
  simp only [lTA,lCZ,lCS] at c3
  dsimp only at ha ⊢
  have H:=Lib.hid hs
  have HL:=Lib.hid hl
  have H0:=Lib.hid h
  have HST:=Lib.hid hst
  have HSE:=Lib.hid hse
  have HFW:=Lib.hid hfw
  clear h hs hl hst hse hR hN hfw
  cases haw:m.aw with
  | true =>
   rw [if_pos rfl]
   rw [haw] at c3
   clear haw
   go_enter Tryz.func43,Tryz.ntmps43
   go_wp2_with (go_at_call 84;refine ha.mono ?_;rintro e w1 ⟨rfl,rfl⟩)
   go_returns
   exact⟨rfl,A,⟨mb,ps,H0.out⟩,Went.refl _ _⟩
  | false =>
   rw [if_neg (by decide)]
   rw [haw] at c3
   obtain⟨v',hv'⟩:∃ v',v'=startV F m:=⟨_,rfl⟩
   rw [← hv'] at hsb HSE ⊢
   clear haw hv'
   go_enter Tryz.func43,Tryz.ntmps43
   go_upto_region 3 with (first
    | (go_at_call 84;refine ha.mono ?_;rintro e w1 ⟨rfl,rfl⟩)
    | (go_at_call 87;refine HST.out.mono ?_;rintro e w1 ⟨xs,hxs,rfl,hb1⟩;rw [HSE.out xs hxs];have H1:=Lib.hid (H.out.later good_foc hb1);clear hxs hb1)
    | (go_at_call 86;refine (made_any _ f mb r m F.mark v' _ H1.out.box H1.out.foc_fam H1.out.foc_ne).mono ?_;rintro e w2 ⟨rfl,rfl⟩))
   have h2:=(H1.out.foc_set (v:=.int .u64 v') 1 (cs':=memC ⟨m.tot,v',m.rn,m.aw⟩ r) rfl).foc_mark (mark':=max F.mark v')
   have H2:=Lib.hid h2
   clear h2 H1 c3
   generalize (w1.setCell ⟨ps id,1,none⟩ (.int .u64 v')).setCell ⟨f,1,none⟩ (.int .u64 (max F.mark v'))=w2 at H2 ⊢
   have o0:=fun e=>(over_cell (w:=w2) (e:=e) (o:=0) H2.out.box.lt).trans (H2.out.box.cell 0)
   have o1:=fun e=>(over_cell (w:=w2) (e:=e) (o:=1) H2.out.box.lt).trans (H2.out.box.cell 1)
   have o2:=fun e=>(over_cell (w:=w2) (e:=e) (o:=2) H2.out.box.lt).trans (H2.out.box.cell 2)
   unfold memC at o0 o1 o2
   simp only [lTA,lCZ,lCS] at o0 o1 o2
   refine wp_region_over_tail 12 (by kernel_rfl) (by kernel_rfl) ?_
   simp only [List.take_succ_cons,List.take_zero,List.drop_succ_cons,List.drop_zero]
   repeat (first | go_big_quiet_skip | (go_big_quiet_want;go_big_quiet_op;go_big_quiet_on))
   refine wpQuiet_nil ?_
   rintro W3 ⟨e,he⟩
   have hb3:=over_below w2 e
   rw [← he] at hb3
   have H3:=Lib.hid (H2.out.later good_foc hb3)
   clear he o0 o1 o2 hb3 H2
   have hU1:U v':=by unfold U;omega
   have hU2:U m.tot:=by unfold U;omega
   have HU:=Lib.hid (And.intro hU1 hU2)
   clear hU1 hU2
   go_wp2_with (go_at_call 88;refine (H3.out.foc_run (ro_start v' m.tot HU.out.1 HU.out.2 (by have:=HFW.out;omega))).mono ?_;rintro e w4 ⟨rfl,h4⟩;have c3:=h4.box.cell 3;have f3:=h4.box.frozen 3;unfold memC at c3;simp only [lTA,lCZ,lCS] at c3;have H4:=Lib.hid h4;clear h4)
   go_returns
   exact⟨rfl,(Sx.unfocus (m':=⟨m.tot,v',startR m.rn v' m.tot,true⟩) (H4.out.foc_set 3 rfl) HL.out).done⟩
end
section
open Go.RowKit Go.Maps
attribute [local go_sem ↓] Go.wp_at_zero Go.wp_at_succ
attribute [local go_sem] quietR quietAtR quietUponR midAt midUpon
theorem fo_gain {W:World} {f:Nat} {F:Fam} (id n:Int)(hid:(Lit.int .i64 id).wf=true)(hn:U n)(hN:FamN F) :
  Acts (fun e=>e=.returned (.tuple #[])) (FamO f F) (FamO f (gainF reachR id n F)) 56 #[.pointer (some ⟨f,0,none⟩),.int .i64 id,.int .u64 n] Tryz.prog W:=fun A ⟨mb,ps,h⟩=>by
 have ha:=vat_any id hid h
 unfold mpV at ha
 unfold gainF
 cases hl:lookM F.m id with
 | none =>
  rw [hl] at ha
  dsimp only at ha ⊢
  have H:=Lib.hid h
  clear h hN
  go_enter Tryz.func56,Tryz.ntmps56
  go_wp2_with (go_at_call 84;refine ha.mono ?_;rintro e w1 ⟨rfl,rfl⟩)
  go_returns
  exact⟨rfl,A,⟨mb,ps,H.out⟩,Went.refl _ _⟩
 | some m =>
  rw [hl] at ha
  obtain⟨r,hs⟩:=(Sx.start (P:=FamX f mb ps F) h).focus hl
  have htb:=hN.tot id m hl
  obtain⟨n0,n1⟩:=hn
  have c0:=hs.box.cell 0
  have f0:=hs.box.frozen 0
  unfold memC at c0
  simp only [lTA,lCZ,lCS] at c0
  dsimp only at ha ⊢
  obtain⟨t',ht'⟩:∃ t',t'=m.tot+min n (capC - m.tot):=⟨_,rfl⟩
  rw [← ht']
  have htn:m.tot+min n (4611686018427387904 - m.tot)=t':=ht'.symm
  have hsub:0≤4611686018427387904 - m.tot:=by omega
  have hU:U t':=by unfold U;omega
  have H:=Lib.hid hs
  have HL:=Lib.hid hl
  have HU:=Lib.hid hU
  clear h hs hl hN hU ht'
  cases haw:m.aw with
  | false =>
   rw [if_neg (by decide)]
   go_enter Tryz.func56,Tryz.ntmps56
   go_upto_region 2 with (go_at_call 84;refine ha.mono ?_;rintro e w1 ⟨rfl,rfl⟩)
   go_region
   have h1:=(H.out.foc_set (v:=.int .u64 t') 0 (cs':=memC ⟨t',m.v,m.rn,m.aw⟩ r) rfl).later good_foc ((Below.refl _ _).drew)
   have H1:=Lib.hid h1
   clear h1 H c0 f0 htn hsub n0 n1 htb
   generalize (W.setCell ⟨ps id,0,none⟩ (.int .u64 t')).drew=w1 at H1 ⊢
   have c3:=H1.out.box.cell 3
   unfold memC at c3
   simp only [lTA,lCZ,lCS] at c3
   rw [haw] at c3 H1
   go_wp2_with fail
   go_returns
   exact⟨rfl,(Sx.unfocus (m':=⟨t',m.v,m.rn,false⟩) H1.out HL.out).done⟩
  | true =>
   rw [if_pos rfl]
   go_enter Tryz.func56,Tryz.ntmps56
   go_upto_region 2 with (go_at_call 84;refine ha.mono ?_;rintro e w1 ⟨rfl,rfl⟩)
   go_region
   have h1:=(H.out.foc_set (v:=.int .u64 t') 0 (cs':=memC ⟨t',m.v,m.rn,m.aw⟩ r) rfl).later good_foc ((Below.refl _ _).drew)
   have H1:=Lib.hid h1
   clear h1 H c0 f0 htn hsub n0 n1 htb
   generalize (W.setCell ⟨ps id,0,none⟩ (.int .u64 t')).drew=w1 at H1 ⊢
   have c3:=H1.out.box.cell 3
   unfold memC at c3
   simp only [lTA,lCZ,lCS] at c3
   rw [haw] at c3 H1
   go_upto_region 4 with fail
   clear c3
   have H3:=Lib.hid (H1.out.later good_foc ((Below.refl _ w1).drew))
   have o0:=H1.out.box.cell 0
   have o2:=H1.out.box.cell 2
   unfold memC at o0 o2
   simp only [lTA,lCZ,lCS] at o0 o2
   obtain⟨S3,hS3⟩:=H3.out.foc_getRun
   have HR:=Lib.hid (ro_reach hS3 t' HU.out)
   clear hS3 H1
   go_region_with (first
    | (go_at_call 102;refine HR.out.mono ?_;rintro e w4 ⟨rfl,hb4⟩;have H4:=Lib.hid (H3.out.later good_foc hb4);clear hb4)
    | (go_at_call 86;refine (made_any _ f mb r ⟨t',m.v,m.rn,true⟩ F.mark (reachR m.rn t') _ H4.out.box H4.out.foc_fam H4.out.foc_ne).mono ?_;rintro e w5 ⟨rfl,rfl⟩))
   all_goals
    go_wp2_with fail
    go_returns
    exact⟨rfl,(Sx.unfocus (m':=⟨t',reachR m.rn t',m.rn,true⟩) ((H4.out.foc_set (v:=.int .u64 (reachR m.rn t')) 1 (cs':=memC ⟨t',reachR m.rn t',m.rn,true⟩ r) rfl).foc_mark (mark':=max F.mark (reachR m.rn t'))) HL.out).done⟩
end
section
open Go.RowKit Go.Maps
attribute [local go_sem ↓] Go.wp_at_zero Go.wp_at_succ
attribute [local go_sem] quietR quietAtR quietUponR midAt midUpon
@[go_sem] theorem vmap_nil (m:Nat) (W:World):(binOp .eql 110 (.map (some m)) (.map none)).run Tryz.prog W=.ok (.bool false) W:=by kernel_rfl
theorem Sx.turn {w0 W W':World} {A:Nat→Prop} {mb:Nat} {L L':List (Int × Value)} {R:Ob} (hR:Good R)(h:Sx w0 A W (Star (MapO mb L) R))(hm:MapI Tryz.prog 3 W' mb L')(ht:W.mapTurned W' mb):Sx w0 A W' (Star (MapO mb L') R):=by
 obtain⟨S,⟨A1,B1,hS,hd,⟨hp,hA1⟩,hr⟩,hw0⟩:=h
 obtain⟨S',hs,hw2⟩:=Star.step (good_map mb L) hR hS hd ⟨hp,hA1⟩ hr (Q:=MapO mb L') (A':=A1) ⟨hm,hA1⟩ ⟨Fr.of_grown ht.grown fun b e=>by cases e;exact (hA1 mb).2 rfl,fun b h=>.inl h⟩
 exact⟨S',hs,hw0.trans hw2⟩
theorem fo_new (w:World):Calls Tryz.prog 31 #[] w (NewO w fun f=>FamO f fam0):=by
 have hmm:=@run_makeMap Tryz.prog
 go_enter Tryz.func31,Tryz.ntmps31
 go_wp2_with fail
 go_ret
 have h1:Sx w (fun _=>False) (w.alloc (.map #[] 0)) (Star (MapO w.heap.size []) Emp) :=
  (Sx.start (P:=Emp) (fun b h=>h)).made (S:=fun b=>b=w.heap.size) good_emp (good_map _ _) ((Below.refl w.heap.size w).alloc (Nat.le_refl _) (.map #[] 0)) ⟨MapI.made w,fun b=>Iff.rfl⟩ fun b hb=>by rw [hb];exact Nat.le_refl _
 have h2:=h1.alloc ((good_map _ _).star good_emp) #[.map (some w.heap.size),.int .u64 0] 112
 rw [World.size_alloc] at h2
 obtain⟨S,hs,hw⟩:=h2
 refine⟨_,rfl,⟨hw.fr.os,hw.fr.tape,hw.fr.output,hw.fr.size,fun b hb=>hw.fr.block b hb fun h=>h⟩,S,⟨w.heap.size,fun _=>0,hs⟩,fun b hb=>(hw.own b hb).elim (fun h=>h.elim) id⟩
theorem fam_added {w0 W W':World} {A:Nat→Prop} {f mb r p:Nat} {ps:Int→Nat} {F:Fam} {id:Int} {c:Int × Int × Int} (hn:lookM F.m id=none)
  (h:Sx w0 A W (Star (BoxO p 139 (memC (mem0 c) r)) (Star (RunO r (rn0 c)) (FamX f mb ps F)))) (hm:MapI Tryz.prog 3 W' mb (putM (ptV ps F.m) id (.pointer (some ⟨p,0,none⟩)))) (ht:W.mapTurned W' mb):Sx w0 A W' (FamO f (addF id c F)):=by
 have h1:Sx w0 A W (Star (MapO mb (ptV ps F.m)) (Star (BoxO p 139 (memC (mem0 c) r)) (Star (RunO r (rn0 c)) (Star (BoxO f 112 #[.map (some mb),.int .u64 F.mark]) (StarL (fun q=>memB (ps q.1) q.2) F.m))))):=(Sx.swap3 h).swap2.swap
 have hR:Rising F.m:=by
  obtain⟨S,hs⟩:=h1.first
  exact rising_pt.1 (hs.1.rising (int_keyed Tryz.underlying3))
 have h2:=(h1.turn ((good_box _ _ _).star ((good_run _ _).star ((good_box _ _ _).star (good_starL (fun q=>good_mem _ _) _)))) hm ht).swap.swap2
 refine h2.weak fun {S} h=>?_
 have h3:Star (memB p (mem0 c)) (Star (MapO mb (putM (ptV ps F.m) id (.pointer (some ⟨p,0,none⟩)))) (Star (BoxO f 112 #[.map (some mb),.int .u64 F.mark]) (StarL (fun q=>memB (ps q.1) q.2) F.m))) W' S:=(Star.unassoc h).over fun h=>⟨r,h⟩
 have h4:=Star.swap ((Star.swap h3).under Star.swap)
 have hne:∀ q∈F.m,q.1≠id:=look_none.1 hn
 refine⟨mb,fun k=>if k=id then p else ps k,h4.under fun h=>?_⟩
 have e1:ptV (fun k=>if k=id then p else ps k) (putM F.m id (mem0 c))=putM (ptV ps F.m) id (.pointer (some ⟨p,0,none⟩)):=by
  rw [put_pt (ps:=ps) hR fun q hq hk=>if_neg hk,if_pos rfl]
 refine (h.over fun h=>?_).under fun h=>?_
 ·show MapO mb (ptV _ (putM F.m id (mem0 c))) _ _
  rw [e1];exact h
 ·refine (starL_put hR).2 ?_
  rw [del_none hn]
  refine (h.over fun h=>?_).under fun h=>starL_congr (fun q hq S hs=>?_) h
  ·show memB (if id=id then p else ps id) (mem0 c) _ _
   rw [if_pos rfl];exact h
  ·show memB (if q.1=id then p else ps q.1) q.2 _ _
   rw [if_neg (hne q hq)];exact hs
theorem fo_add {W:World} {f:Nat} {F:Fam} (id:Int)(c:Int × Int × Int)(hid:(Lit.int .i64 id).wf=true)(hn:lookM F.m id=none)(g0:0≤c.1)(g1:0≤c.2.1)(g2:0≤c.2.2)(hmay:mayB c.1 c.2.1 c.2.2=true)(hlen:F.m.length < 100000) :
  Acts (fun e=>e=.returned (.bool true)) (FamO f F) (FamO f (addF id c F)) 37 #[.pointer (some ⟨f,0,none⟩),.int .i64 id,.agg #[.int .u64 c.1,.int .u64 c.2.1,.int .u64 c.2.2]] Tryz.prog W:=fun A ⟨mb,ps,h⟩=>by
 obtain⟨F1,L1,R1⟩:=c
 dsimp only at g0 g1 g2 hmay ⊢
 have hb0:=(Below.refl W.heap.size W).alloc (Nat.le_refl _) (.cells #[.int .u64 F1,.int .u64 L1,.int .u64 R1] 30)
 have hX:=Blk.new W 30 #[.int .u64 F1,.int .u64 L1,.int .u64 R1]
 have H:=Lib.hid (And.intro ((Sx.start (P:=FamX f mb ps F) h).later (good_famX _ _ _ _) hb0) hX)
 have HN:=Lib.hid (And.intro hn (And.intro hmay (And.intro g0 (And.intro g1 (And.intro g2 hlen)))))
 clear h hb0 hX hn hmay g0 g1 g2 hlen
 go_enter Tryz.func37,Tryz.ntmps37
 go_upto_region 1 with fail
 generalize hW1:W.alloc (.cells #[.int .u64 F1,.int .u64 L1,.int .u64 R1] 30)=W1 at H ⊢
 obtain⟨B,hB⟩:∃ B,B=W.heap.size:=⟨_,rfl⟩
 rw [← hB] at H ⊢
 clear hB hW1
 obtain⟨S1,hS1,hw1⟩:=H.out.1
 have ha:=vat_any id hid hS1
 unfold mpV at ha
 rw [HN.out.1] at ha
 dsimp only at ha
 have c0:=hS1.box.cell 0
 have k0:=H.out.2.cell 0;have k1:=H.out.2.cell 1;have k2:=H.out.2.cell 2
 simp only [lTA,lCZ,lCS] at c0 k0 k1 k2
 have hmc:=may_any F1 L1 R1 W1 HN.out.2.2.2.1
 rw [HN.out.2.1] at hmc
 clear hS1 hw1
 go_upto_region 3 with (first
  | (go_at_call 84;refine ha.mono ?_;rintro e w1 ⟨rfl,rfl⟩)
  | (go_at_call 82;refine hmc.mono ?_;rintro e w2 ⟨rfl,hb2⟩;have H2:=Lib.hid (And.intro (H.out.1.later (good_famX _ _ _ _) hb2) (H.out.2.below hb2 H.out.2.lt));clear hb2))
 clear ha hmc c0 k0 k1 k2
 have c0:=H2.out.1.box.cell 0
 have k0:=H2.out.2.cell 0;have k1:=H2.out.2.cell 1;have k2:=H2.out.2.cell 2
 simp only [lTA,lCZ,lCS] at c0 k0 k1 k2
 have HF:=Lib.hid (H2.out.1.later (good_famX _ _ _ _) ((Below.refl _ w2).drew))
 have HRN:=Lib.hid (run_newO (F1,L1,R1) w2.drew HN.out.2.2.1 HN.out.2.2.2.1 HN.out.2.2.2.2.1 HN.out.2.1)
 have hadd:∀ e w4,NewO w2.drew (fun r=>RunO r (rn0 (F1,L1,R1))) e w4→∃ r W6,e=.returned (.pointer (some ⟨r,0,none⟩))∧w4.cell? ⟨f,0,none⟩=some (.map (some mb))∧¬ f=w4.heap.size∧(w4.alloc (.cells #[.int .u64 0,.int .u64 0,.pointer (some ⟨r,0,none⟩),.bool false] 139)).cell? ⟨f,0,none⟩=some (.map (some mb))∧(Instr.mapUpdate 110 (.map (some mb)) (.int .i64 id) (.pointer (some ⟨w4.heap.size,0,none⟩))).run Tryz.prog (w4.alloc (.cells #[.int .u64 0,.int .u64 0,.pointer (some ⟨r,0,none⟩),.bool false] 139))=.ok () W6∧Sx W A W6 (FamO f (addF id (F1,L1,R1) F)):=fun e w4 hw4=>by
  obtain⟨r,rfl,h4⟩:=HF.out.new (good_famX _ _ _ _) (fun q=>good_run q _) hw4
  have c4:=h4.rest.box.cell 0
  have h5:=h4.alloc ((good_run _ _).star (good_famX _ _ _ _)) (memC (mem0 (F1,L1,R1)) r) 139
  obtain⟨S5,hS5⟩:=(Sx.swap3 h5).swap2.swap.first
  obtain⟨W6,hr6,hm6,ht6⟩:=hS5.1.store (k:=id) (E:=136) (T:=110) Tryz.underlying3 Tryz.underlying110 hid (by unfold ptV;rw [List.length_map];have:=HN.out.2.2.2.2.2;unfold maxLen;omega) (.pointer (some ⟨w4.heap.size,0,none⟩))
  exact⟨r,W6,rfl,c4,by have:=h4.rest.box.lt;omega,h5.rest.rest.box.cell 0,hr6,fam_added HN.out.1 h5 hm6 ht6⟩
 have HA:=Lib.hid hadd
 clear hadd H2 H HF
 go_region_with (go_at_call 83;refine HRN.out.mono ?_;rintro e w4 hw4;obtain⟨r,W6,rfl,c4,hf4,c5,hr6,h6⟩:=HA.out e w4 hw4;have H6:=Lib.hid h6;clear h6 hw4)
 all_goals
  clear c0 k0 k1 k2
  go_wp2_with fail
  go_ret
  exact⟨rfl,H6.out.done⟩
end
section
open Go.RowKit Go.Maps
attribute [local go_sem ↓] Go.wp_at_zero Go.wp_at_succ
attribute [local go_sem] quietR quietAtR quietUponR midAt midUpon
def LimX:Option Nat→Option Rn→Ob
 | none,o=>fun W S=>o=none∧Emp W S
 | some l,o=>LimO l o
def limV:Option Nat→Value
 | none=>.pointer none
 | some l=>.pointer (some ⟨l,0,none⟩)
theorem good_limX:∀ (l:Option Nat)(o:Option Rn),Good (LimX l o)
 | none,o=>⟨fun ⟨_,h⟩ b hb=>absurd hb (h b),fun h _ _=>h⟩
 | some l,o=>good_lim l o
def clsC (c:Cls)(l:Option Nat)(f q:Nat):Array Value:=#[.int .i64 c.pa,.bool c.lf,.bool c.sh,.int .u64 c.tot,limV l,.pointer (some ⟨f,0,none⟩),.pointer (some ⟨q,0,none⟩),.int .i64 c.un]
def ClsX (p:Nat)(cs:Array Value)(l:Option Nat)(f q:Nat)(lim:Option Rn)(fam:Fam)(tr:List En):Ob:=Star (BoxO p 65 cs) (Star (LimX l lim) (Star (FamO f fam) (TrO q tr)))
theorem good_clsX (p:Nat)(cs:Array Value)(l:Option Nat)(f q:Nat)(lim:Option Rn)(fam:Fam)(tr:List En):Good (ClsX p cs l f q lim fam tr):=(good_box _ _ _).star ((good_limX _ _).star ((good_fam _ _).star (good_tr _ _)))
def ClsO (p:Nat)(c:Cls):Ob:=fun W S=>∃ l f q,ClsX p (clsC c l f q) l f q c.lim c.fam c.tr W S
theorem good_cls (p:Nat)(c:Cls):Good (ClsO p c) :=
 ⟨fun ⟨l,f,q,h⟩ b hb=>(good_clsX _ _ _ _ _ _ _ _).lt h b hb,fun ⟨l,f,q,h⟩ hs hk=>⟨l,f,q,(good_clsX _ _ _ _ _ _ _ _).kept h hs hk⟩⟩
def PkX (k mb:Nat)(ps:Int→Nat)(P:Pk):Ob:=Star (BoxO k 68 #[.map (some mb)]) (Star (MapO mb (ptV ps P)) (StarL (fun q=>ClsO (ps q.1) q.2) P))
theorem good_pkX (k mb:Nat)(ps:Int→Nat)(P:Pk):Good (PkX k mb ps P):=(good_box _ _ _).star ((good_map _ _).star (good_starL (fun q=>good_cls _ _) _))
def PkO (k:Nat)(P:Pk):Ob:=fun W S=>∃ mb ps,PkX k mb ps P W S
theorem good_pk (k:Nat)(P:Pk):Good (PkO k P) :=
 ⟨fun ⟨mb,ps,h⟩ b hb=>(good_pkX _ _ _ _).lt h b hb,fun ⟨mb,ps,h⟩ hs hk=>⟨mb,ps,(good_pkX _ _ _ _).kept h hs hk⟩⟩
structure ClsR (W:World)(p:Nat)(c:Cls)(l:Option Nat)(f q:Nat):Prop where
 blk:Blk W p 65 (clsC c l f q)
 lim:∃ S,LimX l c.lim W S
 fam:∃ mb ps S,FamX f mb ps c.fam W S
 tr:∃ S,TrO q c.tr W S
structure PkB (P:Pk):Prop where
 ids:∀ id c,lookM P id=some c→0≤id∧id≤65535
 par:∀ id c,lookM P id=some c→id≠0→∃ p,lookM P c.pa=some p
theorem wf_small {i:Int} (h0:0≤i)(h1:i≤65535):(Lit.int .i64 i).wf=true:=by
 simp [Lit.wf,IntKind.min,IntKind.max,IntKind.bits,IntKind.signed];omega
section
variable {W : World} {k mb : Nat} {ps : Int → Nat} {P : Pk} {S : Nat → Prop}
theorem PkX.map (h:PkX k mb ps P W S):MapI Tryz.prog 3 W mb (ptV ps P):=by
 obtain⟨_,B,_,_,_,C,_,_,_,hm,_⟩:=h
 exact hm.1
theorem PkX.box (h:PkX k mb ps P W S):Blk W k 68 #[.map (some mb)]:=by
 obtain⟨_,B,_,_,hp,_⟩:=h
 exact hp.1
theorem PkX.rising (h:PkX k mb ps P W S):Rising P:=rising_pt.1 (h.map.rising (int_keyed Tryz.underlying3))
theorem PkX.cls (h:PkX k mb ps P W S) {id:Int} {c:Cls} (hc:lookM P id=some c):∃ l f q,ClsR W (ps id) c l f q:=by
 have hr:=h.rising
 obtain⟨_,B,_,_,hp,_,D,_,_,_,hl⟩:=h
 obtain⟨B',l,f,q,_,_,_,_,hb,_,_,_,_,h1,_,_,_,_,⟨mb',ps',h2⟩,h3⟩:=starL_mem hr hc hl
 exact⟨l,f,q,⟨hb.1,⟨_,h1⟩,⟨_,_,_,h2⟩,⟨_,h3⟩⟩⟩
theorem PkX.look (h:PkX k mb ps P W S) {id:Int} (hid:(Lit.int .i64 id).wf=true) :
  (Instr.lookup 66 (.map (some mb)) (.int .i64 id) false).run Tryz.prog W=.ok (((lookM P id).map fun _=>Value.pointer (some ⟨ps id,0,none⟩)).getD (.pointer none)) W:=by
 have hq:=h.map.look (k:=id) (E:=58) (T:=66) (z:=.pointer none) Tryz.underlying3 Tryz.underlying66 (by exact Tryz.zeroValue58 _) hid
 rw [look_pt] at hq
 exact hq
def cpV (ps:Int→Nat)(P:Pk)(id:Int):Value:=match lookM P id with
 | none=>.pointer none
 | some _=>.pointer (some ⟨ps id,0,none⟩)
theorem pat_any (id:Int)(hid:(Lit.int .i64 id).wf=true)(h:PkX k mb ps P W S) :
  Calls Tryz.prog 34 #[.pointer (some ⟨k,0,none⟩),.int .i64 id] W fun e W'=>e=.returned (cpV ps P id)∧W=W':=by
 have hq:=h.look hid
 have hz:((lookM P id).map fun _=>Value.pointer (some ⟨ps id,0,none⟩)).getD (.pointer none)=cpV ps P id:=by
  unfold cpV
  cases lookM P id <;> rfl
 rw [hz] at hq
 have c0:=h.box.cell 0
 simp only [lTA,lCZ,lCS] at c0
 clear h hz
 go_enter Tryz.func34,Tryz.ntmps34
 go_wp2_with fail
 go_ret
 exact⟨rfl,rfl⟩
theorem awP_fam {id:Int} {c p:Cls} (h0:0 < id)(hc:lookM P id=some c)(hp:lookM P c.pa=some p):awP P id=fawF p.fam id:=by
 unfold awP fawF
 rw [memP_is hc hp,decide_eq_true h0,Bool.true_and]
 cases lookM p.fam.m id <;> rfl
theorem vP_fam {id:Int} {c p:Cls} (h0:0 < id)(hc:lookM P id=some c)(hp:lookM P c.pa=some p):vP P id=fvF p.fam id:=by
 unfold vP fvF
 rw [memP_is hc hp,if_pos h0]
 cases lookM p.fam.m id <;> rfl
theorem awP_none {id:Int} (hc:lookM P id=none):awP P id=false:=by
 unfold awP memP paP
 rw [hc]
 simp
theorem vP_none {id:Int} (hc:lookM P id=none):vP P id=0:=by
 unfold vP memP paP
 rw [hc]
 simp
theorem pv_any (id:Int)(hid:(Lit.int .i64 id).wf=true)(h:PkX k mb ps P W S)(hB:PkB P) :
  Calls Tryz.prog 30 #[.pointer (some ⟨k,0,none⟩),.int .i64 id] W fun e W'=>e=.returned (.int .u64 (vP P id))∧Below W.heap.size W W':=by
 have ha:=pat_any id hid h
 by_cases h0:id < 1
 ·have:vP P id=0:=by unfold vP;rw [if_neg (by omega)]
  rw [this]
  clear h
  go_enter Tryz.func30,Tryz.ntmps30
  go_wp2_with (go_at_call 34;refine ha.mono ?_;rintro e w1 ⟨rfl,rfl⟩)
  go_ret
  exact⟨rfl,Below.refl _ _⟩
 ·unfold cpV at ha
  cases hl:lookM P id with
  | none =>
   rw [hl] at ha
   rw [vP_none hl]
   dsimp only at ha
   clear h
   go_enter Tryz.func30,Tryz.ntmps30
   go_wp2_with (go_at_call 34;refine ha.mono ?_;rintro e w1 ⟨rfl,rfl⟩)
   go_ret
   exact⟨rfl,Below.refl _ _⟩
  | some c =>
   rw [hl] at ha
   dsimp only at ha
   obtain⟨p,hp⟩:=hB.par id c hl (by omega)
   rw [vP_fam (by omega) hl hp]
   obtain⟨l,f,q,hcr⟩:=h.cls hl
   obtain⟨l2,f2,q2,hpr⟩:=h.cls hp
   obtain⟨mb',ps',S',hf⟩:=hpr.fam
   have hd:PkX k mb ps P W.drew S:=(good_pkX _ _ _ _).kept h (Nat.le_refl _) fun _ _=>rfl
   have hfd:FamX f2 mb' ps' p.fam W.drew S':=(good_famX _ _ _ _).kept hf (Nat.le_refl _) fun _ _=>rfl
   have hv:=vv_any id hid hfd
   have hlk:=hd.look (wf_small (hB.ids _ _ hp).1 (hB.ids _ _ hp).2)
   rw [hp] at hlk
   dsimp only [Option.map_some,Option.getD_some] at hlk
   have c0:=h.box.cell 0
   have d0:=hcr.blk.cell 0
   have e5:=hpr.blk.cell 5
   unfold clsC at d0 e5
   simp only [lTA,lCZ,lCS] at c0 d0 e5
   clear h hcr hpr hf hd hfd
   go_enter Tryz.func30,Tryz.ntmps30
   go_wp2_with (first
    | (go_at_call 34;refine ha.mono ?_;rintro e w1 ⟨rfl,rfl⟩))
   go_region_with (go_at_call 76;refine hv.mono ?_;rintro e w1 ⟨rfl,rfl⟩)
   all_goals
    go_wp2_with fail
    go_ret
    exact⟨rfl,(Below.refl _ W).drew⟩
end
end
section
open Go.RowKit Go.Maps
attribute [local go_sem ↓] Go.wp_at_zero Go.wp_at_succ
attribute [local go_sem] quietR quietAtR quietUponR midAt midUpon
section
variable {W : World} {k mb : Nat} {ps : Int → Nat} {P : Pk} {S : Nat → Prop}
theorem pawake_any (id:Int)(hid:(Lit.int .i64 id).wf=true)(h:PkX k mb ps P W S)(hB:PkB P) :
  Calls Tryz.prog 23 #[.pointer (some ⟨k,0,none⟩),.int .i64 id] W fun e W'=>e=.returned (.bool (awP P id))∧Below W.heap.size W W':=by
 have ha:=pat_any id hid h
 by_cases h0:id≤0
 ·have:awP P id=false:=by unfold awP;rw [decide_eq_false (by omega)];rfl
  rw [this]
  have hd:decide (0 < id)=false:=decide_eq_false (by omega)
  generalize hcv:cpV ps P id=cv at ha
  clear h hcv
  go_enter Tryz.func23,Tryz.ntmps23
  go_upto_region 2 with (go_at_call 34;refine ha.mono ?_;rintro e w1 ⟨rfl,rfl⟩)
  refine wp_region_over (by kernel_rfl) (by kernel_rfl) ?_
  repeat (first | go_big_quiet_skip | (go_big_quiet_want;go_big_quiet_op;go_big_quiet_on))
  refine wpQuiet_nil ?_
  rintro w3 ⟨e,rfl⟩
  go_wp2_with fail
  go_ret
  exact⟨rfl,over_below _ _⟩
 ·have h1:0 < id:=by omega
  unfold cpV at ha
  cases hl:lookM P id with
  | none =>
   rw [hl] at ha
   rw [awP_none hl]
   dsimp only at ha
   clear h
   go_enter Tryz.func23,Tryz.ntmps23
   go_upto_region 2 with (go_at_call 34;refine ha.mono ?_;rintro e w1 ⟨rfl,rfl⟩)
   have hd:decide (0 < id)=true:=decide_eq_true h1
   refine wp_region_over (by kernel_rfl) (by kernel_rfl) ?_
   repeat (first | go_big_quiet_skip | (go_big_quiet_want;go_big_quiet_op;go_big_quiet_on))
   refine wpQuiet_nil ?_
   rintro w3 ⟨e,rfl⟩
   go_wp2_with fail
   go_ret
   exact⟨rfl,over_below _ _⟩
  | some c =>
   rw [hl] at ha
   dsimp only at ha
   obtain⟨p,hp⟩:=hB.par id c hl (by omega)
   rw [awP_fam (by omega) hl hp]
   obtain⟨l,f,q,hcr⟩:=h.cls hl
   obtain⟨l2,f2,q2,hpr⟩:=h.cls hp
   obtain⟨mb',ps',S',hf⟩:=hpr.fam
   have ho:∀ e,PkX k mb ps P (over W e) S:=fun e=>(good_pkX _ _ _ _).kept h (over_below W e).size fun b hb=>over_heap W e b ((good_pkX _ _ _ _).lt h b hb)
   have hfo:∀ e,FamX f2 mb' ps' p.fam (over W e) S':=fun e=>(good_famX _ _ _ _).kept hf (over_below W e).size fun b hb=>over_heap W e b ((good_famX _ _ _ _).lt hf b hb)
   have hv:=fun e=>vawake_any id hid (hfo e)
   have hlk:∀ e,(Instr.lookup 66 (.map (some mb)) (.int .i64 c.pa) false).run Tryz.prog (over W e)=.ok (.pointer (some ⟨ps c.pa,0,none⟩)) (over W e):=fun e=>by
    have:=(ho e).look (wf_small (hB.ids _ _ hp).1 (hB.ids _ _ hp).2)
    rw [hp] at this
    exact this
   have c0:=fun e=>(over_cell (w:=W) (e:=e) (o:=0) h.box.lt).trans (h.box.cell 0)
   have d0:=fun e=>(over_cell (w:=W) (e:=e) (o:=0) hcr.blk.lt).trans (hcr.blk.cell 0)
   have e5:=fun e=>(over_cell (w:=W) (e:=e) (o:=5) hpr.blk.lt).trans (hpr.blk.cell 5)
   unfold clsC at d0 e5
   simp only [lTA,lCZ,lCS] at c0 d0 e5
   have HV:=Lib.hid hv
   clear h hcr hpr hf ho hfo hv
   go_enter Tryz.func23,Tryz.ntmps23
   go_upto_region 2 with (go_at_call 34;refine ha.mono ?_;rintro e w1 ⟨rfl,rfl⟩)
   have hd:decide (0 < id)=true:=decide_eq_true h1
   refine wp_region_over (by kernel_rfl) (by kernel_rfl) ?_
   repeat (first | go_big_quiet_skip | (go_big_quiet_want;go_big_quiet_op;first | go_big_quiet_on | (apply Exists.intro;refine⟨fun e=>?_,?_⟩;(focus (go_at_call 71;with_reducible exact calls_over_same (HV.out e)));go_big_quiet_on)))
   refine wpQuiet_nil ?_
   rintro w3 ⟨e,rfl⟩
   go_wp2_with fail
   go_ret
   exact⟨rfl,over_below _ _⟩
end
end
section
open Go.RowKit Go.Maps
attribute [local go_sem ↓] Go.wp_at_zero Go.wp_at_succ
attribute [local go_sem] quietR quietAtR quietUponR midAt midUpon
theorem one_cell (w:World)(lo:Int):∀ j,j < 1→(w.alloc (.cells #[.int .u64 lo] 28)).cell? ⟨w.heap.size,0+j,none⟩=some (.int .u64 ([lo].getD j 0)):=fun j hj=>by
 obtain rfl:j=0:=by omega
 exact (Blk.new w 28 #[.int .u64 lo]).cell 0
theorem lbound_nil (w:World) :
  Calls Tryz.prog 89 #[.pointer none] w fun e w'=>e=.returned (.pointer none)∧Below w.heap.size w w':=by
 go_enter Tryz.func89,Tryz.ntmps89
 go_wp2
 go_ret
 exact⟨rfl,Below.refl _ _⟩
theorem lfit_nil (w:World)(y:Int) :
  Calls Tryz.prog 112 #[.pointer none,.int .u64 y] w fun e w'=>e=.returned (.int .u64 0)∧Below w.heap.size w w':=by
 go_enter Tryz.func112,Tryz.ntmps112
 go_wp2_with (go_at_call 89;refine (lbound_nil _).mono ?_;rintro e w1 ⟨rfl,hb1⟩)
 go_ret
 exact⟨rfl,hb1⟩
theorem lx_fit {W:World} {l:Option Nat} {o:Option Rn} {S:Nat→Prop} (h:LimX l o W S)(y:Int)(hy:U y) :
  Calls Tryz.prog 112 #[limV l,.int .u64 y] W fun e W'=>e=.returned (.int .u64 (owL o y))∧Below W.heap.size W W':=by
 cases l with
 | none =>
  obtain⟨rfl,_⟩:=h
  exact lfit_nil W y
 | some l=>exact lo_fit h y hy
section
variable {W : World} {p f q : Nat} {l : Option Nat} {c : Cls}
theorem ClsR.over (h:ClsR W p c l f q) {W':World} (hb:Below W.heap.size W W'):ClsR W' p c l f q:=by
 obtain⟨h1,⟨S1,h2⟩,⟨mb,ps,S2,h3⟩,⟨S3,h4⟩⟩:=h
 have kp:∀ {Q:Ob} {S:Nat→Prop},Good Q→Q W S→Q W' S:=fun hQ hq=>hQ.kept hq hb.size fun b hb2=>hb.block b (hQ.lt hq b hb2)
 exact⟨h1.below hb h1.lt,⟨S1,kp (good_limX _ _) h2⟩,⟨mb,ps,S2,kp (good_famX _ _ _ _) h3⟩,⟨S3,kp (good_tr _ _) h4⟩⟩
theorem cfit_any (h:ClsR W p c l f q)(hU:U c.tot) :
  Calls Tryz.prog 72 #[.pointer (some ⟨p,0,none⟩)] W fun e W'=>e=.returned (.int .u64 (fitC owL c))∧Below W.heap.size W W':=by
 have ho:∀ e,ClsR (over W e) p c l f q:=fun e=>h.over (over_below W e)
 have hl:∀ e,Calls Tryz.prog 112 #[limV l,.int .u64 c.tot] (over W e) fun r W'=>r=.returned (.int .u64 (owL c.lim c.tot))∧Below (over W e).heap.size (over W e) W':=fun e=>by
  obtain⟨S,hS⟩:=(ho e).lim
  exact lx_fit hS _ hU
 have c3:=fun e=>(over_cell (w:=W) (e:=e) (o:=3) h.blk.lt).trans (h.blk.cell 3)
 have c4:=fun e=>(over_cell (w:=W) (e:=e) (o:=4) h.blk.lt).trans (h.blk.cell 4)
 unfold clsC at c3 c4
 simp only [lTA,lCZ,lCS] at c3 c4
 have H:=Lib.hid h
 have HL:=Lib.hid hl
 obtain⟨o,hoo⟩:∃ o,o=owL c.lim c.tot:=⟨_,rfl⟩
 unfold fitC
 rw [← hoo] at HL ⊢
 generalize limV l=lv at HL c4
 clear h ho hl hoo
 cases hlf:c.lf with
 | true =>
  rw [if_pos rfl]
  go_enter Tryz.func72,Tryz.ntmps72
  go_upto_region 1 with fail
  refine wp_region_over (by kernel_rfl) (by kernel_rfl) ?_
  repeat (first | go_big_quiet_skip | (go_big_quiet_want;go_big_quiet_op;first | go_big_quiet_on | (apply Exists.intro;refine⟨fun e=>?_,?_⟩;(focus (go_at_call 112;with_reducible exact calls_over (HL.out e)));go_big_quiet_on)))
  refine wpQuiet_nil ?_
  rintro w3 ⟨e,he⟩
  have hb3:=over_below W e
  rw [← he] at hb3
  have H3:=Lib.hid (And.intro (H.out.over hb3) hb3)
  have d1:=H3.out.1.blk.cell 1
  unfold clsC at d1
  rw [hlf] at d1
  simp only [lTA,lCZ,lCS] at d1
  clear he hb3 c3 c4 hlf
  go_wp2_with fail
  go_ret
  exact⟨rfl,H3.out.2⟩
 | false =>
  rw [if_neg (by decide)]
  cases hlw:lowV c.tr with
  | none =>
   dsimp only
   go_enter Tryz.func72,Tryz.ntmps72
   go_upto_region 1 with fail
   refine wp_region_over (by kernel_rfl) (by kernel_rfl) ?_
   repeat (first | go_big_quiet_skip | (go_big_quiet_want;go_big_quiet_op;first | go_big_quiet_on | (apply Exists.intro;refine⟨fun e=>?_,?_⟩;(focus (go_at_call 112;with_reducible exact calls_over (HL.out e)));go_big_quiet_on)))
   refine wpQuiet_nil ?_
   rintro w3 ⟨e,he⟩
   have hb3:=over_below W e
   rw [← he] at hb3
   have h3:=H.out.over hb3
   have H3:=Lib.hid (And.intro h3 hb3)
   have d1:=h3.blk.cell 1
   have d6:=h3.blk.cell 6
   obtain⟨S3,hS3⟩:=h3.tr
   have htl:=tr_lowest hS3
   unfold LowW at htl
   unfold clsC at d1 d6
   rw [hlf] at d1
   simp only [lTA,lCZ,lCS] at d1 d6
   clear he hb3 c3 c4 hlf h3 hS3
   rw [hlw] at htl
   dsimp only [Option.getD,Option.isSome] at htl
   go_wp2_with (go_at_call 68;refine htl.mono ?_;rintro e w4 ⟨rfl,hb4⟩)
   go_returns
   exact⟨rfl,H3.out.2.trans (hb4.mono H3.out.2.size)⟩
  | some lo =>
   dsimp only
   go_enter Tryz.func72,Tryz.ntmps72
   go_upto_region 1 with fail
   refine wp_region_over (by kernel_rfl) (by kernel_rfl) ?_
   repeat (first | go_big_quiet_skip | (go_big_quiet_want;go_big_quiet_op;first | go_big_quiet_on | (apply Exists.intro;refine⟨fun e=>?_,?_⟩;(focus (go_at_call 112;with_reducible exact calls_over (HL.out e)));go_big_quiet_on)))
   refine wpQuiet_nil ?_
   rintro w3 ⟨e,he⟩
   have hb3:=over_below W e
   rw [← he] at hb3
   have h3:=H.out.over hb3
   have H3:=Lib.hid (And.intro h3 hb3)
   have d1:=h3.blk.cell 1
   have d6:=h3.blk.cell 6
   obtain⟨S3,hS3⟩:=h3.tr
   have htl:=tr_lowest hS3
   unfold LowW at htl
   unfold clsC at d1 d6
   rw [hlf] at d1
   simp only [lTA,lCZ,lCS] at d1 d6
   clear he hb3 c3 c4 hlf h3 hS3
   rw [hlw] at htl
   dsimp only [Option.getD,Option.isSome] at htl
   go_wp2_with (first
    | (go_at_call 68;refine htl.mono ?_;rintro e w4 ⟨rfl,hb4⟩)
    | (go_at_call 113;refine (inner_some o _ _ 1 1 [lo] _ (by omega) (by omega) (one_cell w4 lo)).mono ?_;rintro e w5 ⟨rfl,rfl⟩))
   go_returns
   exact⟨rfl,H3.out.2.trans ((hb4.alloc (Nat.le_of_lt_succ (Nat.lt_succ_of_le hb4.size)) _).mono H3.out.2.size)⟩
end
end
section
open Go.RowKit Go.Maps
attribute [local go_sem ↓] Go.wp_at_zero Go.wp_at_succ
attribute [local go_sem] quietR quietAtR quietUponR midAt midUpon
def tickP (P:Pk):Int:=match lookM P 0 with
 | none=>nevC
 | some c=>(lowV c.tr).getD nevC
def totP (P:Pk)(id:Int):Int:=if 0 < id then (match lookM P id with
 | none=>0
 | some c=>c.tot) else 0
section
variable {W : World} {k mb : Nat} {ps : Int → Nat} {P : Pk} {S : Nat → Prop}
theorem ptick_any {c:Cls} (h:PkX k mb ps P W S)(hc:lookM P 0=some c) :
  Calls Tryz.prog 21 #[.pointer (some ⟨k,0,none⟩)] W fun e W'=>e=.returned (.int .u64 (tickP P))∧Below W.heap.size W W':=by
 have ha:=pat_any 0 (by decide) h
 unfold cpV at ha
 rw [hc] at ha
 dsimp only at ha
 obtain⟨l,f,q,hr⟩:=h.cls hc
 have c6:=hr.blk.cell 6
 unfold clsC at c6
 simp only [lTA,lCZ,lCS] at c6
 obtain⟨S2,hS2⟩:=hr.tr
 have htl:=tr_lowest hS2
 unfold LowW at htl
 unfold tickP
 rw [hc]
 dsimp only
 clear h hr hS2 hc
 cases hlw:lowV c.tr with
 | none =>
  rw [hlw] at htl
  dsimp only [Option.getD,Option.isSome] at htl ⊢
  clear hlw
  go_enter Tryz.func21,Tryz.ntmps21
  go_wp2_with (first
   | (go_at_call 34;refine ha.mono ?_;rintro e w1 ⟨rfl,rfl⟩)
   | (go_at_call 68;refine htl.mono ?_;rintro e w2 ⟨rfl,hb2⟩))
  go_returns
  exact⟨rfl,hb2⟩
 | some lo =>
  rw [hlw] at htl
  dsimp only [Option.getD,Option.isSome] at htl ⊢
  clear hlw
  go_enter Tryz.func21,Tryz.ntmps21
  go_wp2_with (first
   | (go_at_call 34;refine ha.mono ?_;rintro e w1 ⟨rfl,rfl⟩)
   | (go_at_call 68;refine htl.mono ?_;rintro e w2 ⟨rfl,hb2⟩))
  go_returns
  exact⟨rfl,hb2⟩
theorem ptotal_any (id:Int)(hid:(Lit.int .i64 id).wf=true)(h:PkX k mb ps P W S) :
  Calls Tryz.prog 27 #[.pointer (some ⟨k,0,none⟩),.int .i64 id] W fun e W'=>e=.returned (.int .u64 (totP P id))∧Below W.heap.size W W':=by
 have ha:=pat_any id hid h
 unfold totP
 by_cases h0:0 < id
 ·rw [if_pos h0]
  unfold cpV at ha
  cases hl:lookM P id with
  | none =>
   rw [hl] at ha
   dsimp only at ha ⊢
   clear h
   go_enter Tryz.func27,Tryz.ntmps27
   go_wp2_with (go_at_call 34;refine ha.mono ?_;rintro e w1 ⟨rfl,rfl⟩)
   go_returns
   exact⟨rfl,Below.refl _ _⟩
  | some c =>
   rw [hl] at ha
   dsimp only at ha ⊢
   obtain⟨l,f,q,hr⟩:=h.cls hl
   have c3:=hr.blk.cell 3
   unfold clsC at c3
   simp only [lTA,lCZ,lCS] at c3
   clear h hr hl
   go_enter Tryz.func27,Tryz.ntmps27
   go_wp2_with (go_at_call 34;refine ha.mono ?_;rintro e w1 ⟨rfl,rfl⟩)
   go_returns
   exact⟨rfl,Below.refl _ _⟩
 ·rw [if_neg h0]
  generalize cpV ps P id=cv at ha
  clear h
  go_enter Tryz.func27,Tryz.ntmps27
  go_wp2_with (go_at_call 34;refine ha.mono ?_;rintro e w1 ⟨rfl,rfl⟩)
  go_returns
  exact⟨rfl,Below.refl _ _⟩
end
end
section
open Go.RowKit Go.Maps
attribute [local go_sem ↓] Go.wp_at_zero Go.wp_at_succ
attribute [local go_sem] quietR quietAtR quietUponR midAt midUpon
inductive Desc (P:Pk) (now:Int):Int→Option Int→Nat→Prop
 | leaf {id:Int} {c:Cls}:lookM P id=some c→c.lf=true→Desc P now id (some id) 0
 | stop {id:Int} {c:Cls}:lookM P id=some c→c.lf=false→withinV c.tr now=none→Desc P now id none 0
 | go {id j:Int} {c:Cls} {r:Option Int} {n:Nat}:lookM P id=some c→c.lf=false→withinV c.tr now=some j→Desc P now j r n→Desc P now id r (n+1)
theorem Desc.look {P:Pk} {now id:Int} {r:Option Int} {n:Nat} (h:Desc P now id r n):∃ c,lookM P id=some c:=by
 cases h with
 | leaf h _=>exact⟨_,h⟩
 | stop h _ _=>exact⟨_,h⟩
 | go h _ _ _=>exact⟨_,h⟩
section
variable {W : World} {k mb : Nat} {ps : Int → Nat} {P : Pk} {S : Nat → Prop}
theorem pnext_any {now:Int} {r:Option Int} {n:Nat} (h:PkX k mb ps P W S)(hB:PkB P)(hd:Desc P now 0 r n) :
  Calls Tryz.prog 13 #[.pointer (some ⟨k,0,none⟩),.int .u64 now] W (OptW W r):=by
 have ha:=pat_any 0 (by decide) h
 unfold cpV at ha
 obtain⟨c0,hc0⟩:=hd.look
 rw [hc0] at ha
 dsimp only at ha
 have H:=Lib.hid (And.intro h (And.intro hB hd))
 clear h hB hd hc0
 go_enter Tryz.func13,Tryz.ntmps13
 go_wp2_with (go_at_call 34;refine ha.mono ?_;rintro e w1 ⟨rfl,rfl⟩)
 go_loopg [6,7,8,9] n (fun m v6 v7 v8 v9 wr=>∃ id,v6=.int .i64 id∧v7=.pointer (some ⟨ps id,0,none⟩)∧Desc P now id r m∧Below W.heap.size W wr)
 case atStart=>exact⟨0,rfl,rfl,H.out.2.2,Below.refl _ _⟩
 case round =>
  obtain⟨id,rfl,rfl,hd,hb⟩:=hrel
  have hk:PkX k mb ps P wr S:=(good_pkX _ _ _ _).kept H.out.1 hb.size fun b hb2=>hb.block b ((good_pkX _ _ _ _).lt H.out.1 b hb2)
  have HB:=Lib.hid hb
  have HK:=Lib.hid hk
  clear ha hb
  cases hd with
  | leaf hc hlf =>
   obtain⟨l,f,q,hr⟩:=hk.cls hc
   have c1:=hr.blk.cell 1
   have c6:=hr.blk.cell 6
   unfold clsC at c1 c6
   rw [hlf] at c1
   simp only [lTA,lCZ,lCS] at c1 c6
   obtain⟨S2,hS2⟩:=hr.tr
   have hwi:=tr_within hS2 now
   unfold OptW at hwi
   clear hk hr hS2 hwi hc hlf
   go_wp2_with fail
   go_returns
   exact⟨rfl,HB.out⟩
  | stop hc hlf hwn =>
   obtain⟨l,f,q,hr⟩:=hk.cls hc
   have c1:=hr.blk.cell 1
   have c6:=hr.blk.cell 6
   unfold clsC at c1 c6
   rw [hlf] at c1
   simp only [lTA,lCZ,lCS] at c1 c6
   obtain⟨S2,hS2⟩:=hr.tr
   have hwi:=tr_within hS2 now
   unfold OptW at hwi
   rw [hwn] at hwi
   dsimp only [Option.getD,Option.isSome] at hwi
   clear hk hr hS2 hc hlf hwn
   go_wp2_with (go_at_call 52;refine hwi.mono ?_;rintro e w2 ⟨rfl,hb2⟩)
   go_returns
   exact⟨rfl,HB.out.trans (hb2.mono HB.out.size)⟩
  | @go _ j c _ m hc hlf hwn hd =>
   obtain⟨l,f,q,hr⟩:=hk.cls hc
   have c1:=hr.blk.cell 1
   have c6:=hr.blk.cell 6
   unfold clsC at c1 c6
   rw [hlf] at c1
   simp only [lTA,lCZ,lCS] at c1 c6
   obtain⟨S2,hS2⟩:=hr.tr
   have hwi:=tr_within hS2 now
   unfold OptW at hwi
   rw [hwn] at hwi
   dsimp only [Option.getD,Option.isSome] at hwi
   obtain⟨cj,hcj⟩:=hd.look
   have HJ:=Lib.hid (And.intro hcj hd)
   clear hk hr hS2 hc hlf hwn hcj hd
   go_upto_region 6 with (go_at_call 52;refine hwi.mono ?_;rintro e w2 ⟨rfl,hb2⟩)
   have hk2:PkX k mb ps P w2 S:=(good_pkX _ _ _ _).kept HK.out hb2.size fun b hb3=>hb2.block b ((good_pkX _ _ _ _).lt HK.out b hb3)
   have hlk:∀ e,(Instr.lookup 66 (.map (some mb)) (.int .i64 j) false).run Tryz.prog (over w2 e)=.ok (.pointer (some ⟨ps j,0,none⟩)) (over w2 e):=fun e=>by
    have ho:PkX k mb ps P (over w2 e) S:=(good_pkX _ _ _ _).kept hk2 (over_below w2 e).size fun b hb=>over_heap w2 e b ((good_pkX _ _ _ _).lt hk2 b hb)
    have:=ho.look (wf_small (H.out.2.1.ids _ _ HJ.out.1).1 (H.out.2.1.ids _ _ HJ.out.1).2)
    rw [HJ.out.1] at this
    exact this
   have o1:=fun e=>(over_cell (w:=w2) (e:=e) (o:=0) hk2.box.lt).trans (hk2.box.cell 0)
   simp only [lTA,lCZ,lCS] at o1
   have HB2:=Lib.hid (HB.out.trans (hb2.mono HB.out.size))
   clear hk2 hb2 c1 c6 hwi
   refine wp_region_over (by kernel_rfl) (by kernel_rfl) ?_
   repeat (first | go_big_quiet_skip | (go_big_quiet_want;go_big_quiet_op;go_big_quiet_on))
   refine wpQuiet_nil ?_
   rintro w3 ⟨e,rfl⟩
   clear o1 hlk
   go_wp2_with fail
   go_roundg m
   case measure=>omega
   case rel=>exact⟨j,rfl,rfl,HJ.out.2,HB2.out.trans ((over_below w2 e).mono HB2.out.size)⟩
end
end
end Go.Proofs.YtmmeopjemkjllaaGreat
