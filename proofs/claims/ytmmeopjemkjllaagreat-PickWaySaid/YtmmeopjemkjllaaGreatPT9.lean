/- Lemmas of the claim. No conditions beyond those that each states. -/
import Derived.Test.YtmmeopjemkjllaaGreatProg
import Derived.WalkKit
import Derived.ProofKit
import Derived.OpenShut
import Derived.Deep.QuietTactic
import Derived.BigQuiet
import Derived.StillTail
import Derived.WalkSmall
import Derived.Lib.Hide
import Derived.Handy
set_option linter.unusedVariables false
set_option linter.unusedSimpArgs false
set_option maxRecDepth 100000
set_option maxHeartbeats 8000000
namespace Go.Proofs.YtmmeopjemkjllaaGreat
section
open Go.RowKit
def over (w e:World):World:={ heap:=w.heap ++ e.heap.extract w.heap.size e.heap.size,tape:=w.tape,drawn:=e.drawn,os:=w.os,output:=w.output }
theorem over_heap (w e:World)(k:Nat)(h:k < w.heap.size):(over w e).heap[k]?=w.heap[k]?:=by
 show (w.heap ++ _)[k]?=_
 rw [Array.getElem?_append_left h]
theorem over_cell {w e:World} {b o:Nat} (h:b < w.heap.size):(over w e).cell? ⟨b,o,none⟩=w.cell? ⟨b,o,none⟩ :=
 World.cell?_of_block (w:=w) (w':=over w e) (a:=⟨b,o,none⟩) (over_heap w e b h)
theorem over_below (w e:World):Below w.heap.size w (over w e) :=
 ⟨rfl,rfl,rfl,by show w.heap.size≤(w.heap ++ _).size;rw [Array.size_append];omega,over_heap w e⟩
theorem eq_over {w W:World} (h:Below w.heap.size w W):W=over w W:=by
 have h1:W.heap=w.heap ++ W.heap.extract w.heap.size W.heap.size:=by
  apply Array.ext_getElem?
  intro i
  by_cases hi:i < w.heap.size
  ·rw [Array.getElem?_append_left hi,h.block i hi]
  ·rw [Array.getElem?_append_right (by omega),Array.getElem?_extract]
   split
   ·congr 1;omega
   ·rw [Array.getElem?_eq_none (by omega)]
 cases W
 simp only [over] at *
 rw [← h1]
 have h2:=h.os;have h3:=h.tape;have h4:=h.output
 simp only at h2 h3 h4
 subst h2;subst h3;subst h4
 rfl
section
variable {P : Program} {ops : Array Oper} {md : Region.Mode} {C : World → Prop}
def headQ (P:Program)(md:Region.Mode)(ops:Array Oper)(C:World→Prop)(n:Nat)(L:Array Bool→Act→Prop):Nat→Array Bool→Act→Prop
 | 0,listed,a=>L listed a
 | f+1,listed,a =>
  Region.ready md ops listed≠[]∧∀ i∈Region.ready md ops listed,i < n∧qOp P ops C i (headQ P md ops C n L f (listed.setIfInBounds i true)) a
theorem any_of_headQ {n g:Nat} {L:Array Bool→Act→Prop} {Q':Exit→Act→World→Prop} (hL:∀ listed a w,C w→L listed a→wpAny P md ops Q' g listed a w) :
  ∀ (f:Nat) (listed:Array Bool) (a:Act) (w:World),C w→headQ P md ops C n L f listed a→wpAny P md ops Q' (f+g) listed a w
 | 0,listed,a,w,hw,h=>by rw [Nat.zero_add];exact hL _ _ _ hw h
 | f+1,listed,a,w,hw,h=>by
  rw [show f+1+g=(f+g)+1 by omega]
  exact⟨fun h0=>absurd h0 h.1,fun i hi=>wpOp_of_qOp hw (fun a' w' hw' h'=>any_of_headQ hL f _ a' w' hw' h') (h.2 i hi).2⟩
theorem headQ_take {n i:Nat} {oi:Oper} {v:Value} {L:Array Bool→Act→Prop} (hi:ops[i]?=some oi)(hsel:∀ (j:Nat)(o:Oper) cs b,ops[j]?=some o→o.op≠.select cs b)
  (hs:Region.sinkB md ops n=true) (hc:Region.chainB md ops n=true) (hn:n < ops.size) (hin:i < n)
  (hdone:∀ listed a,L listed a→∀ j∈Region.ready md ops listed,n≤j) :
  ∀ (f:Nat) (listed:Array Bool) (a:Act),HeadInv md ops n listed →
   (∀ j oj,ops[j]?=some oj→j≠i→listed.getD j true=false→(∀ e∈oj.after,Region.binds md e=true→e.on≠i)→oi.apart ops oj=true) →
   i∈Region.ready md ops listed→YieldsIn P ops C oi v a →
   headQ P md ops C n L f (listed.setIfInBounds i true) (a.put oi.dst v)→headQ P md ops C n L (f+1) listed a:=by
 intro f
 induction f with
 | zero =>
  intro listed a inv _ hr hy H
  have hun:=(mem_ready.1 hr).1
  refine⟨fun h=>(by rw [h] at hr;cases hr),fun j hj=>?_⟩
  have hjn:j < n:=Nat.lt_of_not_le fun h=>tail_waits hs hc hn inv _ i rfl hin hun j h hj
  refine⟨hjn,?_⟩
  by_cases hji:j=i
  ·subst hji;exact hy.qOp hi H
  ·exact absurd (hdone _ _ H j (ready_mono hj hji)) (by omega)
 | succ f ih =>
  intro listed a inv hfree hr hy H
  have hun:=(mem_ready.1 hr).1
  refine⟨fun h=>(by rw [h] at hr;cases hr),fun j hj=>?_⟩
  have hjn:j < n:=Nat.lt_of_not_le fun h=>tail_waits hs hc hn inv _ i rfl hin hun j h hj
  refine⟨hjn,?_⟩
  by_cases hji:j=i
  ·subst hji;exact hy.qOp hi H
  ·have h1:=(H.2 j (ready_mono hj hji)).2
   obtain⟨hjun,oj,hoj,hall⟩:=mem_ready.1 hj
   have hnot:∀ e∈oj.after,Region.binds md e=true→e.on≠i:=fun e he hb heq=>by
    have h3:=hall e he hb
    rw [heq,getD_both hun] at h3
    cases h3
   have h2:=qOp_put hoj (hfree j oj hoj hji hjun hnot) (fun cs b=>hsel i oi cs b hi) (fun cs b=>hsel j oj cs b hoj) hy h1
   refine qOp_mono (fun a' h3=>ih (listed.setIfInBounds j true) a' (inv.set hj hjn) (fun k ok hk hki hun' hno=>?_) (ready_mono hr (Ne.symm hji)) h3.1 ?_) h2
   ·refine hfree k ok hk hki ?_ hno
    by_cases hjk:j=k
    ·subst hjk;exact hjun
    ·rw [getD_set_ne true hjk] at hun';exact hun'
   ·rw [Array.setIfInBounds_comm _ _ hji]
    exact h3.2
theorem headQ_lex {n g:Nat} {Lq:Act→Prop} (hsel:Region.noSelect ops=true)(hs:Region.sinkB md ops n=true)(hc:Region.chainB md ops n=true)(hn:n < ops.size) :
  ∀ (l:List Oper) (k:Nat) (listed:Array Bool) (a:Act),(∀ j,j < l.length→l[j]?=ops[k+j]?)→k+l.length=n→HeadInv md ops n listed →
  Region.lexHead md ops g l.length k listed=true→wpQuiet P ops C Lq l a →
  headQ P md ops C n (fun listed' a'=>Region.seqB md ops g n listed'=true∧Lq a') l.length listed a
 | [],k,listed,a,_,hk,_,hB,h=>by
  obtain rfl:k=n:=by simpa using hk
  exact⟨by simpa [Region.lexHead] using hB,h⟩
 | o :: l,k,listed,a,hl,hk,inv,hB,h=>by
  have h0:ops[k]?=some o:=by simpa using (hl 0 (by simp)).symm
  simp only [List.length_cons,Region.lexHead,Bool.and_eq_true] at hB
  obtain⟨⟨hr,hf⟩,hB'⟩:=hB
  have hkn:k < n:=by simp only [List.length_cons] at hk;omega
  have hr':k∈Region.ready md ops listed:=by simpa using hr
  have hst:qOp P ops C k (wpQuiet P ops C Lq l) a:=by unfold qOp;simp only [h0];exact h
  obtain⟨v,hy,hK⟩:=yieldsIn_of_qOp h0 hst
  exact headQ_take h0 (Region.noSelect_spec hsel) hs hc hn hkn (fun listed' a' hL=>seqB_ready hL.1) l.length listed a inv (Region.free_spec h0 hf) hr' hy
   (headQ_lex hsel hs hc hn l (k+1) _ _ (fun j hj=>by have:=hl (j+1) (by simp;omega);simpa [Nat.add_assoc,Nat.add_comm 1 j] using this) (by simp only [List.length_cons] at hk;omega) (inv.set hr' hkn) hB' hK)
theorem wp_region_quiet_tail {id:Nat} {Q:Exit→Act→World→Prop} {a:Act} {w:World} {l:List Oper} (n:Nat)(hm:P.follows .mixedOrders=true)(hB:Region.lexTailB .any l.toArray n=true)(hC:C w.drew)
  (h:wpQuiet P l.toArray C (fun a'=>∀ w',C w'→wpList P l.toArray Q (l.drop n) a' w') (l.take n) a):(Code.region id l.toArray true).wp P Q a w:=by
 simp only [Region.lexTailB,Bool.and_eq_true,decide_eq_true_eq] at hB
 obtain⟨⟨⟨⟨hsel,hn⟩,hs⟩,hc⟩,hlex⟩:=hB
 have hn':n < l.length:=by simpa using hn
 have htl:(l.take n).length=n:=by simp;omega
 have hdl:(l.drop n).length=l.toArray.size - n:=by simp
 have inv0:HeadInv .any l.toArray n (Array.replicate l.toArray.size false) :=
  ⟨by simp,fun j oj _ hl=>(by rw [getD_replicate_false] at hl;cases hl),fun t _ ht=>getD_in (by simpa using ht) (getD_replicate_false _ _)⟩
 have H:=headQ_lex (md:=.any) (g:=l.toArray.size - n) hsel hs hc hn (l.take n) 0 _ a (fun j hj=>by
  have hj':j < n:=by rw [htl] at hj;exact hj
  simp [hj']) (by simpa using htl) inv0 (by rw [htl];exact hlex) h
 refine wp_region_any hm ?_
 have:=any_of_headQ (Q':=Q) (g:=l.toArray.size - n) (fun listed a' w' hw' hL=>by
  have:=wpAny_of_seq (md:=.any) (Q':=Q) (l.drop n) n listed a' w' (fun j=>by simp [List.getElem?_drop]) (by rw [hdl];exact hL.1) (hL.2 w' hw')
  rwa [hdl] at this) _ _ _ w.drew hC H
 rw [htl,show n+(l.toArray.size - n)=l.toArray.size by omega] at this
 exact this
theorem wp_region_over {id:Nat} {Q:Exit→Act→World→Prop} {a:Act} {w:World} {l:List Oper} (hm:P.follows .mixedOrders=true)(hB:Region.lexB .any l.toArray=true)
  (h:wpQuiet P l.toArray (fun w'=>∃ e,w'=over w e) (fun a'=>∀ w',(∃ e,w'=over w e)→Q .normal a' w') l a):(Code.region id l.toArray true).wp P Q a w :=
 wp_region_quiet (C:=fun w'=>∃ e,w'=over w e) hm hB ⟨w.drew,eq_over ((Below.refl _ w).drew)⟩ (by simpa using h)
theorem wp_region_over_tail {id:Nat} {Q:Exit→Act→World→Prop} {a:Act} {w:World} {l:List Oper} (n:Nat)(hm:P.follows .mixedOrders=true)(hB:Region.lexTailB .any l.toArray n=true)
  (h:wpQuiet P l.toArray (fun w'=>∃ e,w'=over w e) (fun a'=>∀ w',(∃ e,w'=over w e)→wpList P l.toArray Q (l.drop n) a' w') (l.take n) a):(Code.region id l.toArray true).wp P Q a w :=
 wp_region_quiet_tail (C:=fun w'=>∃ e,w'=over w e) n hm hB ⟨w.drew,eq_over ((Below.refl _ w).drew)⟩ h
theorem calls_over {f:FuncId} {args:Array Value} {w e:World} {v:Value}
  (h:Calls P f args (over w e) fun r w'=>r=.returned v∧Below (over w e).heap.size (over w e) w') :
  Calls P f args (over w e) fun r w''=>r=.returned v∧∃ e',w''=over w e' :=
 h.mono fun _ W ⟨he,hb⟩=>⟨he,W,eq_over ((over_below w e).trans (hb.mono (over_below w e).size))⟩
theorem calls_over_same {f:FuncId} {args:Array Value} {w e:World} {v:Value}
  (h:Calls P f args (over w e) fun r w'=>r=.returned v∧over w e=w') :
  Calls P f args (over w e) fun r w''=>r=.returned v∧∃ e',w''=over w e' :=
 h.mono fun _ _ ⟨he,hb⟩=>⟨he,e,hb.symm⟩
end
theorem bcell {W w1:World} (hb:Below W.heap.size W w1):(∀ b o,b < W.heap.size→w1.cell? ⟨b,o,none⟩=W.cell? ⟨b,o,none⟩)∧(∀ b o,b < W.heap.size→w1.frozen? ⟨b,o,none⟩=W.frozen? ⟨b,o,none⟩) :=
 ⟨fun b o h=>hb.cell (p:=⟨b,o,none⟩) h,fun b o h=>hb.frozen (p:=⟨b,o,none⟩) h⟩
def Blk (w:World)(g:Nat)(t:TypeId)(cs:Array Value):Prop:=w.heap[g]?=some (.cells cs t (0,0))
section
variable {w w' : World} {g : Nat} {t : TypeId} {cs : Array Value}
theorem Blk.lt (h:Blk w g t cs):g < w.heap.size:=(Array.getElem?_eq_some_iff.1 h).1
theorem Blk.cell (h:Blk w g t cs)(i:Nat):w.cell? ⟨g,i,none⟩=cs[i]?:=cell_of_row w g i cs t (0,0) h
theorem Blk.frozen (h:Blk w g t cs)(i:Nat):w.frozen? ⟨g,i,none⟩=false:=by unfold Blk at h;simp [World.frozen?,h]
theorem Blk.new (w:World)(t:TypeId)(cs:Array Value):Blk (w.alloc (.cells cs t)) w.heap.size t cs:=heap_alloc_new w _
theorem Blk.drewN (h:Blk w g t cs)(n:Nat):Blk (w.drewN n) g t cs:=h
theorem Blk.drew (h:Blk w g t cs):Blk w.drew g t cs:=h
theorem Blk.alloc (h:Blk w g t cs)(o:Obj):Blk (w.alloc o) g t cs:=(Below.heap_alloc w o g h.lt).trans h
theorem Blk.set_ (h:Blk w g t cs)(i:Nat)(u:Value):Blk (w.setCell ⟨g,i,none⟩ u) g t (cs.setIfInBounds i u):=by
 unfold Blk at h ⊢
 simp [World.setCell,Array.getElem?_modify,h]
theorem Blk.far (h:Blk w g t cs) {p:Addr} (hp:g≠p.block)(u:Value):Blk (w.setCell p u) g t cs:=(Below.heap_setCell w p u g hp).trans h
theorem Blk.below {B:Nat} (h:Blk w g t cs)(hb:Below B w w')(hg:g < B):Blk w' g t cs:=(hb.block g hg).trans h
theorem Blk.grown {row:Option Nat} (h:Blk w g t cs)(hb:w.grownBy w' row)(hg:some g≠row):Blk w' g t cs:=(hb.block g h.lt hg).trans h
end
theorem wp_gen {P:Program} {c:Code} {Q:Exit→Act→World→Prop} {a:Act} {w:World} (R:World→Prop)(h:R w)(h2:∀ w',R w'→c.wp P Q a w'):c.wp P Q a w:=h2 w h
theorem ret_int {k:IntKind} {a b:Int} (h:a=b):Ending.returned (.int k a)=.returned (.int k b):=by rw [h]
theorem val_int {k:IntKind} {a b:Int} (h:a=b):Value.int k a=.int k b:=by rw [h]
end
section
open Go.RowKit
def quietUponR (P:Program)(W:World)(v:Value):Result Next→Prop
 | .ok (.value u) W'=>W'=W∧u=v
 | .ok .skip W'=>W'=W∧v=undef
 | .ok (.enter f args) W'=>W'=W∧Calls P f args W (fun e W''=>e=.returned v∧Below W.heap.size W W'')
 | _=>False
def quietAtR (P:Program)(o:Oper)(a:Act)(W:World)(v:Value):Prop:=quietUponR P W v ((execOp a.eval o).run P W)
def quietR (P:Program)(o:Oper)(a:Act)(w:World)(K:Act→Prop):Prop:=∃ v,(∀ e,quietAtR P o a (over w e) v)∧K (a.put o.dst v)
def wpQuietR (P:Program)(ops:Array Oper)(w:World)(Q:Act→Prop):List Oper→Act→Prop
 | [],a=>Q a
 | o :: rest,a=>if Region.wanted o (yielded ops a.tmps) then quietR P o a w (wpQuietR P ops w Q rest) else wpQuietR P ops w Q rest (a.put o.dst undef)
section
variable {P : Program} {ops : Array Oper} {md : Region.Mode} {w : World}
theorem wpQuietR_nil {Q:Act→Prop} {a:Act} (h:Q a):wpQuietR P ops w Q [] a:=h
theorem wpQuietR_step {Q:Act→Prop} {a:Act} {o:Oper} {rest:List Oper}
  (h:∀ K:Act→Prop,(∀ a,wpQuietR P ops w Q rest a→K a)→if Region.wanted o (yielded ops a.tmps) then quietR P o a w K else K (a.put o.dst undef)):wpQuietR P ops w Q (o :: rest) a :=
 h _ (fun _ h=>h)
def qOpR (P:Program)(ops:Array Oper)(w:World)(i:Nat)(K:Act→Prop)(a:Act):Prop :=
 match ops[i]? with
 | none=>K a
 | some o=>if Region.wanted o (yielded ops a.tmps) then quietR P o a w K else K (a.put o.dst undef)
theorem qOpR_mono {i:Nat} {a:Act} {K K':Act→Prop} (h:∀ a,K a→K' a)(hh:qOpR P ops w i K a):qOpR P ops w i K' a:=by
 unfold qOpR at *
 split
 ·exact h _ (by simpa [*] using hh)
 ·rename_i o ho
  simp only [ho] at hh
  split
  ·rename_i hw;simp only [hw,if_true] at hh;obtain⟨v,h1,h2⟩:=hh;exact⟨v,h1,h _ h2⟩
  ·rename_i hw;simp only [hw] at hh;exact h _ hh
def YieldsR (P:Program)(ops:Array Oper)(w:World)(o:Oper)(v:Value)(a:Act):Prop :=
 (Region.wanted o (yielded ops a.tmps)=true∧∀ e,quietAtR P o a (over w e) v)∨(Region.wanted o (yielded ops a.tmps)=false∧v=undef)
theorem YieldsR.qOpR {i:Nat} {o:Oper} {v:Value} {a:Act} (hi:ops[i]?=some o)(hy:YieldsR P ops w o v a) {K:Act→Prop} (h:K (a.put o.dst v)):qOpR P ops w i K a:=by
 unfold Proofs.YtmmeopjemkjllaaGreat.qOpR
 simp only [hi]
 rcases hy with ⟨hw,hv⟩ | ⟨hw,rfl⟩
 ·simp only [hw,if_true];exact⟨v,hv,h⟩
 ·simp only [hw,Bool.false_eq_true,if_false];exact h
theorem yieldsR_of_qOpR {i:Nat} {o:Oper} {a:Act} {K:Act→Prop} (hi:ops[i]?=some o)(h:qOpR P ops w i K a):∃ v,YieldsR P ops w o v a∧K (a.put o.dst v):=by
 unfold qOpR at h
 simp only [hi] at h
 by_cases hw:Region.wanted o (yielded ops a.tmps)=true
 ·simp only [hw,if_true] at h
  obtain⟨v,h1,h2⟩:=h
  exact⟨v,.inl ⟨hw,h1⟩,h2⟩
 ·simp only [hw] at h
  exact⟨undef,.inr ⟨by simpa using hw,rfl⟩,h⟩
theorem YieldsR.put {o:Oper} {v u:Value} {a:Act} {dst:Option Tmp} (hs:∀ cs b,o.op≠.select cs b)(hy:YieldsR P ops w o v a)(h:∀ d,dst=some d→d ∉ o.looksAt ops):YieldsR P ops w o v (a.put dst u):=by
 unfold YieldsR quietAtR at *
 rw [execOp_put o hs a dst u h,wanted_put o a dst u h]
 exact hy
theorem qOpR_put {j:Nat} {oi oj:Oper} {v:Value} (hj:ops[j]?=some oj)(hap:oi.apart ops oj=true)
  (hsi:∀ cs b,oi.op≠.select cs b) (hsj:∀ cs b,oj.op≠.select cs b) {K:Act→Prop} {a:Act}
  (hy:YieldsR P ops w oi v a) (h:qOpR P ops w j K (a.put oi.dst v)) :
  qOpR P ops w j (fun a'=>YieldsR P ops w oi v a'∧K (a'.put oi.dst v)) a:=by
 obtain⟨h1,h2,h3⟩:=Oper.apart_spec hap
 obtain⟨u,hu,hK⟩:=yieldsR_of_qOpR hj h
 refine YieldsR.qOpR (v:=u) hj ?_ ⟨hy.put hsi h3,?_⟩
 ·unfold YieldsR quietAtR at *
  rw [execOp_put oj hsj a oi.dst v h1,wanted_put oj a oi.dst v h1] at hu
  exact hu
 ·rw [← Act.put_comm a v u h2];exact hK
theorem qOpR_any {j:Nat} {oi oj:Oper} {x:Value} (hj:ops[j]?=some oj)(hap:oi.apart ops oj=true)(hsj:∀ cs b,oj.op≠.select cs b) {K K':Act→Prop} {a:Act}
  (hK:∀ a',K a'→K' (a'.put oi.dst x)) (h:qOpR P ops w j K a):qOpR P ops w j K' (a.put oi.dst x):=by
 obtain⟨h1,h2,h3⟩:=Oper.apart_spec hap
 obtain⟨u,hu,hk⟩:=yieldsR_of_qOpR hj h
 refine YieldsR.qOpR hj (hu.put hsj h1) ?_
 rw [Act.put_comm a x u h2]
 exact hK _ hk
def GQ (P:Program)(md:Region.Mode)(ops:Array Oper)(w:World)(m:Nat)(Lq:Act→Prop):Nat→Array Bool→Act→Prop
 | 0,listed,a=>(∀ k,k < m→listed.getD k false=true)∧Lq a
 | f+1,listed,a=>(∃ j,j∈Region.ready md ops listed∧j < m)∧∀ i∈Region.ready md ops listed,i < m→qOpR P ops w i (GQ P md ops w m Lq f (listed.setIfInBounds i true)) a
theorem GQ_take {m i:Nat} {oi:Oper} {v:Value} {Lq:Act→Prop} (hi:ops[i]?=some oi)(hsel:∀ (j:Nat)(o:Oper) cs b,ops[j]?=some o→o.op≠.select cs b)(him:i < m) :
  ∀ (f:Nat) (listed:Array Bool) (a:Act),
   (∀ j oj,ops[j]?=some oj→j≠i→listed.getD j true=false→(∀ e∈oj.after,Region.binds md e=true→e.on≠i)→oi.apart ops oj=true) →
   i∈Region.ready md ops listed→YieldsR P ops w oi v a →
   GQ P md ops w m Lq f (listed.setIfInBounds i true) (a.put oi.dst v)→GQ P md ops w m Lq (f+1) listed a:=by
 intro f
 induction f with
 | zero =>
  intro listed a _ hr hy H
  refine⟨⟨i,hr,him⟩,fun j hj hjm=>?_⟩
  by_cases hji:j=i
  ·subst hji;exact hy.qOpR hi H
  ·have h1:=H.1 j hjm
   rw [getD_set_ne false (Ne.symm hji)] at h1
   have h2:=getD_both (mem_ready.1 hj).1
   rw [h1] at h2;cases h2
 | succ f ih =>
  intro listed a hfree hr hy H
  have hun:=(mem_ready.1 hr).1
  refine⟨⟨i,hr,him⟩,fun j hj hjm=>?_⟩
  by_cases hji:j=i
  ·subst hji;exact hy.qOpR hi H
  ·have h1:=H.2 j (ready_mono hj hji) hjm
   obtain⟨hjun,oj,hoj,hall⟩:=mem_ready.1 hj
   have hnot:∀ e∈oj.after,Region.binds md e=true→e.on≠i:=fun e he hb heq=>by
    have h3:=hall e he hb
    rw [heq,getD_both hun] at h3
    cases h3
   have h2:=qOpR_put hoj (hfree j oj hoj hji hjun hnot) (fun cs b=>hsel i oi cs b hi) (fun cs b=>hsel j oj cs b hoj) hy h1
   refine qOpR_mono (fun a' h3=>ih (listed.setIfInBounds j true) a' (fun k ok hk hki hun' hno=>?_) (ready_mono hr (Ne.symm hji)) h3.1 ?_) h2
   ·refine hfree k ok hk hki ?_ hno
    by_cases hjk:j=k
    ·subst hjk;exact hjun
    ·rw [getD_set_ne true hjk] at hun';exact hun'
   ·rw [Array.setIfInBounds_comm _ _ hji]
    exact h3.2
def lexQ (md:Region.Mode)(ops:Array Oper):Nat→Nat→Array Bool→Bool
 | 0,_,_=>true
 | f+1,k,listed=>(Region.ready md ops listed).contains k && Region.free md ops listed k && lexQ md ops f (k+1) (listed.setIfInBounds k true)
theorem GQ_lex {m:Nat} {Lq:Act→Prop} (hsel:Region.noSelect ops=true)(hm:m≤ops.size) :
  ∀ (l:List Oper) (k:Nat) (listed:Array Bool) (a:Act),(∀ j,j < l.length→l[j]?=ops[k+j]?)→k+l.length=m→listed.size=ops.size→(∀ j,j < k→listed.getD j false=true) →
  lexQ md ops l.length k listed=true→wpQuietR P ops w Lq l a→GQ P md ops w m Lq l.length listed a
 | [],k,listed,a,_,hk,_,hdone,hB,h=>by
  obtain rfl:k=m:=by simpa using hk
  exact⟨hdone,h⟩
 | o :: l,k,listed,a,hl,hk,hsz,hdone,hB,h=>by
  have h0:ops[k]?=some o:=by simpa using (hl 0 (by simp)).symm
  simp only [List.length_cons,lexQ,Bool.and_eq_true] at hB
  obtain⟨⟨hr,hf⟩,hB'⟩:=hB
  have hkm:k < m:=by simp only [List.length_cons] at hk;omega
  have hr':k∈Region.ready md ops listed:=by simpa using hr
  have hst:qOpR P ops w k (wpQuietR P ops w Lq l) a:=by unfold qOpR;simp only [h0];exact h
  obtain⟨v,hy,hK⟩:=yieldsR_of_qOpR h0 hst
  refine GQ_take h0 (Region.noSelect_spec hsel) hkm l.length listed a (Region.free_spec h0 hf) hr' hy
   (GQ_lex hsel hm l (k+1) _ _ (fun j hj=>by have:=hl (j+1) (by simp;omega);simpa [Nat.add_assoc,Nat.add_comm 1 j] using this) (by simp only [List.length_cons] at hk;omega) (by simpa using hsz) (fun j hj=>?_) hB' hK)
  by_cases hjk:j=k
  ·subst hjk;simp [hsz,show j < ops.size by omega]
  ·rw [getD_set_ne false (Ne.symm hjk)];exact hdone j (by omega)
theorem put_put (a:Act)(d:Tmp)(x y:Value):(a.put (some d) x).put (some d) y=a.put (some d) y:=by
 simp [Act.put,Array.setIfInBounds_setIfInBounds]
theorem GQ_put {m:Nat} {oa:Oper} {Lq:Act→Prop} {x:Value} (hsel:∀ (j:Nat)(o:Oper) cs b,ops[j]?=some o→o.op≠.select cs b)
  (hap:∀ j oj,j < m→ops[j]?=some oj→oa.apart ops oj=true) (hL:∀ a,Lq a→Lq (a.put oa.dst x)) :
  ∀ (f:Nat) (listed:Array Bool) (a:Act),GQ P md ops w m Lq f listed a→GQ P md ops w m Lq f listed (a.put oa.dst x)
 | 0,_,a,h=>⟨h.1,hL a h.2⟩
 | f+1,listed,a,h=>⟨h.1,fun i hi him=>by
   obtain⟨_,oi,hoi,_⟩:=mem_ready.1 hi
   exact qOpR_any hoi (hap i oi him hoi) (fun cs b=>hsel i oi cs b hoi) (fun a' h'=>GQ_put hsel hap hL f _ a' h') (h.2 i hi him)⟩
def Agree (m:Nat)(l l':Array Bool):Prop:=l.size=l'.size∧∀ k,k < m→l.getD k false=l'.getD k false
theorem getD_tf {l:Array Bool} {k:Nat} (h:k < l.size):l.getD k true=l.getD k false:=by simp [h]
theorem Agree.set {m:Nat} {l l':Array Bool} (h:Agree m l l')(i:Nat):Agree m (l.setIfInBounds i true) (l'.setIfInBounds i true):=by
 refine⟨by simpa using h.1,fun k hk=>?_⟩
 by_cases hik:i=k
 ·subst hik
  by_cases hs:i < l.size
  ·simp [hs,h.1 ▸ hs]
  ·simp [hs,h.1 ▸ hs]
 ·rw [getD_set_ne false hik,getD_set_ne false hik];exact h.2 k hk
theorem Agree.set_other {m:Nat} {l l':Array Bool} (h:Agree m l l')(i:Nat)(hi:m≤i):Agree m (l.setIfInBounds i true) l' :=
 ⟨by simpa using h.1,fun k hk=>by rw [getD_set_ne false (by omega)];exact h.2 k hk⟩
theorem Agree.ready {m i:Nat} {l l':Array Bool} (h:Agree m l l')(hsz:l.size=ops.size)(hm:m≤ops.size)(him:i < m)
  (hq:∀ j oj,j < m→ops[j]?=some oj→∀ e∈oj.after,Region.binds md e=true→e.on < m) (hi:i∈Region.ready md ops l):i∈Region.ready md ops l':=by
 obtain⟨h1,oi,hoi,h2⟩:=mem_ready.1 hi
 have hs:i < l.size:=by omega
 refine mem_ready.2 ⟨?_,oi,hoi,fun e he hb=>?_⟩
 ·rw [getD_tf (by rw [← h.1];exact hs),← h.2 i him,← getD_tf hs];exact h1
 ·rw [← h.2 _ (hq i oi him hoi e he hb)];exact h2 e he hb
theorem Agree.symm {m:Nat} {l l':Array Bool} (h:Agree m l l'):Agree m l' l:=⟨h.1.symm,fun k hk=>(h.2 k hk).symm⟩
theorem wp_of_quietR {o:Oper} {a:Act} {K:Act→Prop} {K':Act→World→Prop} {Q':Exit→Act→World→Prop} {W:World} (hW:Below w.heap.size w W)(h:∀ a W',Below W.heap.size W W'→K a→K' a W')(hh:quietR P o a w K):o.wp P a W K' Q':=by
 obtain⟨v,h1,h2⟩:=hh
 have h3:=h1 W
 rw [← eq_over hW] at h3
 unfold quietAtR at h3
 unfold Oper.wp
 generalize (execOp a.eval o).run P W=r at *
 cases r with
 | ok n w' =>
  cases n <;> simp only [quietUponR] at h3 <;> simp only [Oper.upon]
  case value u =>
   obtain⟨e1,e2⟩:=h3
   rw [e1,e2]
   exact h _ _ (Below.refl _ _) h2
  case skip =>
   obtain⟨e1,e2⟩:=h3
   rw [e1,← e2]
   exact h _ _ (Below.refl _ _) h2
  case enter f args =>
   obtain⟨e1,hc⟩:=h3
   rw [e1]
   exact hc.mono fun e w'' ⟨he,hw''⟩=>by subst he;exact h _ _ hw'' h2
 | halt x w'=>simp only [quietUponR] at h3
theorem wpOp_of_qOpR {i:Nat} {a:Act} {K:Act→Prop} {K':Act→World→Prop} {Q':Exit→Act→World→Prop} {W:World} (hW:Below w.heap.size w W)(h:∀ a W',Below W.heap.size W W'→K a→K' a W')(hh:qOpR P ops w i K a):wpOp P ops Q' i K' a W:=by
 unfold qOpR at hh
 unfold wpOp
 split
 ·rename_i ho;simp only [ho] at hh;exact h _ _ (Below.refl _ _) hh
 ·rename_i o ho
  simp only [ho] at hh
  split
  ·rename_i hw;simp only [hw,if_true] at hh;exact .inl (wp_of_quietR hW h hh)
  ·rename_i hw;simp only [hw] at hh;exact h _ _ (Below.refl _ _) hh
def plainUpon (o:Oper)(a:Act)(K:Act→World→Prop):Result Next→Prop
 | .ok (.value v) W'=>K (a.put o.dst v) W'
 | .ok .skip W'=>K (a.put o.dst undef) W'
 | _=>False
def plain (P:Program)(o:Oper)(a:Act)(W:World)(K:Act→World→Prop):Prop:=plainUpon o a K ((execOp a.eval o).run P W)
theorem wp_of_plain {o:Oper} {a:Act} {W:World} {K:Act→World→Prop} {Q:Exit→Act→World→Prop} (h:plain P o a W K):o.wp P a W K Q:=by
 unfold plain at h
 unfold Oper.wp
 generalize (execOp a.eval o).run P W=r at *
 cases r with
 | ok n w'=>cases n <;> simp only [plainUpon] at h <;> exact h
 | halt x w'=>simp only [plainUpon] at h
theorem plain_mono {o:Oper} {a:Act} {W:World} {K K':Act→World→Prop} (hk:∀ a w,K a w→K' a w)(h:plain P o a W K):plain P o a W K':=by
 unfold plain at *
 generalize (execOp a.eval o).run P W=r at *
 cases r with
 | ok n w'=>cases n <;> simp only [plainUpon] at h ⊢ <;> first | exact hk _ _ h | exact h
 | halt x w'=>simp only [plainUpon] at h
structure AllocAt (P:Program)(md:Region.Mode)(ops:Array Oper)(m:Nat)(oa op os:Oper)(d:Tmp)(obj:Obj):Prop where
 sel:Region.noSelect ops=true
 lt:m+1 < ops.size
 pos:1≤m
 at_:ops[m]?=some oa
 atP:ops[m - 1]?=some op
 atS:ops[m+1]?=some os
 dst:oa.dst=some d
 free:oa.after=#[]
 guard:oa.guard=none
 guardP:op.guard=none
 guardS:os.guard=none
 dstS:os.dst=none
 apartP:∀ e,op.dst=some e→e ∉ os.looksAt ops
 takes:∃ x k,op.op=.extract x k
 runs:∀ (a:Act) (W:World),(execOp a.eval oa).run P W=.ok (.value (.pointer (some ⟨W.heap.size,0,none⟩))) (W.alloc obj)
 quiet:∀ j oj,j < m→ops[j]?=some oj→∀ e∈oj.after,Region.binds md e=true→e.on < m
 apart:∀ j oj,j < m→ops[j]?=some oj→oa.apart ops oj=true
 sink:∀ i,i < m+1→i≠m - 1→∃ j,i < j∧j≤m+1∧j≠m - 1∧Region.waitsFor md ops j i=true
 chain:Region.chainB md ops (m+1)=true
 late:m+1+1 < ops.size→Region.waitsFor md ops (m+1+1) (m - 1)=true
 more:m+1+1 < ops.size
 seq:Region.seqB md ops (ops.size - (m+1)) (m+1) (Array.ofFn fun i:Fin ops.size=>decide (i.val < m+1))=true
theorem waits_listed {n j i:Nat} {listed:Array Bool} (inv:HeadInv md ops n listed)(h:Region.waitsFor md ops j i=true)(hj:listed.getD j false=true∨j∈Region.ready md ops listed):listed.getD i false=true:=by
 obtain⟨oj,hoj,e,he,hb,hon⟩:=Region.waitsFor_spec h
 rcases hj with hj | hj
 ·rw [← hon]
  exact inv.closed j oj hoj hj e he hb
 ·obtain⟨_,o',ho',hall⟩:=mem_ready.1 hj
  have:o'=oj:=Option.some.inj (ho'.symm.trans hoj)
  subst this
  rw [← hon];exact hall e he hb
theorem tail_ready {m:Nat} {oa op os:Oper} {d:Tmp} {obj:Obj} (A:AllocAt P md ops m oa op os d obj) {listed:Array Bool} (inv:HeadInv md ops (m+1) listed) {j:Nat} (hj:j∈Region.ready md ops listed)(hm:m+1≤j) :
  j=m+1∧∀ i,i < m+1→i≠m - 1→listed.getD i false=true:=by
 obtain⟨hun,oj,hoj,_⟩:=mem_ready.1 hj
 have hjs:j < ops.size:=(Array.getElem?_eq_some_iff.1 hoj).1
 have h1:j=m+1:=by
  by_cases h:j=m+1
  ·exact h
  ·exfalso
   have hc:=List.all_eq_true.1 A.chain j (List.mem_range.2 hjs)
   simp only [Bool.or_eq_true,decide_eq_true_eq] at hc
   have hw:=hc.resolve_left (by omega)
   have h2:=waits_listed inv hw (.inr hj)
   rw [getD_both (inv.tail (j - 1) (by omega) (by omega))] at h2
   cases h2
 refine⟨h1,?_⟩
 subst h1
 suffices H:∀ k i,m+1 - i≤k→i < m+1→i≠m - 1→listed.getD i false=true from fun i hi hne=>H _ i (Nat.le_refl _) hi hne
 intro k
 induction k with
 | zero=>intro i h1 h2 _;omega
 | succ k ih =>
  intro i hk hi hne
  obtain⟨j,hij,hjm,hjne,hw⟩:=A.sink i hi hne
  by_cases hjm':j=m+1
  ·subst hjm';exact waits_listed inv hw (.inr hj)
  ·exact waits_listed inv hw (.inl (ih j (by omega) (by omega) hjne))
theorem canon {m n:Nat} {listed:Array Bool} (hsz:listed.size=n)(h1:∀ k,k < m→listed.getD k false=true)(h2:∀ t,m≤t→t < n→listed.getD t true=false) :
  listed=Array.ofFn fun i:Fin n=>decide (i.val < m):=by
 apply Array.ext
 ·simp [hsz]
 ·intro i hi hi'
  simp only [Array.getElem_ofFn]
  by_cases h:i < m
  ·have:=h1 i h;simp [hi] at this;simp [this,h]
  ·have:=h2 i (by omega) (by omega);simp [hi] at this;simp [this,h]
def TailOk (P:Program)(ops:Array Oper)(m:Nat)(os:Oper)(d:Tmp)(obj:Obj)(w:World)(Q:Exit→Act→World→Prop)(a:Act):Prop :=
 ∀ B W',w.heap.size≤B→Below w.heap.size w W'→W'.heap[B]?=some obj →
  plain P os (a.put (some d) (.pointer (some ⟨B,0,none⟩))) W' fun a' W''=>Below w.heap.size w W''∧wpList P ops Q (ops.toList.drop (m+1+1)) a' W''
theorem extract_value {o:Oper} {a:Act} {W:World} {v:Value} (ht:∃ x k,o.op=.extract x k)(h:quietAtR P o a W v):(execOp a.eval o).run P W=.ok (.value v) W:=by
 obtain⟨x,k,hx⟩:=ht
 unfold quietAtR at h
 generalize hr:(execOp a.eval o).run P W=r at *
 cases r with
 | halt y w'=>simp only [quietUponR] at h
 | ok n w' =>
  cases n <;> simp only [quietUponR] at h
  case value u=>obtain⟨e1,e2⟩:=h;rw [e1,e2]
  case skip=>exfalso;simp only [execOp,hx] at hr;simp at hr;generalize Sem.run P _ W=z at hr;cases z <;> simp [Result.andThen] at hr
  case enter f args=>exfalso;simp only [execOp,hx] at hr;simp at hr;generalize Sem.run P _ W=z at hr;cases z <;> simp [Result.andThen] at hr
theorem phase3 {m:Nat} {oa op os:Oper} {d:Tmp} {obj:Obj} {Q:Exit→Act→World→Prop} (A:AllocAt P md ops m oa op os d obj) {listed:Array Bool} {a:Act} {W:World} {v:Value}
  (hsz:listed.size=ops.size) (hall:∀ i,i < m+1+1→i≠m - 1→listed.getD i false=true) (hp:listed.getD (m - 1) true=false) (hrest:∀ t,m+1+1≤t→t < ops.size→listed.getD t true=false)
  (hr:m - 1∈Region.ready md ops listed) (honly:∀ i∈Region.ready md ops listed,i=m - 1)
  (hy:(execOp a.eval op).run P W=.ok (.value v) W) (hK:wpList P ops Q (ops.toList.drop (m+1+1)) (a.put op.dst v) W) :
  wpAny P md ops Q (1+(ops.size - (m+1+1))) listed a W:=by
 have hpos:=A.pos
 have hmore:=A.more
 rw [show 1+(ops.size - (m+1+1))=(ops.size - (m+1+1))+1 by omega]
 refine⟨fun h0=>(by rw [h0] at hr;cases hr),fun i hi=>?_⟩
 obtain rfl:=honly i hi
 unfold wpOp
 simp only [A.atP]
 rw [if_pos (by simp [Region.wanted,A.guardP])]
 left
 unfold Oper.wp
 rw [hy]
 simp only [Oper.upon]
 have hdl:(ops.toList.drop (m+1+1)).length=ops.size - (m+1+1):=by simp
 rw [← hdl]
 refine wpAny_of_seq (md:=md) _ (m+1+1) _ _ W (fun j=>by simp [List.getElem?_drop]) ?_ hK
 rw [hdl,canon (listed:=listed.setIfInBounds (m - 1) true) (m:=m+1+1) (n:=ops.size) (by simpa using hsz) (fun k hk=>?_) (fun t h1 h2=>by rw [getD_set_ne true (by omega)];exact hrest t h1 h2)]
 ·have h1:=A.seq
  rw [show ops.size - (m+1)=(ops.size - (m+1+1))+1 by omega] at h1
  simp only [Region.seqB,Bool.and_eq_true] at h1
  have h2:=h1.2
  rw [canon (listed:=(Array.ofFn fun i:Fin ops.size=>decide (i.val < m+1)).setIfInBounds (m+1) true) (m:=m+1+1) (n:=ops.size) (by simp) (fun k hk=>?_) (fun t h3 h4=>?_)] at h2
  ·exact h2
  ·by_cases hk':k=m+1
   ·subst hk';simp [show m+1 < ops.size by omega]
   ·rw [getD_set_ne false (by omega)];simp [show k < ops.size by omega];omega
  ·rw [getD_set_ne true (by omega)];simp [h4];omega
 ·by_cases hk':k=m - 1
  ·subst hk';simp [hsz,show m - 1 < ops.size by omega]
  ·rw [getD_set_ne false (by omega)];exact hall k hk hk'
theorem phase2 {m:Nat} {oa op os:Oper} {d:Tmp} {obj:Obj} {Q:Exit→Act→World→Prop} (A:AllocAt P md ops m oa op os d obj)(B:Nat)(hB:w.heap.size≤B) :
  ∀ (f:Nat) (listed lq:Array Bool) (a:Act) (W:World),Agree m listed lq→HeadInv md ops (m+1) listed→listed.getD m false=true→Below w.heap.size w W→W.heap[B]?=some obj →
   a.put (some d) (.pointer (some ⟨B,0,none⟩))=a→GQ P md ops w m (TailOk P ops m os d obj w Q) f lq a→wpAny P md ops Q (f+(ops.size - (m+1))) listed a W
 | 0,listed,lq,a,W,ag,inv,hdm,hW,hO,hp,h=>by
  have hlt:=A.lt
  have hdl:(ops.toList.drop (m+1)).length=ops.size - (m+1):=by simp
  have hall:∀ k,k < m+1→listed.getD k false=true:=fun k hk=>by
   by_cases hkm:k < m
   ·rw [ag.2 k hkm];exact h.1 k hkm
   ·obtain rfl:k=m:=by omega
    exact hdm
  rw [Nat.zero_add,← hdl]
  refine wpAny_of_seq (md:=md) _ (m+1) listed a W (fun j=>by simp [List.getElem?_drop]) ?_ ?_
  ·rw [hdl,canon inv.size hall (fun t h1 h2=>inv.tail t h1 h2)];exact A.seq
  ·have:=h.2 B W hB hW hO
   rw [hp] at this
   have hd:ops.toList.drop (m+1)=os :: ops.toList.drop (m+1+1):=by
    have h1:=A.atS
    rw [← Array.getElem?_toList] at h1
    rw [List.drop_eq_getElem_cons (by simpa using hlt)]
    congr 1
    rw [List.getElem?_eq_getElem (by simpa using hlt)] at h1
    exact Option.some.inj h1
   rw [hd]
   exact wpList_plain A.guardS fun K hK=>wp_of_plain (plain_mono (fun a' w' h'=>hK a' w' h'.2) this)
 | f+1,listed,lq,a,W,ag,inv,hdm,hW,hO,hp,h=>by
  obtain⟨⟨j,hj,hjm⟩,hall⟩:=h
  have hsz:=inv.size
  have hlt:=A.lt
  have hpos:=A.pos
  have hmore:=A.more
  have hj':j∈Region.ready md ops listed:=ag.symm.ready (by rw [← ag.1];exact hsz) (by omega) hjm A.quiet hj
  rw [show f+1+(ops.size - (m+1))=(f+(ops.size - (m+1)))+1 by omega]
  refine⟨fun h0=>(by rw [h0] at hj';cases hj'),fun i hi=>?_⟩
  obtain⟨hiun,oi,hoi,hiw⟩:=mem_ready.1 hi
  by_cases him:i < m
  ·refine wpOp_of_qOpR hW (fun a' W' hb h'=>?_) (qOpR_mono (K':=fun a'=>a'.put (some d) (.pointer (some ⟨B,0,none⟩))=a'∧GQ P md ops w m (TailOk P ops m os d obj w Q) f (lq.setIfInBounds i true) a') (fun _ h=>h) ?_)
   ·exact phase2 A B hB f _ _ a' W' (ag.set i) (inv.set hi (by omega)) (by rw [getD_set_ne false (by omega)];exact hdm) (hW.trans (hb.mono hW.size)) ((hb.block B (Array.getElem?_eq_some_iff.1 hO).1).trans hO) h'.1 h'.2
   ·have h1:=hall i (ag.ready hsz (by omega) him A.quiet hi) him
    obtain⟨v,hy,hK⟩:=yieldsR_of_qOpR hoi h1
    refine hy.qOpR hoi ⟨?_,hK⟩
    obtain⟨_,h2,_⟩:=Oper.apart_spec (A.apart i oi him hoi)
    have h3:=Act.put_comm a (.pointer (some ⟨B,0,none⟩)) v h2
    rw [A.dst,hp] at h3
    rw [← h3]
  ·by_cases h2:i=m
   ·subst h2;rw [getD_both hiun] at hdm;cases hdm
   ·-- the store comes ahead of the late operation
    obtain⟨rfl,hdone⟩:=tail_ready A inv hi (by omega)
    have hjp:j=m - 1:=by
     by_cases h3:j=m - 1
     ·exact h3
     ·have h4:=hdone j (by omega) h3
      rw [getD_both (mem_ready.1 hj').1] at h4;cases h4
    subst hjp
    have h1:=hall (m - 1) hj hjm
    obtain⟨v,hy,hK⟩:=yieldsR_of_qOpR A.atP h1
    -- nothing is left of the head
    have hf:f=0:=by
     cases f with
     | zero=>rfl
     | succ f =>
      exfalso
      obtain⟨⟨k,hk,hkm⟩,_⟩:=hK
      have hk1:=(mem_ready.1 hk).1
      by_cases hkp:k=m - 1
      ·subst hkp
       have:m - 1 < lq.size:=by rw [← ag.1,hsz];omega
       simp [this] at hk1
      ·rw [getD_set_ne true (Ne.symm hkp)] at hk1
       have h4:=hdone k (by omega) hkp
       rw [ag.2 k hkm,getD_both hk1] at h4;cases h4
    subst hf
    obtain⟨_,hL⟩:=hK
    have hL:=hL B W hB hW hO
    obtain⟨_,hpd,_⟩:=Oper.apart_spec (A.apart (m - 1) op hjm A.atP)
    have hcm:(a.put op.dst v).put (some d) (.pointer (some ⟨B,0,none⟩))=a.put op.dst v:=by
     have h3:=Act.put_comm a (.pointer (some ⟨B,0,none⟩)) v hpd
     rw [A.dst,hp] at h3
     exact h3.symm
    rw [hcm] at hL
    -- the store,carried out without the late value
    have hss:∀ cs b,os.op≠.select cs b:=fun cs b=>Region.noSelect_spec A.sel (m+1) os cs b A.atS
    have hsame:execOp (a.put op.dst v).eval os=execOp a.eval os:=execOp_put os hss a op.dst v A.apartP
    unfold plain at hL
    rw [hsame] at hL
    unfold wpOp
    simp only [A.atS]
    rw [if_pos (by simp [Region.wanted,A.guardS])]
    left
    unfold Oper.wp
    have hval:∀ W'',Below w.heap.size w W''→(execOp a.eval op).run P W''=.ok (.value v) W'':=fun W'' hb=>by
     rcases hy with ⟨_,hy⟩ | ⟨hw,_⟩
     ·have:=hy W''
      rw [← eq_over hb] at this
      exact extract_value A.takes this
     ·simp [Region.wanted,A.guardP] at hw
    have goal:∀ W'',Below w.heap.size w W''→wpList P ops Q (ops.toList.drop (m+1+1)) (a.put op.dst v) W''→wpAny P md ops Q (0+(ops.size - (m+1))) (listed.setIfInBounds (m+1) true) a W'':=fun W'' hb hw=>by
     have hun1:listed.getD (m - 1) true=false:=(mem_ready.1 hj').1
     have h5:∀ i,i < m+1+1→i≠m - 1→(listed.setIfInBounds (m+1) true).getD i false=true:=fun i hi' hne=>by
      by_cases h6:i=m+1
      ·subst h6;simp [hsz,hlt]
      ·rw [getD_set_ne false (Ne.symm h6)];exact hdone i (by omega) hne
     rw [show 0+(ops.size - (m+1))=1+(ops.size - (m+1+1)) by omega]
     refine phase3 A (by simpa using hsz) h5 (by rw [getD_set_ne true (by omega)];exact hun1) (fun t h7 h8=>by rw [getD_set_ne true (by omega)];exact inv.tail t (by omega) h8) (ready_mono hj' (by omega)) (fun i' hi'=>?_) (hval W'' hb) hw
     obtain⟨hu',o',ho',hw'⟩:=mem_ready.1 hi'
     have hs':i' < ops.size:=(Array.getElem?_eq_some_iff.1 ho').1
     by_cases h9:i'=m - 1
     ·exact h9
     ·exfalso
      by_cases h10:i' < m+1+1
      ·have:=h5 i' h10 h9;rw [getD_both hu'] at this;cases this
      ·by_cases h11:i'=m+1+1
       ·subst h11
        obtain⟨o'',ho'',e,he,hbd,hon⟩:=Region.waitsFor_spec (A.late hs')
        have:o''=o':=Option.some.inj (ho''.symm.trans ho')
        subst this
        have h12:=hw' e he hbd
        rw [hon,getD_set_ne false (by omega),getD_both hun1] at h12
        cases h12
       ·have hc:=List.all_eq_true.1 A.chain i' (List.mem_range.2 hs')
        simp only [Bool.or_eq_true,decide_eq_true_eq] at hc
        obtain⟨o'',ho'',e,he,hbd,hon⟩:=Region.waitsFor_spec (hc.resolve_left (by omega))
        have:o''=o':=Option.some.inj (ho''.symm.trans ho')
        subst this
        have h12:=hw' e he hbd
        rw [hon,getD_set_ne false (by omega),getD_both (inv.tail (i' - 1) (by omega) (by omega))] at h12
        cases h12
    generalize (execOp a.eval os).run P W=r at hL ⊢
    cases r with
    | ok n w' =>
     cases n <;> simp only [plainUpon,A.dstS] at hL <;> simp only [Oper.upon,A.dstS]
     case value u=>exact goal w' hL.1 hL.2
     case skip=>exact goal w' hL.1 hL.2
    | halt x w'=>simp only [plainUpon] at hL
theorem phase1 {m:Nat} {oa op os:Oper} {d:Tmp} {obj:Obj} {Q:Exit→Act→World→Prop} (A:AllocAt P md ops m oa op os d obj) :
  ∀ (f:Nat) (listed lq:Array Bool) (a:Act) (W:World),Agree m listed lq→HeadInv md ops (m+1) listed→listed.getD m true=false→Below w.heap.size w W →
   GQ P md ops w m (TailOk P ops m os d obj w Q) f lq a→wpAny P md ops Q (f+1+(ops.size - (m+1))) listed a W:=by
 have hsel:=Region.noSelect_spec A.sel
 have hlt:=A.lt
 have hpos:=A.pos
 have alloc:∀ (f:Nat) (listed lq:Array Bool) (a:Act) (W:World),Agree m listed lq→HeadInv md ops (m+1) listed→listed.getD m true=false→m∈Region.ready md ops listed→Below w.heap.size w W →
   GQ P md ops w m (TailOk P ops m os d obj w Q) f lq a→wpOp P ops Q m (wpAny P md ops Q (f+(ops.size - (m+1))) (listed.setIfInBounds m true)) a W:=fun f listed lq a W ag inv hun hr hW h=>by
  unfold wpOp
  simp only [A.at_]
  rw [if_pos (by simp [Region.wanted,A.guard])]
  left
  unfold Oper.wp
  rw [A.runs a W]
  simp only [Oper.upon,A.dst]
  refine phase2 A W.heap.size hW.size f _ lq _ _ (ag.set_other m (Nat.le_refl _)) (inv.set hr (by omega)) ?_ (hW.alloc hW.size _) (heap_alloc_new W _) (put_put _ _ _ _) ?_
  ·simp [inv.size,show m < ops.size by omega]
  ·have:=GQ_put (x:=.pointer (some ⟨W.heap.size,0,none⟩)) hsel A.apart (Lq:=TailOk P ops m os d obj w Q) (fun a' h' B' W' h1 h2 h3=>by rw [A.dst,put_put];exact h' B' W' h1 h2 h3) f lq a h
   rwa [A.dst] at this
 have hrm:∀ listed:Array Bool,listed.getD m true=false→m∈Region.ready md ops listed:=fun listed hun=>mem_ready.2 ⟨hun,oa,A.at_,fun e he _=>by rw [A.free] at he;simp at he⟩
 have hno:∀ (listed:Array Bool) (i:Nat),HeadInv md ops (m+1) listed→listed.getD m true=false→i∈Region.ready md ops listed→m+1≤i→False:=fun listed i inv hun hi h=>by
  have h1:=(tail_ready A inv hi h).2 m (by omega) (by omega)
  rw [getD_both hun] at h1;cases h1
 intro f
 induction f with
 | zero =>
  intro listed lq a W ag inv hun hW h
  rw [show 0+1+(ops.size - (m+1))=(0+(ops.size - (m+1)))+1 by omega]
  refine⟨fun h0=>(by have:=hrm listed hun;rw [h0] at this;cases this),fun i hi=>?_⟩
  have hiun:=(mem_ready.1 hi).1
  by_cases him:i < m
  ·exfalso
   have h1:=h.1 i him
   rw [← ag.2 i him,getD_both hiun] at h1
   cases h1
  ·by_cases h2:i=m
   ·subst h2;exact alloc 0 listed lq a W ag inv hun hi hW h
   ·exact (hno listed i inv hun hi (by omega)).elim
 | succ f ih =>
  intro listed lq a W ag inv hun hW h
  rw [show f+1+1+(ops.size - (m+1))=(f+1+(ops.size - (m+1)))+1 by omega]
  refine⟨fun h0=>(by have:=hrm listed hun;rw [h0] at this;cases this),fun i hi=>?_⟩
  have hsz:=inv.size
  by_cases him:i < m
  ·have h1:=h.2 i (ag.ready hsz (by omega) him A.quiet hi) him
   exact wpOp_of_qOpR hW (fun a' W' hb h'=>ih _ _ a' W' (ag.set i) (inv.set hi (by omega)) (by rw [getD_set_ne true (by omega)];exact hun) (hW.trans (hb.mono hW.size)) h') h1
  ·by_cases h2:i=m
   ·subst h2;exact alloc (f+1) listed lq a W ag inv hun hi hW h
   ·exact (hno listed i inv hun hi (by omega)).elim
def allocB (ops : Array Oper) (m : Nat) : Bool :=
  Region.noSelect ops && decide (1 ≤ m) && decide (m + 1 + 1 < ops.size) &&
  (List.range m).all (fun j => match ops[j]? with | some oj => oj.after.all fun e => !Region.binds .any e || decide (e.on < m) | none => true) &&
  (match ops[m]? with | some oa => oa.after.isEmpty && oa.guard.isNone && (List.range m).all (fun j => match ops[j]? with | some oj => oa.apart ops oj | none => true) | none => false) &&
  (List.range (m + 1)).all (fun i => i == m - 1 || (List.range (m + 1 + 1)).any fun j => decide (i < j) && !(j == m - 1) && Region.waitsFor .any ops j i) &&
  Region.chainB .any ops (m + 1) && Region.waitsFor .any ops (m + 1 + 1) (m - 1) &&
  Region.seqB .any ops (ops.size - (m + 1)) (m + 1) (Array.ofFn fun i : Fin ops.size => decide (i.val < m + 1)) &&
  lexQ .any ops m 0 (Array.replicate ops.size false) &&
  (match ops[m - 1]?, ops[m + 1]? with
   | some op, some os => op.guard.isNone && os.guard.isNone && os.dst.isNone && (match op.dst with | some e => !(os.looksAt ops).contains e | none => true) && (match op.op with | .extract _ _ => true | _ => false)
   | _, _ => false)
theorem wp_region_alloc {id:Nat} {Q:Exit→Act→World→Prop} {a:Act} {l:List Oper} (m:Nat)(oa os:Oper)(d:Tmp)(obj:Obj)(hm:P.follows .mixedOrders=true)(hat:l[m]?=some oa)(hos:l[m+1]?=some os)(hdst:oa.dst=some d)
  (hrun:∀ (a:Act) (W:World),(execOp a.eval oa).run P W=.ok (.value (.pointer (some ⟨W.heap.size,0,none⟩))) (W.alloc obj))
  (hB:allocB l.toArray m=true)
  (h:wpQuietR P l.toArray w (fun a'=>∀ B W',w.heap.size≤B→Below w.heap.size w W'→W'.heap[B]?=some obj →
   plain P os (a'.put (some d) (.pointer (some ⟨B,0,none⟩))) W' fun a'' W''=>Below w.heap.size w W''∧wpList P l.toArray Q (l.drop (m+1+1)) a'' W'') (l.take m) a) :
  (Code.region id l.toArray true).wp P Q a w:=by
 simp only [allocB,Bool.and_eq_true,decide_eq_true_eq] at hB
 obtain⟨⟨⟨⟨⟨⟨⟨⟨⟨⟨hsel,hpos⟩,hlt⟩,hq⟩,hal⟩,hs⟩,hc⟩,hla⟩,hseq⟩,hlex⟩,hps⟩:=hB
 have hat':l.toArray[m]?=some oa:=by simpa using hat
 have hos':l.toArray[m+1]?=some os:=by simpa using hos
 have hlt':m+1+1 < l.length:=by simpa using hlt
 obtain⟨op,hop⟩:∃ op,l.toArray[m - 1]?=some op:=⟨_,Array.getElem?_eq_getElem (by simp;omega)⟩
 rw [hat'] at hal
 rw [hop,hos'] at hps
 simp only [Bool.and_eq_true] at hal hps
 obtain⟨⟨hfree,hguard⟩,hap⟩:=hal
 obtain⟨⟨⟨⟨hgp,hgs⟩,hds⟩,hapP⟩,hext⟩:=hps
 have A:AllocAt P .any l.toArray m oa op os d obj:={
  sel:=hsel,lt:=by omega,pos:=hpos,at_:=hat',atP:=hop,atS:=hos',dst:=hdst,free:=by simpa using hfree,guard:=by simpa using hguard,guardP:=by simpa using hgp,guardS:=by simpa using hgs,dstS:=by simpa using hds
  apartP:=fun e he=>by rw [he] at hapP;simpa using hapP
  takes:=by
   cases hx:op.op <;> rw [hx] at hext <;> first | exact⟨_,_,rfl⟩ | cases hext
  runs:=hrun,chain:=hc,late:=fun _=>hla,more:=hlt,seq:=hseq
  sink:=fun i hi hne=>by
   have h1:=List.all_eq_true.1 hs i (List.mem_range.2 hi)
   simp only [Bool.or_eq_true,beq_iff_eq] at h1
   obtain⟨j,hj,h2⟩:=List.any_eq_true.1 (h1.resolve_left hne)
   simp only [Bool.and_eq_true,decide_eq_true_eq,Bool.not_eq_true',beq_eq_false_iff_ne] at h2
   exact⟨j,h2.1.1,by have:=List.mem_range.1 hj;omega,h2.1.2,h2.2⟩
  quiet:=fun j oj hj hoj e he hb=>by
   have h1:=List.all_eq_true.1 hq j (List.mem_range.2 hj)
   rw [hoj] at h1
   have h2:=Array.all_eq_true'.1 h1 e he
   simpa [hb] using h2
  apart:=fun j oj hj hoj=>by
   have h1:=List.all_eq_true.1 hap j (List.mem_range.2 hj)
   rw [hoj] at h1
   exact h1 }
 have htl:(l.take m).length=m:=by simp;omega
 have G:=GQ_lex (P:=P) (w:=w) (md:=.any) (m:=m) hsel (by simp;omega) (l.take m) 0 (Array.replicate l.toArray.size false) a (fun j hj=>by
  have hj':j < m:=by rw [htl] at hj;exact hj
  simp [hj']) (by simpa using htl) (by simp) (fun j hj=>by omega) (by rw [htl];exact hlex) h
 rw [htl] at G
 have inv0:HeadInv .any l.toArray (m+1) (Array.replicate l.toArray.size false) :=
  ⟨by simp,fun j oj _ hl=>(by rw [getD_replicate_false] at hl;cases hl),fun t _ ht=>getD_in (by simpa using ht) (getD_replicate_false _ _)⟩
 have H:=phase1 (Q:=Q) A m _ _ a w.drew ⟨rfl,fun _ _=>rfl⟩ inv0 (getD_in (by simp;omega) (getD_replicate_false _ _)) ((Below.refl _ w).drew) G
 refine wp_region_any hm ?_
 rw [show m+1+(l.toArray.size - (m+1))=l.toArray.size by simp;omega] at H
 exact H
end
end
section
open Go.RowKit
def midUpon (P:Program)(W:World)(T:Value→World→Prop):Result Next→Prop
 | .ok (.value u) W'=>Below W.heap.size W W'∧T u W'
 | .ok .skip W'=>Below W.heap.size W W'∧T undef W'
 | .ok (.enter f args) W'=>W'=W∧Calls P f args W (fun e W''=>∃ v,e=.returned v∧Below W.heap.size W W''∧T v W'')
 | _=>False
def midAt (P:Program)(o:Oper)(a:Act)(W:World)(T:Value→World→Prop):Prop:=midUpon P W T ((execOp a.eval o).run P W)
section
variable {P : Program} {ops : Array Oper} {md : Region.Mode} {w : World}
def slotOf (ops:Array Oper)(k:Nat):Option Tmp:=(ops[k]?).bind (·.dst)
def waitsOn (md:Region.Mode)(o:Oper)(j:Nat):Bool:=o.after.any fun e=>Region.binds md e && e.on == j
theorem waitsOn_spec {o:Oper} {j:Nat} (h:waitsOn md o j=true):∃ e∈o.after,Region.binds md e=true∧e.on=j:=by
 obtain⟨i,hi,h⟩:=Array.any_eq_true.1 h
 simp only [Bool.and_eq_true,beq_iff_eq] at h
 exact⟨_,Array.getElem_mem hi,h.1,h.2⟩
theorem agree_exec {o:Oper} {a A:Act} (hs:∀ cs b,o.op≠.select cs b)(h:∀ t∈o.looksAt ops,a.tmps[t]?=A.tmps[t]?) :
  execOp a.eval o=execOp A.eval o∧Region.wanted o (yielded ops a.tmps)=Region.wanted o (yielded ops A.tmps):=by
 constructor
 ·refine execOp_congr o hs fun x hx=>?_
  cases x with
  | tmp t =>
   have ht:t∈o.looksAt ops:=List.mem_append_left _ (List.mem_filterMap.2 ⟨.tmp t,by simpa using hx,rfl⟩)
   have:=h t ht
   simp only [Act.eval,Array.getD_eq_getD_getElem?,this]
  | const _=>rfl
  | global _=>rfl
  | func _=>rfl
 ·unfold Region.wanted
  cases hg:o.guard with
  | none=>rfl
  | some gw =>
   obtain⟨g,want⟩:=gw
   have hy:yielded ops a.tmps g=yielded ops A.tmps g:=by
    unfold yielded
    cases ht:(ops[g]?).bind (·.dst) with
    | none=>rfl
    | some t =>
     have:=h t (by simp [Oper.looksAt,hg,ht])
     simp [this]
   simp only [hy]
def TStep (P:Program)(ops:Array Oper)(o:Oper)(a:Act)(W:World)(T:Value→World→Prop):Prop :=
 if Region.wanted o (yielded ops a.tmps) then midAt P o a W T else T undef W
structure InvM (md:Region.Mode)(ops:Array Oper)(n g:Nat)(T:Nat→Value→World→Prop)(a0:Act)(w:World)(listed:Array Bool)(a:Act)(W:World):Prop where
 size:listed.size=ops.size
 closed:∀ j oj,j < n→ops[j]?=some oj→listed.getD j false=true→∀ e∈oj.after,Region.binds md e=true→listed.getD e.on false=true
 tail:∀ t,n≤t→t < n+g→listed.getD t true=false
 fl:∀ t,n+g≤t→t < ops.size→listed.getD t false=true
 below:Below w.heap.size w W
 defers:a.defers=a0.defers
 sz:a.tmps.size=a0.tmps.size
 same:∀ t,(∀ k,k < n→listed.getD k false=true→slotOf ops k≠some t)→a.tmps[t]?=a0.tmps[t]?
 val:∀ k t,k < n→listed.getD k false=true→slotOf ops k=some t→t < a0.tmps.size→∃ v,a.tmps[t]?=some v∧T k v W
structure SeesM (md:Region.Mode)(ops:Array Oper)(n:Nat)(T:Nat→Value→World→Prop)(a0:Act)(w:World)(o:Oper)(a:Act)(W:World):Prop where
 below:Below w.heap.size w W
 same:∀ t∈o.looksAt ops,(∀ k,k < n→slotOf ops k≠some t)→a.tmps[t]?=a0.tmps[t]?
 val:∀ t∈o.looksAt ops,∀ j,j < n→slotOf ops j=some t→t < a0.tmps.size→∃ v,a.tmps[t]?=some v∧T j v W
 sz:a.tmps.size=a0.tmps.size
theorem put_tmps (a:Act)(d:Option Tmp)(v:Value)(t:Tmp):(a.put d v).tmps[t]?=if d=some t∧t < a.tmps.size then some v else a.tmps[t]?:=by
 cases d with
 | none=>simp [Act.put]
 | some d =>
  simp only [Act.put,Array.getElem?_setIfInBounds,Option.some.injEq]
  by_cases h:d=t
  ·subst h
   by_cases h2:d < a.tmps.size
   ·simp [h2]
   ·simp [h2,Array.getElem?_eq_none (Nat.le_of_not_lt h2)]
  ·simp [h]
theorem put_size (a:Act)(d:Option Tmp)(v:Value):(a.put d v).tmps.size=a.tmps.size:=by cases d <;> simp [Act.put]
theorem put_defers' (a:Act)(d:Option Tmp)(v:Value):(a.put d v).defers=a.defers:=by cases d <;> rfl
structure StatM (md:Region.Mode)(ops:Array Oper)(n g:Nat):Prop where
 sel:Region.noSelect ops=true
 le:n+g≤ops.size
 down:∀ k ok,k < n→ops[k]?=some ok→∀ e∈ok.after,Region.binds md e=true→e.on < k
 slots:∀ k ok,k < n→ops[k]?=some ok→∀ t∈ok.looksAt ops,∀ j,j < n→slotOf ops j=some t→waitsOn md ok j=true
 uniq:∀ i j t,i < n→j < n→i≠j→slotOf ops i=some t→slotOf ops j≠some t
 sink:0 < g→∀ i,i < n→∃ j,i < j∧j≤n∧Region.waitsFor md ops j i=true
 chain:∀ t,n < t→t < n+g→Region.waitsFor md ops t (t - 1)=true
 seq:Region.seqB md ops g n (Array.ofFn fun i:Fin ops.size=>decide (i.val < n∨n+g≤i.val))=true
theorem seqList {Q':Exit→Act→World→Prop}:∀ (l:List Oper)(k:Nat)(listed:Array Bool)(a:Act)(w:World),(∀ j,j < l.length→l[j]?=ops[k+j]?) →
  Region.seqB md ops l.length k listed=true→wpList P ops Q' l a w→wpAny P md ops Q' l.length listed a w
 | [],_,_,_,_,_,hB,h=>⟨by simpa [Region.seqB] using hB,h⟩
 | o :: l,k,listed,a,w,hl,hB,h=>by
  have h0:ops[k]?=some o:=by simpa using (hl 0 (by simp)).symm
  simp only [List.length_cons,Region.seqB,Bool.and_eq_true,decide_eq_true_eq] at hB
  refine⟨fun h1=>(by rw [hB.1] at h1;cases h1),fun i hi=>?_⟩
  rw [hB.1] at hi
  have hik:i=k:=by simpa using hi
  subst hik
  have hw:wpOp P ops Q' i (wpList P ops Q' l) a w:=by unfold wpOp;simp only [h0];exact h
  exact wpOp_mono (fun a' w' h'=>seqList l (i+1) _ a' w' (fun j hj=>by have:=hl (j+1) (by simp;omega);simpa [Nat.add_assoc,Nat.add_comm 1 j] using this) hB.2 h') hw
def left (n:Nat)(listed:Array Bool):Nat:=((List.range n).filter fun k=>!listed.getD k false).length
theorem left_zero {n:Nat} {listed:Array Bool} (h:left n listed=0):∀ k,k < n→listed.getD k false=true:=by
 intro k hk
 have:=List.length_eq_zero_iff.1 h
 have h2:=List.filter_eq_nil_iff.1 this k (List.mem_range.2 hk)
 simpa using h2
theorem filter_set {n i:Nat} {listed:Array Bool} (hi:i < listed.size)(hun:listed.getD i false=false):∀ m,((List.range m).filter fun k=>!listed.getD k false).length=((List.range m).filter fun k=>!(listed.setIfInBounds i true).getD k false).length+(if i < m then 1 else 0):=by
 intro m
 induction m with
 | zero=>simp
 | succ m ih =>
  rw [List.range_succ,List.filter_append,List.filter_append,List.length_append,List.length_append,ih]
  by_cases h:i=m
  ·subst h
   have e:(listed.setIfInBounds i true).getD i false=true:=by simp [hi]
   rw [List.filter_cons_of_pos (by rw [hun];rfl),List.filter_cons_of_neg (by rw [e];simp)]
   simp
  ·rw [List.filter_cons,List.filter_cons,getD_set_ne false h]
   by_cases h2:i < m
   ·simp [h2,show i < m+1 by omega];split <;> simp <;> omega
   ·simp [h2,show ¬ i < m+1 by omega]
theorem left_set {n i:Nat} {listed:Array Bool} (hi:i < listed.size)(hun:listed.getD i false=false)(hin:i < n):left n listed=left n (listed.setIfInBounds i true)+1:=by
 have:=filter_set (n:=n) hi hun n
 rw [if_pos hin] at this
 exact this
theorem tail_not {n g:Nat} (S:StatM md ops n g) {T:Nat→Value→World→Prop} {a0:Act} {listed:Array Bool} {a:Act} {W:World} (I:InvM md ops n g T a0 w listed a W) {t:Nat} (hr:t∈Region.ready md ops listed)(ht:n≤t) :
  ∀ i,i < n→listed.getD i false=true:=by
 obtain⟨hun,ot,hot,hall⟩:=mem_ready.1 hr
 have hts:t < ops.size:=(Array.getElem?_eq_some_iff.1 hot).1
 have htg:t < n+g:=by
  rcases Nat.lt_or_ge t (n+g) with h | h
  ·exact h
  ·have:=I.fl t h hts;rw [getD_both hun] at this;cases this
 have htn:t=n:=by
  by_cases h:t=n
  ·exact h
  ·exfalso
   obtain⟨o',ho',e,he,hb,hon⟩:=Region.waitsFor_spec (S.chain t (by omega) htg)
   have:o'=ot:=Option.some.inj (ho'.symm.trans hot)
   subst this
   have h2:=hall e he hb
   rw [hon,getD_both (I.tail (t - 1) (by omega) (by omega))] at h2
   cases h2
 subst htn
 suffices H:∀ d i,t - i≤d→i < t→listed.getD i false=true from fun i hi=>H _ i (Nat.le_refl _) hi
 intro d
 induction d with
 | zero=>intro i h1 h2;omega
 | succ d ih =>
  intro i hd hi
  obtain⟨j,hij,hjn,hw⟩:=S.sink (by omega) i hi
  obtain⟨oj,hoj,e,he,hb,hon⟩:=Region.waitsFor_spec hw
  by_cases hjt:j=t
  ·subst hjt
   have:oj=ot:=Option.some.inj (hoj.symm.trans hot)
   subst this
   rw [← hon];exact hall e he hb
  ·rw [← hon]
   exact I.closed j oj (by omega) hoj (ih j (by omega) (by omega)) e he hb
theorem some_ready {n g:Nat} (S:StatM md ops n g) {T:Nat→Value→World→Prop} {a0:Act} {listed:Array Bool} {a:Act} {W:World} (I:InvM md ops n g T a0 w listed a W)(h:left n listed≠0):Region.ready md ops listed≠[]:=by
 intro h0
 apply h
 have all:∀ m k,k < m→k < n→listed.getD k false=true:=by
  intro m
  induction m with
  | zero=>intro k hk;omega
  | succ m ih =>
   intro k hk hkn
   cases hl:listed.getD k false with
   | true=>rfl
   | false =>
    exfalso
    have hks:k < ops.size:=by have:=S.le;omega
    have hmem:k∈Region.ready md ops listed:=mem_ready.2 ⟨getD_in (by rw [I.size];exact hks) hl,ops[k],Array.getElem?_eq_getElem hks,fun e he hb=>by
     have:=S.down k _ hkn (Array.getElem?_eq_getElem hks) e he hb
     exact ih e.on (by omega) (by omega)⟩
    rw [h0] at hmem;cases hmem
 unfold left
 rw [List.length_eq_zero_iff,List.filter_eq_nil_iff]
 intro k hk
 have:=all _ k (Nat.lt_succ_self k) (List.mem_range.1 hk)
 simp [this]
theorem InvM.step {n g k:Nat} (S:StatM md ops n g) {T:Nat→Value→World→Prop} {a0:Act} {listed:Array Bool} {a:Act} {W W':World} {ok:Oper} {v:Value} (hst:∀ k,k < n→∀ v W W',T k v W→Below W.heap.size W W'→T k v W')
  (I:InvM md ops n g T a0 w listed a W) (hr:k∈Region.ready md ops listed) (hkn:k < n) (hok:ops[k]?=some ok) (hb:Below W.heap.size W W') (hT:T k v W') :
  InvM md ops n g T a0 w (listed.setIfInBounds k true) (a.put ok.dst v) W':=by
 obtain⟨hun,ok',hok',hall⟩:=mem_ready.1 hr
 have:ok'=ok:=Option.some.inj (hok'.symm.trans hok)
 subst this
 have hks:k < listed.size:=by rw [I.size];exact (Array.getElem?_eq_some_iff.1 hok).1
 have hsk:slotOf ops k=ok'.dst:=by unfold slotOf;rw [hok];rfl
 refine⟨by simpa using I.size,?_,?_,?_,I.below.trans (hb.mono I.below.size),by rw [put_defers'];exact I.defers,by rw [put_size];exact I.sz,?_,?_⟩
 ·intro j oj hjn hoj hl e he hbi
  by_cases hjk:k=j
  ·subst hjk
   have:oj=ok':=Option.some.inj (hoj.symm.trans hok)
   subst this
   exact getD_set_true (hall e he hbi)
  ·rw [getD_set_ne false hjk] at hl
   exact getD_set_true (I.closed j oj hjn hoj hl e he hbi)
 ·intro t h1 h2
  rw [getD_set_ne true (by omega)];exact I.tail t h1 h2
 ·intro t h1 h2
  exact getD_set_true (I.fl t h1 h2)
 ·intro t h
  rw [put_tmps,if_neg]
  ·refine I.same t fun j hj hl=>h j hj (getD_set_true hl)
  ·rintro ⟨h1,_⟩
   exact h k hkn (by simp [hks]) (by rw [hsk];exact h1)
 ·intro j t hj hl hs ht
  by_cases hjk:k=j
  ·subst hjk
   rw [hsk] at hs
   refine⟨v,?_,hT⟩
   rw [put_tmps,if_pos ⟨hs,by rw [I.sz];exact ht⟩]
  ·rw [getD_set_ne false hjk] at hl
   obtain⟨u,hu,hTu⟩:=I.val j t hj hl hs ht
   refine⟨u,?_,hst j hj u W W' hTu hb⟩
   rw [put_tmps,if_neg]
   ·exact hu
   ·rintro ⟨h1,_⟩
    exact S.uniq k j t hkn hj hjk (by rw [hsk];exact h1) hs
theorem phaseM {n g:Nat} (S:StatM md ops n g) {T:Nat→Value→World→Prop} {a0:Act} {Q:Exit→Act→World→Prop} (hst:∀ k,k < n→∀ v W W',T k v W→Below W.heap.size W W'→T k v W')
  (hstep:∀ k ok,k < n→ops[k]?=some ok→∀ a W,SeesM md ops n T a0 w ok a W→TStep P ops ok a W (T k))
  (hfin:∀ listed a W,InvM md ops n g T a0 w listed a W→(∀ k,k < n→listed.getD k false=true)→wpList P ops Q ((ops.toList.drop n).take g) a W) :
  ∀ (c:Nat) (listed:Array Bool) (a:Act) (W:World),left n listed=c→InvM md ops n g T a0 w listed a W→wpAny P md ops Q (c+g) listed a W:=by
 intro c
 induction c with
 | zero =>
  intro listed a W hc I
  have hall:=left_zero hc
  have hL:listed=Array.ofFn fun i:Fin ops.size=>decide (i.val < n∨n+g≤i.val):=by
   apply Array.ext
   ·simp [I.size]
   ·intro i hi hi'
    have hio:i < ops.size:=by rw [← I.size];exact hi
    simp only [Array.getElem_ofFn]
    by_cases h:i < n
    ·have:=hall i h;simp [hi] at this;simp [this,h]
    ·by_cases h2:n+g≤i
     ·have:=I.fl i h2 hio;simp [hi] at this;simp [this,h2]
     ·have:=I.tail i (by omega) (by omega);simp [hi] at this;simp [this,h,h2]
  have hlen:((ops.toList.drop n).take g).length=g:=by have:=S.le;simp;omega
  have h:=seqList (P:=P) (md:=md) (ops:=ops) (Q':=Q) ((ops.toList.drop n).take g) n listed a W (fun j hj=>by
   rw [hlen] at hj
   rw [List.getElem?_take_of_lt hj,List.getElem?_drop];simp) (by rw [hlen,hL];exact S.seq) (hfin listed a W I hall)
  rw [hlen] at h
  rw [Nat.zero_add];exact h
 | succ c ih =>
  intro listed a W hc I
  rw [show c+1+g=(c+g)+1 by omega]
  refine⟨fun h0=>absurd h0 (some_ready S I (by omega)),fun k hk=>?_⟩
  obtain⟨hun,ok,hok,hall⟩:=mem_ready.1 hk
  have hks:k < ops.size:=(Array.getElem?_eq_some_iff.1 hok).1
  have hkn:k < n:=by
   rcases Nat.lt_or_ge k n with h | h
   ·exact h
   ·exfalso
    have h1:=tail_not S I hk h
    have:left n listed=0:=by
     unfold left
     rw [List.length_eq_zero_iff,List.filter_eq_nil_iff]
     intro i hi
     have:=h1 i (List.mem_range.1 hi)
     simp [this]
    omega
  have hsee:SeesM md ops n T a0 w ok a W:=⟨I.below,fun t _ hno=>I.same t fun j hj _=>hno j hj,fun t ht j hj hs hsz=>by
   obtain⟨e,he,hb,hon⟩:=waitsOn_spec (S.slots k ok hkn hok t ht j hj hs)
   exact I.val j t hj (by rw [← hon];exact hall e he hb) hs hsz,I.sz⟩
  have h:=hstep k ok hkn hok a W hsee
  have hlf:=left_set (n:=n) (by rw [I.size];exact hks) (getD_both hun) hkn
  have go:∀ v W',Below W.heap.size W W'→T k v W'→wpAny P md ops Q (c+g) (listed.setIfInBounds k true) (a.put ok.dst v) W':=fun v W' hb hT =>
   ih _ _ _ (by omega) (I.step S hst hk hkn hok hb hT)
  unfold TStep at h
  unfold wpOp
  simp only [hok]
  split
  ·rename_i hw
   simp only [hw,if_true] at h
   left
   unfold midAt at h
   unfold Oper.wp
   generalize (execOp a.eval ok).run P W=r at *
   cases r with
   | ok x w' =>
    cases x <;> simp only [midUpon] at h <;> simp only [Oper.upon]
    case value u=>exact go u _ h.1 h.2
    case skip=>exact go undef _ h.1 h.2
    case enter f args =>
     obtain⟨e1,hc⟩:=h
     rw [e1]
     exact hc.mono fun e w'' ⟨v,he,hb,hT⟩=>by subst he;exact go v _ hb hT
   | halt x w'=>simp only [midUpon] at h
  ·rename_i hw
   simp only [hw] at h
   exact go undef W (Below.refl _ _) h
def putHd (ops:Array Oper)(vals:Nat→Value):List Nat→Act→Act
 | [],a=>a
 | k :: r,a=>putHd ops vals r (a.put (slotOf ops k) (vals k))
theorem putHd_congr {vals vals':Nat→Value}:∀ (r:List Nat)(a:Act),(∀ k∈r,vals k=vals' k)→putHd ops vals r a=putHd ops vals' r a
 | [],_,_=>rfl
 | k :: r,a,h=>by
  unfold putHd
  rw [h k (by simp)]
  exact putHd_congr r _ fun j hj=>h j (by simp [hj])
theorem putHd_size (vals:Nat→Value):∀ (r:List Nat)(a:Act),(putHd ops vals r a).tmps.size=a.tmps.size
 | [],_=>rfl
 | k :: r,a=>by unfold putHd;rw [putHd_size vals r,put_size]
theorem putHd_defers (vals:Nat→Value):∀ (r:List Nat)(a:Act),(putHd ops vals r a).defers=a.defers
 | [],_=>rfl
 | k :: r,a=>by unfold putHd;rw [putHd_defers vals r,put_defers']
theorem putHd_other (vals:Nat→Value)(t:Tmp):∀ (r:List Nat)(a:Act),(∀ k∈r,slotOf ops k≠some t)→(putHd ops vals r a).tmps[t]?=a.tmps[t]?
 | [],_,_=>rfl
 | k :: r,a,h=>by
  unfold putHd
  rw [putHd_other vals t r _ fun j hj=>h j (by simp [hj]),put_tmps,if_neg]
  rintro ⟨h1,_⟩
  exact h k (by simp) h1
theorem putHd_slot (vals:Nat→Value)(t:Tmp)(k:Nat)(hk:slotOf ops k=some t):∀ (r:List Nat)(a:Act),k∈r→(∀ j∈r,j≠k→slotOf ops j≠some t)→t < a.tmps.size→(putHd ops vals r a).tmps[t]?=some (vals k)
 | [],_,hm,_,_=>by cases hm
 | j :: r,a,hm,hu,ht=>by
  unfold putHd
  by_cases hr:k∈r
  ·exact putHd_slot vals t k hk r _ hr (fun i hi hne=>hu i (by simp [hi]) hne) (by rw [put_size];exact ht)
  ·obtain rfl:k=j:=by rcases List.mem_cons.1 hm with h | h;exact h;exact absurd h hr
   rw [putHd_other vals t r _ fun i hi=>hu i (by simp [hi]) (by rintro rfl;exact hr hi),put_tmps,if_pos ⟨hk,ht⟩]
def offB (ops:Array Oper)(k:Nat)(r:List Nat):Bool :=
 match ops[k]? with
 | some o=>r.all fun j=>match slotOf ops j with | some d=>!(o.looksAt ops).contains d | none=>true
 | none=>false
def hdB (ops:Array Oper):List Nat→Bool
 | []=>true
 | k :: r=>offB ops k (k :: r) && !r.contains k && hdB ops r
theorem offB_spec {k:Nat} {r:List Nat} (h:offB ops k r=true):∃ o,ops[k]?=some o∧∀ j∈r,∀ d,slotOf ops j=some d→d ∉ o.looksAt ops:=by
 unfold offB at h
 cases ho:ops[k]? with
 | none=>rw [ho] at h;cases h
 | some o =>
  rw [ho] at h
  refine⟨o,rfl,fun j hj d hd=>?_⟩
  have:=List.all_eq_true.1 h j hj
  rw [hd] at this
  simpa using this
theorem yields_putHd {o:Oper} {v:Value} {vals:Nat→Value} (hs:∀ cs b,o.op≠.select cs b):∀ (r:List Nat)(a:Act),(∀ j∈r,∀ d,slotOf ops j=some d→d ∉ o.looksAt ops)→YieldsR P ops w o v a→YieldsR P ops w o v (putHd ops vals r a)
 | [],_,_,h=>h
 | k :: r,a,hn,h=>by
  unfold putHd
  exact yields_putHd hs r _ (fun j hj=>hn j (by simp [hj])) (h.put hs fun d hd=>hn k (by simp) d hd)
theorem head_table (hsel:Region.noSelect ops=true) {Lq:Act→Prop}:∀ (hd:List Nat)(a:Act),hdB ops hd=true→wpQuietR P ops w Lq (hd.filterMap (ops[·]?)) a →
  ∃ vals:Nat→Value,Lq (putHd ops vals hd a)∧∀ k∈hd,∀ ok,ops[k]?=some ok→YieldsR P ops w ok (vals k) (putHd ops vals hd a)
 | [],a,_,h=>⟨fun _=>undef,h,fun k hk=>by cases hk⟩
 | k :: r,a,hB,h=>by
  simp only [hdB,Bool.and_eq_true] at hB
  obtain⟨⟨h1,h2⟩,h3⟩:=hB
  obtain⟨o,ho,hoff⟩:=offB_spec h1
  have hkr:k ∉ r:=by simpa using h2
  have hs:=fun cs b=>Region.noSelect_spec hsel k o cs b ho
  rw [List.filterMap_cons_some (by exact ho)] at h
  have hst:qOpR P ops w k (wpQuietR P ops w Lq (r.filterMap (ops[·]?))) a:=by unfold qOpR;simp only [ho];exact h
  obtain⟨v,hy,hK⟩:=yieldsR_of_qOpR ho hst
  obtain⟨vals,hq,hall⟩:=head_table hsel r _ h3 hK
  have hsk:slotOf ops k=o.dst:=by unfold slotOf;rw [ho];rfl
  refine⟨fun j=>if j=k then v else vals j,?_,?_⟩
  ·unfold putHd
   simp only [if_true]
   rw [hsk,putHd_congr (vals':=vals) r _ fun i hi=>if_neg fun h=>hkr (by rw [← h];exact hi)]
   exact hq
  ·intro j hj oj hoj
   unfold putHd
   simp only [if_true]
   rw [hsk,putHd_congr (vals':=vals) r _ fun i hi=>if_neg fun h=>hkr (by rw [← h];exact hi)]
   by_cases hjk:j=k
   ·subst hjk
    rw [if_pos rfl]
    have:oj=o:=Option.some.inj (hoj.symm.trans ho)
    subst this
    exact yields_putHd hs r _ (fun i hi=>hoff i (by simp [hi])) (hy.put hs fun d hd=>hoff j (by simp) d (by rw [hsk];exact hd))
   ·rw [if_neg hjk]
    rcases List.mem_cons.1 hj with h | h
    ·exact absurd h hjk
    ·exact hall j h oj hoj
def tOf:List (Nat × (Value→World→Prop))→Nat→Value→World→Prop
 | [],_=>fun _ _=>True
 | p :: r,k=>if p.1=k then p.2 else tOf r k
def FitsM:List (Nat × (Value→World→Prop))→(Nat→Value)→World→Prop
 | [],_,_=>True
 | p :: r,vs,W=>p.2 (vs p.1) W∧FitsM r vs W
def needsB (ops:Array Oper)(o:Oper)(j:Nat):Bool:=match slotOf ops j with | some t=>(o.looksAt ops).contains t | none=>false
def MidsOK (P:Program)(ops:Array Oper)(w:World)(A:Act)(ms:List (Nat × (Value→World→Prop))):List (Nat × (Value→World→Prop))→Prop
 | []=>True
 | p :: r=>(match ops[p.1]? with
   | some o=>∀ vs W,Below w.heap.size w W→FitsM (ms.filter fun q=>needsB ops o q.1) vs W→midAt P o (putHd ops vs (ms.map (·.1)) A) W p.2
   | none=>True)∧MidsOK P ops w A ms r
def MidsOKg (P:Program)(ops:Array Oper)(w:World)(A:Act)(ms:List (Nat × (Value→World→Prop))):List (Nat × (Value→World→Prop))→Prop
 | []=>True
 | p :: r=>(match ops[p.1]? with
   | some o=>∀ vs W,Below w.heap.size w W→FitsM (ms.filter fun q=>needsB ops o q.1) vs W→TStep P ops o (putHd ops vs (ms.map (·.1)) A) W p.2
   | none=>True)∧MidsOKg P ops w A ms r
theorem tstep_yes {o:Oper} {a:Act} {W:World} {T:Value→World→Prop} (h:Region.wanted o (yielded ops a.tmps)=true)(hm:midAt P o a W T):TStep P ops o a W T:=by unfold TStep;rw [if_pos h];exact hm
theorem midsOKg_mem {A:Act} {ms:List (Nat × (Value→World→Prop))}:∀ {l:List (Nat × (Value→World→Prop))} {p},p∈l→MidsOKg P ops w A ms l→∀ o,ops[p.1]?=some o→∀ vs W,Below w.heap.size w W→FitsM (ms.filter fun q=>needsB ops o q.1) vs W→TStep P ops o (putHd ops vs (ms.map (·.1)) A) W p.2
 | q :: r,p,hp,h,o,ho,vs,W,hb,hf=>by
  rcases List.mem_cons.1 hp with rfl | hp
  ·have h1:=h.1
   rw [ho] at h1
   exact h1 vs W hb hf
  ·exact midsOKg_mem hp h.2 o ho vs W hb hf
def StableM:List (Nat × (Value→World→Prop))→Prop
 | []=>True
 | p :: r=>(∀ v W W',p.2 v W→Below W.heap.size W W'→p.2 v W')∧StableM r
theorem tOf_mem:∀ {ms:List (Nat × (Value→World→Prop))} {p},p∈ms→(ms.map (·.1)).Nodup→tOf ms p.1=p.2
 | q :: r,p,hp,hn=>by
  unfold tOf
  rcases List.mem_cons.1 hp with rfl | hp
  ·simp
  ·rw [List.map_cons,List.nodup_cons] at hn
   rw [if_neg,tOf_mem hp hn.2]
   intro h
   exact hn.1 (by rw [h];exact List.mem_map.2 ⟨p,hp,rfl⟩)
theorem fitsM_of {vs:Nat→Value} {W:World}:∀ {l:List (Nat × (Value→World→Prop))},(∀ p∈l,p.2 (vs p.1) W)→FitsM l vs W
 | [],_=>trivial
 | p :: r,h=>⟨h p (by simp),fitsM_of fun q hq=>h q (by simp [hq])⟩
theorem stableM_mem:∀ {l:List (Nat × (Value→World→Prop))} {p},p∈l→StableM l→∀ v W W',p.2 v W→Below W.heap.size W W'→p.2 v W'
 | q :: r,p,hp,h=>by
  rcases List.mem_cons.1 hp with rfl | hp
  ·exact h.1
  ·exact stableM_mem hp h.2
def floatVal (o:Oper):Option Value:=match o.guard,o.op with | none,.move (.const c)=>some c | _,_=>none
theorem floatVal_yields {o:Oper} {c:Value} (h:floatVal o=some c)(a:Act):Yields P ops o c a:=by
 unfold floatVal at h
 split at h
 ·rename_i hg hop
  cases h
  refine .inl ⟨by simp [Region.wanted,hg],fun w=>?_⟩
  unfold execOp
  simp [hop,Act.eval]
 ·cases h
def floatsB (md:Region.Mode)(ops:Array Oper):Nat→Nat→Array Bool→Bool
 | 0,_,_=>true
 | f+1,t,listed=>(match ops[t]? with | some o=>(floatVal o).isSome | none=>false) && Region.free md ops listed t && (Region.ready md ops listed).contains t && floatsB md ops f (t+1) (listed.setIfInBounds t true)
def putFl (ops:Array Oper):Nat→Nat→Act→Act
 | 0,_,a=>a
 | f+1,t,a=>putFl ops f (t+1) (match (ops[t]?).bind floatVal with | some c=>a.put (slotOf ops t) c | none=>a)
def listFl:Nat→Nat→Array Bool→Array Bool
 | 0,_,listed=>listed
 | f+1,t,listed=>listFl f (t+1) (listed.setIfInBounds t true)
theorem listFl_size:∀ (f t:Nat)(listed:Array Bool),(listFl f t listed).size=listed.size
 | 0,_,_=>rfl
 | f+1,t,listed=>by unfold listFl;rw [listFl_size];simp
theorem listFl_low:∀ (f t:Nat)(listed:Array Bool)(k:Nat)(d:Bool),k < t→(listFl f t listed).getD k d=listed.getD k d
 | 0,_,_,_,_,_=>rfl
 | f+1,t,listed,k,d,h=>by unfold listFl;rw [listFl_low f (t+1) _ k d (by omega),getD_set_ne d (by omega)]
theorem listFl_in:∀ (f t:Nat)(listed:Array Bool)(k:Nat),t≤k→k < t+f→k < listed.size→(listFl f t listed).getD k false=true
 | 0,_,_,_,h1,h2,_=>by omega
 | f+1,t,listed,k,h1,h2,h3=>by
  unfold listFl
  by_cases h:k=t
  ·subst h
   rw [listFl_low f (k+1) _ k false (by omega)]
   simp [h3]
  ·exact listFl_in f (t+1) _ k (by omega) (by omega) (by simpa using h3)
theorem take_floats (hsel:Region.noSelect ops=true) {Q:Exit→Act→World→Prop} (hQ:∀ c a d v w,Q (.panic c) (Act.put a (some d) v) w→Q (.panic c) a w) {W:World} (m:Nat):∀ (f t:Nat)(listed:Array Bool)(a:Act),floatsB md ops f t listed=true →
  wpAny P md ops Q m (listFl f t listed) (putFl ops f t a) W→wpAny P md ops Q (m+f) listed a W
 | 0,_,_,_,_,h=>h
 | f+1,t,listed,a,hB,h=>by
  simp only [floatsB,Bool.and_eq_true] at hB
  obtain⟨⟨⟨h1,h2⟩,h3⟩,h4⟩:=hB
  cases ho:ops[t]? with
  | none=>rw [ho] at h1;cases h1
  | some o =>
   rw [ho] at h1
   obtain⟨c,hc⟩:=Option.isSome_iff_exists.1 h1
   unfold listFl putFl at h
   have e1:(ops[t]?).bind floatVal=some c:=by rw [ho];exact hc
   have e2:slotOf ops t=o.dst:=by unfold slotOf;rw [ho];rfl
   rw [e1] at h
   simp only [e2] at h
   exact wpAny_take ho hsel h2 h3 (fun c' a' w' hq=>by
    cases hd:o.dst with
    | none=>rw [hd] at hq;exact hq
    | some d=>rw [hd] at hq;exact hQ c' a' d _ w' hq) (floatVal_yields hc a) (take_floats hsel hQ m f (t+1) _ _ h4 h)
def headOf (n:Nat)(mids:List Nat):List Nat:=(List.range n).filter fun k=>!mids.contains k
def midB (ops:Array Oper)(n g:Nat)(mids:List Nat):Bool :=
 Region.noSelect ops && decide (n+g≤ops.size) &&
 ((List.range n).all fun k=>match ops[k]? with
  | some ok=>(ok.after.all fun e=>!Region.binds .any e || decide (e.on < k)) && ((List.range n).all fun j=>match slotOf ops j with
    | some t=>(!(ok.looksAt ops).contains t || waitsOn .any ok j) && (j == k || slotOf ops k != some t)
    | none=>true)
  | none=>true) &&
 (g == 0 || ((List.range n).all fun i=>(List.range (n+1)).any fun j=>decide (i < j) && Region.waitsFor .any ops j i)) &&
 ((List.range (n+g)).all fun t=>decide (t≤n) || Region.waitsFor .any ops t (t - 1)) &&
 Region.seqB .any ops g n (Array.ofFn fun i:Fin ops.size=>decide (i.val < n∨n+g≤i.val)) &&
 hdB ops (headOf n mids) && ((headOf n mids).all fun k=>offB ops k mids) &&
 (mids.all fun k=>decide (k < n) && (match ops[k]? with | some o=>o.guard.isNone && o.dst.isSome | none=>false)) && decide mids.Nodup &&
 floatsB .any ops (ops.size - (n+g)) (n+g) (Array.replicate ops.size false)
def midBg (ops:Array Oper)(n g:Nat)(mids:List Nat):Bool :=
 Region.noSelect ops && decide (n+g≤ops.size) &&
 ((List.range n).all fun k=>match ops[k]? with
  | some ok=>(ok.after.all fun e=>!Region.binds .any e || decide (e.on < k)) && ((List.range n).all fun j=>match slotOf ops j with
    | some t=>(!(ok.looksAt ops).contains t || waitsOn .any ok j) && (j == k || slotOf ops k != some t)
    | none=>true)
  | none=>true) &&
 (g == 0 || ((List.range n).all fun i=>(List.range (n+1)).any fun j=>decide (i < j) && Region.waitsFor .any ops j i)) &&
 ((List.range (n+g)).all fun t=>decide (t≤n) || Region.waitsFor .any ops t (t - 1)) &&
 Region.seqB .any ops g n (Array.ofFn fun i:Fin ops.size=>decide (i.val < n∨n+g≤i.val)) &&
 hdB ops (headOf n mids) && ((headOf n mids).all fun k=>offB ops k mids) &&
 (mids.all fun k=>decide (k < n) && (match ops[k]? with | some o=>o.dst.isSome | none=>false)) && decide mids.Nodup &&
 floatsB .any ops (ops.size - (n+g)) (n+g) (Array.replicate ops.size false)
def slotsB (ops:Array Oper)(s:Nat):Bool:=ops.all fun o=>match o.dst with | some t=>decide (t < s) | none=>true
def wpHead (P:Program)(ops:Array Oper)(w:World)(mids:List Nat)(Q:Act→Prop):Nat→List Oper→Act→Prop
 | _,[],a=>Q a
 | k,o :: rest,a=>if mids.contains k then wpHead P ops w mids Q (k+1) rest a else
   if Region.wanted o (yielded ops a.tmps) then quietR P o a w (wpHead P ops w mids Q (k+1) rest) else wpHead P ops w mids Q (k+1) rest (a.put o.dst undef)
theorem wpHead_nil {mids:List Nat} {Q:Act→Prop} {k:Nat} {a:Act} (h:Q a):wpHead P ops w mids Q k [] a:=h
theorem wpHead_skip {mids:List Nat} {Q:Act→Prop} {k:Nat} {o:Oper} {rest:List Oper} {a:Act} (hk:mids.contains k=true)(h:wpHead P ops w mids Q (k+1) rest a):wpHead P ops w mids Q k (o :: rest) a:=by
 unfold wpHead;rw [if_pos hk];exact h
theorem wpHead_step {mids:List Nat} {Q:Act→Prop} {k:Nat} {a:Act} {o:Oper} {rest:List Oper} (hk:mids.contains k=false)
  (h:∀ K:Act→Prop,(∀ a,wpHead P ops w mids Q (k+1) rest a→K a)→if Region.wanted o (yielded ops a.tmps) then quietR P o a w K else K (a.put o.dst undef)):wpHead P ops w mids Q k (o :: rest) a:=by
 unfold wpHead;rw [if_neg (by rw [hk];simp)];exact h _ (fun _ h=>h)
theorem quietR_of_head {mids:List Nat} {Q:Act→Prop}:∀ (l:List Oper)(k:Nat)(a:Act),(∀ j,j < l.length→l[j]?=ops[k+j]?)→wpHead P ops w mids Q k l a →
  wpQuietR P ops w Q (((List.range' k l.length).filter fun j=>!mids.contains j).filterMap (ops[·]?)) a
 | [],k,a,_,h=>h
 | o :: l,k,a,hl,h=>by
  have h0:ops[k]?=some o:=by simpa using (hl 0 (by simp)).symm
  have ih:=fun a (h:wpHead P ops w mids Q (k+1) l a)=>quietR_of_head l (k+1) a (fun j hj=>by have:=hl (j+1) (by simp;omega);simpa [Nat.add_assoc,Nat.add_comm 1 j] using this) h
  unfold wpHead at h
  rw [List.length_cons,List.range'_succ]
  by_cases hk:mids.contains k=true
  ·rw [if_pos hk] at h
   rw [List.filter_cons_of_neg (by rw [hk];simp)]
   exact ih a h
  ·rw [if_neg hk] at h
   rw [List.filter_cons_of_pos (by simpa using hk),List.filterMap_cons_some h0]
   unfold wpQuietR
   split
   ·rename_i hw
    rw [if_pos hw] at h
    obtain⟨v,h1,h2⟩:=h
    exact⟨v,h1,ih _ h2⟩
   ·rename_i hw
    rw [if_neg hw] at h
    exact ih _ h
def flOf (ops:Array Oper):Nat→Nat→List (Tmp × Value)
 | 0,_=>[]
 | f+1,t=>match ops[t]? with
  | some o=>match floatVal o,o.dst with
   | some c,some d=>(d,c) :: flOf ops f (t+1)
   | _,_=>flOf ops f (t+1)
  | none=>flOf ops f (t+1)
def putL:List (Tmp × Value)→Act→Act
 | [],a=>a
 | p :: r,a=>putL r (a.put (some p.1) p.2)
theorem putFl_eq:∀ (f t:Nat)(a:Act),putFl ops f t a=putL (flOf ops f t) a
 | 0,_,_=>rfl
 | f+1,t,a=>by
  unfold putFl flOf
  rw [putFl_eq f (t+1)]
  cases ho:ops[t]? with
  | none=>simp
  | some o =>
   have e2:slotOf ops t=o.dst:=by unfold slotOf;rw [ho];rfl
   simp only [Option.bind_some]
   cases hc:floatVal o with
   | none=>simp
   | some c =>
    cases hd:o.dst with
    | none=>simp [e2,hd,Act.put]
    | some d=>simp [e2,hd,putL]
theorem wp_region_midg {id:Nat} {Q:Exit→Act→World→Prop} {a:Act} {l:List Oper} (n g:Nat)(mids:List Nat)(fls:List (Tmp × Value))(ms:List (Nat × (Value→World→Prop)))(hmids:ms.map (·.1)=mids)(hm:P.follows .mixedOrders=true)
  (hB:midBg l.toArray n g mids=true) (hfls:flOf l.toArray (l.length - (n+g)) (n+g)=fls) (hsz:slotsB l.toArray a.tmps.size=true) (hQ:∀ c a d v w,Q (.panic c) (Act.put a (some d) v) w→Q (.panic c) a w) (hst:StableM ms)
  (h:∀ L:Act→Prop,(∀ A,MidsOKg P l.toArray w A ms ms→(∀ vs W,Below w.heap.size w W→FitsM ms vs W→wpList P l.toArray Q ((l.drop n).take g) (putHd l.toArray vs mids A) W)→L A) →
   wpHead P l.toArray w mids L 0 (l.take n) (putL fls a)) :
  (Code.region id l.toArray true).wp P Q a w:=by
 subst hmids
 have hle0:n+g≤l.length:=by
  simp only [midBg,Bool.and_eq_true,decide_eq_true_eq] at hB
  simpa using hB.1.1.1.1.1.1.1.1.1.2
 have h:=h _ (fun A h1 h2=>(show MidsOKg P l.toArray w A ms ms∧∀ vs W,Below w.heap.size w W→FitsM ms vs W→wpList P l.toArray Q ((l.drop n).take g) (putHd l.toArray vs (ms.map (·.1)) A) W from ⟨h1,h2⟩))
 have h:=quietR_of_head _ _ _ (fun j hj=>by
  have:j < n:=by simp at hj;omega
  simp [List.getElem?_take_of_lt this]) h
 rw [← hfls,← putFl_eq,show (l.take n).length=n by simp;omega,← List.range_eq_range'] at h
 change wpQuietR P l.toArray w _ ((headOf n (ms.map (·.1))).filterMap (l.toArray[·]?)) _ at h
 clear hfls
 simp only [midBg,Bool.and_eq_true,decide_eq_true_eq] at hB
 obtain⟨⟨⟨⟨⟨⟨⟨⟨⟨⟨hsel,hle⟩,hk⟩,hsink⟩,hchain⟩,hseq⟩,hhd⟩,hoff⟩,hmid⟩,hnd⟩,hfl⟩:=hB
 generalize hops:l.toArray=ops at *
 have hl:l=ops.toList:=by rw [← hops]
 subst hl
 have hmk:∀ k ok,k < n→ops[k]?=some ok→(∀ e∈ok.after,Region.binds .any e=true→e.on < k)∧∀ j t,j < n→slotOf ops j=some t→(t∈ok.looksAt ops→waitsOn .any ok j=true)∧(j≠k→slotOf ops k≠some t):=by
  intro k ok hkn hok
  have h1:=List.all_eq_true.1 hk k (List.mem_range.2 hkn)
  rw [hok] at h1
  simp only [Bool.and_eq_true] at h1
  refine⟨fun e he hb=>?_,fun j t hj hs=>?_⟩
  ·have:=Array.all_eq_true'.1 h1.1 e he
   simpa [hb] using this
  ·have h2:=List.all_eq_true.1 h1.2 j (List.mem_range.2 hj)
   rw [hs] at h2
   simp only [Bool.and_eq_true,Bool.or_eq_true,Bool.not_eq_true',beq_iff_eq,bne_iff_ne] at h2
   refine⟨fun ht=>h2.1.resolve_left (by simpa using ht),fun hne=>h2.2.resolve_left hne⟩
 have S:StatM .any ops n g:={
  sel:=hsel,le:=hle
  down:=fun k ok hkn hok=>(hmk k ok hkn hok).1
  slots:=fun k ok hkn hok t ht j hj hs=>((hmk k ok hkn hok).2 j t hj hs).1 ht
  uniq:=fun i j t hi hj hne hs=>by
   have hjs:j < ops.size:=by omega
   exact ((hmk j ops[j] hj (Array.getElem?_eq_getElem hjs)).2 i t hi hs).2 hne
  sink:=fun hg i hi=>by
   rcases Bool.or_eq_true _ _ ▸ hsink with h0 | h0
   ·have:g=0:=by simpa using h0
    omega
   ·obtain⟨j,hj,h2⟩:=List.any_eq_true.1 (List.all_eq_true.1 h0 i (List.mem_range.2 hi))
    simp only [Bool.and_eq_true,decide_eq_true_eq] at h2
    exact⟨j,h2.1,by have:=List.mem_range.1 hj;omega,h2.2⟩
  chain:=fun t h1 h2=>by
   have:=List.all_eq_true.1 hchain t (List.mem_range.2 h2)
   simp only [Bool.or_eq_true,decide_eq_true_eq] at this
   exact this.resolve_left (by omega)
  seq:=hseq }
 obtain⟨vals,⟨hmo,htl⟩,hy⟩:=head_table hsel (headOf n (ms.map (·.1))) _ hhd h
 generalize ha0:putFl ops (ops.toList.length - (n+g)) (n+g) a=a0 at *
 have hsz0:a0.tmps.size=a.tmps.size:=by
  rw [← ha0]
  have:∀ f t (a:Act),(putFl ops f t a).tmps.size=a.tmps.size:=by
   intro f
   induction f with
   | zero=>intro t a;rfl
   | succ f ih=>intro t a;unfold putFl;rw [ih];split <;> simp [put_size]
  exact this _ _ _
 have hin:∀ k t,slotOf ops k=some t→t < a0.tmps.size:=by
  intro k t hs
  unfold slotOf at hs
  cases ho:ops[k]? with
  | none=>rw [ho] at hs;cases hs
  | some o =>
   rw [ho] at hs
   have h1:=Array.all_eq_true'.1 hsz o (Array.mem_of_getElem? ho)
   simp only [Option.bind_some] at hs
   rw [hs] at h1
   rw [hsz0];simpa using h1
 generalize hA:putHd ops vals (headOf n (ms.map (·.1))) a0=A at *
 have hAsz:A.tmps.size=a0.tmps.size:=by rw [← hA];exact putHd_size _ _ _
 have hAdf:A.defers=a0.defers:=by rw [← hA];exact putHd_defers _ _ _
 have memH:∀ k,k∈headOf n (ms.map (·.1))↔k < n∧k ∉ ms.map (·.1):=by
  intro k;unfold headOf;rw [List.mem_filter,List.mem_range];simp
 have hAs:∀ k t,k∈headOf n (ms.map (·.1))→slotOf ops k=some t→A.tmps[t]?=some (vals k):=by
  intro k t hkh hs
  rw [← hA]
  exact putHd_slot vals t k hs _ _ hkh (fun j hj hne=>S.uniq k j t ((memH k).1 hkh).1 ((memH j).1 hj).1 (Ne.symm hne) hs) (hin k t hs)
 have hAo:∀ t,(∀ k,k < n→slotOf ops k≠some t)→A.tmps[t]?=a0.tmps[t]?:=by
  intro t ht
  rw [← hA]
  exact putHd_other vals t _ _ fun k hk=>ht k ((memH k).1 hk).1
 have hmid':∀ k∈ms.map (·.1),k < n∧∃ o,ops[k]?=some o∧∃ d,o.dst=some d:=by
  intro k hk
  have h1:=List.all_eq_true.1 hmid k hk
  simp only [Bool.and_eq_true,decide_eq_true_eq] at h1
  refine⟨h1.1,?_⟩
  cases ho:ops[k]? with
  | none=>rw [ho] at h1;cases h1.2
  | some o =>
   rw [ho] at h1
   exact⟨o,rfl,Option.isSome_iff_exists.1 h1.2⟩
 -- the frame with the middle's values
 have hF:∀ (vs:Nat→Value) (t:Tmp),(∀ k t,k∈ms.map (·.1)→slotOf ops k=some t→(putHd ops vs (ms.map (·.1)) A).tmps[t]?=some (vs k))∧((∀ k∈ms.map (·.1),slotOf ops k≠some t)→(putHd ops vs (ms.map (·.1)) A).tmps[t]?=A.tmps[t]?):=by
  intro vs t
  refine⟨fun k t hk hs=>putHd_slot vs t k hs _ _ hk (fun j hj hne=>S.uniq k j t (hmid' k hk).1 (hmid' j hj).1 (Ne.symm hne) hs) (by rw [hAsz];exact hin k t hs),fun h=>putHd_other vs t _ _ h⟩
 let T:Nat→Value→World→Prop:=fun k v W=>if k∈ms.map (·.1) then tOf ms k v W else v=vals k
 have hT:∀ k,k ∉ ms.map (·.1)→∀ v W,T k v W↔v=vals k:=fun k hk v W=>by show (if _ then _ else _)↔_;rw [if_neg hk]
 have hTm:∀ k,k∈ms.map (·.1)→∀ v W,T k v W↔tOf ms k v W:=fun k hk v W=>by show (if _ then _ else _)↔_;rw [if_pos hk]
 have hstT:∀ k,k < n→∀ v W W',T k v W→Below W.heap.size W W'→T k v W':=by
  intro k _ v W W' h1 h2
  by_cases hk:k∈ms.map (·.1)
  ·rw [hTm k hk] at h1 ⊢
   obtain⟨p,hp,rfl⟩:=List.mem_map.1 hk
   rw [tOf_mem hp hnd] at h1 ⊢
   exact stableM_mem hp hst v W W' h1 h2
  ·rw [hT k hk] at h1 ⊢;exact h1
 have valOf:∀ (b:Act) (W:World) (o:Oper),SeesM .any ops n T a0 w o b W→∀ t∈o.looksAt ops,(∀ j∈ms.map (·.1),slotOf ops j≠some t)→b.tmps[t]?=A.tmps[t]?:=by
  intro b W o hse t ht hno
  by_cases hex:∃ j,j < n∧slotOf ops j=some t
  ·obtain⟨j,hj,hs⟩:=hex
   have hjm:j ∉ ms.map (·.1):=fun hm=>hno j hm hs
   obtain⟨v,hv,hTv⟩:=hse.val t ht j hj hs (hin j t hs)
   rw [hT j hjm] at hTv
   rw [hv,hTv,hAs j t ((memH j).2 ⟨hj,hjm⟩) hs]
  ·have hno':∀ k,k < n→slotOf ops k≠some t:=fun k hk hs=>hex ⟨k,hk,hs⟩
   rw [hse.same t ht hno',hAo t hno']
 have hstep:∀ k ok,k < n→ops[k]?=some ok→∀ b W,SeesM .any ops n T a0 w ok b W→TStep P ops ok b W (T k):=by
  intro k ok hkn hok b W hse
  have hs:=fun cs b=>Region.noSelect_spec hsel k ok cs b hok
  by_cases hk:k∈ms.map (·.1)
  ·obtain⟨p,hp,rfl⟩:=List.mem_map.1 hk
   obtain⟨_,o',ho',_⟩:=hmid' p.1 hk
   have:o'=ok:=Option.some.inj (ho'.symm.trans hok)
   subst this
   have hvs:∃ vs:Nat→Value,vs=fun j=>(match slotOf ops j with | some t=>b.tmps.getD t undef | none=>undef):=⟨_,rfl⟩
   obtain⟨vs,hvs⟩:=hvs
   have hfit:FitsM (ms.filter fun q=>needsB ops o' q.1) vs W:=by
    refine fitsM_of fun q hq=>?_
    obtain⟨hqm,hqn⟩:=List.mem_filter.1 hq
    have hqk:q.1∈ms.map (·.1):=List.mem_map.2 ⟨q,hqm,rfl⟩
    unfold needsB at hqn
    cases hsq:slotOf ops q.1 with
    | none=>rw [hsq] at hqn;cases hqn
    | some t =>
     rw [hsq] at hqn
     obtain⟨v,hv,hTv⟩:=hse.val t (by simpa using hqn) q.1 (hmid' _ hqk).1 hsq (hin _ t hsq)
     rw [hTm _ hqk,tOf_mem hqm hnd] at hTv
     have:vs q.1=v:=by rw [hvs];simp only [hsq,Array.getD_eq_getD_getElem?,hv,Option.getD_some]
     rw [this];exact hTv
   have hmid2:=midsOKg_mem hp hmo o' hok vs W hse.below hfit
   have hag:∀ t∈o'.looksAt ops,b.tmps[t]?=(putHd ops vs (ms.map (·.1)) A).tmps[t]?:=by
    intro t ht
    by_cases hex:∃ j,j∈ms.map (·.1)∧slotOf ops j=some t
    ·obtain⟨j,hj,hsj⟩:=hex
     obtain⟨v,hv,_⟩:=hse.val t ht j (hmid' j hj).1 hsj (hin j t hsj)
     rw [(hF vs t).1 j t hj hsj,hv,hvs]
     simp only [hsj,Array.getD_eq_getD_getElem?,hv,Option.getD_some]
    ·have hno:∀ j∈ms.map (·.1),slotOf ops j≠some t:=fun j hj hsj=>hex ⟨j,hj,hsj⟩
     rw [(hF vs t).2 hno,valOf b W o' hse t ht hno]
   obtain⟨e1,e2⟩:=agree_exec hs hag
   have e3:(fun v W=>T p.1 v W)=p.2:=by funext v W;exact propext (by rw [hTm _ hk,tOf_mem hp hnd])
   rw [show T p.1=p.2 from e3]
   unfold TStep midAt at *
   rw [e1,e2];exact hmid2
  ·have hkh:=(memH k).2 ⟨hkn,hk⟩
   have hyk:=hy k hkh ok hok
   have hof:=offB_spec (List.all_eq_true.1 hoff k hkh)
   obtain⟨o2,ho2,hof⟩:=hof
   have:o2=ok:=Option.some.inj (ho2.symm.trans hok)
   subst this
   have hag:∀ t∈o2.looksAt ops,b.tmps[t]?=A.tmps[t]?:=fun t ht=>valOf b W o2 hse t ht fun j hj hsj=>hof j hj t hsj ht
   obtain⟨e1,e2⟩:=agree_exec hs hag
   have e3:T k=fun v _=>v=vals k:=by funext v W;exact propext (hT k hk v W)
   unfold TStep
   rw [e3,e2]
   rcases hyk with ⟨hw,hq⟩ | ⟨hw,hu⟩
   ·rw [if_pos hw]
    have h1:=hq W
    rw [← eq_over hse.below] at h1
    unfold midAt
    rw [e1]
    unfold quietAtR at h1
    generalize (execOp A.eval o2).run P W=r at *
    cases r with
    | halt x w'=>simp only [quietUponR] at h1
    | ok x w' =>
     cases x <;> simp only [quietUponR] at h1 <;> simp only [midUpon]
     case value u=>exact⟨by rw [h1.1];exact Below.refl _ _,h1.2⟩
     case skip=>exact⟨by rw [h1.1];exact Below.refl _ _,h1.2.symm⟩
     case enter f args=>exact⟨h1.1,h1.2.mono fun e W'' ⟨he,hb⟩=>⟨_,he,hb,rfl⟩⟩
   ·rw [if_neg (by rw [hw];simp)]
    exact hu.symm
 have hfin:∀ listed b W,InvM .any ops n g T a0 w listed b W→(∀ k,k < n→listed.getD k false=true)→wpList P ops Q ((ops.toList.drop n).take g) b W:=by
  intro listed b W I hall
  have hvs:∃ vs:Nat→Value,vs=fun j=>(match slotOf ops j with | some t=>b.tmps.getD t undef | none=>undef):=⟨_,rfl⟩
  obtain⟨vs,hvs⟩:=hvs
  have hval:∀ k,k∈ms.map (·.1)→∀ t,slotOf ops k=some t→b.tmps[t]?=some (vs k)∧tOf ms k (vs k) W:=by
   intro k hk t hs
   obtain⟨v,hv,hTv⟩:=I.val k t (hmid' k hk).1 (hall k (hmid' k hk).1) hs (hin k t hs)
   have:vs k=v:=by rw [hvs];simp only [hs,Array.getD_eq_getD_getElem?,hv,Option.getD_some]
   rw [this,← hTm k hk];exact⟨hv,hTv⟩
  have hfit:FitsM ms vs W:=fitsM_of fun q hq=>by
   have hqk:q.1∈ms.map (·.1):=List.mem_map.2 ⟨q,hq,rfl⟩
   obtain⟨_,o,ho,d,hd⟩:=hmid' _ hqk
   have:=(hval _ hqk d (by unfold slotOf;rw [ho];exact hd)).2
   rw [tOf_mem hq hnd] at this
   exact this
  have hb:b=putHd ops vs (ms.map (·.1)) A:=by
   have ht:b.tmps=(putHd ops vs (ms.map (·.1)) A).tmps:=by
    apply Array.ext_getElem?
    intro t
    by_cases hex:∃ j,j∈ms.map (·.1)∧slotOf ops j=some t
    ·obtain⟨j,hj,hsj⟩:=hex
     rw [(hval j hj t hsj).1,(hF vs t).1 j t hj hsj]
    ·have hno:∀ j∈ms.map (·.1),slotOf ops j≠some t:=fun j hj hsj=>hex ⟨j,hj,hsj⟩
     rw [(hF vs t).2 hno]
     by_cases hex2:∃ j,j < n∧slotOf ops j=some t
     ·obtain⟨j,hj,hs⟩:=hex2
      have hjm:j ∉ ms.map (·.1):=fun hm=>hno j hm hs
      obtain⟨v,hv,hTv⟩:=I.val j t hj (hall j hj) hs (hin j t hs)
      rw [hT j hjm] at hTv
      rw [hv,hTv,hAs j t ((memH j).2 ⟨hj,hjm⟩) hs]
     ·have hno':∀ k,k < n→slotOf ops k≠some t:=fun k hk hs=>hex2 ⟨k,hk,hs⟩
      rw [I.same t fun k hk _=>hno' k hk,hAo t hno']
   have hd:b.defers=(putHd ops vs (ms.map (·.1)) A).defers:=by rw [putHd_defers,hAdf];exact I.defers
   cases b
   generalize putHd ops vs (ms.map (·.1)) A=F at *
   cases F
   simp only at ht hd
   subst ht;subst hd;rfl
  rw [hb]
  exact htl vs W I.below hfit
 refine wp_region_any hm ?_
 have hsum:n+g+(ops.toList.length - (n+g))=ops.size:=by simp;omega
 have I0:InvM .any ops n g T a0 w (listFl (ops.toList.length - (n+g)) (n+g) (Array.replicate ops.size false)) a0 w.drew:=by
  refine⟨by rw [listFl_size];simp,?_,?_,?_,(Below.refl _ w).drew,rfl,rfl,fun t _=>rfl,?_⟩
  ·intro j oj hj _ hl
   rw [listFl_low _ _ _ _ _ (by omega),getD_replicate_false] at hl
   cases hl
  ·intro t h1 h2
   rw [listFl_low _ _ _ _ _ h2]
   exact getD_in (by simp;omega) (getD_replicate_false _ _)
  ·intro t h1 h2
   exact listFl_in _ _ _ t h1 (by omega) (by simp;omega)
  ·intro k t hk hl
   rw [listFl_low _ _ _ _ _ (by omega),getD_replicate_false] at hl
   cases hl
 have hleft:left n (listFl (ops.toList.length - (n+g)) (n+g) (Array.replicate ops.size false))=n:=by
  unfold left
  rw [List.filter_eq_self.2,List.length_range]
  intro k hk
  rw [listFl_low _ _ _ _ _ (by have:=List.mem_range.1 hk;omega),getD_replicate_false]
  rfl
 have h1:=phaseM (Q:=Q) S hstT hstep hfin n _ a0 w.drew hleft I0
 rw [← ha0] at h1
 have h2:=take_floats hsel hQ (n+g) _ _ _ a (by rw [show ops.toList.length=ops.size by simp];exact hfl) h1
 rw [hsum] at h2
 exact h2
theorem midBg_of {ops:Array Oper} {n g:Nat} {mids:List Nat} (h:midB ops n g mids=true):midBg ops n g mids=true:=by
 simp only [midB,midBg,Bool.and_eq_true,decide_eq_true_eq] at h ⊢
 obtain⟨⟨⟨h1,h2⟩,h3⟩,h4⟩:=h
 refine⟨⟨⟨h1,?_⟩,h3⟩,h4⟩
 rw [List.all_eq_true] at h2 ⊢
 intro k hk
 have:=h2 k hk
 simp only [Bool.and_eq_true] at this ⊢
 refine⟨this.1,?_⟩
 have h5:=this.2
 cases ho:ops[k]? with
 | none=>rw [ho] at h5;exact h5
 | some o=>rw [ho] at h5;simp only [Bool.and_eq_true] at h5;exact h5.2
theorem midsOKg_of {ops:Array Oper} {n g:Nat} {A:Act} {ms:List (Nat × (Value→World→Prop))} (hB:∀ k∈ms.map (·.1),∀ o,ops[k]?=some o→o.guard=none):∀ l:List (Nat × (Value→World→Prop)),(∀ p∈l,p∈ms)→MidsOK P ops w A ms l→MidsOKg P ops w A ms l
 | [],_,_=>trivial
 | p :: r,hl,h=>by
  refine⟨?_,midsOKg_of hB (n:=n) (g:=g) r (fun q hq=>hl q (by simp [hq])) h.2⟩
  have h1:=h.1
  cases ho:ops[p.1]? with
  | none=>trivial
  | some o =>
   rw [ho] at h1
   have hg:=hB p.1 (List.mem_map.2 ⟨p,hl p (by simp),rfl⟩) o ho
   exact fun vs W hb hf=>tstep_yes (by simp [Region.wanted,hg]) (h1 vs W hb hf)
theorem wp_region_mid {id:Nat} {Q:Exit→Act→World→Prop} {a:Act} {l:List Oper} (n g:Nat)(mids:List Nat)(fls:List (Tmp × Value))(ms:List (Nat × (Value→World→Prop)))(hmids:ms.map (·.1)=mids)(hm:P.follows .mixedOrders=true)
  (hB:midB l.toArray n g mids=true) (hfls:flOf l.toArray (l.length - (n+g)) (n+g)=fls) (hsz:slotsB l.toArray a.tmps.size=true) (hQ:∀ c a d v w,Q (.panic c) (Act.put a (some d) v) w→Q (.panic c) a w) (hst:StableM ms)
  (h:∀ L:Act→Prop,(∀ A,MidsOK P l.toArray w A ms ms→(∀ vs W,Below w.heap.size w W→FitsM ms vs W→wpList P l.toArray Q ((l.drop n).take g) (putHd l.toArray vs mids A) W)→L A) →
   wpHead P l.toArray w mids L 0 (l.take n) (putL fls a)) :
  (Code.region id l.toArray true).wp P Q a w:=by
 refine wp_region_midg n g mids fls ms hmids hm (midBg_of hB) hfls hsz hQ hst fun L hL=>h L fun A hA htl=>hL A (midsOKg_of (n:=n) (g:=g) ?_ ms (fun _ h=>h) hA) htl
 intro k hk o ho
 rw [hmids] at hk
 simp only [midB,Bool.and_eq_true,decide_eq_true_eq] at hB
 obtain⟨⟨⟨_,h2⟩,_⟩,_⟩:=hB
 have:=List.all_eq_true.1 h2 k hk
 simp only [Bool.and_eq_true] at this
 have h5:=this.2
 rw [ho] at h5
 simp only [Bool.and_eq_true,Option.isNone_iff_eq_none] at h5
 exact h5.1
end
end
end Go.Proofs.YtmmeopjemkjllaaGreat
