/- Lemmas of the claim. No conditions beyond those that each states. -/
import Derived.Test.YtmmeopjemkjllaaGreatPT1
set_option linter.unusedVariables false
set_option linter.unusedSimpArgs false
set_option maxRecDepth 100000
set_option maxHeartbeats 8000000
namespace Go.Proofs.YtmmeopjemkjllaaGreat
section
open Go.RowKit
def quietUponR (P:Program)(W:World)(v:Value):Result Next→Prop
 | .ok (.value u) W'=>W'=W∧u=v
 | .ok .skip W'=>W'=W∧v=undef
 | .ok (.enter f args) W'=>W'=W∧Calls P f args W (fun e W''=>e=.returned v∧Below W.heap.size W W'')
 | _=>False
def quietAtR (P:Program)(o:Oper)(a:Act)(W:World)(v:Value):Prop:=quietUponR P W v ((execOp a.eval o).run P W)
def quietR (P:Program)(o:Oper)(a:Act)(w:World)(K:Act→Prop):Prop:=∃ v,(∀ e,quietAtR P o a (over w e) v)∧K (a.put o.dst v)
def wpQuietR (P:Program)(ops:Array Oper)(w:World)(Q:Act→Prop):List Oper→Act→Prop
 | [],a=>Q a
 | o :: rest,a=>if Region.wanted o (yielded ops a.tmps) then quietR P o a w (wpQuietR P ops w Q rest) else wpQuietR P ops w Q rest (a.put o.dst undef)
section
variable {P : Program} {ops : Array Oper} {md : Region.Mode} {w : World}
theorem wpQuietR_nil {Q:Act→Prop} {a:Act} (h:Q a):wpQuietR P ops w Q [] a:=h
theorem wpQuietR_step {Q:Act→Prop} {a:Act} {o:Oper} {rest:List Oper}
  (h:∀ K:Act→Prop,(∀ a,wpQuietR P ops w Q rest a→K a)→if Region.wanted o (yielded ops a.tmps) then quietR P o a w K else K (a.put o.dst undef)):wpQuietR P ops w Q (o :: rest) a :=
 h _ (fun _ h=>h)
def qOpR (P:Program)(ops:Array Oper)(w:World)(i:Nat)(K:Act→Prop)(a:Act):Prop :=
 match ops[i]? with
 | none=>K a
 | some o=>if Region.wanted o (yielded ops a.tmps) then quietR P o a w K else K (a.put o.dst undef)
theorem qOpR_mono {i:Nat} {a:Act} {K K':Act→Prop} (h:∀ a,K a→K' a)(hh:qOpR P ops w i K a):qOpR P ops w i K' a:=by
 unfold qOpR at *
 split
 ·exact h _ (by simpa [*] using hh)
 ·rename_i o ho
  simp only [ho] at hh
  split
  ·rename_i hw;simp only [hw,if_true] at hh;obtain⟨v,h1,h2⟩:=hh;exact⟨v,h1,h _ h2⟩
  ·rename_i hw;simp only [hw] at hh;exact h _ hh
def YieldsR (P:Program)(ops:Array Oper)(w:World)(o:Oper)(v:Value)(a:Act):Prop :=
 (Region.wanted o (yielded ops a.tmps)=true∧∀ e,quietAtR P o a (over w e) v)∨(Region.wanted o (yielded ops a.tmps)=false∧v=undef)
theorem YieldsR.qOpR {i:Nat} {o:Oper} {v:Value} {a:Act} (hi:ops[i]?=some o)(hy:YieldsR P ops w o v a) {K:Act→Prop} (h:K (a.put o.dst v)):qOpR P ops w i K a:=by
 unfold Proofs.YtmmeopjemkjllaaGreat.qOpR
 simp only [hi]
 rcases hy with ⟨hw,hv⟩ | ⟨hw,rfl⟩
 ·simp only [hw,if_true];exact⟨v,hv,h⟩
 ·simp only [hw,Bool.false_eq_true,if_false];exact h
theorem yieldsR_of_qOpR {i:Nat} {o:Oper} {a:Act} {K:Act→Prop} (hi:ops[i]?=some o)(h:qOpR P ops w i K a):∃ v,YieldsR P ops w o v a∧K (a.put o.dst v):=by
 unfold qOpR at h
 simp only [hi] at h
 by_cases hw:Region.wanted o (yielded ops a.tmps)=true
 ·simp only [hw,if_true] at h
  obtain⟨v,h1,h2⟩:=h
  exact⟨v,.inl ⟨hw,h1⟩,h2⟩
 ·simp only [hw] at h
  exact⟨undef,.inr ⟨by simpa using hw,rfl⟩,h⟩
theorem YieldsR.put {o:Oper} {v u:Value} {a:Act} {dst:Option Tmp} (hs:∀ cs b,o.op≠.select cs b)(hy:YieldsR P ops w o v a)(h:∀ d,dst=some d→d ∉ o.looksAt ops):YieldsR P ops w o v (a.put dst u):=by
 unfold YieldsR quietAtR at *
 rw [execOp_put o hs a dst u h,wanted_put o a dst u h]
 exact hy
theorem qOpR_put {j:Nat} {oi oj:Oper} {v:Value} (hj:ops[j]?=some oj)(hap:oi.apart ops oj=true)
  (hsi:∀ cs b,oi.op≠.select cs b)(hsj:∀ cs b,oj.op≠.select cs b) {K:Act→Prop} {a:Act}
  (hy:YieldsR P ops w oi v a)(h:qOpR P ops w j K (a.put oi.dst v)) :
  qOpR P ops w j (fun a'=>YieldsR P ops w oi v a'∧K (a'.put oi.dst v)) a:=by
 obtain⟨h1,h2,h3⟩:=Oper.apart_spec hap
 obtain⟨u,hu,hK⟩:=yieldsR_of_qOpR hj h
 refine YieldsR.qOpR (v:=u) hj ?_ ⟨hy.put hsi h3,?_⟩
 ·unfold YieldsR quietAtR at *
  rw [execOp_put oj hsj a oi.dst v h1,wanted_put oj a oi.dst v h1] at hu
  exact hu
 ·rw [← Act.put_comm a v u h2];exact hK
theorem qOpR_any {j:Nat} {oi oj:Oper} {x:Value} (hj:ops[j]?=some oj)(hap:oi.apart ops oj=true)(hsj:∀ cs b,oj.op≠.select cs b) {K K':Act→Prop} {a:Act}
  (hK:∀ a',K a'→K' (a'.put oi.dst x))(h:qOpR P ops w j K a):qOpR P ops w j K' (a.put oi.dst x):=by
 obtain⟨h1,h2,h3⟩:=Oper.apart_spec hap
 obtain⟨u,hu,hk⟩:=yieldsR_of_qOpR hj h
 refine YieldsR.qOpR hj (hu.put hsj h1) ?_
 rw [Act.put_comm a x u h2]
 exact hK _ hk
def GQ (P:Program)(md:Region.Mode)(ops:Array Oper)(w:World)(m:Nat)(Lq:Act→Prop):Nat→Array Bool→Act→Prop
 | 0,listed,a=>(∀ k,k < m→listed.getD k false=true)∧Lq a
 | f+1,listed,a=>(∃ j,j∈Region.ready md ops listed∧j < m)∧∀ i∈Region.ready md ops listed,i < m→qOpR P ops w i (GQ P md ops w m Lq f (listed.setIfInBounds i true)) a
theorem GQ_take {m i:Nat} {oi:Oper} {v:Value} {Lq:Act→Prop} (hi:ops[i]?=some oi)(hsel:∀ (j:Nat)(o:Oper) cs b,ops[j]?=some o→o.op≠.select cs b)(him:i < m) :
  ∀ (f:Nat)(listed:Array Bool)(a:Act),
   (∀ j oj,ops[j]?=some oj→j≠i→listed.getD j true=false→(∀ e∈oj.after,Region.binds md e=true→e.on≠i)→oi.apart ops oj=true) →
   i∈Region.ready md ops listed→YieldsR P ops w oi v a →
   GQ P md ops w m Lq f (listed.setIfInBounds i true) (a.put oi.dst v)→GQ P md ops w m Lq (f+1) listed a:=by
 intro f
 induction f with
 | zero =>
  intro listed a _ hr hy H
  refine⟨⟨i,hr,him⟩,fun j hj hjm=>?_⟩
  by_cases hji:j=i
  ·subst hji;exact hy.qOpR hi H
  ·have h1:=H.1 j hjm
   rw [getD_set_ne false (Ne.symm hji)] at h1
   have h2:=getD_both (mem_ready.1 hj).1
   rw [h1] at h2;cases h2
 | succ f ih =>
  intro listed a hfree hr hy H
  have hun:=(mem_ready.1 hr).1
  refine⟨⟨i,hr,him⟩,fun j hj hjm=>?_⟩
  by_cases hji:j=i
  ·subst hji;exact hy.qOpR hi H
  ·have h1:=H.2 j (ready_mono hj hji) hjm
   obtain⟨hjun,oj,hoj,hall⟩:=mem_ready.1 hj
   have hnot:∀ e∈oj.after,Region.binds md e=true→e.on≠i:=fun e he hb heq=>by
    have h3:=hall e he hb
    rw [heq,getD_both hun] at h3
    cases h3
   have h2:=qOpR_put hoj (hfree j oj hoj hji hjun hnot) (fun cs b=>hsel i oi cs b hi) (fun cs b=>hsel j oj cs b hoj) hy h1
   refine qOpR_mono (fun a' h3=>ih (listed.setIfInBounds j true) a' (fun k ok hk hki hun' hno=>?_) (ready_mono hr (Ne.symm hji)) h3.1 ?_) h2
   ·refine hfree k ok hk hki ?_ hno
    by_cases hjk:j=k
    ·subst hjk;exact hjun
    ·rw [getD_set_ne true hjk] at hun';exact hun'
   ·rw [Array.setIfInBounds_comm _ _ hji]
    exact h3.2
def lexQ (md:Region.Mode)(ops:Array Oper):Nat→Nat→Array Bool→Bool
 | 0,_,_=>true
 | f+1,k,listed=>(Region.ready md ops listed).contains k && Region.free md ops listed k && lexQ md ops f (k+1) (listed.setIfInBounds k true)
theorem GQ_lex {m:Nat} {Lq:Act→Prop} (hsel:Region.noSelect ops=true)(hm:m≤ops.size) :
  ∀ (l:List Oper)(k:Nat)(listed:Array Bool)(a:Act),(∀ j,j < l.length→l[j]?=ops[k+j]?)→k+l.length=m→listed.size=ops.size→(∀ j,j < k→listed.getD j false=true) →
  lexQ md ops l.length k listed=true→wpQuietR P ops w Lq l a→GQ P md ops w m Lq l.length listed a
 | [],k,listed,a,_,hk,_,hdone,hB,h=>by
  obtain rfl:k=m:=by simpa using hk
  exact⟨hdone,h⟩
 | o :: l,k,listed,a,hl,hk,hsz,hdone,hB,h=>by
  have h0:ops[k]?=some o:=by simpa using (hl 0 (by simp)).symm
  simp only [List.length_cons,lexQ,Bool.and_eq_true] at hB
  obtain⟨⟨hr,hf⟩,hB'⟩:=hB
  have hkm:k < m:=by simp only [List.length_cons] at hk;omega
  have hr':k∈Region.ready md ops listed:=by simpa using hr
  have hst:qOpR P ops w k (wpQuietR P ops w Lq l) a:=by unfold qOpR;simp only [h0];exact h
  obtain⟨v,hy,hK⟩:=yieldsR_of_qOpR h0 hst
  refine GQ_take h0 (Region.noSelect_spec hsel) hkm l.length listed a (Region.free_spec h0 hf) hr' hy
   (GQ_lex hsel hm l (k+1) _ _ (fun j hj=>by have:=hl (j+1) (by simp;omega);simpa [Nat.add_assoc,Nat.add_comm 1 j] using this) (by simp only [List.length_cons] at hk;omega) (by simpa using hsz) (fun j hj=>?_) hB' hK)
  by_cases hjk:j=k
  ·subst hjk;simp [hsz,show j < ops.size by omega]
  ·rw [getD_set_ne false (Ne.symm hjk)];exact hdone j (by omega)
theorem put_put (a:Act)(d:Tmp)(x y:Value):(a.put (some d) x).put (some d) y=a.put (some d) y:=by
 simp [Act.put,Array.setIfInBounds_setIfInBounds]
theorem GQ_put {m:Nat} {oa:Oper} {Lq:Act→Prop} {x:Value} (hsel:∀ (j:Nat)(o:Oper) cs b,ops[j]?=some o→o.op≠.select cs b)
  (hap:∀ j oj,j < m→ops[j]?=some oj→oa.apart ops oj=true)(hL:∀ a,Lq a→Lq (a.put oa.dst x)) :
  ∀ (f:Nat)(listed:Array Bool)(a:Act),GQ P md ops w m Lq f listed a→GQ P md ops w m Lq f listed (a.put oa.dst x)
 | 0,_,a,h=>⟨h.1,hL a h.2⟩
 | f+1,listed,a,h=>⟨h.1,fun i hi him=>by
   obtain⟨_,oi,hoi,_⟩:=mem_ready.1 hi
   exact qOpR_any hoi (hap i oi him hoi) (fun cs b=>hsel i oi cs b hoi) (fun a' h'=>GQ_put hsel hap hL f _ a' h') (h.2 i hi him)⟩
def Agree (m:Nat)(l l':Array Bool):Prop:=l.size=l'.size∧∀ k,k < m→l.getD k false=l'.getD k false
theorem getD_tf {l:Array Bool} {k:Nat} (h:k < l.size):l.getD k true=l.getD k false:=by simp [h]
theorem Agree.set {m:Nat} {l l':Array Bool} (h:Agree m l l')(i:Nat):Agree m (l.setIfInBounds i true) (l'.setIfInBounds i true):=by
 refine⟨by simpa using h.1,fun k hk=>?_⟩
 by_cases hik:i=k
 ·subst hik
  by_cases hs:i < l.size
  ·simp [hs,h.1 ▸ hs]
  ·simp [hs,h.1 ▸ hs]
 ·rw [getD_set_ne false hik,getD_set_ne false hik];exact h.2 k hk
theorem Agree.set_other {m:Nat} {l l':Array Bool} (h:Agree m l l')(i:Nat)(hi:m≤i):Agree m (l.setIfInBounds i true) l' :=
 ⟨by simpa using h.1,fun k hk=>by rw [getD_set_ne false (by omega)];exact h.2 k hk⟩
theorem Agree.ready {m i:Nat} {l l':Array Bool} (h:Agree m l l')(hsz:l.size=ops.size)(hm:m≤ops.size)(him:i < m)
  (hq:∀ j oj,j < m→ops[j]?=some oj→∀ e∈oj.after,Region.binds md e=true→e.on < m)(hi:i∈Region.ready md ops l):i∈Region.ready md ops l':=by
 obtain⟨h1,oi,hoi,h2⟩:=mem_ready.1 hi
 have hs:i < l.size:=by omega
 refine mem_ready.2 ⟨?_,oi,hoi,fun e he hb=>?_⟩
 ·rw [getD_tf (by rw [← h.1];exact hs),← h.2 i him,← getD_tf hs];exact h1
 ·rw [← h.2 _ (hq i oi him hoi e he hb)];exact h2 e he hb
theorem Agree.symm {m:Nat} {l l':Array Bool} (h:Agree m l l'):Agree m l' l:=⟨h.1.symm,fun k hk=>(h.2 k hk).symm⟩
theorem wp_of_quietR {o:Oper} {a:Act} {K:Act→Prop} {K':Act→World→Prop} {Q':Exit→Act→World→Prop} {W:World} (hW:Below w.heap.size w W)(h:∀ a W',Below W.heap.size W W'→K a→K' a W')(hh:quietR P o a w K):o.wp P a W K' Q':=by
 obtain⟨v,h1,h2⟩:=hh
 have h3:=h1 W
 rw [← eq_over hW] at h3
 unfold quietAtR at h3
 unfold Oper.wp
 generalize (execOp a.eval o).run P W=r at *
 cases r with
 | ok n w' =>
  cases n <;> simp only [quietUponR] at h3 <;> simp only [Oper.upon]
  case value u =>
   obtain⟨e1,e2⟩:=h3
   rw [e1,e2]
   exact h _ _ (Below.refl _ _) h2
  case skip =>
   obtain⟨e1,e2⟩:=h3
   rw [e1,← e2]
   exact h _ _ (Below.refl _ _) h2
  case enter f args =>
   obtain⟨e1,hc⟩:=h3
   rw [e1]
   exact hc.mono fun e w'' ⟨he,hw''⟩=>by subst he;exact h _ _ hw'' h2
 | halt x w'=>simp only [quietUponR] at h3
theorem wpOp_of_qOpR {i:Nat} {a:Act} {K:Act→Prop} {K':Act→World→Prop} {Q':Exit→Act→World→Prop} {W:World} (hW:Below w.heap.size w W)(h:∀ a W',Below W.heap.size W W'→K a→K' a W')(hh:qOpR P ops w i K a):wpOp P ops Q' i K' a W:=by
 unfold qOpR at hh
 unfold wpOp
 split
 ·rename_i ho;simp only [ho] at hh;exact h _ _ (Below.refl _ _) hh
 ·rename_i o ho
  simp only [ho] at hh
  split
  ·rename_i hw;simp only [hw,if_true] at hh;exact .inl (wp_of_quietR hW h hh)
  ·rename_i hw;simp only [hw] at hh;exact h _ _ (Below.refl _ _) hh
def plainUpon (o:Oper)(a:Act)(K:Act→World→Prop):Result Next→Prop
 | .ok (.value v) W'=>K (a.put o.dst v) W'
 | .ok .skip W'=>K (a.put o.dst undef) W'
 | _=>False
def plain (P:Program)(o:Oper)(a:Act)(W:World)(K:Act→World→Prop):Prop:=plainUpon o a K ((execOp a.eval o).run P W)
theorem wp_of_plain {o:Oper} {a:Act} {W:World} {K:Act→World→Prop} {Q:Exit→Act→World→Prop} (h:plain P o a W K):o.wp P a W K Q:=by
 unfold plain at h
 unfold Oper.wp
 generalize (execOp a.eval o).run P W=r at *
 cases r with
 | ok n w'=>cases n <;> simp only [plainUpon] at h <;> exact h
 | halt x w'=>simp only [plainUpon] at h
theorem plain_mono {o:Oper} {a:Act} {W:World} {K K':Act→World→Prop} (hk:∀ a w,K a w→K' a w)(h:plain P o a W K):plain P o a W K':=by
 unfold plain at *
 generalize (execOp a.eval o).run P W=r at *
 cases r with
 | ok n w'=>cases n <;> simp only [plainUpon] at h ⊢ <;> first | exact hk _ _ h | exact h
 | halt x w'=>simp only [plainUpon] at h
structure AllocAt (P:Program)(md:Region.Mode)(ops:Array Oper)(m:Nat)(oa op os:Oper)(d:Tmp)(obj:Obj):Prop where
 sel:Region.noSelect ops=true
 lt:m+1 < ops.size
 pos:1≤m
 at_:ops[m]?=some oa
 atP:ops[m - 1]?=some op
 atS:ops[m+1]?=some os
 dst:oa.dst=some d
 free:oa.after=#[]
 guard:oa.guard=none
 guardP:op.guard=none
 guardS:os.guard=none
 dstS:os.dst=none
 apartP:∀ e,op.dst=some e→e ∉ os.looksAt ops
 takes:∃ x k,op.op=.extract x k
 runs:∀ (a:Act)(W:World),(execOp a.eval oa).run P W=.ok (.value (.pointer (some ⟨W.heap.size,0,none⟩))) (W.alloc obj)
 quiet:∀ j oj,j < m→ops[j]?=some oj→∀ e∈oj.after,Region.binds md e=true→e.on < m
 apart:∀ j oj,j < m→ops[j]?=some oj→oa.apart ops oj=true
 sink:∀ i,i < m+1→i≠m - 1→∃ j,i < j∧j≤m+1∧j≠m - 1∧Region.waitsFor md ops j i=true
 chain:Region.chainB md ops (m+1)=true
 late:m+1+1 < ops.size→Region.waitsFor md ops (m+1+1) (m - 1)=true
 more:m+1+1 < ops.size
 seq:Region.seqB md ops (ops.size - (m+1)) (m+1) (Array.ofFn fun i:Fin ops.size=>decide (i.val < m+1))=true
theorem waits_listed {n j i:Nat} {listed:Array Bool} (inv:HeadInv md ops n listed)(h:Region.waitsFor md ops j i=true)(hj:listed.getD j false=true∨j∈Region.ready md ops listed):listed.getD i false=true:=by
 obtain⟨oj,hoj,e,he,hb,hon⟩:=Region.waitsFor_spec h
 rcases hj with hj | hj
 ·rw [← hon]
  exact inv.closed j oj hoj hj e he hb
 ·obtain⟨_,o',ho',hall⟩:=mem_ready.1 hj
  have:o'=oj:=Option.some.inj (ho'.symm.trans hoj)
  subst this
  rw [← hon];exact hall e he hb
theorem tail_ready {m:Nat} {oa op os:Oper} {d:Tmp} {obj:Obj} (A:AllocAt P md ops m oa op os d obj) {listed:Array Bool} (inv:HeadInv md ops (m+1) listed) {j:Nat} (hj:j∈Region.ready md ops listed)(hm:m+1≤j) :
  j=m+1∧∀ i,i < m+1→i≠m - 1→listed.getD i false=true:=by
 obtain⟨hun,oj,hoj,_⟩:=mem_ready.1 hj
 have hjs:j < ops.size:=(Array.getElem?_eq_some_iff.1 hoj).1
 have h1:j=m+1:=by
  by_cases h:j=m+1
  ·exact h
  ·exfalso
   have hc:=List.all_eq_true.1 A.chain j (List.mem_range.2 hjs)
   simp only [Bool.or_eq_true,decide_eq_true_eq] at hc
   have hw:=hc.resolve_left (by omega)
   have h2:=waits_listed inv hw (.inr hj)
   rw [getD_both (inv.tail (j - 1) (by omega) (by omega))] at h2
   cases h2
 refine⟨h1,?_⟩
 subst h1
 suffices H:∀ k i,m+1 - i≤k→i < m+1→i≠m - 1→listed.getD i false=true from fun i hi hne=>H _ i (Nat.le_refl _) hi hne
 intro k
 induction k with
 | zero=>intro i h1 h2 _;omega
 | succ k ih =>
  intro i hk hi hne
  obtain⟨j,hij,hjm,hjne,hw⟩:=A.sink i hi hne
  by_cases hjm':j=m+1
  ·subst hjm';exact waits_listed inv hw (.inr hj)
  ·exact waits_listed inv hw (.inl (ih j (by omega) (by omega) hjne))
theorem canon {m n:Nat} {listed:Array Bool} (hsz:listed.size=n)(h1:∀ k,k < m→listed.getD k false=true)(h2:∀ t,m≤t→t < n→listed.getD t true=false) :
  listed=Array.ofFn fun i:Fin n=>decide (i.val < m):=by
 apply Array.ext
 ·simp [hsz]
 ·intro i hi hi'
  simp only [Array.getElem_ofFn]
  by_cases h:i < m
  ·have:=h1 i h;simp [hi] at this;simp [this,h]
  ·have:=h2 i (by omega) (by omega);simp [hi] at this;simp [this,h]
def TailOk (P:Program)(ops:Array Oper)(m:Nat)(os:Oper)(d:Tmp)(obj:Obj)(w:World)(Q:Exit→Act→World→Prop)(a:Act):Prop :=
 ∀ B W',w.heap.size≤B→Below w.heap.size w W'→W'.heap[B]?=some obj →
  plain P os (a.put (some d) (.pointer (some ⟨B,0,none⟩))) W' fun a' W''=>Below w.heap.size w W''∧wpList P ops Q (ops.toList.drop (m+1+1)) a' W''
theorem extract_value {o:Oper} {a:Act} {W:World} {v:Value} (ht:∃ x k,o.op=.extract x k)(h:quietAtR P o a W v):(execOp a.eval o).run P W=.ok (.value v) W:=by
 obtain⟨x,k,hx⟩:=ht
 unfold quietAtR at h
 generalize hr:(execOp a.eval o).run P W=r at *
 cases r with
 | halt y w'=>simp only [quietUponR] at h
 | ok n w' =>
  cases n <;> simp only [quietUponR] at h
  case value u=>obtain⟨e1,e2⟩:=h;rw [e1,e2]
  case skip=>exfalso;simp only [execOp,hx] at hr;simp at hr;generalize Sem.run P _ W=z at hr;cases z <;> simp [Result.andThen] at hr
  case enter f args=>exfalso;simp only [execOp,hx] at hr;simp at hr;generalize Sem.run P _ W=z at hr;cases z <;> simp [Result.andThen] at hr
theorem phase3 {m:Nat} {oa op os:Oper} {d:Tmp} {obj:Obj} {Q:Exit→Act→World→Prop} (A:AllocAt P md ops m oa op os d obj) {listed:Array Bool} {a:Act} {W:World} {v:Value}
  (hsz:listed.size=ops.size)(hall:∀ i,i < m+1+1→i≠m - 1→listed.getD i false=true)(hp:listed.getD (m - 1) true=false)(hrest:∀ t,m+1+1≤t→t < ops.size→listed.getD t true=false)
  (hr:m - 1∈Region.ready md ops listed)(honly:∀ i∈Region.ready md ops listed,i=m - 1)
  (hy:(execOp a.eval op).run P W=.ok (.value v) W)(hK:wpList P ops Q (ops.toList.drop (m+1+1)) (a.put op.dst v) W) :
  wpAny P md ops Q (1+(ops.size - (m+1+1))) listed a W:=by
 have hpos:=A.pos
 have hmore:=A.more
 rw [show 1+(ops.size - (m+1+1))=(ops.size - (m+1+1))+1 by omega]
 refine⟨fun h0=>(by rw [h0] at hr;cases hr),fun i hi=>?_⟩
 obtain rfl:=honly i hi
 unfold wpOp
 simp only [A.atP]
 rw [if_pos (by simp [Region.wanted,A.guardP])]
 left
 unfold Oper.wp
 rw [hy]
 simp only [Oper.upon]
 have hdl:(ops.toList.drop (m+1+1)).length=ops.size - (m+1+1):=by simp
 rw [← hdl]
 refine wpAny_of_seq (md:=md) _ (m+1+1) _ _ W (fun j=>by simp [List.getElem?_drop]) ?_ hK
 rw [hdl,canon (listed:=listed.setIfInBounds (m - 1) true) (m:=m+1+1) (n:=ops.size) (by simpa using hsz) (fun k hk=>?_) (fun t h1 h2=>by rw [getD_set_ne true (by omega)];exact hrest t h1 h2)]
 ·have h1:=A.seq
  rw [show ops.size - (m+1)=(ops.size - (m+1+1))+1 by omega] at h1
  simp only [Region.seqB,Bool.and_eq_true] at h1
  have h2:=h1.2
  rw [canon (listed:=(Array.ofFn fun i:Fin ops.size=>decide (i.val < m+1)).setIfInBounds (m+1) true) (m:=m+1+1) (n:=ops.size) (by simp) (fun k hk=>?_) (fun t h3 h4=>?_)] at h2
  ·exact h2
  ·by_cases hk':k=m+1
   ·subst hk';simp [show m+1 < ops.size by omega]
   ·rw [getD_set_ne false (by omega)];simp [show k < ops.size by omega];omega
  ·rw [getD_set_ne true (by omega)];simp [h4];omega
 ·by_cases hk':k=m - 1
  ·subst hk';simp [hsz,show m - 1 < ops.size by omega]
  ·rw [getD_set_ne false (by omega)];exact hall k hk hk'
theorem phase2 {m:Nat} {oa op os:Oper} {d:Tmp} {obj:Obj} {Q:Exit→Act→World→Prop} (A:AllocAt P md ops m oa op os d obj)(B:Nat)(hB:w.heap.size≤B) :
  ∀ (f:Nat)(listed lq:Array Bool)(a:Act)(W:World),Agree m listed lq→HeadInv md ops (m+1) listed→listed.getD m false=true→Below w.heap.size w W→W.heap[B]?=some obj →
   a.put (some d) (.pointer (some ⟨B,0,none⟩))=a→GQ P md ops w m (TailOk P ops m os d obj w Q) f lq a→wpAny P md ops Q (f+(ops.size - (m+1))) listed a W
 | 0,listed,lq,a,W,ag,inv,hdm,hW,hO,hp,h=>by
  have hlt:=A.lt
  have hdl:(ops.toList.drop (m+1)).length=ops.size - (m+1):=by simp
  have hall:∀ k,k < m+1→listed.getD k false=true:=fun k hk=>by
   by_cases hkm:k < m
   ·rw [ag.2 k hkm];exact h.1 k hkm
   ·obtain rfl:k=m:=by omega
    exact hdm
  rw [Nat.zero_add,← hdl]
  refine wpAny_of_seq (md:=md) _ (m+1) listed a W (fun j=>by simp [List.getElem?_drop]) ?_ ?_
  ·rw [hdl,canon inv.size hall (fun t h1 h2=>inv.tail t h1 h2)];exact A.seq
  ·have:=h.2 B W hB hW hO
   rw [hp] at this
   have hd:ops.toList.drop (m+1)=os :: ops.toList.drop (m+1+1):=by
    have h1:=A.atS
    rw [← Array.getElem?_toList] at h1
    rw [List.drop_eq_getElem_cons (by simpa using hlt)]
    congr 1
    rw [List.getElem?_eq_getElem (by simpa using hlt)] at h1
    exact Option.some.inj h1
   rw [hd]
   exact wpList_plain A.guardS fun K hK=>wp_of_plain (plain_mono (fun a' w' h'=>hK a' w' h'.2) this)
 | f+1,listed,lq,a,W,ag,inv,hdm,hW,hO,hp,h=>by
  obtain⟨⟨j,hj,hjm⟩,hall⟩:=h
  have hsz:=inv.size
  have hlt:=A.lt
  have hpos:=A.pos
  have hmore:=A.more
  have hj':j∈Region.ready md ops listed:=ag.symm.ready (by rw [← ag.1];exact hsz) (by omega) hjm A.quiet hj
  rw [show f+1+(ops.size - (m+1))=(f+(ops.size - (m+1)))+1 by omega]
  refine⟨fun h0=>(by rw [h0] at hj';cases hj'),fun i hi=>?_⟩
  obtain⟨hiun,oi,hoi,hiw⟩:=mem_ready.1 hi
  by_cases him:i < m
  ·refine wpOp_of_qOpR hW (fun a' W' hb h'=>?_) (qOpR_mono (K':=fun a'=>a'.put (some d) (.pointer (some ⟨B,0,none⟩))=a'∧GQ P md ops w m (TailOk P ops m os d obj w Q) f (lq.setIfInBounds i true) a') (fun _ h=>h) ?_)
   ·exact phase2 A B hB f _ _ a' W' (ag.set i) (inv.set hi (by omega)) (by rw [getD_set_ne false (by omega)];exact hdm) (hW.trans (hb.mono hW.size)) ((hb.block B (Array.getElem?_eq_some_iff.1 hO).1).trans hO) h'.1 h'.2
   ·have h1:=hall i (ag.ready hsz (by omega) him A.quiet hi) him
    obtain⟨v,hy,hK⟩:=yieldsR_of_qOpR hoi h1
    refine hy.qOpR hoi ⟨?_,hK⟩
    obtain⟨_,h2,_⟩:=Oper.apart_spec (A.apart i oi him hoi)
    have h3:=Act.put_comm a (.pointer (some ⟨B,0,none⟩)) v h2
    rw [A.dst,hp] at h3
    rw [← h3]
  ·by_cases h2:i=m
   ·subst h2;rw [getD_both hiun] at hdm;cases hdm
   ·-- the store comes ahead of the late operation
    obtain⟨rfl,hdone⟩:=tail_ready A inv hi (by omega)
    have hjp:j=m - 1:=by
     by_cases h3:j=m - 1
     ·exact h3
     ·have h4:=hdone j (by omega) h3
      rw [getD_both (mem_ready.1 hj').1] at h4;cases h4
    subst hjp
    have h1:=hall (m - 1) hj hjm
    obtain⟨v,hy,hK⟩:=yieldsR_of_qOpR A.atP h1
    -- nothing is left of the head
    have hf:f=0:=by
     cases f with
     | zero=>rfl
     | succ f =>
      exfalso
      obtain⟨⟨k,hk,hkm⟩,_⟩:=hK
      have hk1:=(mem_ready.1 hk).1
      by_cases hkp:k=m - 1
      ·subst hkp
       have:m - 1 < lq.size:=by rw [← ag.1,hsz];omega
       simp [this] at hk1
      ·rw [getD_set_ne true (Ne.symm hkp)] at hk1
       have h4:=hdone k (by omega) hkp
       rw [ag.2 k hkm,getD_both hk1] at h4;cases h4
    subst hf
    obtain⟨_,hL⟩:=hK
    have hL:=hL B W hB hW hO
    obtain⟨_,hpd,_⟩:=Oper.apart_spec (A.apart (m - 1) op hjm A.atP)
    have hcm:(a.put op.dst v).put (some d) (.pointer (some ⟨B,0,none⟩))=a.put op.dst v:=by
     have h3:=Act.put_comm a (.pointer (some ⟨B,0,none⟩)) v hpd
     rw [A.dst,hp] at h3
     exact h3.symm
    rw [hcm] at hL
    -- the store,carried out without the late value
    have hss:∀ cs b,os.op≠.select cs b:=fun cs b=>Region.noSelect_spec A.sel (m+1) os cs b A.atS
    have hsame:execOp (a.put op.dst v).eval os=execOp a.eval os:=execOp_put os hss a op.dst v A.apartP
    unfold plain at hL
    rw [hsame] at hL
    unfold wpOp
    simp only [A.atS]
    rw [if_pos (by simp [Region.wanted,A.guardS])]
    left
    unfold Oper.wp
    have hval:∀ W'',Below w.heap.size w W''→(execOp a.eval op).run P W''=.ok (.value v) W'':=fun W'' hb=>by
     rcases hy with ⟨_,hy⟩ | ⟨hw,_⟩
     ·have:=hy W''
      rw [← eq_over hb] at this
      exact extract_value A.takes this
     ·simp [Region.wanted,A.guardP] at hw
    have goal:∀ W'',Below w.heap.size w W''→wpList P ops Q (ops.toList.drop (m+1+1)) (a.put op.dst v) W''→wpAny P md ops Q (0+(ops.size - (m+1))) (listed.setIfInBounds (m+1) true) a W'':=fun W'' hb hw=>by
     have hun1:listed.getD (m - 1) true=false:=(mem_ready.1 hj').1
     have h5:∀ i,i < m+1+1→i≠m - 1→(listed.setIfInBounds (m+1) true).getD i false=true:=fun i hi' hne=>by
      by_cases h6:i=m+1
      ·subst h6;simp [hsz,hlt]
      ·rw [getD_set_ne false (Ne.symm h6)];exact hdone i (by omega) hne
     rw [show 0+(ops.size - (m+1))=1+(ops.size - (m+1+1)) by omega]
     refine phase3 A (by simpa using hsz) h5 (by rw [getD_set_ne true (by omega)];exact hun1) (fun t h7 h8=>by rw [getD_set_ne true (by omega)];exact inv.tail t (by omega) h8) (ready_mono hj' (by omega)) (fun i' hi'=>?_) (hval W'' hb) hw
     obtain⟨hu',o',ho',hw'⟩:=mem_ready.1 hi'
     have hs':i' < ops.size:=(Array.getElem?_eq_some_iff.1 ho').1
     by_cases h9:i'=m - 1
     ·exact h9
     ·exfalso
      by_cases h10:i' < m+1+1
      ·have:=h5 i' h10 h9;rw [getD_both hu'] at this;cases this
      ·by_cases h11:i'=m+1+1
       ·subst h11
        obtain⟨o'',ho'',e,he,hbd,hon⟩:=Region.waitsFor_spec (A.late hs')
        have:o''=o':=Option.some.inj (ho''.symm.trans ho')
        subst this
        have h12:=hw' e he hbd
        rw [hon,getD_set_ne false (by omega),getD_both hun1] at h12
        cases h12
       ·have hc:=List.all_eq_true.1 A.chain i' (List.mem_range.2 hs')
        simp only [Bool.or_eq_true,decide_eq_true_eq] at hc
        obtain⟨o'',ho'',e,he,hbd,hon⟩:=Region.waitsFor_spec (hc.resolve_left (by omega))
        have:o''=o':=Option.some.inj (ho''.symm.trans ho')
        subst this
        have h12:=hw' e he hbd
        rw [hon,getD_set_ne false (by omega),getD_both (inv.tail (i' - 1) (by omega) (by omega))] at h12
        cases h12
    generalize (execOp a.eval os).run P W=r at hL ⊢
    cases r with
    | ok n w' =>
     cases n <;> simp only [plainUpon,A.dstS] at hL <;> simp only [Oper.upon,A.dstS]
     case value u=>exact goal w' hL.1 hL.2
     case skip=>exact goal w' hL.1 hL.2
    | halt x w'=>simp only [plainUpon] at hL
theorem phase1 {m:Nat} {oa op os:Oper} {d:Tmp} {obj:Obj} {Q:Exit→Act→World→Prop} (A:AllocAt P md ops m oa op os d obj) :
  ∀ (f:Nat)(listed lq:Array Bool)(a:Act)(W:World),Agree m listed lq→HeadInv md ops (m+1) listed→listed.getD m true=false→Below w.heap.size w W →
   GQ P md ops w m (TailOk P ops m os d obj w Q) f lq a→wpAny P md ops Q (f+1+(ops.size - (m+1))) listed a W:=by
 have hsel:=Region.noSelect_spec A.sel
 have hlt:=A.lt
 have hpos:=A.pos
 have alloc:∀ (f:Nat)(listed lq:Array Bool)(a:Act)(W:World),Agree m listed lq→HeadInv md ops (m+1) listed→listed.getD m true=false→m∈Region.ready md ops listed→Below w.heap.size w W →
   GQ P md ops w m (TailOk P ops m os d obj w Q) f lq a→wpOp P ops Q m (wpAny P md ops Q (f+(ops.size - (m+1))) (listed.setIfInBounds m true)) a W:=fun f listed lq a W ag inv hun hr hW h=>by
  unfold wpOp
  simp only [A.at_]
  rw [if_pos (by simp [Region.wanted,A.guard])]
  left
  unfold Oper.wp
  rw [A.runs a W]
  simp only [Oper.upon,A.dst]
  refine phase2 A W.heap.size hW.size f _ lq _ _ (ag.set_other m (Nat.le_refl _)) (inv.set hr (by omega)) ?_ (hW.alloc hW.size _) (heap_alloc_new W _) (put_put _ _ _ _) ?_
  ·simp [inv.size,show m < ops.size by omega]
  ·have:=GQ_put (x:=.pointer (some ⟨W.heap.size,0,none⟩)) hsel A.apart (Lq:=TailOk P ops m os d obj w Q) (fun a' h' B' W' h1 h2 h3=>by rw [A.dst,put_put];exact h' B' W' h1 h2 h3) f lq a h
   rwa [A.dst] at this
 have hrm:∀ listed:Array Bool,listed.getD m true=false→m∈Region.ready md ops listed:=fun listed hun=>mem_ready.2 ⟨hun,oa,A.at_,fun e he _=>by rw [A.free] at he;simp at he⟩
 have hno:∀ (listed:Array Bool)(i:Nat),HeadInv md ops (m+1) listed→listed.getD m true=false→i∈Region.ready md ops listed→m+1≤i→False:=fun listed i inv hun hi h=>by
  have h1:=(tail_ready A inv hi h).2 m (by omega) (by omega)
  rw [getD_both hun] at h1;cases h1
 intro f
 induction f with
 | zero =>
  intro listed lq a W ag inv hun hW h
  rw [show 0+1+(ops.size - (m+1))=(0+(ops.size - (m+1)))+1 by omega]
  refine⟨fun h0=>(by have:=hrm listed hun;rw [h0] at this;cases this),fun i hi=>?_⟩
  have hiun:=(mem_ready.1 hi).1
  by_cases him:i < m
  ·exfalso
   have h1:=h.1 i him
   rw [← ag.2 i him,getD_both hiun] at h1
   cases h1
  ·by_cases h2:i=m
   ·subst h2;exact alloc 0 listed lq a W ag inv hun hi hW h
   ·exact (hno listed i inv hun hi (by omega)).elim
 | succ f ih =>
  intro listed lq a W ag inv hun hW h
  rw [show f+1+1+(ops.size - (m+1))=(f+1+(ops.size - (m+1)))+1 by omega]
  refine⟨fun h0=>(by have:=hrm listed hun;rw [h0] at this;cases this),fun i hi=>?_⟩
  have hsz:=inv.size
  by_cases him:i < m
  ·have h1:=h.2 i (ag.ready hsz (by omega) him A.quiet hi) him
   exact wpOp_of_qOpR hW (fun a' W' hb h'=>ih _ _ a' W' (ag.set i) (inv.set hi (by omega)) (by rw [getD_set_ne true (by omega)];exact hun) (hW.trans (hb.mono hW.size)) h') h1
  ·by_cases h2:i=m
   ·subst h2;exact alloc (f+1) listed lq a W ag inv hun hi hW h
   ·exact (hno listed i inv hun hi (by omega)).elim
def allocB (ops:Array Oper)(m:Nat):Bool :=
  Region.noSelect ops && decide (1≤m) && decide (m+1+1 < ops.size) &&
  (List.range m).all (fun j=>match ops[j]? with | some oj=>oj.after.all fun e=>!Region.binds .any e || decide (e.on < m) | none=>true) &&
  (match ops[m]? with | some oa=>oa.after.isEmpty && oa.guard.isNone && (List.range m).all (fun j=>match ops[j]? with | some oj=>oa.apart ops oj | none=>true) | none=>false) &&
  (List.range (m+1)).all (fun i=>i == m - 1 || (List.range (m+1+1)).any fun j=>decide (i < j) && !(j == m - 1) && Region.waitsFor .any ops j i) &&
  Region.chainB .any ops (m+1) && Region.waitsFor .any ops (m+1+1) (m - 1) &&
  Region.seqB .any ops (ops.size - (m+1)) (m+1) (Array.ofFn fun i:Fin ops.size=>decide (i.val < m+1)) &&
  lexQ .any ops m 0 (Array.replicate ops.size false) &&
  (match ops[m - 1]?,ops[m+1]? with
   | some op,some os=>op.guard.isNone && os.guard.isNone && os.dst.isNone && (match op.dst with | some e=>!(os.looksAt ops).contains e | none=>true) && (match op.op with | .extract _ _=>true | _=>false)
   | _,_=>false)
theorem wp_region_alloc {id:Nat} {Q:Exit→Act→World→Prop} {a:Act} {l:List Oper} (m:Nat)(oa os:Oper)(d:Tmp)(obj:Obj)(hm:P.follows .mixedOrders=true)(hat:l[m]?=some oa)(hos:l[m+1]?=some os)(hdst:oa.dst=some d)
  (hrun:∀ (a:Act)(W:World),(execOp a.eval oa).run P W=.ok (.value (.pointer (some ⟨W.heap.size,0,none⟩))) (W.alloc obj))
  (hB:allocB l.toArray m=true)
  (h:wpQuietR P l.toArray w (fun a'=>∀ B W',w.heap.size≤B→Below w.heap.size w W'→W'.heap[B]?=some obj →
   plain P os (a'.put (some d) (.pointer (some ⟨B,0,none⟩))) W' fun a'' W''=>Below w.heap.size w W''∧wpList P l.toArray Q (l.drop (m+1+1)) a'' W'') (l.take m) a) :
  (Code.region id l.toArray true).wp P Q a w:=by
 simp only [allocB,Bool.and_eq_true,decide_eq_true_eq] at hB
 obtain⟨⟨⟨⟨⟨⟨⟨⟨⟨⟨hsel,hpos⟩,hlt⟩,hq⟩,hal⟩,hs⟩,hc⟩,hla⟩,hseq⟩,hlex⟩,hps⟩:=hB
 have hat':l.toArray[m]?=some oa:=by simpa using hat
 have hos':l.toArray[m+1]?=some os:=by simpa using hos
 have hlt':m+1+1 < l.length:=by simpa using hlt
 obtain⟨op,hop⟩:∃ op,l.toArray[m - 1]?=some op:=⟨_,Array.getElem?_eq_getElem (by simp;omega)⟩
 rw [hat'] at hal
 rw [hop,hos'] at hps
 simp only [Bool.and_eq_true] at hal hps
 obtain⟨⟨hfree,hguard⟩,hap⟩:=hal
 obtain⟨⟨⟨⟨hgp,hgs⟩,hds⟩,hapP⟩,hext⟩:=hps
 have A:AllocAt P .any l.toArray m oa op os d obj:={
  sel:=hsel,lt:=by omega,pos:=hpos,at_:=hat',atP:=hop,atS:=hos',dst:=hdst,free:=by simpa using hfree,guard:=by simpa using hguard,guardP:=by simpa using hgp,guardS:=by simpa using hgs,dstS:=by simpa using hds
  apartP:=fun e he=>by rw [he] at hapP;simpa using hapP
  takes:=by
   cases hx:op.op <;> rw [hx] at hext <;> first | exact⟨_,_,rfl⟩ | cases hext
  runs:=hrun,chain:=hc,late:=fun _=>hla,more:=hlt,seq:=hseq
  sink:=fun i hi hne=>by
   have h1:=List.all_eq_true.1 hs i (List.mem_range.2 hi)
   simp only [Bool.or_eq_true,beq_iff_eq] at h1
   obtain⟨j,hj,h2⟩:=List.any_eq_true.1 (h1.resolve_left hne)
   simp only [Bool.and_eq_true,decide_eq_true_eq,Bool.not_eq_true',beq_eq_false_iff_ne] at h2
   exact⟨j,h2.1.1,by have:=List.mem_range.1 hj;omega,h2.1.2,h2.2⟩
  quiet:=fun j oj hj hoj e he hb=>by
   have h1:=List.all_eq_true.1 hq j (List.mem_range.2 hj)
   rw [hoj] at h1
   have h2:=Array.all_eq_true'.1 h1 e he
   simpa [hb] using h2
  apart:=fun j oj hj hoj=>by
   have h1:=List.all_eq_true.1 hap j (List.mem_range.2 hj)
   rw [hoj] at h1
   exact h1 }
 have htl:(l.take m).length=m:=by simp;omega
 have G:=GQ_lex (P:=P) (w:=w) (md:=.any) (m:=m) hsel (by simp;omega) (l.take m) 0 (Array.replicate l.toArray.size false) a (fun j hj=>by
  have hj':j < m:=by rw [htl] at hj;exact hj
  simp [hj']) (by simpa using htl) (by simp) (fun j hj=>by omega) (by rw [htl];exact hlex) h
 rw [htl] at G
 have inv0:HeadInv .any l.toArray (m+1) (Array.replicate l.toArray.size false) :=
  ⟨by simp,fun j oj _ hl=>(by rw [getD_replicate_false] at hl;cases hl),fun t _ ht=>getD_in (by simpa using ht) (getD_replicate_false _ _)⟩
 have H:=phase1 (Q:=Q) A m _ _ a w.drew ⟨rfl,fun _ _=>rfl⟩ inv0 (getD_in (by simp;omega) (getD_replicate_false _ _)) ((Below.refl _ w).drew) G
 refine wp_region_any hm ?_
 rw [show m+1+(l.toArray.size - (m+1))=l.toArray.size by simp;omega] at H
 exact H
end
end
end Go.Proofs.YtmmeopjemkjllaaGreat
