/- Lemmas of the claim. No conditions beyond those that each states. -/
import Derived.Test.YtmmeopjemkjllaaGreatProg
import Derived.WalkKit
import Derived.ProofKit
import Derived.OpenShut
import Derived.Deep.QuietTactic
import Derived.BigQuiet
import Derived.StillTail
import Derived.WalkSmall
import Derived.Lib.Hide
import Derived.Handy
import Derived.Test.YtmmeopjemkjllaaGreatPU1
set_option linter.unusedVariables false
set_option linter.unusedSimpArgs false
set_option maxRecDepth 100000
set_option maxHeartbeats 8000000
namespace Go.Proofs.YtmmeopjemkjllaaGreat
section
open Go.RowKit
def over (w e:World):World:={ heap:=w.heap ++ e.heap.extract w.heap.size e.heap.size,tape:=w.tape,drawn:=e.drawn,os:=w.os,output:=w.output }
theorem over_heap (w e:World)(k:Nat)(h:k < w.heap.size):(over w e).heap[k]?=w.heap[k]?:=by
 show (w.heap ++ _)[k]?=_
 rw [Array.getElem?_append_left h]
theorem over_cell {w e:World} {b o:Nat} (h:b < w.heap.size):(over w e).cell? ⟨b,o,none⟩=w.cell? ⟨b,o,none⟩ :=
 World.cell?_of_block (w:=w) (w':=over w e) (a:=⟨b,o,none⟩) (over_heap w e b h)
theorem over_frozen {w e:World} {b o:Nat} (h:b < w.heap.size):(over w e).frozen? ⟨b,o,none⟩=w.frozen? ⟨b,o,none⟩ :=
 World.frozen?_of_block (w:=w) (w':=over w e) (a:=⟨b,o,none⟩) (over_heap w e b h)
theorem over_below (w e:World):Below w.heap.size w (over w e) :=
 ⟨rfl,rfl,rfl,by show w.heap.size≤(w.heap ++ _).size;rw [Array.size_append];omega,over_heap w e⟩
theorem eq_over {w W:World} (h:Below w.heap.size w W):W=over w W:=by
 have h1:W.heap=w.heap ++ W.heap.extract w.heap.size W.heap.size:=by
  apply Array.ext_getElem?
  intro i
  by_cases hi:i < w.heap.size
  ·rw [Array.getElem?_append_left hi,h.block i hi]
  ·rw [Array.getElem?_append_right (by omega),Array.getElem?_extract]
   split
   ·congr 1;omega
   ·rw [Array.getElem?_eq_none (by omega)]
 cases W
 simp only [over] at *
 rw [← h1]
 have h2:=h.os;have h3:=h.tape;have h4:=h.output
 simp only at h2 h3 h4
 subst h2;subst h3;subst h4
 rfl
section
variable {P : Program} {ops : Array Oper} {md : Region.Mode} {C : World → Prop}
def headQ (P:Program)(md:Region.Mode)(ops:Array Oper)(C:World→Prop)(n:Nat)(L:Array Bool→Act→Prop):Nat→Array Bool→Act→Prop
 | 0,listed,a=>L listed a
 | f+1,listed,a =>
  Region.ready md ops listed≠[]∧∀ i∈Region.ready md ops listed,i < n∧qOp P ops C i (headQ P md ops C n L f (listed.setIfInBounds i true)) a
theorem any_of_headQ {n g:Nat} {L:Array Bool→Act→Prop} {Q':Exit→Act→World→Prop} (hL:∀ listed a w,C w→L listed a→wpAny P md ops Q' g listed a w) :
  ∀ (f:Nat) (listed:Array Bool) (a:Act) (w:World),C w→headQ P md ops C n L f listed a→wpAny P md ops Q' (f+g) listed a w
 | 0,listed,a,w,hw,h=>by rw [Nat.zero_add];exact hL _ _ _ hw h
 | f+1,listed,a,w,hw,h=>by
  rw [show f+1+g=(f+g)+1 by omega]
  exact⟨fun h0=>absurd h0 h.1,fun i hi=>wpOp_of_qOp hw (fun a' w' hw' h'=>any_of_headQ hL f _ a' w' hw' h') (h.2 i hi).2⟩
theorem headQ_take {n i:Nat} {oi:Oper} {v:Value} {L:Array Bool→Act→Prop} (hi:ops[i]?=some oi)(hsel:∀ (j:Nat)(o:Oper) cs b,ops[j]?=some o→o.op≠.select cs b)
  (hs:Region.sinkB md ops n=true) (hc:Region.chainB md ops n=true) (hn:n < ops.size) (hin:i < n)
  (hdone:∀ listed a,L listed a→∀ j∈Region.ready md ops listed,n≤j) :
  ∀ (f:Nat) (listed:Array Bool) (a:Act),HeadInv md ops n listed →
   (∀ j oj,ops[j]?=some oj→j≠i→listed.getD j true=false→(∀ e∈oj.after,Region.binds md e=true→e.on≠i)→oi.apart ops oj=true) →
   i∈Region.ready md ops listed→YieldsIn P ops C oi v a →
   headQ P md ops C n L f (listed.setIfInBounds i true) (a.put oi.dst v)→headQ P md ops C n L (f+1) listed a:=by
 intro f
 induction f with
 | zero =>
  intro listed a inv _ hr hy H
  have hun:=(mem_ready.1 hr).1
  refine⟨fun h=>(by rw [h] at hr;cases hr),fun j hj=>?_⟩
  have hjn:j < n:=Nat.lt_of_not_le fun h=>tail_waits hs hc hn inv _ i rfl hin hun j h hj
  refine⟨hjn,?_⟩
  by_cases hji:j=i
  ·subst hji;exact hy.qOp hi H
  ·exact absurd (hdone _ _ H j (ready_mono hj hji)) (by omega)
 | succ f ih =>
  intro listed a inv hfree hr hy H
  have hun:=(mem_ready.1 hr).1
  refine⟨fun h=>(by rw [h] at hr;cases hr),fun j hj=>?_⟩
  have hjn:j < n:=Nat.lt_of_not_le fun h=>tail_waits hs hc hn inv _ i rfl hin hun j h hj
  refine⟨hjn,?_⟩
  by_cases hji:j=i
  ·subst hji;exact hy.qOp hi H
  ·have h1:=(H.2 j (ready_mono hj hji)).2
   obtain⟨hjun,oj,hoj,hall⟩:=mem_ready.1 hj
   have hnot:∀ e∈oj.after,Region.binds md e=true→e.on≠i:=fun e he hb heq=>by
    have h3:=hall e he hb
    rw [heq,getD_both hun] at h3
    cases h3
   have h2:=qOp_put hoj (hfree j oj hoj hji hjun hnot) (fun cs b=>hsel i oi cs b hi) (fun cs b=>hsel j oj cs b hoj) hy h1
   refine qOp_mono (fun a' h3=>ih (listed.setIfInBounds j true) a' (inv.set hj hjn) (fun k ok hk hki hun' hno=>?_) (ready_mono hr (Ne.symm hji)) h3.1 ?_) h2
   ·refine hfree k ok hk hki ?_ hno
    by_cases hjk:j=k
    ·subst hjk;exact hjun
    ·rw [getD_set_ne true hjk] at hun';exact hun'
   ·rw [Array.setIfInBounds_comm _ _ hji]
    exact h3.2
theorem headQ_lex {n g:Nat} {Lq:Act→Prop} (hsel:Region.noSelect ops=true)(hs:Region.sinkB md ops n=true)(hc:Region.chainB md ops n=true)(hn:n < ops.size) :
  ∀ (l:List Oper) (k:Nat) (listed:Array Bool) (a:Act),(∀ j,j < l.length→l[j]?=ops[k+j]?)→k+l.length=n→HeadInv md ops n listed →
  Region.lexHead md ops g l.length k listed=true→wpQuiet P ops C Lq l a →
  headQ P md ops C n (fun listed' a'=>Region.seqB md ops g n listed'=true∧Lq a') l.length listed a
 | [],k,listed,a,_,hk,_,hB,h=>by
  obtain rfl:k=n:=by simpa using hk
  exact⟨by simpa [Region.lexHead] using hB,h⟩
 | o :: l,k,listed,a,hl,hk,inv,hB,h=>by
  have h0:ops[k]?=some o:=by simpa using (hl 0 (by simp)).symm
  simp only [List.length_cons,Region.lexHead,Bool.and_eq_true] at hB
  obtain⟨⟨hr,hf⟩,hB'⟩:=hB
  have hkn:k < n:=by simp only [List.length_cons] at hk;omega
  have hr':k∈Region.ready md ops listed:=by simpa using hr
  have hst:qOp P ops C k (wpQuiet P ops C Lq l) a:=by unfold qOp;simp only [h0];exact h
  obtain⟨v,hy,hK⟩:=yieldsIn_of_qOp h0 hst
  exact headQ_take h0 (Region.noSelect_spec hsel) hs hc hn hkn (fun listed' a' hL=>seqB_ready hL.1) l.length listed a inv (Region.free_spec h0 hf) hr' hy
   (headQ_lex hsel hs hc hn l (k+1) _ _ (fun j hj=>by have:=hl (j+1) (by simp;omega);simpa [Nat.add_assoc,Nat.add_comm 1 j] using this) (by simp only [List.length_cons] at hk;omega) (inv.set hr' hkn) hB' hK)
theorem wp_region_quiet_tail {id:Nat} {Q:Exit→Act→World→Prop} {a:Act} {w:World} {l:List Oper} (n:Nat)(hm:P.follows .mixedOrders=true)(hB:Region.lexTailB .any l.toArray n=true)(hC:C w.drew)
  (h:wpQuiet P l.toArray C (fun a'=>∀ w',C w'→wpList P l.toArray Q (l.drop n) a' w') (l.take n) a):(Code.region id l.toArray true).wp P Q a w:=by
 simp only [Region.lexTailB,Bool.and_eq_true,decide_eq_true_eq] at hB
 obtain⟨⟨⟨⟨hsel,hn⟩,hs⟩,hc⟩,hlex⟩:=hB
 have hn':n < l.length:=by simpa using hn
 have htl:(l.take n).length=n:=by simp;omega
 have hdl:(l.drop n).length=l.toArray.size - n:=by simp
 have inv0:HeadInv .any l.toArray n (Array.replicate l.toArray.size false) :=
  ⟨by simp,fun j oj _ hl=>(by rw [getD_replicate_false] at hl;cases hl),fun t _ ht=>getD_in (by simpa using ht) (getD_replicate_false _ _)⟩
 have H:=headQ_lex (md:=.any) (g:=l.toArray.size - n) hsel hs hc hn (l.take n) 0 _ a (fun j hj=>by
  have hj':j < n:=by rw [htl] at hj;exact hj
  simp [hj']) (by simpa using htl) inv0 (by rw [htl];exact hlex) h
 refine wp_region_any hm ?_
 have:=any_of_headQ (Q':=Q) (g:=l.toArray.size - n) (fun listed a' w' hw' hL=>by
  have:=wpAny_of_seq (md:=.any) (Q':=Q) (l.drop n) n listed a' w' (fun j=>by simp [List.getElem?_drop]) (by rw [hdl];exact hL.1) (hL.2 w' hw')
  rwa [hdl] at this) _ _ _ w.drew hC H
 rw [htl,show n+(l.toArray.size - n)=l.toArray.size by omega] at this
 exact this
theorem wp_region_over {id:Nat} {Q:Exit→Act→World→Prop} {a:Act} {w:World} {l:List Oper} (hm:P.follows .mixedOrders=true)(hB:Region.lexB .any l.toArray=true)
  (h:wpQuiet P l.toArray (fun w'=>∃ e,w'=over w e) (fun a'=>∀ w',(∃ e,w'=over w e)→Q .normal a' w') l a):(Code.region id l.toArray true).wp P Q a w :=
 wp_region_quiet (C:=fun w'=>∃ e,w'=over w e) hm hB ⟨w.drew,eq_over ((Below.refl _ w).drew)⟩ (by simpa using h)
theorem wp_region_over_tail {id:Nat} {Q:Exit→Act→World→Prop} {a:Act} {w:World} {l:List Oper} (n:Nat)(hm:P.follows .mixedOrders=true)(hB:Region.lexTailB .any l.toArray n=true)
  (h:wpQuiet P l.toArray (fun w'=>∃ e,w'=over w e) (fun a'=>∀ w',(∃ e,w'=over w e)→wpList P l.toArray Q (l.drop n) a' w') (l.take n) a):(Code.region id l.toArray true).wp P Q a w :=
 wp_region_quiet_tail (C:=fun w'=>∃ e,w'=over w e) n hm hB ⟨w.drew,eq_over ((Below.refl _ w).drew)⟩ h
theorem calls_over {f:FuncId} {args:Array Value} {w e:World} {v:Value}
  (h:Calls P f args (over w e) fun r w'=>r=.returned v∧Below (over w e).heap.size (over w e) w') :
  Calls P f args (over w e) fun r w''=>r=.returned v∧∃ e',w''=over w e' :=
 h.mono fun _ W ⟨he,hb⟩=>⟨he,W,eq_over ((over_below w e).trans (hb.mono (over_below w e).size))⟩
theorem calls_over_same {f:FuncId} {args:Array Value} {w e:World} {v:Value}
  (h:Calls P f args (over w e) fun r w'=>r=.returned v∧over w e=w') :
  Calls P f args (over w e) fun r w''=>r=.returned v∧∃ e',w''=over w e' :=
 h.mono fun _ _ ⟨he,hb⟩=>⟨he,e,hb.symm⟩
end
theorem bcell {W w1:World} (hb:Below W.heap.size W w1):(∀ b o,b < W.heap.size→w1.cell? ⟨b,o,none⟩=W.cell? ⟨b,o,none⟩)∧(∀ b o,b < W.heap.size→w1.frozen? ⟨b,o,none⟩=W.frozen? ⟨b,o,none⟩) :=
 ⟨fun b o h=>hb.cell (p:=⟨b,o,none⟩) h,fun b o h=>hb.frozen (p:=⟨b,o,none⟩) h⟩
def Blk (w:World)(g:Nat)(t:TypeId)(cs:Array Value):Prop:=w.heap[g]?=some (.cells cs t (0,0))
section
variable {w w' : World} {g : Nat} {t : TypeId} {cs : Array Value}
theorem Blk.lt (h:Blk w g t cs):g < w.heap.size:=(Array.getElem?_eq_some_iff.1 h).1
theorem Blk.cell (h:Blk w g t cs)(i:Nat):w.cell? ⟨g,i,none⟩=cs[i]?:=cell_of_row w g i cs t (0,0) h
theorem Blk.frozen (h:Blk w g t cs)(i:Nat):w.frozen? ⟨g,i,none⟩=false:=by unfold Blk at h;simp [World.frozen?,h]
theorem Blk.new (w:World)(t:TypeId)(cs:Array Value):Blk (w.alloc (.cells cs t)) w.heap.size t cs:=heap_alloc_new w _
theorem Blk.drewN (h:Blk w g t cs)(n:Nat):Blk (w.drewN n) g t cs:=h
theorem Blk.drew (h:Blk w g t cs):Blk w.drew g t cs:=h
theorem Blk.alloc (h:Blk w g t cs)(o:Obj):Blk (w.alloc o) g t cs:=(Below.heap_alloc w o g h.lt).trans h
theorem Blk.set_ (h:Blk w g t cs)(i:Nat)(u:Value):Blk (w.setCell ⟨g,i,none⟩ u) g t (cs.setIfInBounds i u):=by
 unfold Blk at h ⊢
 simp [World.setCell,Array.getElem?_modify,h]
theorem Blk.far (h:Blk w g t cs) {p:Addr} (hp:g≠p.block)(u:Value):Blk (w.setCell p u) g t cs:=(Below.heap_setCell w p u g hp).trans h
theorem Blk.below {B:Nat} (h:Blk w g t cs)(hb:Below B w w')(hg:g < B):Blk w' g t cs:=(hb.block g hg).trans h
theorem Blk.grown {row:Option Nat} (h:Blk w g t cs)(hb:w.grownBy w' row)(hg:some g≠row):Blk w' g t cs:=(hb.block g h.lt hg).trans h
end
theorem wp_gen {P:Program} {c:Code} {Q:Exit→Act→World→Prop} {a:Act} {w:World} (R:World→Prop)(h:R w)(h2:∀ w',R w'→c.wp P Q a w'):c.wp P Q a w:=h2 w h
theorem ret_int {k:IntKind} {a b:Int} (h:a=b):Ending.returned (.int k a)=.returned (.int k b):=by rw [h]
theorem val_int {k:IntKind} {a b:Int} (h:a=b):Value.int k a=.int k b:=by rw [h]
end
section
open Go.RowKit
theorem compare_any (a b:Int)(w:World) :
  Calls Tryz.prog 202 #[.int .u64 a,.int .u64 b] w fun e w'=>e=.returned (.int .i64 (cmpI a b))∧w=w':=by
 go_enter Tryz.func202,Tryz.ntmps202
 go_wp2
 all_goals go_ret
 ·exact⟨ret_int (cmpI_lt (by assumption)).symm,rfl⟩
 ·exact⟨ret_int (cmpI_gt (by assumption)).symm,rfl⟩
 ·exact⟨ret_int (cmpI_eq (by omega)).symm,rfl⟩
theorem cmp_any (a b c d:Int)(w:World)(hb:U b)(hd:U d) :
  Calls Tryz.prog 193 #[.agg #[.int .u64 a,.int .u64 b],.agg #[.int .u64 c,.int .u64 d]] w fun e w'=>e=.returned (.int .i64 (cmpI (num a b) (num c d)))∧Below w.heap.size w w':=by
 go_enter Tryz.func193,Tryz.ntmps193
 go_wp2_with (go_at_call 202;refine (compare_any _ _ _).mono ?_;rintro e w' ⟨rfl,rfl⟩)
 all_goals go_ret
 ·exact⟨ret_int (cmpI_hi (cmpI_ne (by assumption)) hb hd),by go_grown⟩
 ·have h:=cmpI_same (by assumption)
  subst h
  exact⟨ret_int cmpI_lo,by go_grown⟩
def MW (w W:World)(x0 x1 y0 y1 v0 v1 v2 v3:Int):Prop :=
 Blk W w.heap.size 236 #[.int .u64 0,.int .u64 0]∧Blk W (w.heap.size+1) 267 #[.int .u64 x0,.int .u64 x1]∧Blk W (w.heap.size+1+1) 267 #[.int .u64 y0,.int .u64 y1] ∧
 Blk W (w.heap.size+1+1+1) 268 #[.int .u64 v0,.int .u64 v1,.int .u64 v2,.int .u64 v3]∧Below w.heap.size w W
theorem MW.start (w:World)(x0 x1 y0 y1:Int):MW w ((((w.alloc (.cells #[.int .u64 0,.int .u64 0] 236)).alloc (.cells #[.int .u64 x0,.int .u64 x1] 267)).alloc (.cells #[.int .u64 y0,.int .u64 y1] 267)).alloc (.cells #[.int .u64 0,.int .u64 0,.int .u64 0,.int .u64 0] 268)) x0 x1 y0 y1 0 0 0 0:=by
 refine⟨(((Blk.new w _ _).alloc _).alloc _).alloc _,?_,?_,?_,?_⟩
 ·have h:=(((Blk.new (w.alloc (.cells #[.int .u64 0,.int .u64 0] 236)) 267 #[.int .u64 x0,.int .u64 x1])).alloc (.cells #[.int .u64 y0,.int .u64 y1] 267)).alloc (.cells #[.int .u64 0,.int .u64 0,.int .u64 0,.int .u64 0] 268)
  simpa using h
 ·have h:=(Blk.new ((w.alloc (.cells #[.int .u64 0,.int .u64 0] 236)).alloc (.cells #[.int .u64 x0,.int .u64 x1] 267)) 267 #[.int .u64 y0,.int .u64 y1]).alloc (.cells #[.int .u64 0,.int .u64 0,.int .u64 0,.int .u64 0] 268)
  simpa using h
 ·have h:=Blk.new (((w.alloc (.cells #[.int .u64 0,.int .u64 0] 236)).alloc (.cells #[.int .u64 x0,.int .u64 x1] 267)).alloc (.cells #[.int .u64 y0,.int .u64 y1] 267)) 268 #[.int .u64 0,.int .u64 0,.int .u64 0,.int .u64 0]
  simpa using h
 ·go_grown
theorem MW.set_ {w W:World} {x0 x1 y0 y1 v0 v1 v2 v3:Int} (h:MW w W x0 x1 y0 y1 v0 v1 v2 v3)(n i:Nat)(u v0' v1' v2' v3':Int)
  (hs:(#[.int .u64 v0,.int .u64 v1,.int .u64 v2,.int .u64 v3]:Array Value).setIfInBounds i (.int .u64 u)=#[.int .u64 v0',.int .u64 v1',.int .u64 v2',.int .u64 v3']) :
  MW w ((W.drewN n).setCell ⟨w.heap.size+1+1+1,i,none⟩ (.int .u64 u)) x0 x1 y0 y1 v0' v1' v2' v3':=by
 obtain⟨h0,h1,h2,h3,hb⟩:=h
 exact⟨(h0.drewN n).far (by simp;omega) _,(h1.drewN n).far (by simp) _,(h2.drewN n).far (by simp) _,by rw [← hs];exact (h3.drewN n).set_ i _,(below_drewN hb n).setCell (by simp;omega) _⟩
theorem MW.set0 {w W:World} {x0 x1 y0 y1 v0 v1 v2 v3:Int} (h:MW w W x0 x1 y0 y1 v0 v1 v2 v3)(i:Nat)(u v0' v1' v2' v3':Int)
  (hs:(#[.int .u64 v0,.int .u64 v1,.int .u64 v2,.int .u64 v3]:Array Value).setIfInBounds i (.int .u64 u)=#[.int .u64 v0',.int .u64 v1',.int .u64 v2',.int .u64 v3']) :
  MW w (W.setCell ⟨w.heap.size+1+1+1,i,none⟩ (.int .u64 u)) x0 x1 y0 y1 v0' v1' v2' v3':=h.set_ 0 i u v0' v1' v2' v3' hs
theorem MW.result {w W:World} {x0 x1 y0 y1 v0 v1 v2 v3:Int} (h:MW w W x0 x1 y0 y1 v0 v1 v2 v3) :
  W.cell? ⟨w.heap.size,0,none⟩=some (.int .u64 0)∧W.cell? ⟨w.heap.size,1,none⟩=some (.int .u64 0)∧W.frozen? ⟨w.heap.size,0,none⟩=false∧W.frozen? ⟨w.heap.size,1,none⟩=false :=
 ⟨h.1.cell 0,h.1.cell 1,h.1.frozen 0,h.1.frozen 1⟩
theorem MW.facts {w W:World} {x0 x1 y0 y1 v0 v1 v2 v3:Int} (h:MW w W x0 x1 y0 y1 v0 v1 v2 v3) :
  W.cell? ⟨w.heap.size+1,0,none⟩=some (.int .u64 x0)∧W.cell? ⟨w.heap.size+1,1,none⟩=some (.int .u64 x1) ∧
  W.cell? ⟨w.heap.size+1+1,0,none⟩=some (.int .u64 y0)∧W.cell? ⟨w.heap.size+1+1,1,none⟩=some (.int .u64 y1) ∧
  W.cell? ⟨w.heap.size+1+1+1,0,none⟩=some (.int .u64 v0)∧W.cell? ⟨w.heap.size+1+1+1,1,none⟩=some (.int .u64 v1) ∧
  W.cell? ⟨w.heap.size+1+1+1,2,none⟩=some (.int .u64 v2)∧W.cell? ⟨w.heap.size+1+1+1,3,none⟩=some (.int .u64 v3) ∧
  W.frozen? ⟨w.heap.size+1+1+1,0,none⟩=false∧W.frozen? ⟨w.heap.size+1+1+1,1,none⟩=false∧W.frozen? ⟨w.heap.size+1+1+1,2,none⟩=false∧W.frozen? ⟨w.heap.size+1+1+1,3,none⟩=false ∧
  MW w W x0 x1 y0 y1 v0 v1 v2 v3:=by
 obtain⟨h0,h1,h2,h3,hb⟩:=id h
 exact⟨h1.cell 0,h1.cell 1,h2.cell 0,h2.cell 1,h3.cell 0,h3.cell 1,h3.cell 2,h3.cell 3,h3.frozen 0,h3.frozen 1,h3.frozen 2,h3.frozen 3,h⟩
theorem mul_walk (a b x0 x1 y0 y1 t00 p0 c0 u01 t01 p1 c1 u10 t10 q1 c2 u11 s11 t11 p2 c3 s3 s1 h l:Int)(w:World)
  (m1:bits .and .u64 a 4294967295=x0) (d1:a / 4294967296=x1) (m2:bits .and .u64 b 4294967295=y0) (d2:b / 4294967296=y1)
  (e00:IntKind.u64.wrap (x0*y0)=t00) (w00:IntKind.u64.wrap t00=t00) (m00:bits .and .u64 t00 4294967295=p0) (d00:t00 / 4294967296=c0)
  (e01:IntKind.u64.wrap (x0*y1)=u01) (w01:IntKind.u64.wrap u01=u01) (f01:IntKind.u64.wrap (u01+c0)=t01) (m01:bits .and .u64 t01 4294967295=p1) (d01:t01 / 4294967296=c1)
  (e10:IntKind.u64.wrap (x1*y0)=u10) (f10:IntKind.u64.wrap (u10+p1)=t10) (w10:IntKind.u64.wrap t10=t10) (m10:bits .and .u64 t10 4294967295=q1) (d10:t10 / 4294967296=c2)
  (e11:IntKind.u64.wrap (x1*y1)=u11) (f11:IntKind.u64.wrap (u11+c1)=s11) (g11:IntKind.u64.wrap (s11+c2)=t11) (m11:bits .and .u64 t11 4294967295=p2) (d11:t11 / 4294967296=c3)
  (k3:IntKind.u64.wrap (c3*4294967296)=s3) (o3:bits .or .u64 s3 p2=h) (k1:IntKind.u64.wrap (q1*4294967296)=s1) (o1:bits .or .u64 s1 p0=l) :
  Calls Tryz.prog 201 #[.int .u64 a,.int .u64 b] w fun e w'=>e=.returned (.agg #[.int .u64 h,.int .u64 l])∧Below w.heap.size w w':=by
 go_enter Tryz.func201,Tryz.ntmps201
 go_wp2
 refine wp_gen (fun W=>MW w W x0 x1 y0 y1 0 0 0 0) (MW.start w x0 x1 y0 y1) ?_
 rintro W1 hm
 obtain⟨c10,c11,c20,c21,c30,c31,c32,c33,f0,f1,f2,f3,hm⟩:=hm.facts
 have HM:=Lib.hid hm;clear hm
 refine wp_loop_rounds 3 ?_
 rw [rounds_succ]
 go_wp2
 refine wp_loop_rounds 3 ?_
 rw [rounds_succ]
 go_wp2
 go_quiet (fail)
 go_wp2
 clear c10 c11 c20 c21 c30 c31 c32 c33 f0 f1 f2 f3
 rw [rounds_succ]
 refine wp_gen (fun W=>MW w W x0 x1 y0 y1 p0 0 0 0) (by exact HM.out.set_ _ _ _ p0 0 0 0 rfl) ?_
 clear HM
 rintro W2 hm
 obtain⟨c10,c11,c20,c21,c30,c31,c32,c33,f0,f1,f2,f3,hm⟩:=hm.facts
 have HM:=Lib.hid hm;clear hm
 go_wp2
 go_quiet (fail)
 go_wp2
 clear c10 c11 c20 c21 c30 c31 c32 c33 f0 f1 f2 f3
 rw [rounds_succ]
 refine wp_gen (fun W=>MW w W x0 x1 y0 y1 p0 p1 0 0) (by exact HM.out.set_ _ _ _ p0 p1 0 0 rfl) ?_
 clear HM
 rintro W3 hm
 obtain⟨c10,c11,c20,c21,c30,c31,c32,c33,f0,f1,f2,f3,hm⟩:=hm.facts
 have HM:=Lib.hid hm;clear hm
 go_wp2
 clear c10 c11 c20 c21 c30 c31 c32 c33 f0 f1 f2 f3
 rw [rounds_succ]
 refine wp_gen (fun W=>MW w W x0 x1 y0 y1 p0 p1 c1 0) (by exact HM.out.set0 _ _ p0 p1 c1 0 rfl) ?_
 clear HM
 rintro W4 hm
 obtain⟨c10,c11,c20,c21,c30,c31,c32,c33,f0,f1,f2,f3,hm⟩:=hm.facts
 have HM:=Lib.hid hm;clear hm
 go_wp2
 refine wp_loop_rounds 3 ?_
 rw [rounds_succ]
 go_wp2
 go_quiet (fail)
 go_wp2
 clear c10 c11 c20 c21 c30 c31 c32 c33 f0 f1 f2 f3
 rw [rounds_succ]
 refine wp_gen (fun W=>MW w W x0 x1 y0 y1 p0 q1 c1 0) (by exact HM.out.set_ _ _ _ p0 q1 c1 0 rfl) ?_
 clear HM
 rintro W5 hm
 obtain⟨c10,c11,c20,c21,c30,c31,c32,c33,f0,f1,f2,f3,hm⟩:=hm.facts
 have HM:=Lib.hid hm;clear hm
 go_wp2
 go_quiet (fail)
 go_wp2
 clear c10 c11 c20 c21 c30 c31 c32 c33 f0 f1 f2 f3
 rw [rounds_succ]
 refine wp_gen (fun W=>MW w W x0 x1 y0 y1 p0 q1 p2 0) (by exact HM.out.set_ _ _ _ p0 q1 p2 0 rfl) ?_
 clear HM
 rintro W6 hm
 obtain⟨c10,c11,c20,c21,c30,c31,c32,c33,f0,f1,f2,f3,hm⟩:=hm.facts
 have HM:=Lib.hid hm;clear hm
 go_wp2
 clear c10 c11 c20 c21 c30 c31 c32 c33 f0 f1 f2 f3
 rw [rounds_succ]
 refine wp_gen (fun W=>MW w W x0 x1 y0 y1 p0 q1 p2 c3) (by exact HM.out.set0 _ _ p0 q1 p2 c3 rfl) ?_
 clear HM
 rintro W7 hm
 obtain⟨c10,c11,c20,c21,c30,c31,c32,c33,f0,f1,f2,f3,hm⟩:=hm.facts
 have HM:=Lib.hid hm;clear hm
 obtain⟨r0,r1,g0,g1⟩:=HM.out.result
 go_wp2
 have hb':=(HM.out.1.set_ 0 (.int .u64 h)).set_ 1 (.int .u64 l)
 have q0:=hb'.cell 0
 have q1:=hb'.cell 1
 simp at q0 q1
 refine bodyPost_ret (v:=.agg #[.int .u64 h,.int .u64 l]) (by simp [results,Tryz.results201,go_sem,q0,q1]) rfl ⟨rfl,?_⟩
 exact (HM.out.2.2.2.2.setCell (Nat.le_refl _) _).setCell (Nat.le_refl _) _
theorem mask_u64 (x:Int)(h:U x):bits .and .u64 x 4294967295=x % 4294967296:=by
 unfold U at h
 rw [u64_and x _ h.1 (by omega) (by decide) (by decide),show (4294967295:Int).toNat=2 ^ 32 - 1 from rfl,Nat.and_two_pow_sub_one_eq_mod]
 obtain⟨n,rfl⟩:=Int.eq_ofNat_of_zero_le h.1
 simp
theorem or_u64 (x y:Int)(hx:0≤x)(hx':x≤4294967295)(hy:0≤y)(hy':y≤4294967295):bits .or .u64 (x*4294967296) y=x*4294967296+y:=by
 rw [u64_or _ _ (by omega) (by omega) hy (by omega)]
 obtain⟨n,rfl⟩:=Int.eq_ofNat_of_zero_le hx
 obtain⟨m,rfl⟩:=Int.eq_ofNat_of_zero_le hy
 have h:=Nat.shiftLeft_add_eq_or_of_lt (b:=m) (i:=32) (by omega) n
 rw [Nat.shiftLeft_eq] at h
 have e:((n:Int)*4294967296).toNat=n*2 ^ 32:=by omega
 rw [e,Int.toNat_natCast,← h]
 omega
theorem wrap_u {x:Int} (h:U x):IntKind.u64.wrap x=x:=IntWalk.u64_in _ h
theorem prod_bd {x y:Int} (hx:0≤x)(hx':x≤4294967295)(hy:0≤y)(hy':y≤4294967295):0≤x*y∧x*y≤18446744065119617025 :=
 ⟨Int.mul_nonneg hx hy,by have:=Int.mul_le_mul hx' hy' hy (by decide);omega⟩
theorem mul_any (a b:Int)(w:World)(ha:U a)(hb:U b) :
  Calls Tryz.prog 201 #[.int .u64 a,.int .u64 b] w fun e w'=>e=.returned (.agg #[.int .u64 (hiW (a*b)),.int .u64 (loW (a*b))])∧Below w.heap.size w w':=by
 have ha':=ha;have hb':=hb
 unfold U at ha' hb'
 have b00:=prod_bd (x:=a % 4294967296) (y:=b % 4294967296) (by omega) (by omega) (by omega) (by omega)
 have b01:=prod_bd (x:=a % 4294967296) (y:=b / 4294967296) (by omega) (by omega) (by omega) (by omega)
 have b10:=prod_bd (x:=a / 4294967296) (y:=b % 4294967296) (by omega) (by omega) (by omega) (by omega)
 have b11:=prod_bd (x:=a / 4294967296) (y:=b / 4294967296) (by omega) (by omega) (by omega) (by omega)
 have hx:a=a / 4294967296*4294967296+a % 4294967296:=by omega
 have hy:b=b / 4294967296*4294967296+b % 4294967296:=by omega
 have hab:a*b=(a / 4294967296*(b / 4294967296))*18446744073709551616+(a / 4294967296*(b % 4294967296)+a % 4294967296*(b / 4294967296))*4294967296+a % 4294967296*(b % 4294967296):=by
  have:a*b=(a / 4294967296*4294967296+a % 4294967296)*(b / 4294967296*4294967296+b % 4294967296):=by rw [← hx,← hy]
  rw [this]
  generalize a / 4294967296=x1
  generalize a % 4294967296=x0
  generalize b / 4294967296=y1
  generalize b % 4294967296=y0
  have e1:x1*4294967296*(y1*4294967296)=x1*y1*18446744073709551616:=by
   rw [Int.mul_assoc,Int.mul_left_comm 4294967296,← Int.mul_assoc,show (4294967296:Int)*4294967296=18446744073709551616 from rfl]
  have e2:x1*4294967296*y0=x1*y0*4294967296:=Int.mul_right_comm _ _ _
  have e3:x0*(y1*4294967296)=x0*y1*4294967296:=(Int.mul_assoc _ _ _).symm
  rw [Int.add_mul,Int.mul_add,Int.mul_add,e1,e2,e3]
  omega
 rw [hab]
 have m1:=mask_u64 a ha
 have m2:=mask_u64 b hb
 generalize h1:a / 4294967296=x1 at *
 generalize h2:a % 4294967296=x0 at *
 generalize h3:b / 4294967296=y1 at *
 generalize h4:b % 4294967296=y0 at *
 clear hab hx hy ha' hb'
 have r0:0≤x0∧x0≤4294967295:=by omega
 have hU:∀ t:Int,0≤t→t≤18446744073709551615→U t:=fun t h h'=>⟨h,h'⟩
 generalize g00:x0*y0=t00 at *
 generalize g01:x0*y1=u01 at *
 generalize g10:x1*y0=u10 at *
 generalize g11:x1*y1=u11 at *
 have H:=mul_walk a b x0 x1 y0 y1 t00 (t00 % 4294967296) (t00 / 4294967296) u01 (u01+t00 / 4294967296) ((u01+t00 / 4294967296) % 4294967296) ((u01+t00 / 4294967296) / 4294967296)
  u10 (u10+(u01+t00 / 4294967296) % 4294967296) ((u10+(u01+t00 / 4294967296) % 4294967296) % 4294967296) ((u10+(u01+t00 / 4294967296) % 4294967296) / 4294967296)
  u11 (u11+(u01+t00 / 4294967296) / 4294967296) (u11+(u01+t00 / 4294967296) / 4294967296+(u10+(u01+t00 / 4294967296) % 4294967296) / 4294967296)
  ((u11+(u01+t00 / 4294967296) / 4294967296+(u10+(u01+t00 / 4294967296) % 4294967296) / 4294967296) % 4294967296) ((u11+(u01+t00 / 4294967296) / 4294967296+(u10+(u01+t00 / 4294967296) % 4294967296) / 4294967296) / 4294967296)
  ((u11+(u01+t00 / 4294967296) / 4294967296+(u10+(u01+t00 / 4294967296) % 4294967296) / 4294967296) / 4294967296*4294967296) ((u10+(u01+t00 / 4294967296) % 4294967296) % 4294967296*4294967296)
  (hiW (u11*18446744073709551616+(u10+u01)*4294967296+t00)) (loW (u11*18446744073709551616+(u10+u01)*4294967296+t00)) w
  m1 h1 m2 h3 (by rw [g00];exact wrap_u (hU _ (by omega) (by omega))) (wrap_u (hU _ (by omega) (by omega))) (mask_u64 _ (hU _ (by omega) (by omega))) rfl
  (by rw [g01];exact wrap_u (hU _ (by omega) (by omega))) (wrap_u (hU _ (by omega) (by omega))) (wrap_u (hU _ (by omega) (by omega))) (mask_u64 _ (hU _ (by omega) (by omega))) rfl
  (by rw [g10];exact wrap_u (hU _ (by omega) (by omega))) (wrap_u (hU _ (by omega) (by omega))) (wrap_u (hU _ (by omega) (by omega))) (mask_u64 _ (hU _ (by omega) (by omega))) rfl
  (by rw [g11];exact wrap_u (hU _ (by omega) (by omega))) (wrap_u (hU _ (by omega) (by omega))) (wrap_u (hU _ (by omega) (by omega))) (mask_u64 _ (hU _ (by omega) (by omega))) rfl
  (wrap_u (hU _ (by omega) (by omega))) (by rw [or_u64 _ _ (by omega) (by omega) (by omega) (by omega)];unfold hiW;omega) (wrap_u (hU _ (by omega) (by omega))) (by rw [or_u64 _ _ (by omega) (by omega) (by omega) (by omega)];unfold loW;omega)
 exact H
theorem add64_run (x y c:Int)(w:World)(hx:U x)(hy:U y)(hc0:0≤c)(hc:c≤1) :
  (callFunc 215 #[.int .u64 x,.int .u64 y,.int .u64 c]).run Tryz.prog w=.ok (.value (.tuple #[.int .u64 (loW (x+y+c)),.int .u64 (hiW (x+y+c))])) w:=by
 rw [run_callFunc_extern (e:=add64Entry) Tryz.func215 (by kernel_rfl) (by kernel_rfl) (by kernel_rfl) (by kernel_rfl),run_add64 x y c hx.1 hy.1 hc0 hc]
 rfl
theorem carry {b d:Int} (hb:U b)(hd:U d):0≤hiW (b+d)∧hiW (b+d)≤1:=by unfold U at hb hd;unfold hiW;omega
theorem plus_any (a b c d:Int)(w:World)(ha:U a)(hb:U b)(hc:U c)(hd:U d)(hs:num a b+num c d < 340282366920938463463374607431768211456) :
  Calls Tryz.prog 210 #[.agg #[.int .u64 a,.int .u64 b],.agg #[.int .u64 c,.int .u64 d]] w fun e w'=>e=.returned (.tuple #[.agg #[.int .u64 (hiW (num a b+num c d)),.int .u64 (loW (num a b+num c d))],.int .i64 0])∧Below w.heap.size w w':=by
 have h1:∀ W,(callFunc 215 #[.int .u64 b,.int .u64 d,.int .u64 0]).run Tryz.prog W=.ok (.value (.tuple #[.int .u64 (loW (b+d)),.int .u64 (hiW (b+d))])) W:=fun W=>by
  have h:=add64_run b d 0 W hb hd (by decide) (by decide)
  rwa [Int.add_zero] at h
 have h2:=fun W=>add64_run a c (hiW (b+d)) W ha hc (carry hb hd).1 (carry hb hd).2
 have hz:hiW (a+c+hiW (b+d))=0:=by
  unfold U at ha hb hc hd;unfold num at hs;unfold hiW;omega
 have E1:Hid (loW (a+c+hiW (b+d))=hiW (num a b+num c d)):=by
  show _=_;unfold U at ha hb hc hd;unfold num hiW loW;unfold num at hs;omega
 have E2:Hid (loW (b+d)=loW (num a b+num c d)):=by
  show _=_;unfold loW num;omega
 clear hs
 go_enter Tryz.func210,Tryz.ntmps210
 go_wp2
 go_returns
 rw [E1.out,E2.out]
 exact⟨rfl,by go_grown⟩
end
section
open Go.RowKit
theorem stopped_yes (n:Int)(w:World) :
  Calls Tryz.prog 261 #[.int .u64 n,.bool true] w fun e w'=>e=.returned (.int .u64 4611686018427387904)∧w=w':=by
 go_enter Tryz.func261,Tryz.ntmps261
 go_wp2
 go_ret
 exact⟨rfl,rfl⟩
theorem stopped_no (n:Int)(w:World) :
  Calls Tryz.prog 261 #[.int .u64 n,.bool false] w fun e w'=>e=.returned (.int .u64 (cap n))∧w=w':=by
 by_cases h:4611686018427387904 < n
 ·have E:=cap_of_ge (n:=n) (by omega)
  have H:=Lib.hid E;clear E
  go_enter Tryz.func261,Tryz.ntmps261
  go_wp2
  go_ret
  exact⟨ret_int H.out.symm,rfl⟩
 ·have E:=cap_of_le (n:=n) (by omega)
  have H:=Lib.hid E;clear E
  go_enter Tryz.func261,Tryz.ntmps261
  go_wp2
  go_ret
  exact⟨ret_int H.out.symm,rfl⟩
theorem rplus_any (a b:Int)(w:World)(ha:U a)(hb:U b) :
  Calls Tryz.prog 257 #[.int .u64 a,.int .u64 b] w fun e w'=>e=.returned (.int .u64 (cap (a+b)))∧w=w':=by
 have hw:IntKind.u64.wrap (a+b)=if a+b≤18446744073709551615 then a+b else a+b - 18446744073709551616:=by
  unfold U at ha hb;rw [IntKind.wrap_u64];omega
 by_cases h:a+b≤18446744073709551615
 ·rw [if_pos h] at hw
  have hlt:decide (a+b < a)=false:=by unfold U at ha hb;simp;omega
  clear h
  go_enter Tryz.func257,Tryz.ntmps257
  go_wp2_with (go_at_call 261;refine (stopped_no _ _).mono ?_;rintro e w' ⟨rfl,rfl⟩)
  go_ret
  exact⟨rfl,rfl⟩
 ·rw [if_neg h] at hw
  have hlt:decide (a+b - 18446744073709551616 < a)=true:=by unfold U at ha hb;simp;omega
  have hc:=cap_of_ge (n:=a+b) (by omega)
  rw [hc]
  clear h hc
  generalize a+b - 18446744073709551616=x at *
  go_enter Tryz.func257,Tryz.ntmps257
  go_wp2_with (go_at_call 261;refine (stopped_yes _ _).mono ?_;rintro e w' ⟨rfl,rfl⟩)
  go_ret
  exact⟨rfl,rfl⟩
theorem minus_any (a b:Int)(w:World)(ha:U a)(hb:U b) :
  Calls Tryz.prog 280 #[.int .u64 a,.int .u64 b] w fun e w'=>e=.returned (.int .u64 (less a b))∧w=w':=by
 unfold U at ha hb
 by_cases h:a < b
 ·have hl:less a b=0:=by simp [less,h]
  rw [hl];clear hl
  go_enter Tryz.func280,Tryz.ntmps280
  go_wp2
  go_ret
  exact⟨rfl,rfl⟩
 ·have hl:less a b=cap (a - b):=by simp [less,h]
  rw [hl];clear hl
  go_enter Tryz.func280,Tryz.ntmps280
  go_wp2_with (go_at_call 261;refine (stopped_no _ _).mono ?_;rintro e w' ⟨rfl,rfl⟩)
  go_ret
  exact⟨rfl,rfl⟩
theorem times_any (a b:Int)(w:World)(ha:U a)(hb:U b) :
  Calls Tryz.prog 260 #[.int .u64 a,.int .u64 b] w fun e w'=>e=.returned (.int .u64 (cap (a*b)))∧Below w.heap.size w w':=by
 by_cases h:U (a*b)
 ·have h1:=hi_small h
  have h2:=lo_small h
  clear h
  go_enter Tryz.func260,Tryz.ntmps260
  go_wp2_with (first
   | (go_at_call 201;refine (mul_any _ _ _ ha hb).mono ?_;rintro e w1 ⟨rfl,hb1⟩)
   | (go_at_call 261;refine (stopped_no _ _).mono ?_;rintro e w' ⟨rfl,rfl⟩))
  go_ret
  exact⟨rfl,hb1.alloc hb1.size _⟩
 ·have h1:0 < hiW (a*b):=by
   have:=Int.mul_nonneg ha.1 hb.1
   unfold U at h;unfold hiW;omega
  have h2:=cap_of_ge (n:=a*b) (by have:=Int.mul_nonneg ha.1 hb.1;unfold U at h;omega)
  rw [h2]
  clear h h2
  go_enter Tryz.func260,Tryz.ntmps260
  go_wp2_with (first
   | (go_at_call 201;refine (mul_any _ _ _ ha hb).mono ?_;rintro e w1 ⟨rfl,hb1⟩)
   | (go_at_call 261;refine (stopped_yes _ _).mono ?_;rintro e w' ⟨rfl,rfl⟩))
  go_ret
  exact⟨rfl,hb1.alloc hb1.size _⟩
end
section
open Go.RowKit
theorem div64_word (lo y:Int)(w:World)(hy:1≤y)(hy':U y)(hlo:U lo) :
  Calls Tryz.prog 265 #[.int .u64 0,.int .u64 lo,.int .u64 y] w fun e w'=>e=.returned (.tuple #[.int .u64 (lo / y),.int .u64 (lo % y)])∧Below w.heap.size w w':=by
 unfold U at hlo hy'
 obtain⟨h0,h1⟩:=hlo
 have hy0:(y == 0)=false:=by simp;omega
 have hyp:(0:Int) < y:=by omega
 go_enter Tryz.func265,Tryz.ntmps265
 go_wp2
 go_quiet (fail)
 go_wp2
 go_ret2
 exact⟨rfl,below_drewN (Below.refl _ _) _⟩
theorem div_none (h l:Int)(w:World) :
  Calls Tryz.prog 264 #[.agg #[.int .u64 h,.int .u64 l],.int .u64 0] w fun e w'=>e=.returned (.tuple #[.int .u64 0,.int .u64 0,.int .i64 2])∧Below w.heap.size w w':=by
 go_enter Tryz.func264,Tryz.ntmps264
 go_wp2
 go_ret3
 exact⟨rfl,by go_grown⟩
theorem div_word (l y:Int)(w:World)(hy:1≤y)(hy':U y)(hlo:U l) :
  Calls Tryz.prog 264 #[.agg #[.int .u64 0,.int .u64 l],.int .u64 y] w fun e w'=>e=.returned (.tuple #[.int .u64 (l / y),.int .u64 (l % y),.int .i64 0])∧Below w.heap.size w w':=by
 have hy0:(y == 0)=false:=by simp;omega
 go_enter Tryz.func264,Tryz.ntmps264
 go_wp2_with (go_at_call 265;refine (div64_word _ _ _ hy hy' hlo).mono ?_;rintro e w1 ⟨rfl,hb1⟩)
 go_ret3
 exact⟨rfl,((Below.refl _ _).alloc (Nat.le_refl _) _).trans (hb1.mono (by simp))⟩
theorem more_any (r:Int)(w:World)(hr:0≤r) :
  Calls Tryz.prog 262 #[.int .u64 r] w fun e w'=>e=.returned (.int .u64 (few r))∧w=w':=by
 by_cases h:1 < r
 ·have E:=Lib.hid (show few r=1 by simp [few,h])
  go_enter Tryz.func262,Tryz.ntmps262
  go_wp2
  go_ret
  exact⟨ret_int E.out.symm,rfl⟩
 ·have E:=Lib.hid (show few r=r by simp [few,h])
  go_enter Tryz.func262,Tryz.ntmps262
  go_wp2
  all_goals go_ret
  all_goals exact⟨ret_int (by rw [E.out];try omega),rfl⟩
theorem of_none (a b:Int)(w:World)(ha:U a)(hb:U b) :
  Calls Tryz.prog 263 #[.agg #[.func (.func 262) #[] #[]],.int .u64 a,.int .u64 b,.int .u64 0] w fun e w'=>e=.returned (.tuple #[.int .u64 0,.int .i64 2])∧Below w.heap.size w w':=by
 go_enter Tryz.func263,Tryz.ntmps263
 go_wp2_with (first
  | (go_at_call 201;refine (mul_any _ _ _ ha hb).mono ?_;rintro e w1 ⟨rfl,hb1⟩;obtain⟨hc1,hf1⟩:=bcell hb1;have hz1:w.heap.size < w1.heap.size:=(by have:=hb1.size;simp at this;omega);simp only [World.size_alloc] at hc1 hf1)
  | (go_at_call 264;refine (div_none _ _ _).mono ?_;rintro e w2 ⟨rfl,hb2⟩;obtain⟨hc2,hf2⟩:=bcell hb2;have hz2:=hb2.size))
 go_ret2
 exact⟨rfl,((Below.refl _ _).alloc (Nat.le_refl _) _).trans ((hb1.mono (by simp)).trans (hb2.mono (by omega)))⟩
theorem of_word (a c:Int)(w:World)(ha:U a)(hc:1≤c)(hc':U c) :
  Calls Tryz.prog 263 #[.agg #[.func (.func 262) #[] #[]],.int .u64 a,.int .u64 1,.int .u64 c] w fun e w'=>e=.returned (.tuple #[.int .u64 (cap (ceil a c)),.int .i64 0])∧Below w.heap.size w w':=by
 have h1:=hi_small ha
 have h2:=lo_small ha
 have h3:U (1:Int):=⟨by decide,by decide⟩
 go_enter Tryz.func263,Tryz.ntmps263
 go_wp2_with (first
  | (go_at_call 201;refine (mul_any _ _ _ ha h3).mono ?_;rintro e w1 ⟨rfl,hb1⟩;obtain⟨hc1,hf1⟩:=bcell hb1;have hz1:w.heap.size < w1.heap.size:=(by have:=hb1.size;simp at this;omega);simp only [World.size_alloc] at hc1 hf1)
  | (go_at_call 264;refine (div_word _ _ _ hc hc' ha).mono ?_;rintro e w2 ⟨rfl,hb2⟩;obtain⟨hc2,hf2⟩:=bcell hb2;have hz2:=hb2.size)
  | (go_at_call 262;refine (more_any _ _ (Int.emod_nonneg _ (by omega))).mono ?_;rintro e w3 ⟨rfl,rfl⟩)
  | (go_at_call 257;refine (rplus_any _ _ _ (div_U ha hc) (U_few (Int.emod_nonneg _ (by omega)))).mono ?_;rintro e w4 ⟨rfl,rfl⟩))
 go_ret2
 rw [ceil_eq hc]
 exact⟨rfl,((Below.refl _ _).alloc (Nat.le_refl _) _).trans ((hb1.mono (by simp)).trans (hb2.mono (by omega)))⟩
theorem up_none (a b:Int)(w:World)(ha:U a)(hb:U b) :
  Calls Tryz.prog 259 #[.int .u64 a,.int .u64 b,.int .u64 0] w fun e w'=>e=.returned (.tuple #[.int .u64 0,.int .i64 2])∧Below w.heap.size w w':=by
 go_enter Tryz.func259,Tryz.ntmps259
 go_wp2_with (go_at_call 263;refine (of_none _ _ _ ha hb).mono ?_;rintro e w1 ⟨rfl,hb1⟩)
 go_ret2
 exact⟨rfl,hb1⟩
theorem up_word (a c:Int)(w:World)(ha:U a)(hc:1≤c)(hc':U c) :
  Calls Tryz.prog 259 #[.int .u64 a,.int .u64 1,.int .u64 c] w fun e w'=>e=.returned (.tuple #[.int .u64 (cap (ceil a c)),.int .i64 0])∧Below w.heap.size w w':=by
 go_enter Tryz.func259,Tryz.ntmps259
 go_wp2_with (go_at_call 263;refine (of_word _ _ _ ha hc hc').mono ?_;rintro e w1 ⟨rfl,hb1⟩)
 go_ret2
 exact⟨rfl,hb1⟩
end
section
open Go.RowKit
def quietUponR (P:Program)(W:World)(v:Value):Result Next→Prop
 | .ok (.value u) W'=>W'=W∧u=v
 | .ok .skip W'=>W'=W∧v=undef
 | .ok (.enter f args) W'=>W'=W∧Calls P f args W (fun e W''=>e=.returned v∧Below W.heap.size W W'')
 | _=>False
def quietAtR (P:Program)(o:Oper)(a:Act)(W:World)(v:Value):Prop:=quietUponR P W v ((execOp a.eval o).run P W)
def quietR (P:Program)(o:Oper)(a:Act)(w:World)(K:Act→Prop):Prop:=∃ v,(∀ e,quietAtR P o a (over w e) v)∧K (a.put o.dst v)
def wpQuietR (P:Program)(ops:Array Oper)(w:World)(Q:Act→Prop):List Oper→Act→Prop
 | [],a=>Q a
 | o :: rest,a=>if Region.wanted o (yielded ops a.tmps) then quietR P o a w (wpQuietR P ops w Q rest) else wpQuietR P ops w Q rest (a.put o.dst undef)
section
variable {P : Program} {ops : Array Oper} {md : Region.Mode} {w : World}
theorem wpQuietR_nil {Q:Act→Prop} {a:Act} (h:Q a):wpQuietR P ops w Q [] a:=h
theorem wpQuietR_step {Q:Act→Prop} {a:Act} {o:Oper} {rest:List Oper}
  (h:∀ K:Act→Prop,(∀ a,wpQuietR P ops w Q rest a→K a)→if Region.wanted o (yielded ops a.tmps) then quietR P o a w K else K (a.put o.dst undef)):wpQuietR P ops w Q (o :: rest) a :=
 h _ (fun _ h=>h)
def qOpR (P:Program)(ops:Array Oper)(w:World)(i:Nat)(K:Act→Prop)(a:Act):Prop :=
 match ops[i]? with
 | none=>K a
 | some o=>if Region.wanted o (yielded ops a.tmps) then quietR P o a w K else K (a.put o.dst undef)
theorem qOpR_mono {i:Nat} {a:Act} {K K':Act→Prop} (h:∀ a,K a→K' a)(hh:qOpR P ops w i K a):qOpR P ops w i K' a:=by
 unfold qOpR at *
 split
 ·exact h _ (by simpa [*] using hh)
 ·rename_i o ho
  simp only [ho] at hh
  split
  ·rename_i hw;simp only [hw,if_true] at hh;obtain⟨v,h1,h2⟩:=hh;exact⟨v,h1,h _ h2⟩
  ·rename_i hw;simp only [hw] at hh;exact h _ hh
def YieldsR (P:Program)(ops:Array Oper)(w:World)(o:Oper)(v:Value)(a:Act):Prop :=
 (Region.wanted o (yielded ops a.tmps)=true∧∀ e,quietAtR P o a (over w e) v)∨(Region.wanted o (yielded ops a.tmps)=false∧v=undef)
theorem YieldsR.qOpR {i:Nat} {o:Oper} {v:Value} {a:Act} (hi:ops[i]?=some o)(hy:YieldsR P ops w o v a) {K:Act→Prop} (h:K (a.put o.dst v)):qOpR P ops w i K a:=by
 unfold Proofs.YtmmeopjemkjllaaGreat.qOpR
 simp only [hi]
 rcases hy with ⟨hw,hv⟩ | ⟨hw,rfl⟩
 ·simp only [hw,if_true];exact⟨v,hv,h⟩
 ·simp only [hw,Bool.false_eq_true,if_false];exact h
theorem yieldsR_of_qOpR {i:Nat} {o:Oper} {a:Act} {K:Act→Prop} (hi:ops[i]?=some o)(h:qOpR P ops w i K a):∃ v,YieldsR P ops w o v a∧K (a.put o.dst v):=by
 unfold qOpR at h
 simp only [hi] at h
 by_cases hw:Region.wanted o (yielded ops a.tmps)=true
 ·simp only [hw,if_true] at h
  obtain⟨v,h1,h2⟩:=h
  exact⟨v,.inl ⟨hw,h1⟩,h2⟩
 ·simp only [hw] at h
  exact⟨undef,.inr ⟨by simpa using hw,rfl⟩,h⟩
theorem YieldsR.put {o:Oper} {v u:Value} {a:Act} {dst:Option Tmp} (hs:∀ cs b,o.op≠.select cs b)(hy:YieldsR P ops w o v a)(h:∀ d,dst=some d→d ∉ o.looksAt ops):YieldsR P ops w o v (a.put dst u):=by
 unfold YieldsR quietAtR at *
 rw [execOp_put o hs a dst u h,wanted_put o a dst u h]
 exact hy
theorem qOpR_put {j:Nat} {oi oj:Oper} {v:Value} (hj:ops[j]?=some oj)(hap:oi.apart ops oj=true)
  (hsi:∀ cs b,oi.op≠.select cs b) (hsj:∀ cs b,oj.op≠.select cs b) {K:Act→Prop} {a:Act}
  (hy:YieldsR P ops w oi v a) (h:qOpR P ops w j K (a.put oi.dst v)) :
  qOpR P ops w j (fun a'=>YieldsR P ops w oi v a'∧K (a'.put oi.dst v)) a:=by
 obtain⟨h1,h2,h3⟩:=Oper.apart_spec hap
 obtain⟨u,hu,hK⟩:=yieldsR_of_qOpR hj h
 refine YieldsR.qOpR (v:=u) hj ?_ ⟨hy.put hsi h3,?_⟩
 ·unfold YieldsR quietAtR at *
  rw [execOp_put oj hsj a oi.dst v h1,wanted_put oj a oi.dst v h1] at hu
  exact hu
 ·rw [← Act.put_comm a v u h2];exact hK
theorem qOpR_any {j:Nat} {oi oj:Oper} {x:Value} (hj:ops[j]?=some oj)(hap:oi.apart ops oj=true)(hsj:∀ cs b,oj.op≠.select cs b) {K K':Act→Prop} {a:Act}
  (hK:∀ a',K a'→K' (a'.put oi.dst x)) (h:qOpR P ops w j K a):qOpR P ops w j K' (a.put oi.dst x):=by
 obtain⟨h1,h2,h3⟩:=Oper.apart_spec hap
 obtain⟨u,hu,hk⟩:=yieldsR_of_qOpR hj h
 refine YieldsR.qOpR hj (hu.put hsj h1) ?_
 rw [Act.put_comm a x u h2]
 exact hK _ hk
def GQ (P:Program)(md:Region.Mode)(ops:Array Oper)(w:World)(m:Nat)(Lq:Act→Prop):Nat→Array Bool→Act→Prop
 | 0,listed,a=>(∀ k,k < m→listed.getD k false=true)∧Lq a
 | f+1,listed,a=>(∃ j,j∈Region.ready md ops listed∧j < m)∧∀ i∈Region.ready md ops listed,i < m→qOpR P ops w i (GQ P md ops w m Lq f (listed.setIfInBounds i true)) a
theorem GQ_take {m i:Nat} {oi:Oper} {v:Value} {Lq:Act→Prop} (hi:ops[i]?=some oi)(hsel:∀ (j:Nat)(o:Oper) cs b,ops[j]?=some o→o.op≠.select cs b)(him:i < m) :
  ∀ (f:Nat) (listed:Array Bool) (a:Act),
   (∀ j oj,ops[j]?=some oj→j≠i→listed.getD j true=false→(∀ e∈oj.after,Region.binds md e=true→e.on≠i)→oi.apart ops oj=true) →
   i∈Region.ready md ops listed→YieldsR P ops w oi v a →
   GQ P md ops w m Lq f (listed.setIfInBounds i true) (a.put oi.dst v)→GQ P md ops w m Lq (f+1) listed a:=by
 intro f
 induction f with
 | zero =>
  intro listed a _ hr hy H
  refine⟨⟨i,hr,him⟩,fun j hj hjm=>?_⟩
  by_cases hji:j=i
  ·subst hji;exact hy.qOpR hi H
  ·have h1:=H.1 j hjm
   rw [getD_set_ne false (Ne.symm hji)] at h1
   have h2:=getD_both (mem_ready.1 hj).1
   rw [h1] at h2;cases h2
 | succ f ih =>
  intro listed a hfree hr hy H
  have hun:=(mem_ready.1 hr).1
  refine⟨⟨i,hr,him⟩,fun j hj hjm=>?_⟩
  by_cases hji:j=i
  ·subst hji;exact hy.qOpR hi H
  ·have h1:=H.2 j (ready_mono hj hji) hjm
   obtain⟨hjun,oj,hoj,hall⟩:=mem_ready.1 hj
   have hnot:∀ e∈oj.after,Region.binds md e=true→e.on≠i:=fun e he hb heq=>by
    have h3:=hall e he hb
    rw [heq,getD_both hun] at h3
    cases h3
   have h2:=qOpR_put hoj (hfree j oj hoj hji hjun hnot) (fun cs b=>hsel i oi cs b hi) (fun cs b=>hsel j oj cs b hoj) hy h1
   refine qOpR_mono (fun a' h3=>ih (listed.setIfInBounds j true) a' (fun k ok hk hki hun' hno=>?_) (ready_mono hr (Ne.symm hji)) h3.1 ?_) h2
   ·refine hfree k ok hk hki ?_ hno
    by_cases hjk:j=k
    ·subst hjk;exact hjun
    ·rw [getD_set_ne true hjk] at hun';exact hun'
   ·rw [Array.setIfInBounds_comm _ _ hji]
    exact h3.2
def lexQ (md:Region.Mode)(ops:Array Oper):Nat→Nat→Array Bool→Bool
 | 0,_,_=>true
 | f+1,k,listed=>(Region.ready md ops listed).contains k && Region.free md ops listed k && lexQ md ops f (k+1) (listed.setIfInBounds k true)
theorem GQ_lex {m:Nat} {Lq:Act→Prop} (hsel:Region.noSelect ops=true)(hm:m≤ops.size) :
  ∀ (l:List Oper) (k:Nat) (listed:Array Bool) (a:Act),(∀ j,j < l.length→l[j]?=ops[k+j]?)→k+l.length=m→listed.size=ops.size→(∀ j,j < k→listed.getD j false=true) →
  lexQ md ops l.length k listed=true→wpQuietR P ops w Lq l a→GQ P md ops w m Lq l.length listed a
 | [],k,listed,a,_,hk,_,hdone,hB,h=>by
  obtain rfl:k=m:=by simpa using hk
  exact⟨hdone,h⟩
 | o :: l,k,listed,a,hl,hk,hsz,hdone,hB,h=>by
  have h0:ops[k]?=some o:=by simpa using (hl 0 (by simp)).symm
  simp only [List.length_cons,lexQ,Bool.and_eq_true] at hB
  obtain⟨⟨hr,hf⟩,hB'⟩:=hB
  have hkm:k < m:=by simp only [List.length_cons] at hk;omega
  have hr':k∈Region.ready md ops listed:=by simpa using hr
  have hst:qOpR P ops w k (wpQuietR P ops w Lq l) a:=by unfold qOpR;simp only [h0];exact h
  obtain⟨v,hy,hK⟩:=yieldsR_of_qOpR h0 hst
  refine GQ_take h0 (Region.noSelect_spec hsel) hkm l.length listed a (Region.free_spec h0 hf) hr' hy
   (GQ_lex hsel hm l (k+1) _ _ (fun j hj=>by have:=hl (j+1) (by simp;omega);simpa [Nat.add_assoc,Nat.add_comm 1 j] using this) (by simp only [List.length_cons] at hk;omega) (by simpa using hsz) (fun j hj=>?_) hB' hK)
  by_cases hjk:j=k
  ·subst hjk;simp [hsz,show j < ops.size by omega]
  ·rw [getD_set_ne false (Ne.symm hjk)];exact hdone j (by omega)
theorem put_put (a:Act)(d:Tmp)(x y:Value):(a.put (some d) x).put (some d) y=a.put (some d) y:=by
 simp [Act.put,Array.setIfInBounds_setIfInBounds]
theorem GQ_put {m:Nat} {oa:Oper} {Lq:Act→Prop} {x:Value} (hsel:∀ (j:Nat)(o:Oper) cs b,ops[j]?=some o→o.op≠.select cs b)
  (hap:∀ j oj,j < m→ops[j]?=some oj→oa.apart ops oj=true) (hL:∀ a,Lq a→Lq (a.put oa.dst x)) :
  ∀ (f:Nat) (listed:Array Bool) (a:Act),GQ P md ops w m Lq f listed a→GQ P md ops w m Lq f listed (a.put oa.dst x)
 | 0,_,a,h=>⟨h.1,hL a h.2⟩
 | f+1,listed,a,h=>⟨h.1,fun i hi him=>by
   obtain⟨_,oi,hoi,_⟩:=mem_ready.1 hi
   exact qOpR_any hoi (hap i oi him hoi) (fun cs b=>hsel i oi cs b hoi) (fun a' h'=>GQ_put hsel hap hL f _ a' h') (h.2 i hi him)⟩
def Agree (m:Nat)(l l':Array Bool):Prop:=l.size=l'.size∧∀ k,k < m→l.getD k false=l'.getD k false
theorem getD_tf {l:Array Bool} {k:Nat} (h:k < l.size):l.getD k true=l.getD k false:=by simp [h]
theorem Agree.set {m:Nat} {l l':Array Bool} (h:Agree m l l')(i:Nat):Agree m (l.setIfInBounds i true) (l'.setIfInBounds i true):=by
 refine⟨by simpa using h.1,fun k hk=>?_⟩
 by_cases hik:i=k
 ·subst hik
  by_cases hs:i < l.size
  ·simp [hs,h.1 ▸ hs]
  ·simp [hs,h.1 ▸ hs]
 ·rw [getD_set_ne false hik,getD_set_ne false hik];exact h.2 k hk
theorem Agree.set_other {m:Nat} {l l':Array Bool} (h:Agree m l l')(i:Nat)(hi:m≤i):Agree m (l.setIfInBounds i true) l' :=
 ⟨by simpa using h.1,fun k hk=>by rw [getD_set_ne false (by omega)];exact h.2 k hk⟩
theorem Agree.ready {m i:Nat} {l l':Array Bool} (h:Agree m l l')(hsz:l.size=ops.size)(hm:m≤ops.size)(him:i < m)
  (hq:∀ j oj,j < m→ops[j]?=some oj→∀ e∈oj.after,Region.binds md e=true→e.on < m) (hi:i∈Region.ready md ops l):i∈Region.ready md ops l':=by
 obtain⟨h1,oi,hoi,h2⟩:=mem_ready.1 hi
 have hs:i < l.size:=by omega
 refine mem_ready.2 ⟨?_,oi,hoi,fun e he hb=>?_⟩
 ·rw [getD_tf (by rw [← h.1];exact hs),← h.2 i him,← getD_tf hs];exact h1
 ·rw [← h.2 _ (hq i oi him hoi e he hb)];exact h2 e he hb
theorem Agree.symm {m:Nat} {l l':Array Bool} (h:Agree m l l'):Agree m l' l:=⟨h.1.symm,fun k hk=>(h.2 k hk).symm⟩
theorem wp_of_quietR {o:Oper} {a:Act} {K:Act→Prop} {K':Act→World→Prop} {Q':Exit→Act→World→Prop} {W:World} (hW:Below w.heap.size w W)(h:∀ a W',Below W.heap.size W W'→K a→K' a W')(hh:quietR P o a w K):o.wp P a W K' Q':=by
 obtain⟨v,h1,h2⟩:=hh
 have h3:=h1 W
 rw [← eq_over hW] at h3
 unfold quietAtR at h3
 unfold Oper.wp
 generalize (execOp a.eval o).run P W=r at *
 cases r with
 | ok n w' =>
  cases n <;> simp only [quietUponR] at h3 <;> simp only [Oper.upon]
  case value u =>
   obtain⟨e1,e2⟩:=h3
   rw [e1,e2]
   exact h _ _ (Below.refl _ _) h2
  case skip =>
   obtain⟨e1,e2⟩:=h3
   rw [e1,← e2]
   exact h _ _ (Below.refl _ _) h2
  case enter f args =>
   obtain⟨e1,hc⟩:=h3
   rw [e1]
   exact hc.mono fun e w'' ⟨he,hw''⟩=>by subst he;exact h _ _ hw'' h2
 | halt x w'=>simp only [quietUponR] at h3
theorem wpOp_of_qOpR {i:Nat} {a:Act} {K:Act→Prop} {K':Act→World→Prop} {Q':Exit→Act→World→Prop} {W:World} (hW:Below w.heap.size w W)(h:∀ a W',Below W.heap.size W W'→K a→K' a W')(hh:qOpR P ops w i K a):wpOp P ops Q' i K' a W:=by
 unfold qOpR at hh
 unfold wpOp
 split
 ·rename_i ho;simp only [ho] at hh;exact h _ _ (Below.refl _ _) hh
 ·rename_i o ho
  simp only [ho] at hh
  split
  ·rename_i hw;simp only [hw,if_true] at hh;exact .inl (wp_of_quietR hW h hh)
  ·rename_i hw;simp only [hw] at hh;exact h _ _ (Below.refl _ _) hh
def plainUpon (o:Oper)(a:Act)(K:Act→World→Prop):Result Next→Prop
 | .ok (.value v) W'=>K (a.put o.dst v) W'
 | .ok .skip W'=>K (a.put o.dst undef) W'
 | _=>False
def plain (P:Program)(o:Oper)(a:Act)(W:World)(K:Act→World→Prop):Prop:=plainUpon o a K ((execOp a.eval o).run P W)
theorem wp_of_plain {o:Oper} {a:Act} {W:World} {K:Act→World→Prop} {Q:Exit→Act→World→Prop} (h:plain P o a W K):o.wp P a W K Q:=by
 unfold plain at h
 unfold Oper.wp
 generalize (execOp a.eval o).run P W=r at *
 cases r with
 | ok n w'=>cases n <;> simp only [plainUpon] at h <;> exact h
 | halt x w'=>simp only [plainUpon] at h
theorem plain_mono {o:Oper} {a:Act} {W:World} {K K':Act→World→Prop} (hk:∀ a w,K a w→K' a w)(h:plain P o a W K):plain P o a W K':=by
 unfold plain at *
 generalize (execOp a.eval o).run P W=r at *
 cases r with
 | ok n w'=>cases n <;> simp only [plainUpon] at h ⊢ <;> first | exact hk _ _ h | exact h
 | halt x w'=>simp only [plainUpon] at h
structure AllocAt (P:Program)(md:Region.Mode)(ops:Array Oper)(m:Nat)(oa op os:Oper)(d:Tmp)(obj:Obj):Prop where
 sel:Region.noSelect ops=true
 lt:m+1 < ops.size
 pos:1≤m
 at_:ops[m]?=some oa
 atP:ops[m - 1]?=some op
 atS:ops[m+1]?=some os
 dst:oa.dst=some d
 free:oa.after=#[]
 guard:oa.guard=none
 guardP:op.guard=none
 guardS:os.guard=none
 dstS:os.dst=none
 apartP:∀ e,op.dst=some e→e ∉ os.looksAt ops
 takes:∃ x k,op.op=.extract x k
 runs:∀ (a:Act) (W:World),(execOp a.eval oa).run P W=.ok (.value (.pointer (some ⟨W.heap.size,0,none⟩))) (W.alloc obj)
 quiet:∀ j oj,j < m→ops[j]?=some oj→∀ e∈oj.after,Region.binds md e=true→e.on < m
 apart:∀ j oj,j < m→ops[j]?=some oj→oa.apart ops oj=true
 sink:∀ i,i < m+1→i≠m - 1→∃ j,i < j∧j≤m+1∧j≠m - 1∧Region.waitsFor md ops j i=true
 chain:Region.chainB md ops (m+1)=true
 late:m+1+1 < ops.size→Region.waitsFor md ops (m+1+1) (m - 1)=true
 more:m+1+1 < ops.size
 seq:Region.seqB md ops (ops.size - (m+1)) (m+1) (Array.ofFn fun i:Fin ops.size=>decide (i.val < m+1))=true
theorem waits_listed {n j i:Nat} {listed:Array Bool} (inv:HeadInv md ops n listed)(h:Region.waitsFor md ops j i=true)(hj:listed.getD j false=true∨j∈Region.ready md ops listed):listed.getD i false=true:=by
 obtain⟨oj,hoj,e,he,hb,hon⟩:=Region.waitsFor_spec h
 rcases hj with hj | hj
 ·rw [← hon]
  exact inv.closed j oj hoj hj e he hb
 ·obtain⟨_,o',ho',hall⟩:=mem_ready.1 hj
  have:o'=oj:=Option.some.inj (ho'.symm.trans hoj)
  subst this
  rw [← hon];exact hall e he hb
theorem tail_ready {m:Nat} {oa op os:Oper} {d:Tmp} {obj:Obj} (A:AllocAt P md ops m oa op os d obj) {listed:Array Bool} (inv:HeadInv md ops (m+1) listed) {j:Nat} (hj:j∈Region.ready md ops listed)(hm:m+1≤j) :
  j=m+1∧∀ i,i < m+1→i≠m - 1→listed.getD i false=true:=by
 obtain⟨hun,oj,hoj,_⟩:=mem_ready.1 hj
 have hjs:j < ops.size:=(Array.getElem?_eq_some_iff.1 hoj).1
 have h1:j=m+1:=by
  by_cases h:j=m+1
  ·exact h
  ·exfalso
   have hc:=List.all_eq_true.1 A.chain j (List.mem_range.2 hjs)
   simp only [Bool.or_eq_true,decide_eq_true_eq] at hc
   have hw:=hc.resolve_left (by omega)
   have h2:=waits_listed inv hw (.inr hj)
   rw [getD_both (inv.tail (j - 1) (by omega) (by omega))] at h2
   cases h2
 refine⟨h1,?_⟩
 subst h1
 suffices H:∀ k i,m+1 - i≤k→i < m+1→i≠m - 1→listed.getD i false=true from fun i hi hne=>H _ i (Nat.le_refl _) hi hne
 intro k
 induction k with
 | zero=>intro i h1 h2 _;omega
 | succ k ih =>
  intro i hk hi hne
  obtain⟨j,hij,hjm,hjne,hw⟩:=A.sink i hi hne
  by_cases hjm':j=m+1
  ·subst hjm';exact waits_listed inv hw (.inr hj)
  ·exact waits_listed inv hw (.inl (ih j (by omega) (by omega) hjne))
theorem canon {m n:Nat} {listed:Array Bool} (hsz:listed.size=n)(h1:∀ k,k < m→listed.getD k false=true)(h2:∀ t,m≤t→t < n→listed.getD t true=false) :
  listed=Array.ofFn fun i:Fin n=>decide (i.val < m):=by
 apply Array.ext
 ·simp [hsz]
 ·intro i hi hi'
  simp only [Array.getElem_ofFn]
  by_cases h:i < m
  ·have:=h1 i h;simp [hi] at this;simp [this,h]
  ·have:=h2 i (by omega) (by omega);simp [hi] at this;simp [this,h]
def TailOk (P:Program)(ops:Array Oper)(m:Nat)(os:Oper)(d:Tmp)(obj:Obj)(w:World)(Q:Exit→Act→World→Prop)(a:Act):Prop :=
 ∀ B W',w.heap.size≤B→Below w.heap.size w W'→W'.heap[B]?=some obj →
  plain P os (a.put (some d) (.pointer (some ⟨B,0,none⟩))) W' fun a' W''=>Below w.heap.size w W''∧wpList P ops Q (ops.toList.drop (m+1+1)) a' W''
theorem extract_value {o:Oper} {a:Act} {W:World} {v:Value} (ht:∃ x k,o.op=.extract x k)(h:quietAtR P o a W v):(execOp a.eval o).run P W=.ok (.value v) W:=by
 obtain⟨x,k,hx⟩:=ht
 unfold quietAtR at h
 generalize hr:(execOp a.eval o).run P W=r at *
 cases r with
 | halt y w'=>simp only [quietUponR] at h
 | ok n w' =>
  cases n <;> simp only [quietUponR] at h
  case value u=>obtain⟨e1,e2⟩:=h;rw [e1,e2]
  case skip=>exfalso;simp only [execOp,hx] at hr;simp at hr;generalize Sem.run P _ W=z at hr;cases z <;> simp [Result.andThen] at hr
  case enter f args=>exfalso;simp only [execOp,hx] at hr;simp at hr;generalize Sem.run P _ W=z at hr;cases z <;> simp [Result.andThen] at hr
theorem phase3 {m:Nat} {oa op os:Oper} {d:Tmp} {obj:Obj} {Q:Exit→Act→World→Prop} (A:AllocAt P md ops m oa op os d obj) {listed:Array Bool} {a:Act} {W:World} {v:Value}
  (hsz:listed.size=ops.size) (hall:∀ i,i < m+1+1→i≠m - 1→listed.getD i false=true) (hp:listed.getD (m - 1) true=false) (hrest:∀ t,m+1+1≤t→t < ops.size→listed.getD t true=false)
  (hr:m - 1∈Region.ready md ops listed) (honly:∀ i∈Region.ready md ops listed,i=m - 1)
  (hy:(execOp a.eval op).run P W=.ok (.value v) W) (hK:wpList P ops Q (ops.toList.drop (m+1+1)) (a.put op.dst v) W) :
  wpAny P md ops Q (1+(ops.size - (m+1+1))) listed a W:=by
 have hpos:=A.pos
 have hmore:=A.more
 rw [show 1+(ops.size - (m+1+1))=(ops.size - (m+1+1))+1 by omega]
 refine⟨fun h0=>(by rw [h0] at hr;cases hr),fun i hi=>?_⟩
 obtain rfl:=honly i hi
 unfold wpOp
 simp only [A.atP]
 rw [if_pos (by simp [Region.wanted,A.guardP])]
 left
 unfold Oper.wp
 rw [hy]
 simp only [Oper.upon]
 have hdl:(ops.toList.drop (m+1+1)).length=ops.size - (m+1+1):=by simp
 rw [← hdl]
 refine wpAny_of_seq (md:=md) _ (m+1+1) _ _ W (fun j=>by simp [List.getElem?_drop]) ?_ hK
 rw [hdl,canon (listed:=listed.setIfInBounds (m - 1) true) (m:=m+1+1) (n:=ops.size) (by simpa using hsz) (fun k hk=>?_) (fun t h1 h2=>by rw [getD_set_ne true (by omega)];exact hrest t h1 h2)]
 ·have h1:=A.seq
  rw [show ops.size - (m+1)=(ops.size - (m+1+1))+1 by omega] at h1
  simp only [Region.seqB,Bool.and_eq_true] at h1
  have h2:=h1.2
  rw [canon (listed:=(Array.ofFn fun i:Fin ops.size=>decide (i.val < m+1)).setIfInBounds (m+1) true) (m:=m+1+1) (n:=ops.size) (by simp) (fun k hk=>?_) (fun t h3 h4=>?_)] at h2
  ·exact h2
  ·by_cases hk':k=m+1
   ·subst hk';simp [show m+1 < ops.size by omega]
   ·rw [getD_set_ne false (by omega)];simp [show k < ops.size by omega];omega
  ·rw [getD_set_ne true (by omega)];simp [h4];omega
 ·by_cases hk':k=m - 1
  ·subst hk';simp [hsz,show m - 1 < ops.size by omega]
  ·rw [getD_set_ne false (by omega)];exact hall k hk hk'
theorem phase2 {m:Nat} {oa op os:Oper} {d:Tmp} {obj:Obj} {Q:Exit→Act→World→Prop} (A:AllocAt P md ops m oa op os d obj)(B:Nat)(hB:w.heap.size≤B) :
  ∀ (f:Nat) (listed lq:Array Bool) (a:Act) (W:World),Agree m listed lq→HeadInv md ops (m+1) listed→listed.getD m false=true→Below w.heap.size w W→W.heap[B]?=some obj →
   a.put (some d) (.pointer (some ⟨B,0,none⟩))=a→GQ P md ops w m (TailOk P ops m os d obj w Q) f lq a→wpAny P md ops Q (f+(ops.size - (m+1))) listed a W
 | 0,listed,lq,a,W,ag,inv,hdm,hW,hO,hp,h=>by
  have hlt:=A.lt
  have hdl:(ops.toList.drop (m+1)).length=ops.size - (m+1):=by simp
  have hall:∀ k,k < m+1→listed.getD k false=true:=fun k hk=>by
   by_cases hkm:k < m
   ·rw [ag.2 k hkm];exact h.1 k hkm
   ·obtain rfl:k=m:=by omega
    exact hdm
  rw [Nat.zero_add,← hdl]
  refine wpAny_of_seq (md:=md) _ (m+1) listed a W (fun j=>by simp [List.getElem?_drop]) ?_ ?_
  ·rw [hdl,canon inv.size hall (fun t h1 h2=>inv.tail t h1 h2)];exact A.seq
  ·have:=h.2 B W hB hW hO
   rw [hp] at this
   have hd:ops.toList.drop (m+1)=os :: ops.toList.drop (m+1+1):=by
    have h1:=A.atS
    rw [← Array.getElem?_toList] at h1
    rw [List.drop_eq_getElem_cons (by simpa using hlt)]
    congr 1
    rw [List.getElem?_eq_getElem (by simpa using hlt)] at h1
    exact Option.some.inj h1
   rw [hd]
   exact wpList_plain A.guardS fun K hK=>wp_of_plain (plain_mono (fun a' w' h'=>hK a' w' h'.2) this)
 | f+1,listed,lq,a,W,ag,inv,hdm,hW,hO,hp,h=>by
  obtain⟨⟨j,hj,hjm⟩,hall⟩:=h
  have hsz:=inv.size
  have hlt:=A.lt
  have hpos:=A.pos
  have hmore:=A.more
  have hj':j∈Region.ready md ops listed:=ag.symm.ready (by rw [← ag.1];exact hsz) (by omega) hjm A.quiet hj
  rw [show f+1+(ops.size - (m+1))=(f+(ops.size - (m+1)))+1 by omega]
  refine⟨fun h0=>(by rw [h0] at hj';cases hj'),fun i hi=>?_⟩
  obtain⟨hiun,oi,hoi,hiw⟩:=mem_ready.1 hi
  by_cases him:i < m
  ·refine wpOp_of_qOpR hW (fun a' W' hb h'=>?_) (qOpR_mono (K':=fun a'=>a'.put (some d) (.pointer (some ⟨B,0,none⟩))=a'∧GQ P md ops w m (TailOk P ops m os d obj w Q) f (lq.setIfInBounds i true) a') (fun _ h=>h) ?_)
   ·exact phase2 A B hB f _ _ a' W' (ag.set i) (inv.set hi (by omega)) (by rw [getD_set_ne false (by omega)];exact hdm) (hW.trans (hb.mono hW.size)) ((hb.block B (Array.getElem?_eq_some_iff.1 hO).1).trans hO) h'.1 h'.2
   ·have h1:=hall i (ag.ready hsz (by omega) him A.quiet hi) him
    obtain⟨v,hy,hK⟩:=yieldsR_of_qOpR hoi h1
    refine hy.qOpR hoi ⟨?_,hK⟩
    obtain⟨_,h2,_⟩:=Oper.apart_spec (A.apart i oi him hoi)
    have h3:=Act.put_comm a (.pointer (some ⟨B,0,none⟩)) v h2
    rw [A.dst,hp] at h3
    rw [← h3]
  ·by_cases h2:i=m
   ·subst h2;rw [getD_both hiun] at hdm;cases hdm
   ·-- the store comes ahead of the late operation
    obtain⟨rfl,hdone⟩:=tail_ready A inv hi (by omega)
    have hjp:j=m - 1:=by
     by_cases h3:j=m - 1
     ·exact h3
     ·have h4:=hdone j (by omega) h3
      rw [getD_both (mem_ready.1 hj').1] at h4;cases h4
    subst hjp
    have h1:=hall (m - 1) hj hjm
    obtain⟨v,hy,hK⟩:=yieldsR_of_qOpR A.atP h1
    -- nothing is left of the head
    have hf:f=0:=by
     cases f with
     | zero=>rfl
     | succ f =>
      exfalso
      obtain⟨⟨k,hk,hkm⟩,_⟩:=hK
      have hk1:=(mem_ready.1 hk).1
      by_cases hkp:k=m - 1
      ·subst hkp
       have:m - 1 < lq.size:=by rw [← ag.1,hsz];omega
       simp [this] at hk1
      ·rw [getD_set_ne true (Ne.symm hkp)] at hk1
       have h4:=hdone k (by omega) hkp
       rw [ag.2 k hkm,getD_both hk1] at h4;cases h4
    subst hf
    obtain⟨_,hL⟩:=hK
    have hL:=hL B W hB hW hO
    obtain⟨_,hpd,_⟩:=Oper.apart_spec (A.apart (m - 1) op hjm A.atP)
    have hcm:(a.put op.dst v).put (some d) (.pointer (some ⟨B,0,none⟩))=a.put op.dst v:=by
     have h3:=Act.put_comm a (.pointer (some ⟨B,0,none⟩)) v hpd
     rw [A.dst,hp] at h3
     exact h3.symm
    rw [hcm] at hL
    -- the store,carried out without the late value
    have hss:∀ cs b,os.op≠.select cs b:=fun cs b=>Region.noSelect_spec A.sel (m+1) os cs b A.atS
    have hsame:execOp (a.put op.dst v).eval os=execOp a.eval os:=execOp_put os hss a op.dst v A.apartP
    unfold plain at hL
    rw [hsame] at hL
    unfold wpOp
    simp only [A.atS]
    rw [if_pos (by simp [Region.wanted,A.guardS])]
    left
    unfold Oper.wp
    have hval:∀ W'',Below w.heap.size w W''→(execOp a.eval op).run P W''=.ok (.value v) W'':=fun W'' hb=>by
     rcases hy with ⟨_,hy⟩ | ⟨hw,_⟩
     ·have:=hy W''
      rw [← eq_over hb] at this
      exact extract_value A.takes this
     ·simp [Region.wanted,A.guardP] at hw
    have goal:∀ W'',Below w.heap.size w W''→wpList P ops Q (ops.toList.drop (m+1+1)) (a.put op.dst v) W''→wpAny P md ops Q (0+(ops.size - (m+1))) (listed.setIfInBounds (m+1) true) a W'':=fun W'' hb hw=>by
     have hun1:listed.getD (m - 1) true=false:=(mem_ready.1 hj').1
     have h5:∀ i,i < m+1+1→i≠m - 1→(listed.setIfInBounds (m+1) true).getD i false=true:=fun i hi' hne=>by
      by_cases h6:i=m+1
      ·subst h6;simp [hsz,hlt]
      ·rw [getD_set_ne false (Ne.symm h6)];exact hdone i (by omega) hne
     rw [show 0+(ops.size - (m+1))=1+(ops.size - (m+1+1)) by omega]
     refine phase3 A (by simpa using hsz) h5 (by rw [getD_set_ne true (by omega)];exact hun1) (fun t h7 h8=>by rw [getD_set_ne true (by omega)];exact inv.tail t (by omega) h8) (ready_mono hj' (by omega)) (fun i' hi'=>?_) (hval W'' hb) hw
     obtain⟨hu',o',ho',hw'⟩:=mem_ready.1 hi'
     have hs':i' < ops.size:=(Array.getElem?_eq_some_iff.1 ho').1
     by_cases h9:i'=m - 1
     ·exact h9
     ·exfalso
      by_cases h10:i' < m+1+1
      ·have:=h5 i' h10 h9;rw [getD_both hu'] at this;cases this
      ·by_cases h11:i'=m+1+1
       ·subst h11
        obtain⟨o'',ho'',e,he,hbd,hon⟩:=Region.waitsFor_spec (A.late hs')
        have:o''=o':=Option.some.inj (ho''.symm.trans ho')
        subst this
        have h12:=hw' e he hbd
        rw [hon,getD_set_ne false (by omega),getD_both hun1] at h12
        cases h12
       ·have hc:=List.all_eq_true.1 A.chain i' (List.mem_range.2 hs')
        simp only [Bool.or_eq_true,decide_eq_true_eq] at hc
        obtain⟨o'',ho'',e,he,hbd,hon⟩:=Region.waitsFor_spec (hc.resolve_left (by omega))
        have:o''=o':=Option.some.inj (ho''.symm.trans ho')
        subst this
        have h12:=hw' e he hbd
        rw [hon,getD_set_ne false (by omega),getD_both (inv.tail (i' - 1) (by omega) (by omega))] at h12
        cases h12
    generalize (execOp a.eval os).run P W=r at hL ⊢
    cases r with
    | ok n w' =>
     cases n <;> simp only [plainUpon,A.dstS] at hL <;> simp only [Oper.upon,A.dstS]
     case value u=>exact goal w' hL.1 hL.2
     case skip=>exact goal w' hL.1 hL.2
    | halt x w'=>simp only [plainUpon] at hL
theorem phase1 {m:Nat} {oa op os:Oper} {d:Tmp} {obj:Obj} {Q:Exit→Act→World→Prop} (A:AllocAt P md ops m oa op os d obj) :
  ∀ (f:Nat) (listed lq:Array Bool) (a:Act) (W:World),Agree m listed lq→HeadInv md ops (m+1) listed→listed.getD m true=false→Below w.heap.size w W →
   GQ P md ops w m (TailOk P ops m os d obj w Q) f lq a→wpAny P md ops Q (f+1+(ops.size - (m+1))) listed a W:=by
 have hsel:=Region.noSelect_spec A.sel
 have hlt:=A.lt
 have hpos:=A.pos
 have alloc:∀ (f:Nat) (listed lq:Array Bool) (a:Act) (W:World),Agree m listed lq→HeadInv md ops (m+1) listed→listed.getD m true=false→m∈Region.ready md ops listed→Below w.heap.size w W →
   GQ P md ops w m (TailOk P ops m os d obj w Q) f lq a→wpOp P ops Q m (wpAny P md ops Q (f+(ops.size - (m+1))) (listed.setIfInBounds m true)) a W:=fun f listed lq a W ag inv hun hr hW h=>by
  unfold wpOp
  simp only [A.at_]
  rw [if_pos (by simp [Region.wanted,A.guard])]
  left
  unfold Oper.wp
  rw [A.runs a W]
  simp only [Oper.upon,A.dst]
  refine phase2 A W.heap.size hW.size f _ lq _ _ (ag.set_other m (Nat.le_refl _)) (inv.set hr (by omega)) ?_ (hW.alloc hW.size _) (heap_alloc_new W _) (put_put _ _ _ _) ?_
  ·simp [inv.size,show m < ops.size by omega]
  ·have:=GQ_put (x:=.pointer (some ⟨W.heap.size,0,none⟩)) hsel A.apart (Lq:=TailOk P ops m os d obj w Q) (fun a' h' B' W' h1 h2 h3=>by rw [A.dst,put_put];exact h' B' W' h1 h2 h3) f lq a h
   rwa [A.dst] at this
 have hrm:∀ listed:Array Bool,listed.getD m true=false→m∈Region.ready md ops listed:=fun listed hun=>mem_ready.2 ⟨hun,oa,A.at_,fun e he _=>by rw [A.free] at he;simp at he⟩
 have hno:∀ (listed:Array Bool) (i:Nat),HeadInv md ops (m+1) listed→listed.getD m true=false→i∈Region.ready md ops listed→m+1≤i→False:=fun listed i inv hun hi h=>by
  have h1:=(tail_ready A inv hi h).2 m (by omega) (by omega)
  rw [getD_both hun] at h1;cases h1
 intro f
 induction f with
 | zero =>
  intro listed lq a W ag inv hun hW h
  rw [show 0+1+(ops.size - (m+1))=(0+(ops.size - (m+1)))+1 by omega]
  refine⟨fun h0=>(by have:=hrm listed hun;rw [h0] at this;cases this),fun i hi=>?_⟩
  have hiun:=(mem_ready.1 hi).1
  by_cases him:i < m
  ·exfalso
   have h1:=h.1 i him
   rw [← ag.2 i him,getD_both hiun] at h1
   cases h1
  ·by_cases h2:i=m
   ·subst h2;exact alloc 0 listed lq a W ag inv hun hi hW h
   ·exact (hno listed i inv hun hi (by omega)).elim
 | succ f ih =>
  intro listed lq a W ag inv hun hW h
  rw [show f+1+1+(ops.size - (m+1))=(f+1+(ops.size - (m+1)))+1 by omega]
  refine⟨fun h0=>(by have:=hrm listed hun;rw [h0] at this;cases this),fun i hi=>?_⟩
  have hsz:=inv.size
  by_cases him:i < m
  ·have h1:=h.2 i (ag.ready hsz (by omega) him A.quiet hi) him
   exact wpOp_of_qOpR hW (fun a' W' hb h'=>ih _ _ a' W' (ag.set i) (inv.set hi (by omega)) (by rw [getD_set_ne true (by omega)];exact hun) (hW.trans (hb.mono hW.size)) h') h1
  ·by_cases h2:i=m
   ·subst h2;exact alloc (f+1) listed lq a W ag inv hun hi hW h
   ·exact (hno listed i inv hun hi (by omega)).elim
def allocB (ops : Array Oper) (m : Nat) : Bool :=
  Region.noSelect ops && decide (1 ≤ m) && decide (m + 1 + 1 < ops.size) &&
  (List.range m).all (fun j => match ops[j]? with | some oj => oj.after.all fun e => !Region.binds .any e || decide (e.on < m) | none => true) &&
  (match ops[m]? with | some oa => oa.after.isEmpty && oa.guard.isNone && (List.range m).all (fun j => match ops[j]? with | some oj => oa.apart ops oj | none => true) | none => false) &&
  (List.range (m + 1)).all (fun i => i == m - 1 || (List.range (m + 1 + 1)).any fun j => decide (i < j) && !(j == m - 1) && Region.waitsFor .any ops j i) &&
  Region.chainB .any ops (m + 1) && Region.waitsFor .any ops (m + 1 + 1) (m - 1) &&
  Region.seqB .any ops (ops.size - (m + 1)) (m + 1) (Array.ofFn fun i : Fin ops.size => decide (i.val < m + 1)) &&
  lexQ .any ops m 0 (Array.replicate ops.size false) &&
  (match ops[m - 1]?, ops[m + 1]? with
   | some op, some os => op.guard.isNone && os.guard.isNone && os.dst.isNone && (match op.dst with | some e => !(os.looksAt ops).contains e | none => true) && (match op.op with | .extract _ _ => true | _ => false)
   | _, _ => false)
theorem wp_region_alloc {id:Nat} {Q:Exit→Act→World→Prop} {a:Act} {l:List Oper} (m:Nat)(oa os:Oper)(d:Tmp)(obj:Obj)(hm:P.follows .mixedOrders=true)(hat:l[m]?=some oa)(hos:l[m+1]?=some os)(hdst:oa.dst=some d)
  (hrun:∀ (a:Act) (W:World),(execOp a.eval oa).run P W=.ok (.value (.pointer (some ⟨W.heap.size,0,none⟩))) (W.alloc obj))
  (hB:allocB l.toArray m=true)
  (h:wpQuietR P l.toArray w (fun a'=>∀ B W',w.heap.size≤B→Below w.heap.size w W'→W'.heap[B]?=some obj →
   plain P os (a'.put (some d) (.pointer (some ⟨B,0,none⟩))) W' fun a'' W''=>Below w.heap.size w W''∧wpList P l.toArray Q (l.drop (m+1+1)) a'' W'') (l.take m) a) :
  (Code.region id l.toArray true).wp P Q a w:=by
 simp only [allocB,Bool.and_eq_true,decide_eq_true_eq] at hB
 obtain⟨⟨⟨⟨⟨⟨⟨⟨⟨⟨hsel,hpos⟩,hlt⟩,hq⟩,hal⟩,hs⟩,hc⟩,hla⟩,hseq⟩,hlex⟩,hps⟩:=hB
 have hat':l.toArray[m]?=some oa:=by simpa using hat
 have hos':l.toArray[m+1]?=some os:=by simpa using hos
 have hlt':m+1+1 < l.length:=by simpa using hlt
 obtain⟨op,hop⟩:∃ op,l.toArray[m - 1]?=some op:=⟨_,Array.getElem?_eq_getElem (by simp;omega)⟩
 rw [hat'] at hal
 rw [hop,hos'] at hps
 simp only [Bool.and_eq_true] at hal hps
 obtain⟨⟨hfree,hguard⟩,hap⟩:=hal
 obtain⟨⟨⟨⟨hgp,hgs⟩,hds⟩,hapP⟩,hext⟩:=hps
 have A:AllocAt P .any l.toArray m oa op os d obj:={
  sel:=hsel,lt:=by omega,pos:=hpos,at_:=hat',atP:=hop,atS:=hos',dst:=hdst,free:=by simpa using hfree,guard:=by simpa using hguard,guardP:=by simpa using hgp,guardS:=by simpa using hgs,dstS:=by simpa using hds
  apartP:=fun e he=>by rw [he] at hapP;simpa using hapP
  takes:=by
   cases hx:op.op <;> rw [hx] at hext <;> first | exact⟨_,_,rfl⟩ | cases hext
  runs:=hrun,chain:=hc,late:=fun _=>hla,more:=hlt,seq:=hseq
  sink:=fun i hi hne=>by
   have h1:=List.all_eq_true.1 hs i (List.mem_range.2 hi)
   simp only [Bool.or_eq_true,beq_iff_eq] at h1
   obtain⟨j,hj,h2⟩:=List.any_eq_true.1 (h1.resolve_left hne)
   simp only [Bool.and_eq_true,decide_eq_true_eq,Bool.not_eq_true',beq_eq_false_iff_ne] at h2
   exact⟨j,h2.1.1,by have:=List.mem_range.1 hj;omega,h2.1.2,h2.2⟩
  quiet:=fun j oj hj hoj e he hb=>by
   have h1:=List.all_eq_true.1 hq j (List.mem_range.2 hj)
   rw [hoj] at h1
   have h2:=Array.all_eq_true'.1 h1 e he
   simpa [hb] using h2
  apart:=fun j oj hj hoj=>by
   have h1:=List.all_eq_true.1 hap j (List.mem_range.2 hj)
   rw [hoj] at h1
   exact h1 }
 have htl:(l.take m).length=m:=by simp;omega
 have G:=GQ_lex (P:=P) (w:=w) (md:=.any) (m:=m) hsel (by simp;omega) (l.take m) 0 (Array.replicate l.toArray.size false) a (fun j hj=>by
  have hj':j < m:=by rw [htl] at hj;exact hj
  simp [hj']) (by simpa using htl) (by simp) (fun j hj=>by omega) (by rw [htl];exact hlex) h
 rw [htl] at G
 have inv0:HeadInv .any l.toArray (m+1) (Array.replicate l.toArray.size false) :=
  ⟨by simp,fun j oj _ hl=>(by rw [getD_replicate_false] at hl;cases hl),fun t _ ht=>getD_in (by simpa using ht) (getD_replicate_false _ _)⟩
 have H:=phase1 (Q:=Q) A m _ _ a w.drew ⟨rfl,fun _ _=>rfl⟩ inv0 (getD_in (by simp;omega) (getD_replicate_false _ _)) ((Below.refl _ w).drew) G
 refine wp_region_any hm ?_
 rw [show m+1+(l.toArray.size - (m+1))=l.toArray.size by simp;omega] at H
 exact H
end
end
section
open Go.RowKit
def nev (y:Int):Int:=if y=0 then 0 else 9223372036854775808
def NoneAt (w:World)(p:Option Addr):Prop:=p=none∨∃ g,p=some ⟨g,0,none⟩∧g < w.heap.size∧w.cell? ⟨g,4,none⟩=some (.int .i64 0)
theorem NoneAt.below {w w':World} {p:Option Addr} (h:NoneAt w p)(hb:Below w.heap.size w w'):NoneAt w' p:=by
 rcases h with rfl | ⟨g,rfl,hg,hc⟩
 ·exact .inl rfl
 ·exact .inr ⟨g,rfl,Nat.lt_of_lt_of_le hg hb.size,(hb.cell (p:=⟨g,4,none⟩) hg).trans hc⟩
theorem snone_yes (p:Option Addr)(w:World)(h:NoneAt w p) :
  Calls Tryz.prog 279 #[.pointer p] w fun e w'=>e=.returned (.bool true)∧w=w':=by
 rcases h with rfl | ⟨g,rfl,hg,hc⟩
 ·go_enter Tryz.func279,Tryz.ntmps279
  go_wp2
  go_ret
  exact⟨rfl,rfl⟩
 ·go_enter Tryz.func279,Tryz.ntmps279
  go_wp2
  go_ret
  exact⟨rfl,rfl⟩
theorem slastof_none (p:Option Addr)(y:Int)(f:Value)(w:World)(h:NoneAt w p) :
  Calls Tryz.prog 273 #[.pointer p,.int .u64 y,f] w fun e w'=>e=.returned (.int .u64 (nev y))∧w=w':=by
 by_cases hy:y=0
 ·subst hy
  go_enter Tryz.func273,Tryz.ntmps273
  go_wp2_with (go_at_call 279;refine (snone_yes _ _ h).mono ?_;rintro e w' ⟨rfl,rfl⟩)
  go_ret
  exact⟨rfl,rfl⟩
 ·have hy0:(y == 0)=false:=by simpa using hy
  have E:=Lib.hid (show nev y=9223372036854775808 by unfold nev;rw [if_neg hy])
  clear hy
  go_enter Tryz.func273,Tryz.ntmps273
  go_wp2_with (go_at_call 279;refine (snone_yes _ _ h).mono ?_;rintro e w' ⟨rfl,rfl⟩)
  go_ret
  exact⟨ret_int E.out.symm,rfl⟩
theorem sreach_none (p:Option Addr)(y:Int)(w:World)(h:NoneAt w p) :
  Calls Tryz.prog 270 #[.pointer p,.int .u64 y] w fun e w'=>e=.returned (.int .u64 (nev y))∧Below w.heap.size w w':=by
 have h1:=h.below ((Below.refl _ w).alloc (Nat.le_refl _) (.cells #[.pointer p] 177))
 go_enter Tryz.func270,Tryz.ntmps270
 go_wp2_with (go_at_call 273;refine (slastof_none _ _ _ _ h1).mono ?_;rintro e w' ⟨rfl,rfl⟩)
 go_ret
 exact⟨rfl,by go_grown⟩
end
end Go.Proofs.YtmmeopjemkjllaaGreat
