/- Lemmas of the claim. No conditions beyond those that each states. -/
import Derived.Test.YtmmeopjemkjllaaGreatPU8
set_option linter.unusedVariables false
set_option linter.unusedSimpArgs false
set_option maxRecDepth 100000
set_option maxHeartbeats 8000000
namespace Go.Proofs.YtmmeopjemkjllaaGreat
section
open Go.RowKit
def midUpon (P:Program)(W:World)(T:Value→World→Prop):Result Next→Prop
 | .ok (.value u) W'=>Below W.heap.size W W'∧T u W'
 | .ok .skip W'=>Below W.heap.size W W'∧T undef W'
 | .ok (.enter f args) W'=>W'=W∧Calls P f args W (fun e W''=>∃ v,e=.returned v∧Below W.heap.size W W''∧T v W'')
 | _=>False
def midAt (P:Program)(o:Oper)(a:Act)(W:World)(T:Value→World→Prop):Prop:=midUpon P W T ((execOp a.eval o).run P W)
section
variable {P : Program} {ops : Array Oper} {md : Region.Mode} {w : World}
def slotOf (ops:Array Oper)(k:Nat):Option Tmp:=(ops[k]?).bind (·.dst)
def waitsOn (md:Region.Mode)(o:Oper)(j:Nat):Bool:=o.after.any fun e=>Region.binds md e && e.on == j
theorem waitsOn_spec {o:Oper} {j:Nat} (h:waitsOn md o j=true):∃ e∈o.after,Region.binds md e=true∧e.on=j:=by
 obtain⟨i,hi,h⟩:=Array.any_eq_true.1 h
 simp only [Bool.and_eq_true,beq_iff_eq] at h
 exact⟨_,Array.getElem_mem hi,h.1,h.2⟩
theorem agree_exec {o:Oper} {a A:Act} (hs:∀ cs b,o.op≠.select cs b)(h:∀ t∈o.looksAt ops,a.tmps[t]?=A.tmps[t]?) :
  execOp a.eval o=execOp A.eval o∧Region.wanted o (yielded ops a.tmps)=Region.wanted o (yielded ops A.tmps):=by
 constructor
 ·refine execOp_congr o hs fun x hx=>?_
  cases x with
  | tmp t =>
   have ht:t∈o.looksAt ops:=List.mem_append_left _ (List.mem_filterMap.2 ⟨.tmp t,by simpa using hx,rfl⟩)
   have:=h t ht
   simp only [Act.eval,Array.getD_eq_getD_getElem?,this]
  | const _=>rfl
  | global _=>rfl
  | func _=>rfl
 ·unfold Region.wanted
  cases hg:o.guard with
  | none=>rfl
  | some gw =>
   obtain⟨g,want⟩:=gw
   have hy:yielded ops a.tmps g=yielded ops A.tmps g:=by
    unfold yielded
    cases ht:(ops[g]?).bind (·.dst) with
    | none=>rfl
    | some t =>
     have:=h t (by simp [Oper.looksAt,hg,ht])
     simp [this]
   simp only [hy]
def TStep (P:Program)(ops:Array Oper)(o:Oper)(a:Act)(W:World)(T:Value→World→Prop):Prop :=
 if Region.wanted o (yielded ops a.tmps) then midAt P o a W T else T undef W
structure InvM (md:Region.Mode)(ops:Array Oper)(n g:Nat)(T:Nat→Value→World→Prop)(a0:Act)(w:World)(listed:Array Bool)(a:Act)(W:World):Prop where
 size:listed.size=ops.size
 closed:∀ j oj,j < n→ops[j]?=some oj→listed.getD j false=true→∀ e∈oj.after,Region.binds md e=true→listed.getD e.on false=true
 tail:∀ t,n≤t→t < n+g→listed.getD t true=false
 fl:∀ t,n+g≤t→t < ops.size→listed.getD t false=true
 below:Below w.heap.size w W
 defers:a.defers=a0.defers
 sz:a.tmps.size=a0.tmps.size
 same:∀ t,(∀ k,k < n→listed.getD k false=true→slotOf ops k≠some t)→a.tmps[t]?=a0.tmps[t]?
 val:∀ k t,k < n→listed.getD k false=true→slotOf ops k=some t→t < a0.tmps.size→∃ v,a.tmps[t]?=some v∧T k v W
structure SeesM (md:Region.Mode)(ops:Array Oper)(n:Nat)(T:Nat→Value→World→Prop)(a0:Act)(w:World)(o:Oper)(a:Act)(W:World):Prop where
 below:Below w.heap.size w W
 same:∀ t∈o.looksAt ops,(∀ k,k < n→slotOf ops k≠some t)→a.tmps[t]?=a0.tmps[t]?
 val:∀ t∈o.looksAt ops,∀ j,j < n→slotOf ops j=some t→t < a0.tmps.size→∃ v,a.tmps[t]?=some v∧T j v W
 sz:a.tmps.size=a0.tmps.size
theorem put_tmps (a:Act)(d:Option Tmp)(v:Value)(t:Tmp):(a.put d v).tmps[t]?=if d=some t∧t < a.tmps.size then some v else a.tmps[t]?:=by
 cases d with
 | none=>simp [Act.put]
 | some d =>
  simp only [Act.put,Array.getElem?_setIfInBounds,Option.some.injEq]
  by_cases h:d=t
  ·subst h
   by_cases h2:d < a.tmps.size
   ·simp [h2]
   ·simp [h2,Array.getElem?_eq_none (Nat.le_of_not_lt h2)]
  ·simp [h]
theorem put_size (a:Act)(d:Option Tmp)(v:Value):(a.put d v).tmps.size=a.tmps.size:=by cases d <;> simp [Act.put]
theorem put_defers' (a:Act)(d:Option Tmp)(v:Value):(a.put d v).defers=a.defers:=by cases d <;> rfl
structure StatM (md:Region.Mode)(ops:Array Oper)(n g:Nat):Prop where
 sel:Region.noSelect ops=true
 le:n+g≤ops.size
 down:∀ k ok,k < n→ops[k]?=some ok→∀ e∈ok.after,Region.binds md e=true→e.on < k
 slots:∀ k ok,k < n→ops[k]?=some ok→∀ t∈ok.looksAt ops,∀ j,j < n→slotOf ops j=some t→waitsOn md ok j=true
 uniq:∀ i j t,i < n→j < n→i≠j→slotOf ops i=some t→slotOf ops j≠some t
 sink:0 < g→∀ i,i < n→∃ j,i < j∧j≤n∧Region.waitsFor md ops j i=true
 chain:∀ t,n < t→t < n+g→Region.waitsFor md ops t (t - 1)=true
 seq:Region.seqB md ops g n (Array.ofFn fun i:Fin ops.size=>decide (i.val < n∨n+g≤i.val))=true
theorem seqList {Q':Exit→Act→World→Prop}:∀ (l:List Oper)(k:Nat)(listed:Array Bool)(a:Act)(w:World),(∀ j,j < l.length→l[j]?=ops[k+j]?) →
  Region.seqB md ops l.length k listed=true→wpList P ops Q' l a w→wpAny P md ops Q' l.length listed a w
 | [],_,_,_,_,_,hB,h=>⟨by simpa [Region.seqB] using hB,h⟩
 | o :: l,k,listed,a,w,hl,hB,h=>by
  have h0:ops[k]?=some o:=by simpa using (hl 0 (by simp)).symm
  simp only [List.length_cons,Region.seqB,Bool.and_eq_true,decide_eq_true_eq] at hB
  refine⟨fun h1=>(by rw [hB.1] at h1;cases h1),fun i hi=>?_⟩
  rw [hB.1] at hi
  have hik:i=k:=by simpa using hi
  subst hik
  have hw:wpOp P ops Q' i (wpList P ops Q' l) a w:=by unfold wpOp;simp only [h0];exact h
  exact wpOp_mono (fun a' w' h'=>seqList l (i+1) _ a' w' (fun j hj=>by have:=hl (j+1) (by simp;omega);simpa [Nat.add_assoc,Nat.add_comm 1 j] using this) hB.2 h') hw
def left (n:Nat)(listed:Array Bool):Nat:=((List.range n).filter fun k=>!listed.getD k false).length
theorem left_zero {n:Nat} {listed:Array Bool} (h:left n listed=0):∀ k,k < n→listed.getD k false=true:=by
 intro k hk
 have:=List.length_eq_zero_iff.1 h
 have h2:=List.filter_eq_nil_iff.1 this k (List.mem_range.2 hk)
 simpa using h2
theorem filter_set {n i:Nat} {listed:Array Bool} (hi:i < listed.size)(hun:listed.getD i false=false):∀ m,((List.range m).filter fun k=>!listed.getD k false).length=((List.range m).filter fun k=>!(listed.setIfInBounds i true).getD k false).length+(if i < m then 1 else 0):=by
 intro m
 induction m with
 | zero=>simp
 | succ m ih =>
  rw [List.range_succ,List.filter_append,List.filter_append,List.length_append,List.length_append,ih]
  by_cases h:i=m
  ·subst h
   have e:(listed.setIfInBounds i true).getD i false=true:=by simp [hi]
   rw [List.filter_cons_of_pos (by rw [hun];rfl),List.filter_cons_of_neg (by rw [e];simp)]
   simp
  ·rw [List.filter_cons,List.filter_cons,getD_set_ne false h]
   by_cases h2:i < m
   ·simp [h2,show i < m+1 by omega];split <;> simp <;> omega
   ·simp [h2,show ¬ i < m+1 by omega]
theorem left_set {n i:Nat} {listed:Array Bool} (hi:i < listed.size)(hun:listed.getD i false=false)(hin:i < n):left n listed=left n (listed.setIfInBounds i true)+1:=by
 have:=filter_set (n:=n) hi hun n
 rw [if_pos hin] at this
 exact this
theorem tail_not {n g:Nat} (S:StatM md ops n g) {T:Nat→Value→World→Prop} {a0:Act} {listed:Array Bool} {a:Act} {W:World} (I:InvM md ops n g T a0 w listed a W) {t:Nat} (hr:t∈Region.ready md ops listed)(ht:n≤t) :
  ∀ i,i < n→listed.getD i false=true:=by
 obtain⟨hun,ot,hot,hall⟩:=mem_ready.1 hr
 have hts:t < ops.size:=(Array.getElem?_eq_some_iff.1 hot).1
 have htg:t < n+g:=by
  rcases Nat.lt_or_ge t (n+g) with h | h
  ·exact h
  ·have:=I.fl t h hts;rw [getD_both hun] at this;cases this
 have htn:t=n:=by
  by_cases h:t=n
  ·exact h
  ·exfalso
   obtain⟨o',ho',e,he,hb,hon⟩:=Region.waitsFor_spec (S.chain t (by omega) htg)
   have:o'=ot:=Option.some.inj (ho'.symm.trans hot)
   subst this
   have h2:=hall e he hb
   rw [hon,getD_both (I.tail (t - 1) (by omega) (by omega))] at h2
   cases h2
 subst htn
 suffices H:∀ d i,t - i≤d→i < t→listed.getD i false=true from fun i hi=>H _ i (Nat.le_refl _) hi
 intro d
 induction d with
 | zero=>intro i h1 h2;omega
 | succ d ih =>
  intro i hd hi
  obtain⟨j,hij,hjn,hw⟩:=S.sink (by omega) i hi
  obtain⟨oj,hoj,e,he,hb,hon⟩:=Region.waitsFor_spec hw
  by_cases hjt:j=t
  ·subst hjt
   have:oj=ot:=Option.some.inj (hoj.symm.trans hot)
   subst this
   rw [← hon];exact hall e he hb
  ·rw [← hon]
   exact I.closed j oj (by omega) hoj (ih j (by omega) (by omega)) e he hb
theorem some_ready {n g:Nat} (S:StatM md ops n g) {T:Nat→Value→World→Prop} {a0:Act} {listed:Array Bool} {a:Act} {W:World} (I:InvM md ops n g T a0 w listed a W)(h:left n listed≠0):Region.ready md ops listed≠[]:=by
 intro h0
 apply h
 have all:∀ m k,k < m→k < n→listed.getD k false=true:=by
  intro m
  induction m with
  | zero=>intro k hk;omega
  | succ m ih =>
   intro k hk hkn
   cases hl:listed.getD k false with
   | true=>rfl
   | false =>
    exfalso
    have hks:k < ops.size:=by have:=S.le;omega
    have hmem:k∈Region.ready md ops listed:=mem_ready.2 ⟨getD_in (by rw [I.size];exact hks) hl,ops[k],Array.getElem?_eq_getElem hks,fun e he hb=>by
     have:=S.down k _ hkn (Array.getElem?_eq_getElem hks) e he hb
     exact ih e.on (by omega) (by omega)⟩
    rw [h0] at hmem;cases hmem
 unfold left
 rw [List.length_eq_zero_iff,List.filter_eq_nil_iff]
 intro k hk
 have:=all _ k (Nat.lt_succ_self k) (List.mem_range.1 hk)
 simp [this]
theorem InvM.step {n g k:Nat} (S:StatM md ops n g) {T:Nat→Value→World→Prop} {a0:Act} {listed:Array Bool} {a:Act} {W W':World} {ok:Oper} {v:Value} (hst:∀ k,k < n→∀ v W W',T k v W→Below W.heap.size W W'→T k v W')
  (I:InvM md ops n g T a0 w listed a W) (hr:k∈Region.ready md ops listed) (hkn:k < n) (hok:ops[k]?=some ok) (hb:Below W.heap.size W W') (hT:T k v W') :
  InvM md ops n g T a0 w (listed.setIfInBounds k true) (a.put ok.dst v) W':=by
 obtain⟨hun,ok',hok',hall⟩:=mem_ready.1 hr
 have:ok'=ok:=Option.some.inj (hok'.symm.trans hok)
 subst this
 have hks:k < listed.size:=by rw [I.size];exact (Array.getElem?_eq_some_iff.1 hok).1
 have hsk:slotOf ops k=ok'.dst:=by unfold slotOf;rw [hok];rfl
 refine⟨by simpa using I.size,?_,?_,?_,I.below.trans (hb.mono I.below.size),by rw [put_defers'];exact I.defers,by rw [put_size];exact I.sz,?_,?_⟩
 ·intro j oj hjn hoj hl e he hbi
  by_cases hjk:k=j
  ·subst hjk
   have:oj=ok':=Option.some.inj (hoj.symm.trans hok)
   subst this
   exact getD_set_true (hall e he hbi)
  ·rw [getD_set_ne false hjk] at hl
   exact getD_set_true (I.closed j oj hjn hoj hl e he hbi)
 ·intro t h1 h2
  rw [getD_set_ne true (by omega)];exact I.tail t h1 h2
 ·intro t h1 h2
  exact getD_set_true (I.fl t h1 h2)
 ·intro t h
  rw [put_tmps,if_neg]
  ·refine I.same t fun j hj hl=>h j hj (getD_set_true hl)
  ·rintro ⟨h1,_⟩
   exact h k hkn (by simp [hks]) (by rw [hsk];exact h1)
 ·intro j t hj hl hs ht
  by_cases hjk:k=j
  ·subst hjk
   rw [hsk] at hs
   refine⟨v,?_,hT⟩
   rw [put_tmps,if_pos ⟨hs,by rw [I.sz];exact ht⟩]
  ·rw [getD_set_ne false hjk] at hl
   obtain⟨u,hu,hTu⟩:=I.val j t hj hl hs ht
   refine⟨u,?_,hst j hj u W W' hTu hb⟩
   rw [put_tmps,if_neg]
   ·exact hu
   ·rintro ⟨h1,_⟩
    exact S.uniq k j t hkn hj hjk (by rw [hsk];exact h1) hs
theorem phaseM {n g:Nat} (S:StatM md ops n g) {T:Nat→Value→World→Prop} {a0:Act} {Q:Exit→Act→World→Prop} (hst:∀ k,k < n→∀ v W W',T k v W→Below W.heap.size W W'→T k v W')
  (hstep:∀ k ok,k < n→ops[k]?=some ok→∀ a W,SeesM md ops n T a0 w ok a W→TStep P ops ok a W (T k))
  (hfin:∀ listed a W,InvM md ops n g T a0 w listed a W→(∀ k,k < n→listed.getD k false=true)→wpList P ops Q ((ops.toList.drop n).take g) a W) :
  ∀ (c:Nat) (listed:Array Bool) (a:Act) (W:World),left n listed=c→InvM md ops n g T a0 w listed a W→wpAny P md ops Q (c+g) listed a W:=by
 intro c
 induction c with
 | zero =>
  intro listed a W hc I
  have hall:=left_zero hc
  have hL:listed=Array.ofFn fun i:Fin ops.size=>decide (i.val < n∨n+g≤i.val):=by
   apply Array.ext
   ·simp [I.size]
   ·intro i hi hi'
    have hio:i < ops.size:=by rw [← I.size];exact hi
    simp only [Array.getElem_ofFn]
    by_cases h:i < n
    ·have:=hall i h;simp [hi] at this;simp [this,h]
    ·by_cases h2:n+g≤i
     ·have:=I.fl i h2 hio;simp [hi] at this;simp [this,h2]
     ·have:=I.tail i (by omega) (by omega);simp [hi] at this;simp [this,h,h2]
  have hlen:((ops.toList.drop n).take g).length=g:=by have:=S.le;simp;omega
  have h:=seqList (P:=P) (md:=md) (ops:=ops) (Q':=Q) ((ops.toList.drop n).take g) n listed a W (fun j hj=>by
   rw [hlen] at hj
   rw [List.getElem?_take_of_lt hj,List.getElem?_drop];simp) (by rw [hlen,hL];exact S.seq) (hfin listed a W I hall)
  rw [hlen] at h
  rw [Nat.zero_add];exact h
 | succ c ih =>
  intro listed a W hc I
  rw [show c+1+g=(c+g)+1 by omega]
  refine⟨fun h0=>absurd h0 (some_ready S I (by omega)),fun k hk=>?_⟩
  obtain⟨hun,ok,hok,hall⟩:=mem_ready.1 hk
  have hks:k < ops.size:=(Array.getElem?_eq_some_iff.1 hok).1
  have hkn:k < n:=by
   rcases Nat.lt_or_ge k n with h | h
   ·exact h
   ·exfalso
    have h1:=tail_not S I hk h
    have:left n listed=0:=by
     unfold left
     rw [List.length_eq_zero_iff,List.filter_eq_nil_iff]
     intro i hi
     have:=h1 i (List.mem_range.1 hi)
     simp [this]
    omega
  have hsee:SeesM md ops n T a0 w ok a W:=⟨I.below,fun t _ hno=>I.same t fun j hj _=>hno j hj,fun t ht j hj hs hsz=>by
   obtain⟨e,he,hb,hon⟩:=waitsOn_spec (S.slots k ok hkn hok t ht j hj hs)
   exact I.val j t hj (by rw [← hon];exact hall e he hb) hs hsz,I.sz⟩
  have h:=hstep k ok hkn hok a W hsee
  have hlf:=left_set (n:=n) (by rw [I.size];exact hks) (getD_both hun) hkn
  have go:∀ v W',Below W.heap.size W W'→T k v W'→wpAny P md ops Q (c+g) (listed.setIfInBounds k true) (a.put ok.dst v) W':=fun v W' hb hT =>
   ih _ _ _ (by omega) (I.step S hst hk hkn hok hb hT)
  unfold TStep at h
  unfold wpOp
  simp only [hok]
  split
  ·rename_i hw
   simp only [hw,if_true] at h
   left
   unfold midAt at h
   unfold Oper.wp
   generalize (execOp a.eval ok).run P W=r at *
   cases r with
   | ok x w' =>
    cases x <;> simp only [midUpon] at h <;> simp only [Oper.upon]
    case value u=>exact go u _ h.1 h.2
    case skip=>exact go undef _ h.1 h.2
    case enter f args =>
     obtain⟨e1,hc⟩:=h
     rw [e1]
     exact hc.mono fun e w'' ⟨v,he,hb,hT⟩=>by subst he;exact go v _ hb hT
   | halt x w'=>simp only [midUpon] at h
  ·rename_i hw
   simp only [hw] at h
   exact go undef W (Below.refl _ _) h
def putHd (ops:Array Oper)(vals:Nat→Value):List Nat→Act→Act
 | [],a=>a
 | k :: r,a=>putHd ops vals r (a.put (slotOf ops k) (vals k))
theorem putHd_congr {vals vals':Nat→Value}:∀ (r:List Nat)(a:Act),(∀ k∈r,vals k=vals' k)→putHd ops vals r a=putHd ops vals' r a
 | [],_,_=>rfl
 | k :: r,a,h=>by
  unfold putHd
  rw [h k (by simp)]
  exact putHd_congr r _ fun j hj=>h j (by simp [hj])
theorem putHd_size (vals:Nat→Value):∀ (r:List Nat)(a:Act),(putHd ops vals r a).tmps.size=a.tmps.size
 | [],_=>rfl
 | k :: r,a=>by unfold putHd;rw [putHd_size vals r,put_size]
theorem putHd_defers (vals:Nat→Value):∀ (r:List Nat)(a:Act),(putHd ops vals r a).defers=a.defers
 | [],_=>rfl
 | k :: r,a=>by unfold putHd;rw [putHd_defers vals r,put_defers']
theorem putHd_other (vals:Nat→Value)(t:Tmp):∀ (r:List Nat)(a:Act),(∀ k∈r,slotOf ops k≠some t)→(putHd ops vals r a).tmps[t]?=a.tmps[t]?
 | [],_,_=>rfl
 | k :: r,a,h=>by
  unfold putHd
  rw [putHd_other vals t r _ fun j hj=>h j (by simp [hj]),put_tmps,if_neg]
  rintro ⟨h1,_⟩
  exact h k (by simp) h1
theorem putHd_slot (vals:Nat→Value)(t:Tmp)(k:Nat)(hk:slotOf ops k=some t):∀ (r:List Nat)(a:Act),k∈r→(∀ j∈r,j≠k→slotOf ops j≠some t)→t < a.tmps.size→(putHd ops vals r a).tmps[t]?=some (vals k)
 | [],_,hm,_,_=>by cases hm
 | j :: r,a,hm,hu,ht=>by
  unfold putHd
  by_cases hr:k∈r
  ·exact putHd_slot vals t k hk r _ hr (fun i hi hne=>hu i (by simp [hi]) hne) (by rw [put_size];exact ht)
  ·obtain rfl:k=j:=by rcases List.mem_cons.1 hm with h | h;exact h;exact absurd h hr
   rw [putHd_other vals t r _ fun i hi=>hu i (by simp [hi]) (by rintro rfl;exact hr hi),put_tmps,if_pos ⟨hk,ht⟩]
def offB (ops:Array Oper)(k:Nat)(r:List Nat):Bool :=
 match ops[k]? with
 | some o=>r.all fun j=>match slotOf ops j with | some d=>!(o.looksAt ops).contains d | none=>true
 | none=>false
def hdB (ops:Array Oper):List Nat→Bool
 | []=>true
 | k :: r=>offB ops k (k :: r) && !r.contains k && hdB ops r
theorem offB_spec {k:Nat} {r:List Nat} (h:offB ops k r=true):∃ o,ops[k]?=some o∧∀ j∈r,∀ d,slotOf ops j=some d→d ∉ o.looksAt ops:=by
 unfold offB at h
 cases ho:ops[k]? with
 | none=>rw [ho] at h;cases h
 | some o =>
  rw [ho] at h
  refine⟨o,rfl,fun j hj d hd=>?_⟩
  have:=List.all_eq_true.1 h j hj
  rw [hd] at this
  simpa using this
theorem yields_putHd {o:Oper} {v:Value} {vals:Nat→Value} (hs:∀ cs b,o.op≠.select cs b):∀ (r:List Nat)(a:Act),(∀ j∈r,∀ d,slotOf ops j=some d→d ∉ o.looksAt ops)→YieldsR P ops w o v a→YieldsR P ops w o v (putHd ops vals r a)
 | [],_,_,h=>h
 | k :: r,a,hn,h=>by
  unfold putHd
  exact yields_putHd hs r _ (fun j hj=>hn j (by simp [hj])) (h.put hs fun d hd=>hn k (by simp) d hd)
theorem head_table (hsel:Region.noSelect ops=true) {Lq:Act→Prop}:∀ (hd:List Nat)(a:Act),hdB ops hd=true→wpQuietR P ops w Lq (hd.filterMap (ops[·]?)) a →
  ∃ vals:Nat→Value,Lq (putHd ops vals hd a)∧∀ k∈hd,∀ ok,ops[k]?=some ok→YieldsR P ops w ok (vals k) (putHd ops vals hd a)
 | [],a,_,h=>⟨fun _=>undef,h,fun k hk=>by cases hk⟩
 | k :: r,a,hB,h=>by
  simp only [hdB,Bool.and_eq_true] at hB
  obtain⟨⟨h1,h2⟩,h3⟩:=hB
  obtain⟨o,ho,hoff⟩:=offB_spec h1
  have hkr:k ∉ r:=by simpa using h2
  have hs:=fun cs b=>Region.noSelect_spec hsel k o cs b ho
  rw [List.filterMap_cons_some (by exact ho)] at h
  have hst:qOpR P ops w k (wpQuietR P ops w Lq (r.filterMap (ops[·]?))) a:=by unfold qOpR;simp only [ho];exact h
  obtain⟨v,hy,hK⟩:=yieldsR_of_qOpR ho hst
  obtain⟨vals,hq,hall⟩:=head_table hsel r _ h3 hK
  have hsk:slotOf ops k=o.dst:=by unfold slotOf;rw [ho];rfl
  refine⟨fun j=>if j=k then v else vals j,?_,?_⟩
  ·unfold putHd
   simp only [if_true]
   rw [hsk,putHd_congr (vals':=vals) r _ fun i hi=>if_neg fun h=>hkr (by rw [← h];exact hi)]
   exact hq
  ·intro j hj oj hoj
   unfold putHd
   simp only [if_true]
   rw [hsk,putHd_congr (vals':=vals) r _ fun i hi=>if_neg fun h=>hkr (by rw [← h];exact hi)]
   by_cases hjk:j=k
   ·subst hjk
    rw [if_pos rfl]
    have:oj=o:=Option.some.inj (hoj.symm.trans ho)
    subst this
    exact yields_putHd hs r _ (fun i hi=>hoff i (by simp [hi])) (hy.put hs fun d hd=>hoff j (by simp) d (by rw [hsk];exact hd))
   ·rw [if_neg hjk]
    rcases List.mem_cons.1 hj with h | h
    ·exact absurd h hjk
    ·exact hall j h oj hoj
def tOf:List (Nat × (Value→World→Prop))→Nat→Value→World→Prop
 | [],_=>fun _ _=>True
 | p :: r,k=>if p.1=k then p.2 else tOf r k
def FitsM:List (Nat × (Value→World→Prop))→(Nat→Value)→World→Prop
 | [],_,_=>True
 | p :: r,vs,W=>p.2 (vs p.1) W∧FitsM r vs W
def needsB (ops:Array Oper)(o:Oper)(j:Nat):Bool:=match slotOf ops j with | some t=>(o.looksAt ops).contains t | none=>false
def MidsOK (P:Program)(ops:Array Oper)(w:World)(A:Act)(ms:List (Nat × (Value→World→Prop))):List (Nat × (Value→World→Prop))→Prop
 | []=>True
 | p :: r=>(match ops[p.1]? with
   | some o=>∀ vs W,Below w.heap.size w W→FitsM (ms.filter fun q=>needsB ops o q.1) vs W→midAt P o (putHd ops vs (ms.map (·.1)) A) W p.2
   | none=>True)∧MidsOK P ops w A ms r
def MidsOKg (P:Program)(ops:Array Oper)(w:World)(A:Act)(ms:List (Nat × (Value→World→Prop))):List (Nat × (Value→World→Prop))→Prop
 | []=>True
 | p :: r=>(match ops[p.1]? with
   | some o=>∀ vs W,Below w.heap.size w W→FitsM (ms.filter fun q=>needsB ops o q.1) vs W→TStep P ops o (putHd ops vs (ms.map (·.1)) A) W p.2
   | none=>True)∧MidsOKg P ops w A ms r
theorem tstep_yes {o:Oper} {a:Act} {W:World} {T:Value→World→Prop} (h:Region.wanted o (yielded ops a.tmps)=true)(hm:midAt P o a W T):TStep P ops o a W T:=by unfold TStep;rw [if_pos h];exact hm
theorem midsOKg_mem {A:Act} {ms:List (Nat × (Value→World→Prop))}:∀ {l:List (Nat × (Value→World→Prop))} {p},p∈l→MidsOKg P ops w A ms l→∀ o,ops[p.1]?=some o→∀ vs W,Below w.heap.size w W→FitsM (ms.filter fun q=>needsB ops o q.1) vs W→TStep P ops o (putHd ops vs (ms.map (·.1)) A) W p.2
 | q :: r,p,hp,h,o,ho,vs,W,hb,hf=>by
  rcases List.mem_cons.1 hp with rfl | hp
  ·have h1:=h.1
   rw [ho] at h1
   exact h1 vs W hb hf
  ·exact midsOKg_mem hp h.2 o ho vs W hb hf
def StableM:List (Nat × (Value→World→Prop))→Prop
 | []=>True
 | p :: r=>(∀ v W W',p.2 v W→Below W.heap.size W W'→p.2 v W')∧StableM r
theorem tOf_mem:∀ {ms:List (Nat × (Value→World→Prop))} {p},p∈ms→(ms.map (·.1)).Nodup→tOf ms p.1=p.2
 | q :: r,p,hp,hn=>by
  unfold tOf
  rcases List.mem_cons.1 hp with rfl | hp
  ·simp
  ·rw [List.map_cons,List.nodup_cons] at hn
   rw [if_neg,tOf_mem hp hn.2]
   intro h
   exact hn.1 (by rw [h];exact List.mem_map.2 ⟨p,hp,rfl⟩)
theorem fitsM_of {vs:Nat→Value} {W:World}:∀ {l:List (Nat × (Value→World→Prop))},(∀ p∈l,p.2 (vs p.1) W)→FitsM l vs W
 | [],_=>trivial
 | p :: r,h=>⟨h p (by simp),fitsM_of fun q hq=>h q (by simp [hq])⟩
theorem stableM_mem:∀ {l:List (Nat × (Value→World→Prop))} {p},p∈l→StableM l→∀ v W W',p.2 v W→Below W.heap.size W W'→p.2 v W'
 | q :: r,p,hp,h=>by
  rcases List.mem_cons.1 hp with rfl | hp
  ·exact h.1
  ·exact stableM_mem hp h.2
def floatVal (o:Oper):Option Value:=match o.guard,o.op with | none,.move (.const c)=>some c | _,_=>none
theorem floatVal_yields {o:Oper} {c:Value} (h:floatVal o=some c)(a:Act):Yields P ops o c a:=by
 unfold floatVal at h
 split at h
 ·rename_i hg hop
  cases h
  refine .inl ⟨by simp [Region.wanted,hg],fun w=>?_⟩
  unfold execOp
  simp [hop,Act.eval]
 ·cases h
def floatsB (md:Region.Mode)(ops:Array Oper):Nat→Nat→Array Bool→Bool
 | 0,_,_=>true
 | f+1,t,listed=>(match ops[t]? with | some o=>(floatVal o).isSome | none=>false) && Region.free md ops listed t && (Region.ready md ops listed).contains t && floatsB md ops f (t+1) (listed.setIfInBounds t true)
def putFl (ops:Array Oper):Nat→Nat→Act→Act
 | 0,_,a=>a
 | f+1,t,a=>putFl ops f (t+1) (match (ops[t]?).bind floatVal with | some c=>a.put (slotOf ops t) c | none=>a)
def listFl:Nat→Nat→Array Bool→Array Bool
 | 0,_,listed=>listed
 | f+1,t,listed=>listFl f (t+1) (listed.setIfInBounds t true)
theorem listFl_size:∀ (f t:Nat)(listed:Array Bool),(listFl f t listed).size=listed.size
 | 0,_,_=>rfl
 | f+1,t,listed=>by unfold listFl;rw [listFl_size];simp
theorem listFl_low:∀ (f t:Nat)(listed:Array Bool)(k:Nat)(d:Bool),k < t→(listFl f t listed).getD k d=listed.getD k d
 | 0,_,_,_,_,_=>rfl
 | f+1,t,listed,k,d,h=>by unfold listFl;rw [listFl_low f (t+1) _ k d (by omega),getD_set_ne d (by omega)]
theorem listFl_in:∀ (f t:Nat)(listed:Array Bool)(k:Nat),t≤k→k < t+f→k < listed.size→(listFl f t listed).getD k false=true
 | 0,_,_,_,h1,h2,_=>by omega
 | f+1,t,listed,k,h1,h2,h3=>by
  unfold listFl
  by_cases h:k=t
  ·subst h
   rw [listFl_low f (k+1) _ k false (by omega)]
   simp [h3]
  ·exact listFl_in f (t+1) _ k (by omega) (by omega) (by simpa using h3)
theorem take_floats (hsel:Region.noSelect ops=true) {Q:Exit→Act→World→Prop} (hQ:∀ c a d v w,Q (.panic c) (Act.put a (some d) v) w→Q (.panic c) a w) {W:World} (m:Nat):∀ (f t:Nat)(listed:Array Bool)(a:Act),floatsB md ops f t listed=true →
  wpAny P md ops Q m (listFl f t listed) (putFl ops f t a) W→wpAny P md ops Q (m+f) listed a W
 | 0,_,_,_,_,h=>h
 | f+1,t,listed,a,hB,h=>by
  simp only [floatsB,Bool.and_eq_true] at hB
  obtain⟨⟨⟨h1,h2⟩,h3⟩,h4⟩:=hB
  cases ho:ops[t]? with
  | none=>rw [ho] at h1;cases h1
  | some o =>
   rw [ho] at h1
   obtain⟨c,hc⟩:=Option.isSome_iff_exists.1 h1
   unfold listFl putFl at h
   have e1:(ops[t]?).bind floatVal=some c:=by rw [ho];exact hc
   have e2:slotOf ops t=o.dst:=by unfold slotOf;rw [ho];rfl
   rw [e1] at h
   simp only [e2] at h
   exact wpAny_take ho hsel h2 h3 (fun c' a' w' hq=>by
    cases hd:o.dst with
    | none=>rw [hd] at hq;exact hq
    | some d=>rw [hd] at hq;exact hQ c' a' d _ w' hq) (floatVal_yields hc a) (take_floats hsel hQ m f (t+1) _ _ h4 h)
def headOf (n:Nat)(mids:List Nat):List Nat:=(List.range n).filter fun k=>!mids.contains k
def midB (ops:Array Oper)(n g:Nat)(mids:List Nat):Bool :=
 Region.noSelect ops && decide (n+g≤ops.size) &&
 ((List.range n).all fun k=>match ops[k]? with
  | some ok=>(ok.after.all fun e=>!Region.binds .any e || decide (e.on < k)) && ((List.range n).all fun j=>match slotOf ops j with
    | some t=>(!(ok.looksAt ops).contains t || waitsOn .any ok j) && (j == k || slotOf ops k != some t)
    | none=>true)
  | none=>true) &&
 (g == 0 || ((List.range n).all fun i=>(List.range (n+1)).any fun j=>decide (i < j) && Region.waitsFor .any ops j i)) &&
 ((List.range (n+g)).all fun t=>decide (t≤n) || Region.waitsFor .any ops t (t - 1)) &&
 Region.seqB .any ops g n (Array.ofFn fun i:Fin ops.size=>decide (i.val < n∨n+g≤i.val)) &&
 hdB ops (headOf n mids) && ((headOf n mids).all fun k=>offB ops k mids) &&
 (mids.all fun k=>decide (k < n) && (match ops[k]? with | some o=>o.guard.isNone && o.dst.isSome | none=>false)) && decide mids.Nodup &&
 floatsB .any ops (ops.size - (n+g)) (n+g) (Array.replicate ops.size false)
def midBg (ops:Array Oper)(n g:Nat)(mids:List Nat):Bool :=
 Region.noSelect ops && decide (n+g≤ops.size) &&
 ((List.range n).all fun k=>match ops[k]? with
  | some ok=>(ok.after.all fun e=>!Region.binds .any e || decide (e.on < k)) && ((List.range n).all fun j=>match slotOf ops j with
    | some t=>(!(ok.looksAt ops).contains t || waitsOn .any ok j) && (j == k || slotOf ops k != some t)
    | none=>true)
  | none=>true) &&
 (g == 0 || ((List.range n).all fun i=>(List.range (n+1)).any fun j=>decide (i < j) && Region.waitsFor .any ops j i)) &&
 ((List.range (n+g)).all fun t=>decide (t≤n) || Region.waitsFor .any ops t (t - 1)) &&
 Region.seqB .any ops g n (Array.ofFn fun i:Fin ops.size=>decide (i.val < n∨n+g≤i.val)) &&
 hdB ops (headOf n mids) && ((headOf n mids).all fun k=>offB ops k mids) &&
 (mids.all fun k=>decide (k < n) && (match ops[k]? with | some o=>o.dst.isSome | none=>false)) && decide mids.Nodup &&
 floatsB .any ops (ops.size - (n+g)) (n+g) (Array.replicate ops.size false)
def slotsB (ops:Array Oper)(s:Nat):Bool:=ops.all fun o=>match o.dst with | some t=>decide (t < s) | none=>true
def wpHead (P:Program)(ops:Array Oper)(w:World)(mids:List Nat)(Q:Act→Prop):Nat→List Oper→Act→Prop
 | _,[],a=>Q a
 | k,o :: rest,a=>if mids.contains k then wpHead P ops w mids Q (k+1) rest a else
   if Region.wanted o (yielded ops a.tmps) then quietR P o a w (wpHead P ops w mids Q (k+1) rest) else wpHead P ops w mids Q (k+1) rest (a.put o.dst undef)
theorem wpHead_nil {mids:List Nat} {Q:Act→Prop} {k:Nat} {a:Act} (h:Q a):wpHead P ops w mids Q k [] a:=h
theorem wpHead_skip {mids:List Nat} {Q:Act→Prop} {k:Nat} {o:Oper} {rest:List Oper} {a:Act} (hk:mids.contains k=true)(h:wpHead P ops w mids Q (k+1) rest a):wpHead P ops w mids Q k (o :: rest) a:=by
 unfold wpHead;rw [if_pos hk];exact h
theorem wpHead_step {mids:List Nat} {Q:Act→Prop} {k:Nat} {a:Act} {o:Oper} {rest:List Oper} (hk:mids.contains k=false)
  (h:∀ K:Act→Prop,(∀ a,wpHead P ops w mids Q (k+1) rest a→K a)→if Region.wanted o (yielded ops a.tmps) then quietR P o a w K else K (a.put o.dst undef)):wpHead P ops w mids Q k (o :: rest) a:=by
 unfold wpHead;rw [if_neg (by rw [hk];simp)];exact h _ (fun _ h=>h)
theorem quietR_of_head {mids:List Nat} {Q:Act→Prop}:∀ (l:List Oper)(k:Nat)(a:Act),(∀ j,j < l.length→l[j]?=ops[k+j]?)→wpHead P ops w mids Q k l a →
  wpQuietR P ops w Q (((List.range' k l.length).filter fun j=>!mids.contains j).filterMap (ops[·]?)) a
 | [],k,a,_,h=>h
 | o :: l,k,a,hl,h=>by
  have h0:ops[k]?=some o:=by simpa using (hl 0 (by simp)).symm
  have ih:=fun a (h:wpHead P ops w mids Q (k+1) l a)=>quietR_of_head l (k+1) a (fun j hj=>by have:=hl (j+1) (by simp;omega);simpa [Nat.add_assoc,Nat.add_comm 1 j] using this) h
  unfold wpHead at h
  rw [List.length_cons,List.range'_succ]
  by_cases hk:mids.contains k=true
  ·rw [if_pos hk] at h
   rw [List.filter_cons_of_neg (by rw [hk];simp)]
   exact ih a h
  ·rw [if_neg hk] at h
   rw [List.filter_cons_of_pos (by simpa using hk),List.filterMap_cons_some h0]
   unfold wpQuietR
   split
   ·rename_i hw
    rw [if_pos hw] at h
    obtain⟨v,h1,h2⟩:=h
    exact⟨v,h1,ih _ h2⟩
   ·rename_i hw
    rw [if_neg hw] at h
    exact ih _ h
def flOf (ops:Array Oper):Nat→Nat→List (Tmp × Value)
 | 0,_=>[]
 | f+1,t=>match ops[t]? with
  | some o=>match floatVal o,o.dst with
   | some c,some d=>(d,c) :: flOf ops f (t+1)
   | _,_=>flOf ops f (t+1)
  | none=>flOf ops f (t+1)
def putL:List (Tmp × Value)→Act→Act
 | [],a=>a
 | p :: r,a=>putL r (a.put (some p.1) p.2)
theorem putFl_eq:∀ (f t:Nat)(a:Act),putFl ops f t a=putL (flOf ops f t) a
 | 0,_,_=>rfl
 | f+1,t,a=>by
  unfold putFl flOf
  rw [putFl_eq f (t+1)]
  cases ho:ops[t]? with
  | none=>simp
  | some o =>
   have e2:slotOf ops t=o.dst:=by unfold slotOf;rw [ho];rfl
   simp only [Option.bind_some]
   cases hc:floatVal o with
   | none=>simp
   | some c =>
    cases hd:o.dst with
    | none=>simp [e2,hd,Act.put]
    | some d=>simp [e2,hd,putL]
theorem wp_region_midg {id:Nat} {Q:Exit→Act→World→Prop} {a:Act} {l:List Oper} (n g:Nat)(mids:List Nat)(fls:List (Tmp × Value))(ms:List (Nat × (Value→World→Prop)))(hmids:ms.map (·.1)=mids)(hm:P.follows .mixedOrders=true)
  (hB:midBg l.toArray n g mids=true) (hfls:flOf l.toArray (l.length - (n+g)) (n+g)=fls) (hsz:slotsB l.toArray a.tmps.size=true) (hQ:∀ c a d v w,Q (.panic c) (Act.put a (some d) v) w→Q (.panic c) a w) (hst:StableM ms)
  (h:∀ L:Act→Prop,(∀ A,MidsOKg P l.toArray w A ms ms→(∀ vs W,Below w.heap.size w W→FitsM ms vs W→wpList P l.toArray Q ((l.drop n).take g) (putHd l.toArray vs mids A) W)→L A) →
   wpHead P l.toArray w mids L 0 (l.take n) (putL fls a)) :
  (Code.region id l.toArray true).wp P Q a w:=by
 subst hmids
 have hle0:n+g≤l.length:=by
  simp only [midBg,Bool.and_eq_true,decide_eq_true_eq] at hB
  simpa using hB.1.1.1.1.1.1.1.1.1.2
 have h:=h _ (fun A h1 h2=>(show MidsOKg P l.toArray w A ms ms∧∀ vs W,Below w.heap.size w W→FitsM ms vs W→wpList P l.toArray Q ((l.drop n).take g) (putHd l.toArray vs (ms.map (·.1)) A) W from ⟨h1,h2⟩))
 have h:=quietR_of_head _ _ _ (fun j hj=>by
  have:j < n:=by simp at hj;omega
  simp [List.getElem?_take_of_lt this]) h
 rw [← hfls,← putFl_eq,show (l.take n).length=n by simp;omega,← List.range_eq_range'] at h
 change wpQuietR P l.toArray w _ ((headOf n (ms.map (·.1))).filterMap (l.toArray[·]?)) _ at h
 clear hfls
 simp only [midBg,Bool.and_eq_true,decide_eq_true_eq] at hB
 obtain⟨⟨⟨⟨⟨⟨⟨⟨⟨⟨hsel,hle⟩,hk⟩,hsink⟩,hchain⟩,hseq⟩,hhd⟩,hoff⟩,hmid⟩,hnd⟩,hfl⟩:=hB
 generalize hops:l.toArray=ops at *
 have hl:l=ops.toList:=by rw [← hops]
 subst hl
 have hmk:∀ k ok,k < n→ops[k]?=some ok→(∀ e∈ok.after,Region.binds .any e=true→e.on < k)∧∀ j t,j < n→slotOf ops j=some t→(t∈ok.looksAt ops→waitsOn .any ok j=true)∧(j≠k→slotOf ops k≠some t):=by
  intro k ok hkn hok
  have h1:=List.all_eq_true.1 hk k (List.mem_range.2 hkn)
  rw [hok] at h1
  simp only [Bool.and_eq_true] at h1
  refine⟨fun e he hb=>?_,fun j t hj hs=>?_⟩
  ·have:=Array.all_eq_true'.1 h1.1 e he
   simpa [hb] using this
  ·have h2:=List.all_eq_true.1 h1.2 j (List.mem_range.2 hj)
   rw [hs] at h2
   simp only [Bool.and_eq_true,Bool.or_eq_true,Bool.not_eq_true',beq_iff_eq,bne_iff_ne] at h2
   refine⟨fun ht=>h2.1.resolve_left (by simpa using ht),fun hne=>h2.2.resolve_left hne⟩
 have S:StatM .any ops n g:={
  sel:=hsel,le:=hle
  down:=fun k ok hkn hok=>(hmk k ok hkn hok).1
  slots:=fun k ok hkn hok t ht j hj hs=>((hmk k ok hkn hok).2 j t hj hs).1 ht
  uniq:=fun i j t hi hj hne hs=>by
   have hjs:j < ops.size:=by omega
   exact ((hmk j ops[j] hj (Array.getElem?_eq_getElem hjs)).2 i t hi hs).2 hne
  sink:=fun hg i hi=>by
   rcases Bool.or_eq_true _ _ ▸ hsink with h0 | h0
   ·have:g=0:=by simpa using h0
    omega
   ·obtain⟨j,hj,h2⟩:=List.any_eq_true.1 (List.all_eq_true.1 h0 i (List.mem_range.2 hi))
    simp only [Bool.and_eq_true,decide_eq_true_eq] at h2
    exact⟨j,h2.1,by have:=List.mem_range.1 hj;omega,h2.2⟩
  chain:=fun t h1 h2=>by
   have:=List.all_eq_true.1 hchain t (List.mem_range.2 h2)
   simp only [Bool.or_eq_true,decide_eq_true_eq] at this
   exact this.resolve_left (by omega)
  seq:=hseq }
 obtain⟨vals,⟨hmo,htl⟩,hy⟩:=head_table hsel (headOf n (ms.map (·.1))) _ hhd h
 generalize ha0:putFl ops (ops.toList.length - (n+g)) (n+g) a=a0 at *
 have hsz0:a0.tmps.size=a.tmps.size:=by
  rw [← ha0]
  have:∀ f t (a:Act),(putFl ops f t a).tmps.size=a.tmps.size:=by
   intro f
   induction f with
   | zero=>intro t a;rfl
   | succ f ih=>intro t a;unfold putFl;rw [ih];split <;> simp [put_size]
  exact this _ _ _
 have hin:∀ k t,slotOf ops k=some t→t < a0.tmps.size:=by
  intro k t hs
  unfold slotOf at hs
  cases ho:ops[k]? with
  | none=>rw [ho] at hs;cases hs
  | some o =>
   rw [ho] at hs
   have h1:=Array.all_eq_true'.1 hsz o (Array.mem_of_getElem? ho)
   simp only [Option.bind_some] at hs
   rw [hs] at h1
   rw [hsz0];simpa using h1
 generalize hA:putHd ops vals (headOf n (ms.map (·.1))) a0=A at *
 have hAsz:A.tmps.size=a0.tmps.size:=by rw [← hA];exact putHd_size _ _ _
 have hAdf:A.defers=a0.defers:=by rw [← hA];exact putHd_defers _ _ _
 have memH:∀ k,k∈headOf n (ms.map (·.1))↔k < n∧k ∉ ms.map (·.1):=by
  intro k;unfold headOf;rw [List.mem_filter,List.mem_range];simp
 have hAs:∀ k t,k∈headOf n (ms.map (·.1))→slotOf ops k=some t→A.tmps[t]?=some (vals k):=by
  intro k t hkh hs
  rw [← hA]
  exact putHd_slot vals t k hs _ _ hkh (fun j hj hne=>S.uniq k j t ((memH k).1 hkh).1 ((memH j).1 hj).1 (Ne.symm hne) hs) (hin k t hs)
 have hAo:∀ t,(∀ k,k < n→slotOf ops k≠some t)→A.tmps[t]?=a0.tmps[t]?:=by
  intro t ht
  rw [← hA]
  exact putHd_other vals t _ _ fun k hk=>ht k ((memH k).1 hk).1
 have hmid':∀ k∈ms.map (·.1),k < n∧∃ o,ops[k]?=some o∧∃ d,o.dst=some d:=by
  intro k hk
  have h1:=List.all_eq_true.1 hmid k hk
  simp only [Bool.and_eq_true,decide_eq_true_eq] at h1
  refine⟨h1.1,?_⟩
  cases ho:ops[k]? with
  | none=>rw [ho] at h1;cases h1.2
  | some o =>
   rw [ho] at h1
   exact⟨o,rfl,Option.isSome_iff_exists.1 h1.2⟩
 -- the frame with the middle's values
 have hF:∀ (vs:Nat→Value) (t:Tmp),(∀ k t,k∈ms.map (·.1)→slotOf ops k=some t→(putHd ops vs (ms.map (·.1)) A).tmps[t]?=some (vs k))∧((∀ k∈ms.map (·.1),slotOf ops k≠some t)→(putHd ops vs (ms.map (·.1)) A).tmps[t]?=A.tmps[t]?):=by
  intro vs t
  refine⟨fun k t hk hs=>putHd_slot vs t k hs _ _ hk (fun j hj hne=>S.uniq k j t (hmid' k hk).1 (hmid' j hj).1 (Ne.symm hne) hs) (by rw [hAsz];exact hin k t hs),fun h=>putHd_other vs t _ _ h⟩
 let T:Nat→Value→World→Prop:=fun k v W=>if k∈ms.map (·.1) then tOf ms k v W else v=vals k
 have hT:∀ k,k ∉ ms.map (·.1)→∀ v W,T k v W↔v=vals k:=fun k hk v W=>by show (if _ then _ else _)↔_;rw [if_neg hk]
 have hTm:∀ k,k∈ms.map (·.1)→∀ v W,T k v W↔tOf ms k v W:=fun k hk v W=>by show (if _ then _ else _)↔_;rw [if_pos hk]
 have hstT:∀ k,k < n→∀ v W W',T k v W→Below W.heap.size W W'→T k v W':=by
  intro k _ v W W' h1 h2
  by_cases hk:k∈ms.map (·.1)
  ·rw [hTm k hk] at h1 ⊢
   obtain⟨p,hp,rfl⟩:=List.mem_map.1 hk
   rw [tOf_mem hp hnd] at h1 ⊢
   exact stableM_mem hp hst v W W' h1 h2
  ·rw [hT k hk] at h1 ⊢;exact h1
 have valOf:∀ (b:Act) (W:World) (o:Oper),SeesM .any ops n T a0 w o b W→∀ t∈o.looksAt ops,(∀ j∈ms.map (·.1),slotOf ops j≠some t)→b.tmps[t]?=A.tmps[t]?:=by
  intro b W o hse t ht hno
  by_cases hex:∃ j,j < n∧slotOf ops j=some t
  ·obtain⟨j,hj,hs⟩:=hex
   have hjm:j ∉ ms.map (·.1):=fun hm=>hno j hm hs
   obtain⟨v,hv,hTv⟩:=hse.val t ht j hj hs (hin j t hs)
   rw [hT j hjm] at hTv
   rw [hv,hTv,hAs j t ((memH j).2 ⟨hj,hjm⟩) hs]
  ·have hno':∀ k,k < n→slotOf ops k≠some t:=fun k hk hs=>hex ⟨k,hk,hs⟩
   rw [hse.same t ht hno',hAo t hno']
 have hstep:∀ k ok,k < n→ops[k]?=some ok→∀ b W,SeesM .any ops n T a0 w ok b W→TStep P ops ok b W (T k):=by
  intro k ok hkn hok b W hse
  have hs:=fun cs b=>Region.noSelect_spec hsel k ok cs b hok
  by_cases hk:k∈ms.map (·.1)
  ·obtain⟨p,hp,rfl⟩:=List.mem_map.1 hk
   obtain⟨_,o',ho',_⟩:=hmid' p.1 hk
   have:o'=ok:=Option.some.inj (ho'.symm.trans hok)
   subst this
   have hvs:∃ vs:Nat→Value,vs=fun j=>(match slotOf ops j with | some t=>b.tmps.getD t undef | none=>undef):=⟨_,rfl⟩
   obtain⟨vs,hvs⟩:=hvs
   have hfit:FitsM (ms.filter fun q=>needsB ops o' q.1) vs W:=by
    refine fitsM_of fun q hq=>?_
    obtain⟨hqm,hqn⟩:=List.mem_filter.1 hq
    have hqk:q.1∈ms.map (·.1):=List.mem_map.2 ⟨q,hqm,rfl⟩
    unfold needsB at hqn
    cases hsq:slotOf ops q.1 with
    | none=>rw [hsq] at hqn;cases hqn
    | some t =>
     rw [hsq] at hqn
     obtain⟨v,hv,hTv⟩:=hse.val t (by simpa using hqn) q.1 (hmid' _ hqk).1 hsq (hin _ t hsq)
     rw [hTm _ hqk,tOf_mem hqm hnd] at hTv
     have:vs q.1=v:=by rw [hvs];simp only [hsq,Array.getD_eq_getD_getElem?,hv,Option.getD_some]
     rw [this];exact hTv
   have hmid2:=midsOKg_mem hp hmo o' hok vs W hse.below hfit
   have hag:∀ t∈o'.looksAt ops,b.tmps[t]?=(putHd ops vs (ms.map (·.1)) A).tmps[t]?:=by
    intro t ht
    by_cases hex:∃ j,j∈ms.map (·.1)∧slotOf ops j=some t
    ·obtain⟨j,hj,hsj⟩:=hex
     obtain⟨v,hv,_⟩:=hse.val t ht j (hmid' j hj).1 hsj (hin j t hsj)
     rw [(hF vs t).1 j t hj hsj,hv,hvs]
     simp only [hsj,Array.getD_eq_getD_getElem?,hv,Option.getD_some]
    ·have hno:∀ j∈ms.map (·.1),slotOf ops j≠some t:=fun j hj hsj=>hex ⟨j,hj,hsj⟩
     rw [(hF vs t).2 hno,valOf b W o' hse t ht hno]
   obtain⟨e1,e2⟩:=agree_exec hs hag
   have e3:(fun v W=>T p.1 v W)=p.2:=by funext v W;exact propext (by rw [hTm _ hk,tOf_mem hp hnd])
   rw [show T p.1=p.2 from e3]
   unfold TStep midAt at *
   rw [e1,e2];exact hmid2
  ·have hkh:=(memH k).2 ⟨hkn,hk⟩
   have hyk:=hy k hkh ok hok
   have hof:=offB_spec (List.all_eq_true.1 hoff k hkh)
   obtain⟨o2,ho2,hof⟩:=hof
   have:o2=ok:=Option.some.inj (ho2.symm.trans hok)
   subst this
   have hag:∀ t∈o2.looksAt ops,b.tmps[t]?=A.tmps[t]?:=fun t ht=>valOf b W o2 hse t ht fun j hj hsj=>hof j hj t hsj ht
   obtain⟨e1,e2⟩:=agree_exec hs hag
   have e3:T k=fun v _=>v=vals k:=by funext v W;exact propext (hT k hk v W)
   unfold TStep
   rw [e3,e2]
   rcases hyk with ⟨hw,hq⟩ | ⟨hw,hu⟩
   ·rw [if_pos hw]
    have h1:=hq W
    rw [← eq_over hse.below] at h1
    unfold midAt
    rw [e1]
    unfold quietAtR at h1
    generalize (execOp A.eval o2).run P W=r at *
    cases r with
    | halt x w'=>simp only [quietUponR] at h1
    | ok x w' =>
     cases x <;> simp only [quietUponR] at h1 <;> simp only [midUpon]
     case value u=>exact⟨by rw [h1.1];exact Below.refl _ _,h1.2⟩
     case skip=>exact⟨by rw [h1.1];exact Below.refl _ _,h1.2.symm⟩
     case enter f args=>exact⟨h1.1,h1.2.mono fun e W'' ⟨he,hb⟩=>⟨_,he,hb,rfl⟩⟩
   ·rw [if_neg (by rw [hw];simp)]
    exact hu.symm
 have hfin:∀ listed b W,InvM .any ops n g T a0 w listed b W→(∀ k,k < n→listed.getD k false=true)→wpList P ops Q ((ops.toList.drop n).take g) b W:=by
  intro listed b W I hall
  have hvs:∃ vs:Nat→Value,vs=fun j=>(match slotOf ops j with | some t=>b.tmps.getD t undef | none=>undef):=⟨_,rfl⟩
  obtain⟨vs,hvs⟩:=hvs
  have hval:∀ k,k∈ms.map (·.1)→∀ t,slotOf ops k=some t→b.tmps[t]?=some (vs k)∧tOf ms k (vs k) W:=by
   intro k hk t hs
   obtain⟨v,hv,hTv⟩:=I.val k t (hmid' k hk).1 (hall k (hmid' k hk).1) hs (hin k t hs)
   have:vs k=v:=by rw [hvs];simp only [hs,Array.getD_eq_getD_getElem?,hv,Option.getD_some]
   rw [this,← hTm k hk];exact⟨hv,hTv⟩
  have hfit:FitsM ms vs W:=fitsM_of fun q hq=>by
   have hqk:q.1∈ms.map (·.1):=List.mem_map.2 ⟨q,hq,rfl⟩
   obtain⟨_,o,ho,d,hd⟩:=hmid' _ hqk
   have:=(hval _ hqk d (by unfold slotOf;rw [ho];exact hd)).2
   rw [tOf_mem hq hnd] at this
   exact this
  have hb:b=putHd ops vs (ms.map (·.1)) A:=by
   have ht:b.tmps=(putHd ops vs (ms.map (·.1)) A).tmps:=by
    apply Array.ext_getElem?
    intro t
    by_cases hex:∃ j,j∈ms.map (·.1)∧slotOf ops j=some t
    ·obtain⟨j,hj,hsj⟩:=hex
     rw [(hval j hj t hsj).1,(hF vs t).1 j t hj hsj]
    ·have hno:∀ j∈ms.map (·.1),slotOf ops j≠some t:=fun j hj hsj=>hex ⟨j,hj,hsj⟩
     rw [(hF vs t).2 hno]
     by_cases hex2:∃ j,j < n∧slotOf ops j=some t
     ·obtain⟨j,hj,hs⟩:=hex2
      have hjm:j ∉ ms.map (·.1):=fun hm=>hno j hm hs
      obtain⟨v,hv,hTv⟩:=I.val j t hj (hall j hj) hs (hin j t hs)
      rw [hT j hjm] at hTv
      rw [hv,hTv,hAs j t ((memH j).2 ⟨hj,hjm⟩) hs]
     ·have hno':∀ k,k < n→slotOf ops k≠some t:=fun k hk hs=>hex2 ⟨k,hk,hs⟩
      rw [I.same t fun k hk _=>hno' k hk,hAo t hno']
   have hd:b.defers=(putHd ops vs (ms.map (·.1)) A).defers:=by rw [putHd_defers,hAdf];exact I.defers
   cases b
   generalize putHd ops vs (ms.map (·.1)) A=F at *
   cases F
   simp only at ht hd
   subst ht;subst hd;rfl
  rw [hb]
  exact htl vs W I.below hfit
 refine wp_region_any hm ?_
 have hsum:n+g+(ops.toList.length - (n+g))=ops.size:=by simp;omega
 have I0:InvM .any ops n g T a0 w (listFl (ops.toList.length - (n+g)) (n+g) (Array.replicate ops.size false)) a0 w.drew:=by
  refine⟨by rw [listFl_size];simp,?_,?_,?_,(Below.refl _ w).drew,rfl,rfl,fun t _=>rfl,?_⟩
  ·intro j oj hj _ hl
   rw [listFl_low _ _ _ _ _ (by omega),getD_replicate_false] at hl
   cases hl
  ·intro t h1 h2
   rw [listFl_low _ _ _ _ _ h2]
   exact getD_in (by simp;omega) (getD_replicate_false _ _)
  ·intro t h1 h2
   exact listFl_in _ _ _ t h1 (by omega) (by simp;omega)
  ·intro k t hk hl
   rw [listFl_low _ _ _ _ _ (by omega),getD_replicate_false] at hl
   cases hl
 have hleft:left n (listFl (ops.toList.length - (n+g)) (n+g) (Array.replicate ops.size false))=n:=by
  unfold left
  rw [List.filter_eq_self.2,List.length_range]
  intro k hk
  rw [listFl_low _ _ _ _ _ (by have:=List.mem_range.1 hk;omega),getD_replicate_false]
  rfl
 have h1:=phaseM (Q:=Q) S hstT hstep hfin n _ a0 w.drew hleft I0
 rw [← ha0] at h1
 have h2:=take_floats hsel hQ (n+g) _ _ _ a (by rw [show ops.toList.length=ops.size by simp];exact hfl) h1
 rw [hsum] at h2
 exact h2
theorem midBg_of {ops:Array Oper} {n g:Nat} {mids:List Nat} (h:midB ops n g mids=true):midBg ops n g mids=true:=by
 simp only [midB,midBg,Bool.and_eq_true,decide_eq_true_eq] at h ⊢
 obtain⟨⟨⟨h1,h2⟩,h3⟩,h4⟩:=h
 refine⟨⟨⟨h1,?_⟩,h3⟩,h4⟩
 rw [List.all_eq_true] at h2 ⊢
 intro k hk
 have:=h2 k hk
 simp only [Bool.and_eq_true] at this ⊢
 refine⟨this.1,?_⟩
 have h5:=this.2
 cases ho:ops[k]? with
 | none=>rw [ho] at h5;exact h5
 | some o=>rw [ho] at h5;simp only [Bool.and_eq_true] at h5;exact h5.2
theorem midsOKg_of {ops:Array Oper} {n g:Nat} {A:Act} {ms:List (Nat × (Value→World→Prop))} (hB:∀ k∈ms.map (·.1),∀ o,ops[k]?=some o→o.guard=none):∀ l:List (Nat × (Value→World→Prop)),(∀ p∈l,p∈ms)→MidsOK P ops w A ms l→MidsOKg P ops w A ms l
 | [],_,_=>trivial
 | p :: r,hl,h=>by
  refine⟨?_,midsOKg_of hB (n:=n) (g:=g) r (fun q hq=>hl q (by simp [hq])) h.2⟩
  have h1:=h.1
  cases ho:ops[p.1]? with
  | none=>trivial
  | some o =>
   rw [ho] at h1
   have hg:=hB p.1 (List.mem_map.2 ⟨p,hl p (by simp),rfl⟩) o ho
   exact fun vs W hb hf=>tstep_yes (by simp [Region.wanted,hg]) (h1 vs W hb hf)
theorem wp_region_mid {id:Nat} {Q:Exit→Act→World→Prop} {a:Act} {l:List Oper} (n g:Nat)(mids:List Nat)(fls:List (Tmp × Value))(ms:List (Nat × (Value→World→Prop)))(hmids:ms.map (·.1)=mids)(hm:P.follows .mixedOrders=true)
  (hB:midB l.toArray n g mids=true) (hfls:flOf l.toArray (l.length - (n+g)) (n+g)=fls) (hsz:slotsB l.toArray a.tmps.size=true) (hQ:∀ c a d v w,Q (.panic c) (Act.put a (some d) v) w→Q (.panic c) a w) (hst:StableM ms)
  (h:∀ L:Act→Prop,(∀ A,MidsOK P l.toArray w A ms ms→(∀ vs W,Below w.heap.size w W→FitsM ms vs W→wpList P l.toArray Q ((l.drop n).take g) (putHd l.toArray vs mids A) W)→L A) →
   wpHead P l.toArray w mids L 0 (l.take n) (putL fls a)) :
  (Code.region id l.toArray true).wp P Q a w:=by
 refine wp_region_midg n g mids fls ms hmids hm (midBg_of hB) hfls hsz hQ hst fun L hL=>h L fun A hA htl=>hL A (midsOKg_of (n:=n) (g:=g) ?_ ms (fun _ h=>h) hA) htl
 intro k hk o ho
 rw [hmids] at hk
 simp only [midB,Bool.and_eq_true,decide_eq_true_eq] at hB
 obtain⟨⟨⟨_,h2⟩,_⟩,_⟩:=hB
 have:=List.all_eq_true.1 h2 k hk
 simp only [Bool.and_eq_true] at this
 have h5:=this.2
 rw [ho] at h5
 simp only [Bool.and_eq_true,Option.isNone_iff_eq_none] at h5
 exact h5.1
end
end
section
open Go.RowKit
structure Fr (S:Nat→Prop)(w w':World):Prop where
 os:w'.os=w.os
 tape:w'.tape=w.tape
 output:w'.output=w.output
 size:w.heap.size≤w'.heap.size
 block:∀ b,b < w.heap.size→¬ S b→w'.heap[b]?=w.heap[b]?
section
variable {S S' : Nat → Prop} {w w1 w' : World} {base : Nat}
theorem Fr.refl (S:Nat→Prop)(w:World):Fr S w w:=⟨rfl,rfl,rfl,Nat.le_refl _,fun _ _ _=>rfl⟩
theorem Fr.trans (h:Fr S w w1)(k:Fr S w1 w'):Fr S w w':=⟨k.os.trans h.os,k.tape.trans h.tape,k.output.trans h.output,Nat.le_trans h.size k.size,fun b hb hn=>(k.block b (Nat.lt_of_lt_of_le hb h.size) hn).trans (h.block b hb hn)⟩
theorem Fr.of_grown {r:Option Nat} (h:w.grownBy w' r)(hr:∀ b,r=some b→S b):Fr S w w':=⟨h.os,h.tape,h.output,h.size,fun b hb hn=>h.block b hb fun e=>hn (hr b e.symm)⟩
theorem Fr.of_below (h:Below w.heap.size w w'):Fr S w w':=⟨h.os,h.tape,h.output,h.size,fun b hb _=>h.block b hb⟩
theorem Fr.weak (h:Fr S w w')(hS:∀ b,b < w.heap.size→S b→S' b):Fr S' w w':=⟨h.os,h.tape,h.output,h.size,fun b hb hn=>h.block b hb fun hs=>hn (hS b hb hs)⟩
theorem Fr.set {b o:Nat} {u:Value} (hb:S b):Fr S w (w.setCell ⟨b,o,none⟩ u):=by
 exact⟨rfl,rfl,rfl,by simp,fun k hk hn=>Below.heap_setCell w ⟨b,o,none⟩ u k fun e=>hn (by rw [e];exact hb)⟩
theorem Fr.alloc (o:Obj):Fr S w (w.alloc o):=Fr.of_below ((Below.refl _ w).alloc (Nat.le_refl _) o)
end
end
section
open Go.RowKit
section
variable {P : Program} {ops : Array Oper} {md : Region.Mode} {w : World}
def hotUpon (P:Program)(w W:World)(T:Value→World→Prop):Result Next→Prop
 | .ok (.value u) W'=>Below w.heap.size w W'∧T u W'
 | .ok (.enter f args) W'=>W'=W∧Calls P f args W (fun e W''=>∃ v,e=.returned v∧Below w.heap.size w W''∧T v W'')
 | _=>False
def HStep (P:Program)(ops:Array Oper)(w:World)(o:Oper)(a:Act)(W:World)(T:Value→World→Prop):Prop :=
 if Region.wanted o (yielded ops a.tmps) then hotUpon P w W T ((execOp a.eval o).run P W) else T undef W
theorem hstep_yes {o:Oper} {a:Act} {W:World} {T:Value→World→Prop} (h:Region.wanted o (yielded ops a.tmps)=true)(hm:hotUpon P w W T ((execOp a.eval o).run P W)):HStep P ops w o a W T:=by unfold HStep;rw [if_pos h];exact hm
def pathB (md:Region.Mode)(ops:Array Oper):Nat→Nat→Nat→Bool
 | 0,_,_=>false
 | f+1,k,j=>match ops[k]? with
  | some o=>o.after.any fun e=>Region.binds md e && (e.on == j || pathB md ops f e.on j)
  | none=>false
theorem path_come {n:Nat} {listed:Array Bool} (hcl:∀ j oj,j < n→ops[j]?=some oj→listed.getD j false=true→∀ e∈oj.after,Region.binds md e=true→listed.getD e.on false=true)
  (hdn:∀ k ok,k < n→ops[k]?=some ok→∀ e∈ok.after,Region.binds md e=true→e.on < k):∀ (f k j:Nat) (ok:Oper),k < n→ops[k]?=some ok→pathB md ops f k j=true→(∀ e∈ok.after,Region.binds md e=true→listed.getD e.on false=true)→listed.getD j false=true
 | 0,_,_,_,_,_,h,_=>by cases h
 | f+1,k,j,ok,hk,hok,h,hall=>by
  unfold pathB at h
  rw [hok] at h
  simp only at h
  obtain⟨i,hi,h⟩:=Array.any_eq_true.1 h
  simp only [Bool.and_eq_true,Bool.or_eq_true,beq_iff_eq] at h
  have hm:=Array.getElem_mem hi
  have hl:=hall _ hm h.1
  rcases h.2 with h2 | h2
  ·rw [← h2];exact hl
  ·have hlt:=hdn k ok hk hok _ hm h.1
   cases hoe:ops[ok.after[i].on]? with
   | none =>
    cases f with
    | zero=>simp [pathB] at h2
    | succ f=>unfold pathB at h2;rw [hoe] at h2;cases h2
   | some oe=>exact path_come hcl hdn f _ j oe (by omega) hoe h2 fun e he hb=>hcl _ oe (by omega) hoe hl e he hb
structure StatX (md:Region.Mode)(ops:Array Oper)(n:Nat)(x:Nat→Nat)(hot still:Nat→Bool):Prop where
 look:∀ k ok,k < n→ops[k]?=some ok→∀ t∈ok.looksAt ops,∀ j,j < n→slotOf ops j=some t→x j=k∨ops.size≤x j∨(x j < n∧∃ f,pathB md ops f (x j) k=true)
 hotp:∀ k,k < n→hot k=true→∀ j,j < n→j≠k→still j=true∨x j=k∨(∃ f,pathB md ops f k (x j)=true)∨(∃ f,pathB md ops f j k=true)
structure InvX (md:Region.Mode)(ops:Array Oper)(n g:Nat)(T:Nat→Value→World→Prop)(x:Nat→Nat)(J:World→Prop)(jend:Nat)(a0:Act)(w:World)(listed:Array Bool)(a:Act)(W:World):Prop where
 inv:InvM md ops n g (fun _ _ _=>True) a0 w listed a W
 al:∀ k t v,k < n→listed.getD k false=true→listed.getD (x k) false=false→slotOf ops k=some t→t < a0.tmps.size→a.tmps[t]?=some v→T k v W
 jal:listed.getD jend false=false→J W
theorem getD_out {l:Array Bool} {i:Nat} {d:Bool} (h:l.size≤i):l.getD i d=d:=by
 simp [Array.getD_eq_getD_getElem?,Array.getElem?_eq_none h]
theorem InvM.stepX {n g k:Nat} (S:StatM md ops n g) {T:Nat→Value→World→Prop} {a0:Act} {listed:Array Bool} {a:Act} {W W':World} {ok:Oper} {v:Value} (hT0:∀ k v W,T k v W)
  (I:InvM md ops n g T a0 w listed a W) (hr:k∈Region.ready md ops listed) (hkn:k < n) (hok:ops[k]?=some ok) (hb:Below w.heap.size w W') :
  InvM md ops n g T a0 w (listed.setIfInBounds k true) (a.put ok.dst v) W':=by
 obtain⟨hun,ok',hok',hall⟩:=mem_ready.1 hr
 have:ok'=ok:=Option.some.inj (hok'.symm.trans hok)
 subst this
 have hks:k < listed.size:=by rw [I.size];exact (Array.getElem?_eq_some_iff.1 hok).1
 have hsk:slotOf ops k=ok'.dst:=by unfold slotOf;rw [hok];rfl
 refine⟨by simpa using I.size,?_,?_,?_,hb,by rw [put_defers'];exact I.defers,by rw [put_size];exact I.sz,?_,?_⟩
 ·intro j oj hjn hoj hl e he hbi
  by_cases hjk:k=j
  ·subst hjk
   have:oj=ok':=Option.some.inj (hoj.symm.trans hok)
   subst this
   exact getD_set_true (hall e he hbi)
  ·rw [getD_set_ne false hjk] at hl
   exact getD_set_true (I.closed j oj hjn hoj hl e he hbi)
 ·intro t h1 h2
  rw [getD_set_ne true (by omega)];exact I.tail t h1 h2
 ·intro t h1 h2
  exact getD_set_true (I.fl t h1 h2)
 ·intro t h
  rw [put_tmps,if_neg]
  ·refine I.same t fun j hj hl=>h j hj (getD_set_true hl)
  ·rintro ⟨h1,_⟩
   exact h k hkn (by simp [hks]) (by rw [hsk];exact h1)
 ·intro j t hj hl hs ht
  by_cases hjk:k=j
  ·subst hjk
   rw [hsk] at hs
   refine⟨v,?_,hT0 _ _ _⟩
   rw [put_tmps,if_pos ⟨hs,by rw [I.sz];exact ht⟩]
  ·rw [getD_set_ne false hjk] at hl
   obtain⟨u,hu,hTu⟩:=I.val j t hj hl hs ht
   refine⟨u,?_,hT0 _ _ _⟩
   rw [put_tmps,if_neg]
   ·exact hu
   ·rintro ⟨h1,_⟩
    exact S.uniq k j t hkn hj hjk (by rw [hsk];exact h1) hs
theorem InvX.step {n g k:Nat} (S:StatM md ops n g) {x:Nat→Nat} {hot still:Nat→Bool} {J:World→Prop} {jend:Nat} (X:StatX md ops n x hot still) {T:Nat→Value→World→Prop} {a0:Act} {listed:Array Bool} {a:Act} {W W':World} {ok:Oper} {v:Value}
  (hst:∀ k,k < n→∀ v W W',T k v W→Below W.heap.size W W'→T k v W') (hsl:∀ k,k < n→still k=true→∀ v W W',T k v W→T k v W') (hJst:∀ W W',J W→Below W.heap.size W W'→J W') (hJh:(∀ W,J W)∨∀ k,k < n→hot k=true→k=jend∨∃ f,pathB md ops f k jend=true)
  (I:InvX md ops n g T x J jend a0 w listed a W) (hr:k∈Region.ready md ops listed) (hkn:k < n) (hok:ops[k]?=some ok) (hbw:Below w.heap.size w W') (hb:hot k=true∨Below W.heap.size W W') (hT:T k v W') :
  InvX md ops n g T x J jend a0 w (listed.setIfInBounds k true) (a.put ok.dst v) W':=by
 obtain⟨hun,ok',hok',hall⟩:=mem_ready.1 hr
 have:ok'=ok:=Option.some.inj (hok'.symm.trans hok)
 subst this
 have hks:k < listed.size:=by rw [I.inv.size];exact (Array.getElem?_eq_some_iff.1 hok).1
 have hsk:slotOf ops k=ok'.dst:=by unfold slotOf;rw [hok];rfl
 refine⟨I.inv.stepX S (fun _ _ _=>trivial) hr hkn hok hbw,?_,fun hl=>?_⟩
 rotate_left
 ·have hkj:k≠jend:=by
   intro e
   rw [← e] at hl
   simp [hks] at hl
  rw [getD_set_ne false hkj] at hl
  rcases hb with hh | hb
  ·rcases hJh with h | h
   ·exact h W'
   rcases h k hkn hh with h | ⟨f,h⟩
   ·exact absurd h hkj
   ·have:=path_come I.inv.closed S.down f k jend ok' hkn hok h hall
    rw [hl] at this;cases this
  ·exact hJst W W' (I.jal hl) hb
 intro j t u hj hl hx hs ht hu
 by_cases hjk:k=j
 ·subst hjk
  rw [hsk] at hs
  rw [put_tmps,if_pos ⟨hs,by rw [I.inv.sz];exact ht⟩] at hu
  cases hu
  exact hT
 ·rw [getD_set_ne false hjk] at hl
  have hxk:k≠x j:=by
   intro e
   rw [← e] at hx
   simp [hks] at hx
  rw [getD_set_ne false hxk] at hx
  have hu':a.tmps[t]?=some u:=by
   rw [put_tmps,if_neg] at hu
   ·exact hu
   ·rintro ⟨h1,_⟩
    exact S.uniq k j t hkn hj hjk (by rw [hsk];exact h1) hs
  have hTj:=I.al j t u hj hl hx hs ht hu'
  rcases hb with hh | hb
  ·rcases X.hotp k hkn hh j hj (Ne.symm hjk) with h | h | ⟨f,h⟩ | ⟨f,h⟩
   ·exact hsl j hj h u W W' hTj
   ·exact absurd h.symm hxk
   ·have:=path_come I.inv.closed S.down f k (x j) ok' hkn hok h hall
    rw [hx] at this;cases this
   ·have hjs:j < ops.size:=by have:=S.le;omega
    have:=path_come I.inv.closed S.down f j k _ hj (Array.getElem?_eq_getElem hjs) h (I.inv.closed j _ hj (Array.getElem?_eq_getElem hjs) hl)
    rw [getD_both hun] at this;cases this
  ·exact hst j hj u W W' hTj hb
theorem phaseX {n g:Nat} (S:StatM md ops n g) {x:Nat→Nat} {hot still:Nat→Bool} {J:World→Prop} {jend:Nat} (X:StatX md ops n x hot still) {T:Nat→Value→World→Prop} {a0:Act} {Q:Exit→Act→World→Prop} (hst:∀ k,k < n→∀ v W W',T k v W→Below W.heap.size W W'→T k v W')(hsl:∀ k,k < n→still k=true→∀ v W W',T k v W→T k v W')(hJst:∀ W W',J W→Below W.heap.size W W'→J W')(hJh:(∀ W,J W)∨∀ k,k < n→hot k=true→k=jend∨∃ f,pathB md ops f k jend=true)
  (hstep:∀ k ok,k < n→ops[k]?=some ok→∀ a W,SeesM md ops n T a0 w ok a W→(k=jend∨(jend < n∧pathB md ops ops.size jend k=true)→J W)→if hot k then HStep P ops w ok a W (T k) else TStep P ops ok a W (T k))
  (hfin:∀ listed a W,InvX md ops n g T x J jend a0 w listed a W→(∀ k,k < n→listed.getD k false=true)→wpList P ops Q ((ops.toList.drop n).take g) a W) :
  ∀ (c:Nat) (listed:Array Bool) (a:Act) (W:World),left n listed=c→InvX md ops n g T x J jend a0 w listed a W→wpAny P md ops Q (c+g) listed a W:=by
 intro c
 induction c with
 | zero =>
  intro listed a W hc I
  have hall:=left_zero hc
  have hL:listed=Array.ofFn fun i:Fin ops.size=>decide (i.val < n∨n+g≤i.val):=by
   apply Array.ext
   ·simp [I.inv.size]
   ·intro i hi hi'
    have hio:i < ops.size:=by rw [← I.inv.size];exact hi
    simp only [Array.getElem_ofFn]
    by_cases h:i < n
    ·have:=hall i h;simp [hi] at this;simp [this,h]
    ·by_cases h2:n+g≤i
     ·have:=I.inv.fl i h2 hio;simp [hi] at this;simp [this,h2]
     ·have:=I.inv.tail i (by omega) (by omega);simp [hi] at this;simp [this,h,h2]
  have hlen:((ops.toList.drop n).take g).length=g:=by have:=S.le;simp;omega
  have h:=seqList (P:=P) (md:=md) (ops:=ops) (Q':=Q) ((ops.toList.drop n).take g) n listed a W (fun j hj=>by
   rw [hlen] at hj
   rw [List.getElem?_take_of_lt hj,List.getElem?_drop];simp) (by rw [hlen,hL];exact S.seq) (hfin listed a W I hall)
  rw [hlen] at h
  rw [Nat.zero_add];exact h
 | succ c ih =>
  intro listed a W hc I
  rw [show c+1+g=(c+g)+1 by omega]
  refine⟨fun h0=>absurd h0 (some_ready S I.inv (by omega)),fun k hk=>?_⟩
  obtain⟨hun,ok,hok,hall⟩:=mem_ready.1 hk
  have hks:k < ops.size:=(Array.getElem?_eq_some_iff.1 hok).1
  have hkn:k < n:=by
   rcases Nat.lt_or_ge k n with h | h
   ·exact h
   ·exfalso
    have h1:=tail_not S I.inv hk h
    have:left n listed=0:=by
     unfold left
     rw [List.length_eq_zero_iff,List.filter_eq_nil_iff]
     intro i hi
     have:=h1 i (List.mem_range.1 hi)
     simp [this]
    omega
  have hsee:SeesM md ops n T a0 w ok a W:=⟨I.inv.below,fun t _ hno=>I.inv.same t fun j hj _=>hno j hj,fun t ht j hj hs hsz=>by
   obtain⟨e,he,hb,hon⟩:=waitsOn_spec (S.slots k ok hkn hok t ht j hj hs)
   have hlj:listed.getD j false=true:=by rw [← hon];exact hall e he hb
   obtain⟨v,hv,_⟩:=I.inv.val j t hj hlj hs hsz
   refine⟨v,hv,I.al j t v hj hlj ?_ hs hsz hv⟩
   rcases X.look k ok hkn hok t ht j hj hs with h | h | ⟨h1,f,h2⟩
   ·rw [h];exact getD_both hun
   ·exact getD_out (by rw [I.inv.size];exact h)
   ·cases hl:listed.getD (x j) false with
    | false=>rfl
    | true =>
     have hxs:x j < ops.size:=by have:=S.le;omega
     have:=path_come I.inv.closed S.down f (x j) k _ h1 (Array.getElem?_eq_getElem hxs) h2 (I.inv.closed _ _ h1 (Array.getElem?_eq_getElem hxs) hl)
     rw [getD_both hun] at this
     exact absurd this (by simp),I.inv.sz⟩
  have h:=hstep k ok hkn hok a W hsee (fun e=>I.jal (by
   rcases e with e | ⟨e1,e2⟩
   ·rw [← e];exact getD_both hun
   ·cases hl:listed.getD jend false with
    | false=>rfl
    | true =>
     have hjs:jend < ops.size:=by have:=S.le;omega
     have:=path_come I.inv.closed S.down ops.size jend k _ e1 (Array.getElem?_eq_getElem hjs) e2 (I.inv.closed _ _ e1 (Array.getElem?_eq_getElem hjs) hl)
     rw [getD_both hun] at this
     exact absurd this (by simp)))
  have hlf:=left_set (n:=n) (by rw [I.inv.size];exact hks) (getD_both hun) hkn
  have go:∀ v W',Below w.heap.size w W'→hot k=true∨Below W.heap.size W W'→T k v W'→wpAny P md ops Q (c+g) (listed.setIfInBounds k true) (a.put ok.dst v) W':=fun v W' hbw hb hT =>
   ih _ _ _ (by omega) (I.step S X hst hsl hJst hJh hk hkn hok hbw hb hT)
  have goB:∀ v W',Below W.heap.size W W'→T k v W'→wpAny P md ops Q (c+g) (listed.setIfInBounds k true) (a.put ok.dst v) W':=fun v W' hb hT=>go v W' (I.inv.below.trans (hb.mono I.inv.below.size)) (.inr hb) hT
  unfold wpOp
  simp only [hok]
  by_cases hh:hot k=true
  ·rw [if_pos hh] at h
   unfold HStep at h
   split
   ·rename_i hw
    simp only [hw,if_true] at h
    left
    unfold Oper.wp
    generalize (execOp a.eval ok).run P W=r at *
    cases r with
    | ok x w' =>
     cases x <;> simp only [hotUpon] at h <;> simp only [Oper.upon]
     case value u=>exact go u _ h.1 (.inl hh) h.2
     case enter f args =>
      obtain⟨e1,hc⟩:=h
      rw [e1]
      exact hc.mono fun e w'' ⟨v,he,hb,hT⟩=>by subst he;exact go v _ hb (.inl hh) hT
    | halt x w'=>simp only [hotUpon] at h
   ·rename_i hw
    simp only [hw] at h
    exact goB undef W (Below.refl _ _) h
  ·rw [if_neg hh] at h
   unfold TStep at h
   split
   ·rename_i hw
    simp only [hw,if_true] at h
    left
    unfold midAt at h
    unfold Oper.wp
    generalize (execOp a.eval ok).run P W=r at *
    cases r with
    | ok x w' =>
     cases x <;> simp only [midUpon] at h <;> simp only [Oper.upon]
     case value u=>exact goB u _ h.1 h.2
     case skip=>exact goB undef _ h.1 h.2
     case enter f args =>
      obtain⟨e1,hc⟩:=h
      rw [e1]
      exact hc.mono fun e w'' ⟨v,he,hb,hT⟩=>by subst he;exact goB v _ hb hT
    | halt x w'=>simp only [midUpon] at h
   ·rename_i hw
    simp only [hw] at h
    exact goB undef W (Below.refl _ _) h
def xOf (N:Nat):List (Nat × Nat)→Nat→Nat
 | [],_=>N
 | p :: r,k=>if p.1=k then p.2 else xOf N r k
def MidsOKj (P:Program)(ops:Array Oper)(n:Nat)(w:World)(A:Act)(J:World→Prop)(jend:Nat)(hots:List Nat)(ms:List (Nat × (Value→World→Prop))):List (Nat × (Value→World→Prop))→Prop
 | []=>True
 | p :: r=>(match ops[p.1]? with
   | some o=>∀ vs W,Below w.heap.size w W→FitsM (ms.filter fun q=>needsB ops o q.1) vs W→(p.1=jend∨(jend < n∧pathB .any ops ops.size jend p.1=true)→J W)→if hots.contains p.1 then HStep P ops w o (putHd ops vs (ms.map (·.1)) A) W p.2 else TStep P ops o (putHd ops vs (ms.map (·.1)) A) W p.2
   | none=>True)∧MidsOKj P ops n w A J jend hots ms r
theorem midsOKj_mem {n:Nat} {A:Act} {J:World→Prop} {jend:Nat} {hots:List Nat} {ms:List (Nat × (Value→World→Prop))}:∀ {l:List (Nat × (Value→World→Prop))} {p},p∈l→MidsOKj P ops n w A J jend hots ms l→∀ o,ops[p.1]?=some o→∀ vs W,Below w.heap.size w W→FitsM (ms.filter fun q=>needsB ops o q.1) vs W→(p.1=jend∨(jend < n∧pathB .any ops ops.size jend p.1=true)→J W)→if hots.contains p.1 then HStep P ops w o (putHd ops vs (ms.map (·.1)) A) W p.2 else TStep P ops o (putHd ops vs (ms.map (·.1)) A) W p.2
 | q :: r,p,hp,h,o,ho,vs,W,hb,hf,hj=>by
  rcases List.mem_cons.1 hp with rfl | hp
  ·have h1:=h.1
   rw [ho] at h1
   exact h1 vs W hb hf hj
  ·exact midsOKj_mem hp h.2 o ho vs W hb hf hj
def StillM (stills:List Nat):List (Nat × (Value→World→Prop))→Prop
 | []=>True
 | p :: r=>(stills.contains p.1=true→∀ v W W',p.2 v W→p.2 v W')∧StillM stills r
theorem stillM_mem {stills:List Nat}:∀ {l:List (Nat × (Value→World→Prop))} {p},p∈l→StillM stills l→stills.contains p.1=true→∀ v W W',p.2 v W→p.2 v W'
 | q :: r,p,hp,h=>by
  rcases List.mem_cons.1 hp with rfl | hp
  ·exact h.1
  ·exact stillM_mem hp h.2
def hotB (ops:Array Oper)(n:Nat)(mids:List Nat)(xs:List (Nat × Nat))(hots stills:List Nat):Bool :=
 ((List.range n).all fun k=>match ops[k]? with
  | some ok=>(List.range n).all fun j=>match slotOf ops j with
   | some t=>!(ok.looksAt ops).contains t || xOf ops.size xs j == k || decide (ops.size≤xOf ops.size xs j) || (decide (xOf ops.size xs j < n) && pathB .any ops n (xOf ops.size xs j) k)
   | none=>true
  | none=>true) &&
 (hots.all fun k=>(List.range n).all fun j=>j == k || stills.contains j || !mids.contains j || xOf ops.size xs j == k || pathB .any ops n k (xOf ops.size xs j) || pathB .any ops n j k)
theorem hJ_of {n jend:Nat} {hots:List Nat} (hj:(hots.all fun k=>k == jend || pathB .any ops n k jend)=true):∀ k,k < n→hots.contains k=true→k=jend∨∃ f,pathB .any ops f k jend=true:=by
 intro k _ hh
 have h3:=List.all_eq_true.1 hj k (by simpa using hh)
 simp only [Bool.or_eq_true,beq_iff_eq] at h3
 exact h3.imp id fun h=>⟨n,h⟩
theorem statX_of {n:Nat} {mids:List Nat} {xs:List (Nat × Nat)} {hots stills:List Nat} (h:hotB ops n mids xs hots stills=true) :
  StatX .any ops n (xOf ops.size xs) (fun k=>hots.contains k) (fun j=>stills.contains j || !mids.contains j):=by
 unfold hotB at h
 rw [Bool.and_eq_true] at h
 obtain⟨h1,h2⟩:=h
 constructor
 ·intro k ok hk hok t ht j hj hs
  have h3:=List.all_eq_true.1 h1 k (List.mem_range.2 hk)
  rw [hok] at h3
  have h4:=List.all_eq_true.1 h3 j (List.mem_range.2 hj)
  rw [hs] at h4
  simp only [Bool.or_eq_true,Bool.and_eq_true,Bool.not_eq_true',beq_iff_eq,decide_eq_true_eq] at h4
  rcases h4 with ((h4 | h4) | h4) | h4
  ·simp [ht] at h4
  ·exact .inl h4
  ·exact .inr (.inl h4)
  ·exact .inr (.inr ⟨h4.1,n,h4.2⟩)
 ·intro k hk hh j hj hne
  have h3:=List.all_eq_true.1 h2 k (by simpa using hh)
  have h4:=List.all_eq_true.1 h3 j (List.mem_range.2 hj)
  simp only [Bool.or_eq_true,beq_iff_eq] at h4
  rcases h4 with ((((h4 | h4) | h4) | h4) | h4) | h4
  ·exact absurd h4 hne
  ·exact .inl (by rw [h4];rfl)
  ·exact .inl (by rw [h4];simp)
  ·exact .inr (.inl h4)
  ·exact .inr (.inr (.inl ⟨n,h4⟩))
  ·exact .inr (.inr (.inr ⟨n,h4⟩))
theorem wp_region_hot0 {id:Nat} {ws:World} {Q:Exit→Act→World→Prop} {a:Act} {l:List Oper} (n g:Nat)(mids:List Nat)(fls:List (Tmp × Value))(ms:List (Nat × (Value→World→Prop)))(xs:List (Nat × Nat))(hots stills:List Nat)(hmids:ms.map (·.1)=mids)(hhm:∀ k∈hots,k∈mids)(hxs:∀ k∈xs.map (·.1),k∈mids)(hws:Below w.heap.size w ws) {J:World→Prop} {jend:Nat} (hJ0:J ws)(hJst:∀ W W',J W→Below W.heap.size W W'→J W')(hJh:(∀ W,J W)∨(hots.all fun k=>k == jend || pathB .any l.toArray n k jend)=true)(hm:P.follows .mixedOrders=true)
  (hB:midBg l.toArray n g mids=true) (hX:hotB l.toArray n mids xs hots stills=true) (hfls:flOf l.toArray (l.length - (n+g)) (n+g)=fls) (hsz:slotsB l.toArray a.tmps.size=true) (hQ:∀ c a d v w,Q (.panic c) (Act.put a (some d) v) w→Q (.panic c) a w) (hst:StableM ms) (hsl:StillM stills ms)
  (h:∀ L:Act→Prop,(∀ A,MidsOKj P l.toArray n w A J jend hots ms ms→(∀ vs W,Below w.heap.size w W→FitsM (ms.filter fun q=>!(xs.map (·.1)).contains q.1) vs W→wpList P l.toArray Q ((l.drop n).take g) (putHd l.toArray vs mids A) W)→L A) →
   wpHead P l.toArray w mids L 0 (l.take n) (putL fls a)) :
  (Code.region id l.toArray true).wp P Q a ws:=by
 subst hmids
 have hle0:n+g≤l.length:=by
  simp only [midBg,Bool.and_eq_true,decide_eq_true_eq] at hB
  simpa using hB.1.1.1.1.1.1.1.1.1.2
 have h:=h _ (fun A h1 h2=>(show MidsOKj P l.toArray n w A J jend hots ms ms∧∀ vs W,Below w.heap.size w W→FitsM (ms.filter fun q=>!(xs.map (·.1)).contains q.1) vs W→wpList P l.toArray Q ((l.drop n).take g) (putHd l.toArray vs (ms.map (·.1)) A) W from ⟨h1,h2⟩))
 have h:=quietR_of_head _ _ _ (fun j hj=>by
  have:j < n:=by simp at hj;omega
  simp [List.getElem?_take_of_lt this]) h
 rw [← hfls,← putFl_eq,show (l.take n).length=n by simp;omega,← List.range_eq_range'] at h
 change wpQuietR P l.toArray w _ ((headOf n (ms.map (·.1))).filterMap (l.toArray[·]?)) _ at h
 clear hfls
 simp only [midBg,Bool.and_eq_true,decide_eq_true_eq] at hB
 obtain⟨⟨⟨⟨⟨⟨⟨⟨⟨⟨hsel,hle⟩,hk⟩,hsink⟩,hchain⟩,hseq⟩,hhd⟩,hoff⟩,hmid⟩,hnd⟩,hfl⟩:=hB
 generalize hops:l.toArray=ops at *
 have hl:l=ops.toList:=by rw [← hops]
 subst hl
 have hmk:∀ k ok,k < n→ops[k]?=some ok→(∀ e∈ok.after,Region.binds .any e=true→e.on < k)∧∀ j t,j < n→slotOf ops j=some t→(t∈ok.looksAt ops→waitsOn .any ok j=true)∧(j≠k→slotOf ops k≠some t):=by
  intro k ok hkn hok
  have h1:=List.all_eq_true.1 hk k (List.mem_range.2 hkn)
  rw [hok] at h1
  simp only [Bool.and_eq_true] at h1
  refine⟨fun e he hb=>?_,fun j t hj hs=>?_⟩
  ·have:=Array.all_eq_true'.1 h1.1 e he
   simpa [hb] using this
  ·have h2:=List.all_eq_true.1 h1.2 j (List.mem_range.2 hj)
   rw [hs] at h2
   simp only [Bool.and_eq_true,Bool.or_eq_true,Bool.not_eq_true',beq_iff_eq,bne_iff_ne] at h2
   refine⟨fun ht=>h2.1.resolve_left (by simpa using ht),fun hne=>h2.2.resolve_left hne⟩
 have S:StatM .any ops n g:={
  sel:=hsel,le:=hle
  down:=fun k ok hkn hok=>(hmk k ok hkn hok).1
  slots:=fun k ok hkn hok t ht j hj hs=>((hmk k ok hkn hok).2 j t hj hs).1 ht
  uniq:=fun i j t hi hj hne hs=>by
   have hjs:j < ops.size:=by omega
   exact ((hmk j ops[j] hj (Array.getElem?_eq_getElem hjs)).2 i t hi hs).2 hne
  sink:=fun hg i hi=>by
   rcases Bool.or_eq_true _ _ ▸ hsink with h0 | h0
   ·have:g=0:=by simpa using h0
    omega
   ·obtain⟨j,hj,h2⟩:=List.any_eq_true.1 (List.all_eq_true.1 h0 i (List.mem_range.2 hi))
    simp only [Bool.and_eq_true,decide_eq_true_eq] at h2
    exact⟨j,h2.1,by have:=List.mem_range.1 hj;omega,h2.2⟩
  chain:=fun t h1 h2=>by
   have:=List.all_eq_true.1 hchain t (List.mem_range.2 h2)
   simp only [Bool.or_eq_true,decide_eq_true_eq] at this
   exact this.resolve_left (by omega)
  seq:=hseq }
 obtain⟨vals,⟨hmo,htl⟩,hy⟩:=head_table hsel (headOf n (ms.map (·.1))) _ hhd h
 generalize ha0:putFl ops (ops.toList.length - (n+g)) (n+g) a=a0 at *
 have hsz0:a0.tmps.size=a.tmps.size:=by
  rw [← ha0]
  have:∀ f t (a:Act),(putFl ops f t a).tmps.size=a.tmps.size:=by
   intro f
   induction f with
   | zero=>intro t a;rfl
   | succ f ih=>intro t a;unfold putFl;rw [ih];split <;> simp [put_size]
  exact this _ _ _
 have hin:∀ k t,slotOf ops k=some t→t < a0.tmps.size:=by
  intro k t hs
  unfold slotOf at hs
  cases ho:ops[k]? with
  | none=>rw [ho] at hs;cases hs
  | some o =>
   rw [ho] at hs
   have h1:=Array.all_eq_true'.1 hsz o (Array.mem_of_getElem? ho)
   simp only [Option.bind_some] at hs
   rw [hs] at h1
   rw [hsz0];simpa using h1
 generalize hA:putHd ops vals (headOf n (ms.map (·.1))) a0=A at *
 have hAsz:A.tmps.size=a0.tmps.size:=by rw [← hA];exact putHd_size _ _ _
 have hAdf:A.defers=a0.defers:=by rw [← hA];exact putHd_defers _ _ _
 have memH:∀ k,k∈headOf n (ms.map (·.1))↔k < n∧k ∉ ms.map (·.1):=by
  intro k;unfold headOf;rw [List.mem_filter,List.mem_range];simp
 have hAs:∀ k t,k∈headOf n (ms.map (·.1))→slotOf ops k=some t→A.tmps[t]?=some (vals k):=by
  intro k t hkh hs
  rw [← hA]
  exact putHd_slot vals t k hs _ _ hkh (fun j hj hne=>S.uniq k j t ((memH k).1 hkh).1 ((memH j).1 hj).1 (Ne.symm hne) hs) (hin k t hs)
 have hAo:∀ t,(∀ k,k < n→slotOf ops k≠some t)→A.tmps[t]?=a0.tmps[t]?:=by
  intro t ht
  rw [← hA]
  exact putHd_other vals t _ _ fun k hk=>ht k ((memH k).1 hk).1
 have hmid':∀ k∈ms.map (·.1),k < n∧∃ o,ops[k]?=some o∧∃ d,o.dst=some d:=by
  intro k hk
  have h1:=List.all_eq_true.1 hmid k hk
  simp only [Bool.and_eq_true,decide_eq_true_eq] at h1
  refine⟨h1.1,?_⟩
  cases ho:ops[k]? with
  | none=>rw [ho] at h1;cases h1.2
  | some o =>
   rw [ho] at h1
   exact⟨o,rfl,Option.isSome_iff_exists.1 h1.2⟩
 -- the frame with the middle's values
 have hF:∀ (vs:Nat→Value) (t:Tmp),(∀ k t,k∈ms.map (·.1)→slotOf ops k=some t→(putHd ops vs (ms.map (·.1)) A).tmps[t]?=some (vs k))∧((∀ k∈ms.map (·.1),slotOf ops k≠some t)→(putHd ops vs (ms.map (·.1)) A).tmps[t]?=A.tmps[t]?):=by
  intro vs t
  refine⟨fun k t hk hs=>putHd_slot vs t k hs _ _ hk (fun j hj hne=>S.uniq k j t (hmid' k hk).1 (hmid' j hj).1 (Ne.symm hne) hs) (by rw [hAsz];exact hin k t hs),fun h=>putHd_other vs t _ _ h⟩
 let T:Nat→Value→World→Prop:=fun k v W=>if k∈ms.map (·.1) then tOf ms k v W else v=vals k
 have hT:∀ k,k ∉ ms.map (·.1)→∀ v W,T k v W↔v=vals k:=fun k hk v W=>by show (if _ then _ else _)↔_;rw [if_neg hk]
 have hTm:∀ k,k∈ms.map (·.1)→∀ v W,T k v W↔tOf ms k v W:=fun k hk v W=>by show (if _ then _ else _)↔_;rw [if_pos hk]
 have hstT:∀ k,k < n→∀ v W W',T k v W→Below W.heap.size W W'→T k v W':=by
  intro k _ v W W' h1 h2
  by_cases hk:k∈ms.map (·.1)
  ·rw [hTm k hk] at h1 ⊢
   obtain⟨p,hp,rfl⟩:=List.mem_map.1 hk
   rw [tOf_mem hp hnd] at h1 ⊢
   exact stableM_mem hp hst v W W' h1 h2
  ·rw [hT k hk] at h1 ⊢;exact h1
 have valOf:∀ (b:Act) (W:World) (o:Oper),SeesM .any ops n T a0 w o b W→∀ t∈o.looksAt ops,(∀ j∈ms.map (·.1),slotOf ops j≠some t)→b.tmps[t]?=A.tmps[t]?:=by
  intro b W o hse t ht hno
  by_cases hex:∃ j,j < n∧slotOf ops j=some t
  ·obtain⟨j,hj,hs⟩:=hex
   have hjm:j ∉ ms.map (·.1):=fun hm=>hno j hm hs
   obtain⟨v,hv,hTv⟩:=hse.val t ht j hj hs (hin j t hs)
   rw [hT j hjm] at hTv
   rw [hv,hTv,hAs j t ((memH j).2 ⟨hj,hjm⟩) hs]
  ·have hno':∀ k,k < n→slotOf ops k≠some t:=fun k hk hs=>hex ⟨k,hk,hs⟩
   rw [hse.same t ht hno',hAo t hno']
 have hslT:∀ k,k < n→(stills.contains k || !(ms.map (·.1)).contains k)=true→∀ v W W',T k v W→T k v W':=by
  intro k _ hs v W W' h1
  by_cases hk:k∈ms.map (·.1)
  ·rw [hTm k hk] at h1 ⊢
   obtain⟨p,hp,rfl⟩:=List.mem_map.1 hk
   rw [tOf_mem hp hnd] at h1 ⊢
   refine stillM_mem hp hsl ?_ v W W' h1
   have hkc:(ms.map (·.1)).contains p.1=true:=by simpa using hk
   rw [hkc] at hs
   simpa using hs
  ·rw [hT k hk] at h1 ⊢;exact h1
 have hstep:∀ k ok,k < n→ops[k]?=some ok→∀ b W,SeesM .any ops n T a0 w ok b W→(k=jend∨(jend < n∧pathB .any ops ops.size jend k=true)→J W)→if hots.contains k then HStep P ops w ok b W (T k) else TStep P ops ok b W (T k):=by
  intro k ok hkn hok b W hse hjk
  have hs:=fun cs b=>Region.noSelect_spec hsel k ok cs b hok
  by_cases hk:k∈ms.map (·.1)
  ·obtain⟨p,hp,rfl⟩:=List.mem_map.1 hk
   obtain⟨_,o',ho',_⟩:=hmid' p.1 hk
   have:o'=ok:=Option.some.inj (ho'.symm.trans hok)
   subst this
   have hvs:∃ vs:Nat→Value,vs=fun j=>(match slotOf ops j with | some t=>b.tmps.getD t undef | none=>undef):=⟨_,rfl⟩
   obtain⟨vs,hvs⟩:=hvs
   have hfit:FitsM (ms.filter fun q=>needsB ops o' q.1) vs W:=by
    refine fitsM_of fun q hq=>?_
    obtain⟨hqm,hqn⟩:=List.mem_filter.1 hq
    have hqk:q.1∈ms.map (·.1):=List.mem_map.2 ⟨q,hqm,rfl⟩
    unfold needsB at hqn
    cases hsq:slotOf ops q.1 with
    | none=>rw [hsq] at hqn;cases hqn
    | some t =>
     rw [hsq] at hqn
     obtain⟨v,hv,hTv⟩:=hse.val t (by simpa using hqn) q.1 (hmid' _ hqk).1 hsq (hin _ t hsq)
     rw [hTm _ hqk,tOf_mem hqm hnd] at hTv
     have:vs q.1=v:=by rw [hvs];simp only [hsq,Array.getD_eq_getD_getElem?,hv,Option.getD_some]
     rw [this];exact hTv
   have hmid2:=midsOKj_mem hp hmo o' hok vs W hse.below hfit hjk
   have hag:∀ t∈o'.looksAt ops,b.tmps[t]?=(putHd ops vs (ms.map (·.1)) A).tmps[t]?:=by
    intro t ht
    by_cases hex:∃ j,j∈ms.map (·.1)∧slotOf ops j=some t
    ·obtain⟨j,hj,hsj⟩:=hex
     obtain⟨v,hv,_⟩:=hse.val t ht j (hmid' j hj).1 hsj (hin j t hsj)
     rw [(hF vs t).1 j t hj hsj,hv,hvs]
     simp only [hsj,Array.getD_eq_getD_getElem?,hv,Option.getD_some]
    ·have hno:∀ j∈ms.map (·.1),slotOf ops j≠some t:=fun j hj hsj=>hex ⟨j,hj,hsj⟩
     rw [(hF vs t).2 hno,valOf b W o' hse t ht hno]
   obtain⟨e1,e2⟩:=agree_exec hs hag
   have e3:(fun v W=>T p.1 v W)=p.2:=by funext v W;exact propext (by rw [hTm _ hk,tOf_mem hp hnd])
   rw [show T p.1=p.2 from e3]
   unfold HStep TStep midAt at *
   rw [e1,e2];exact hmid2
  ·have hkh:=(memH k).2 ⟨hkn,hk⟩
   have hyk:=hy k hkh ok hok
   have hof:=offB_spec (List.all_eq_true.1 hoff k hkh)
   obtain⟨o2,ho2,hof⟩:=hof
   have:o2=ok:=Option.some.inj (ho2.symm.trans hok)
   subst this
   have hag:∀ t∈o2.looksAt ops,b.tmps[t]?=A.tmps[t]?:=fun t ht=>valOf b W o2 hse t ht fun j hj hsj=>hof j hj t hsj ht
   obtain⟨e1,e2⟩:=agree_exec hs hag
   have e3:T k=fun v _=>v=vals k:=by funext v W;exact propext (hT k hk v W)
   have hnh:hots.contains k=false:=by
    cases hc:hots.contains k with
    | false=>rfl
    | true=>exact absurd (hhm k (by simpa using hc)) hk
   rw [if_neg (by rw [hnh];simp)]
   unfold TStep
   rw [e3,e2]
   rcases hyk with ⟨hw,hq⟩ | ⟨hw,hu⟩
   ·rw [if_pos hw]
    have h1:=hq W
    rw [← eq_over hse.below] at h1
    unfold midAt
    rw [e1]
    unfold quietAtR at h1
    generalize (execOp A.eval o2).run P W=r at *
    cases r with
    | halt x w'=>simp only [quietUponR] at h1
    | ok x w' =>
     cases x <;> simp only [quietUponR] at h1 <;> simp only [midUpon]
     case value u=>exact⟨by rw [h1.1];exact Below.refl _ _,h1.2⟩
     case skip=>exact⟨by rw [h1.1];exact Below.refl _ _,h1.2.symm⟩
     case enter f args=>exact⟨h1.1,h1.2.mono fun e W'' ⟨he,hb⟩=>⟨_,he,hb,rfl⟩⟩
   ·rw [if_neg (by rw [hw];simp)]
    exact hu.symm
 have hfin:∀ listed b W,InvX .any ops n g T (xOf ops.size xs) J jend a0 w listed b W→(∀ k,k < n→listed.getD k false=true)→wpList P ops Q ((ops.toList.drop n).take g) b W:=by
  intro listed b W IX hall
  have I:=IX.inv
  have hvs:∃ vs:Nat→Value,vs=fun j=>(match slotOf ops j with | some t=>b.tmps.getD t undef | none=>undef):=⟨_,rfl⟩
  obtain⟨vs,hvs⟩:=hvs
  have hval:∀ k,k∈ms.map (·.1)→∀ t,slotOf ops k=some t→b.tmps[t]?=some (vs k):=by
   intro k hk t hs
   obtain⟨v,hv,_⟩:=I.val k t (hmid' k hk).1 (hall k (hmid' k hk).1) hs (hin k t hs)
   have:vs k=v:=by rw [hvs];simp only [hs,Array.getD_eq_getD_getElem?,hv,Option.getD_some]
   rw [this];exact hv
  have xnone:∀ (N:Nat) (r:List (Nat × Nat)) (k:Nat),k ∉ r.map (·.1)→xOf N r k=N:=by
   intro N r
   induction r with
   | nil=>intro k _;rfl
   | cons p r ih=>intro k hk;unfold xOf;rw [List.map_cons,List.mem_cons] at hk;rw [if_neg (fun e=>hk (.inl e.symm)),ih k fun h=>hk (.inr h)]
  have hfit:FitsM (ms.filter fun q=>!(xs.map (·.1)).contains q.1) vs W:=fitsM_of fun q hq=>by
   obtain⟨hqm,hqx⟩:=List.mem_filter.1 hq
   have hqk:q.1∈ms.map (·.1):=List.mem_map.2 ⟨q,hqm,rfl⟩
   obtain⟨_,o,ho,d,hd⟩:=hmid' _ hqk
   have hsd:slotOf ops q.1=some d:=by unfold slotOf;rw [ho];exact hd
   have hxn:xOf ops.size xs q.1=ops.size:=xnone _ _ _ (by simpa using hqx)
   have:=IX.al q.1 d (vs q.1) (hmid' _ hqk).1 (hall _ (hmid' _ hqk).1) (by rw [hxn];exact getD_out (by rw [I.size];exact Nat.le_refl _)) hsd (hin _ d hsd) (hval _ hqk d hsd)
   rw [hTm _ hqk,tOf_mem hqm hnd] at this
   exact this
  have hb:b=putHd ops vs (ms.map (·.1)) A:=by
   have ht:b.tmps=(putHd ops vs (ms.map (·.1)) A).tmps:=by
    apply Array.ext_getElem?
    intro t
    by_cases hex:∃ j,j∈ms.map (·.1)∧slotOf ops j=some t
    ·obtain⟨j,hj,hsj⟩:=hex
     rw [hval j hj t hsj,(hF vs t).1 j t hj hsj]
    ·have hno:∀ j∈ms.map (·.1),slotOf ops j≠some t:=fun j hj hsj=>hex ⟨j,hj,hsj⟩
     rw [(hF vs t).2 hno]
     by_cases hex2:∃ j,j < n∧slotOf ops j=some t
     ·obtain⟨j,hj,hs⟩:=hex2
      have hjm:j ∉ ms.map (·.1):=fun hm=>hno j hm hs
      obtain⟨v,hv,_⟩:=I.val j t hj (hall j hj) hs (hin j t hs)
      have hxm:ops.size≤xOf ops.size xs j:=by
       rcases Nat.lt_or_ge (xOf ops.size xs j) ops.size with h | h
       ·exfalso
        exact hjm (hxs j (by
         apply Classical.byContradiction
         intro hn
         rw [xnone _ _ _ hn] at h
         omega))
       ·exact h
      have hTv:=IX.al j t v hj (hall j hj) (getD_out (by rw [I.size];exact hxm)) hs (hin j t hs) hv
      rw [hT j hjm] at hTv
      rw [hv,hTv,hAs j t ((memH j).2 ⟨hj,hjm⟩) hs]
     ·have hno':∀ k,k < n→slotOf ops k≠some t:=fun k hk hs=>hex2 ⟨k,hk,hs⟩
      rw [I.same t fun k hk _=>hno' k hk,hAo t hno']
   have hd:b.defers=(putHd ops vs (ms.map (·.1)) A).defers:=by rw [putHd_defers,hAdf];exact I.defers
   cases b
   generalize putHd ops vs (ms.map (·.1)) A=F at *
   cases F
   simp only at ht hd
   subst ht;subst hd;rfl
  rw [hb]
  exact htl vs W I.below hfit
 refine wp_region_any hm ?_
 have hsum:n+g+(ops.toList.length - (n+g))=ops.size:=by simp;omega
 have I0:InvM .any ops n g (fun _ _ _=>True) a0 w (listFl (ops.toList.length - (n+g)) (n+g) (Array.replicate ops.size false)) a0 ws.drew:=by
  refine⟨by rw [listFl_size];simp,?_,?_,?_,hws.drew,rfl,rfl,fun t _=>rfl,?_⟩
  ·intro j oj hj _ hl
   rw [listFl_low _ _ _ _ _ (by omega),getD_replicate_false] at hl
   cases hl
  ·intro t h1 h2
   rw [listFl_low _ _ _ _ _ h2]
   exact getD_in (by simp;omega) (getD_replicate_false _ _)
  ·intro t h1 h2
   exact listFl_in _ _ _ t h1 (by omega) (by simp;omega)
  ·intro k t hk hl
   rw [listFl_low _ _ _ _ _ (by omega),getD_replicate_false] at hl
   cases hl
 have IX0:InvX .any ops n g T (xOf ops.size xs) J jend a0 w (listFl (ops.toList.length - (n+g)) (n+g) (Array.replicate ops.size false)) a0 ws.drew:=by
  refine⟨I0,?_,fun _=>hJst _ _ hJ0 (Below.refl _ ws).drew⟩
  intro k t v hk hl
  rw [listFl_low _ _ _ _ _ (by omega),getD_replicate_false] at hl
  cases hl
 have hleft:left n (listFl (ops.toList.length - (n+g)) (n+g) (Array.replicate ops.size false))=n:=by
  unfold left
  rw [List.filter_eq_self.2,List.length_range]
  intro k hk
  rw [listFl_low _ _ _ _ _ (by have:=List.mem_range.1 hk;omega),getD_replicate_false]
  rfl
 have h1:=phaseX (Q:=Q) S (statX_of hX) hstT hslT hJst (hJh.imp (fun h=>h) hJ_of) hstep hfin n _ a0 ws.drew hleft IX0
 rw [← ha0] at h1
 have h2:=take_floats hsel hQ (n+g) _ _ _ a (by rw [show ops.toList.length=ops.size by simp];exact hfl) h1
 rw [hsum] at h2
 exact h2
end
end
end Go.Proofs.YtmmeopjemkjllaaGreat
