/- Lemmas of the claim. No conditions beyond those that each states. -/
import Derived.Test.YtmmeopjemkjllaaGreatPU9
set_option linter.unusedVariables false
set_option linter.unusedSimpArgs false
set_option maxRecDepth 100000
set_option maxHeartbeats 8000000
namespace Go.Proofs.YtmmeopjemkjllaaGreat
section
open Go.RowKit
section
variable {P : Program} {ops : Array Oper} {md : Region.Mode} {w : World}
def handsOn (o:Oper):Bool:=match o.op with | .move _ | .assign _ | .extract _ _=>true | _=>false
theorem handsOn_mid {o:Oper} (h:handsOn o=true) {a:Act} {W:World} {T:Value→World→Prop} (hm:midAt P o a W T):∃ u,T u W∧∀ W',(execOp a.eval o).run P W'=.ok (.value u) W':=by
 unfold midAt execOp at hm
 unfold execOp
 unfold handsOn at h
 cases ho:o.op <;> rw [ho] at h <;> simp only [ho] at hm ⊢ <;> try (cases h)
 case move x=>exact⟨_,by simpa [midUpon] using hm.2,fun W'=>by simp⟩
 case assign x=>exact⟨_,by simpa [midUpon] using hm.2,fun W'=>by simp⟩
 case extract x i =>
  cases hx:a.eval x <;> simp [hx,midUpon,Instr.extract] at hm ⊢
  case tuple vs =>
   cases hv:vs[i]? <;> simp [hv] at hm ⊢
   exact hm.2
def lateB (md:Region.Mode)(ops:Array Oper)(i0:Nat):Bool:=match ops[i0]? with
 | some oi=>handsOn oi && oi.dst.isSome && ((List.range ops.size).all fun j=>match ops[j]? with
  | some oj=>j == i0 || waitsOn md oi j || waitsOn md oj i0 || oi.apart ops oj
  | none=>true)
 | none=>false
theorem lateB_spec {i0:Nat} (h:lateB md ops i0=true):∃ oi,ops[i0]?=some oi∧handsOn oi=true∧(∃ d,oi.dst=some d)∧True∧∀ j oj,ops[j]?=some oj→j≠i0→waitsOn md oi j=true∨waitsOn md oj i0=true∨oi.apart ops oj=true:=by
 unfold lateB at h
 cases ho:ops[i0]? with
 | none=>rw [ho] at h;cases h
 | some oi =>
  rw [ho] at h
  simp only [Bool.and_eq_true] at h
  obtain⟨⟨h1,h2⟩,h4⟩:=h
  refine⟨oi,rfl,h1,Option.isSome_iff_exists.1 h2,trivial,fun j oj hj hne=>?_⟩
  have hjs:j < ops.size:=(Array.getElem?_eq_some_iff.1 hj).1
  have h5:=List.all_eq_true.1 h4 j (List.mem_range.2 hjs)
  rw [hj] at h5
  simp only [Bool.or_eq_true,beq_iff_eq] at h5
  rcases h5 with ((h5 | h5) | h5) | h5
  ·exact absurd h5 hne
  ·exact .inl h5
  ·exact .inr (.inl h5)
  ·exact .inr (.inr h5)
def midBl (ops:Array Oper)(n g i0:Nat)(mids:List Nat):Bool :=
 Region.noSelect ops && decide (n+g≤ops.size) &&
 ((List.range n).all fun k=>match ops[k]? with
  | some ok=>(ok.after.all fun e=>!Region.binds .any e || decide (e.on < k)) && ((List.range n).all fun j=>match slotOf ops j with
    | some t=>(!(ok.looksAt ops).contains t || waitsOn .any ok j) && (j == k || slotOf ops k != some t)
    | none=>true)
  | none=>true) &&
 (g == 0 || ((List.range n).all fun i=>i == i0 || ((List.range (n+1)).any fun j=>decide (i < j) && j != i0 && Region.waitsFor .any ops j i))) &&
 ((List.range (n+g)).all fun t=>decide (t≤n) || Region.waitsFor .any ops t (t - 1)) &&
 Region.seqB .any ops g n (Array.ofFn fun i:Fin ops.size=>decide (i.val < n∨n+g≤i.val)) &&
 hdB ops (headOf n mids) && ((headOf n mids).all fun k=>offB ops k mids) &&
 (mids.all fun k=>decide (k < n) && (match ops[k]? with | some o=>o.dst.isSome | none=>false)) && decide mids.Nodup &&
 floatsB .any ops (ops.size - (n+g)) (n+g) (Array.replicate ops.size false) && decide (i0 < n) && !mids.contains i0 && lateB .any ops i0
structure StatL (md:Region.Mode)(ops:Array Oper)(n g i0:Nat):Prop where
 sel:Region.noSelect ops=true
 le:n+g≤ops.size
 down:∀ k ok,k < n→ops[k]?=some ok→∀ e∈ok.after,Region.binds md e=true→e.on < k
 slots:∀ k ok,k < n→ops[k]?=some ok→∀ t∈ok.looksAt ops,∀ j,j < n→slotOf ops j=some t→waitsOn md ok j=true
 uniq:∀ i j t,i < n→j < n→i≠j→slotOf ops i=some t→slotOf ops j≠some t
 sink:0 < g→∀ i,i < n→i≠i0→∃ j,i < j∧j≤n∧j≠i0∧Region.waitsFor md ops j i=true
 chain:∀ t,n < t→t < n+g→Region.waitsFor md ops t (t - 1)=true
 seq:Region.seqB md ops g n (Array.ofFn fun i:Fin ops.size=>decide (i.val < n∨n+g≤i.val))=true
 lt0:i0 < n
 late:∃ oi,ops[i0]?=some oi∧handsOn oi=true∧(∃ d,oi.dst=some d)∧True∧∀ j oj,ops[j]?=some oj→j≠i0→waitsOn md oi j=true∨waitsOn md oj i0=true∨oi.apart ops oj=true
def Taken (md:Region.Mode)(ops:Array Oper)(i0:Nat)(listed:Array Bool):Prop :=
 (∀ oi,ops[i0]?=some oi→∀ e∈oi.after,Region.binds md e=true→listed.getD e.on false=true)→listed.getD i0 false=true
theorem tail_notL {n g i0:Nat} (S:StatL md ops n g i0) {T:Nat→Value→World→Prop} {a0:Act} {listed:Array Bool} {a:Act} {W:World} (I:InvM md ops n g T a0 w listed a W)(L:Taken md ops i0 listed) {t:Nat} (hr:t∈Region.ready md ops listed)(ht:n≤t) :
  ∀ i,i < n→listed.getD i false=true:=by
 obtain⟨hun,ot,hot,hall⟩:=mem_ready.1 hr
 have hts:t < ops.size:=(Array.getElem?_eq_some_iff.1 hot).1
 have htg:t < n+g:=by
  rcases Nat.lt_or_ge t (n+g) with h | h
  ·exact h
  ·have:=I.fl t h hts;rw [getD_both hun] at this;cases this
 have htn:t=n:=by
  by_cases h:t=n
  ·exact h
  ·exfalso
   obtain⟨o',ho',e,he,hb,hon⟩:=Region.waitsFor_spec (S.chain t (by omega) htg)
   have:o'=ot:=Option.some.inj (ho'.symm.trans hot)
   subst this
   have h2:=hall e he hb
   rw [hon,getD_both (I.tail (t - 1) (by omega) (by omega))] at h2
   cases h2
 subst htn
 have A:∀ i,i < t→i≠i0→listed.getD i false=true:=by
  suffices H:∀ d i,t - i≤d→i < t→i≠i0→listed.getD i false=true from fun i hi=>H _ i (Nat.le_refl _) hi
  intro d
  induction d with
  | zero=>intro i h1 h2;omega
  | succ d ih =>
   intro i hd hi hne
   obtain⟨j,hij,hjn,hj0,hw⟩:=S.sink (by omega) i hi hne
   obtain⟨oj,hoj,e,he,hb,hon⟩:=Region.waitsFor_spec hw
   by_cases hjt:j=t
   ·subst hjt
    have:oj=ot:=Option.some.inj (hoj.symm.trans hot)
    subst this
    rw [← hon];exact hall e he hb
   ·rw [← hon]
    exact I.closed j oj (by omega) hoj (ih j (by omega) (by omega) hj0) e he hb
 intro i hi
 by_cases h:i=i0
 ·subst h
  refine L fun oi hoi e he hb=>?_
  have:=S.down i oi hi hoi e he hb
  exact A e.on (by omega) (by omega)
 ·exact A i hi h
theorem some_readyL {n g i0:Nat} (S:StatL md ops n g i0) {T:Nat→Value→World→Prop} {a0:Act} {listed:Array Bool} {a:Act} {W:World} (I:InvM md ops n g T a0 w listed a W)(h:left n listed≠0):Region.ready md ops listed≠[]:=by
 intro h0
 apply h
 have all:∀ m k,k < m→k < n→listed.getD k false=true:=by
  intro m
  induction m with
  | zero=>intro k hk;omega
  | succ m ih =>
   intro k hk hkn
   cases hl:listed.getD k false with
   | true=>rfl
   | false =>
    exfalso
    have hks:k < ops.size:=by have:=S.le;omega
    have hmem:k∈Region.ready md ops listed:=mem_ready.2 ⟨getD_in (by rw [I.size];exact hks) hl,ops[k],Array.getElem?_eq_getElem hks,fun e he hb=>by
     have:=S.down k _ hkn (Array.getElem?_eq_getElem hks) e he hb
     exact ih e.on (by omega) (by omega)⟩
    rw [h0] at hmem;cases hmem
 unfold left
 rw [List.length_eq_zero_iff,List.filter_eq_nil_iff]
 intro k hk
 have:=all _ k (Nat.lt_succ_self k) (List.mem_range.1 hk)
 simp [this]
theorem InvM.stepL {n g k i0:Nat} (S:StatL md ops n g i0) {T:Nat→Value→World→Prop} {a0:Act} {listed:Array Bool} {a:Act} {W W':World} {ok:Oper} {v:Value} (hst:∀ k,k < n→∀ v W W',T k v W→Below W.heap.size W W'→T k v W')
  (I:InvM md ops n g T a0 w listed a W) (hr:k∈Region.ready md ops listed) (hkn:k < n) (hok:ops[k]?=some ok) (hb:Below W.heap.size W W') (hT:T k v W') :
  InvM md ops n g T a0 w (listed.setIfInBounds k true) (a.put ok.dst v) W':=by
 obtain⟨hun,ok',hok',hall⟩:=mem_ready.1 hr
 have:ok'=ok:=Option.some.inj (hok'.symm.trans hok)
 subst this
 have hks:k < listed.size:=by rw [I.size];exact (Array.getElem?_eq_some_iff.1 hok).1
 have hsk:slotOf ops k=ok'.dst:=by unfold slotOf;rw [hok];rfl
 refine⟨by simpa using I.size,?_,?_,?_,I.below.trans (hb.mono I.below.size),by rw [put_defers'];exact I.defers,by rw [put_size];exact I.sz,?_,?_⟩
 ·intro j oj hjn hoj hl e he hbi
  by_cases hjk:k=j
  ·subst hjk
   have:oj=ok':=Option.some.inj (hoj.symm.trans hok)
   subst this
   exact getD_set_true (hall e he hbi)
  ·rw [getD_set_ne false hjk] at hl
   exact getD_set_true (I.closed j oj hjn hoj hl e he hbi)
 ·intro t h1 h2
  rw [getD_set_ne true (by omega)];exact I.tail t h1 h2
 ·intro t h1 h2
  exact getD_set_true (I.fl t h1 h2)
 ·intro t h
  rw [put_tmps,if_neg]
  ·refine I.same t fun j hj hl=>h j hj (getD_set_true hl)
  ·rintro ⟨h1,_⟩
   exact h k hkn (by simp [hks]) (by rw [hsk];exact h1)
 ·intro j t hj hl hs ht
  by_cases hjk:k=j
  ·subst hjk
   rw [hsk] at hs
   refine⟨v,?_,hT⟩
   rw [put_tmps,if_pos ⟨hs,by rw [I.sz];exact ht⟩]
  ·rw [getD_set_ne false hjk] at hl
   obtain⟨u,hu,hTu⟩:=I.val j t hj hl hs ht
   refine⟨u,?_,hst j hj u W W' hTu hb⟩
   rw [put_tmps,if_neg]
   ·exact hu
   ·rintro ⟨h1,_⟩
    exact S.uniq k j t hkn hj hjk (by rw [hsk];exact h1) hs
theorem phaseL {n g i0:Nat} (S:StatL md ops n g i0) {T:Nat→Value→World→Prop} {a0:Act} {Q:Exit→Act→World→Prop} (hQ:∀ c a d v w,Q (.panic c) (Act.put a (some d) v) w→Q (.panic c) a w)(hst:∀ k,k < n→∀ v W W',T k v W→Below W.heap.size W W'→T k v W')
  (hstep:∀ k ok,k < n→ops[k]?=some ok→∀ a W,SeesM md ops n T a0 w ok a W→TStep P ops ok a W (T k))
  (hfin:∀ listed a W,InvM md ops n g T a0 w listed a W→(∀ k,k < n→listed.getD k false=true)→wpList P ops Q ((ops.toList.drop n).take g) a W) :
  ∀ (c:Nat) (listed:Array Bool) (a:Act) (W:World),left n listed=c→InvM md ops n g T a0 w listed a W→Taken md ops i0 listed→wpAny P md ops Q (c+g) listed a W:=by
 have hsee:∀ (k:Nat) (ok:Oper) (listed:Array Bool) (a:Act) (W:World),InvM md ops n g T a0 w listed a W→k∈Region.ready md ops listed→k < n→ops[k]?=some ok→SeesM md ops n T a0 w ok a W:=by
  intro k ok listed a W I hk hkn hok
  obtain⟨hun,ok',hok',hall⟩:=mem_ready.1 hk
  have:ok'=ok:=Option.some.inj (hok'.symm.trans hok)
  subst this
  exact⟨I.below,fun t _ hno=>I.same t fun j hj _=>hno j hj,fun t ht j hj hs hsz=>by
   obtain⟨e,he,hb,hon⟩:=waitsOn_spec (S.slots k ok' hkn hok t ht j hj hs)
   exact I.val j t hj (by rw [← hon];exact hall e he hb) hs hsz,I.sz⟩
 intro c
 induction c using Nat.strongRecOn with
 | _ c ih =>
 intro listed a W hc I L
 cases c with
 | zero =>
  have hall:=left_zero hc
  have hL:listed=Array.ofFn fun i:Fin ops.size=>decide (i.val < n∨n+g≤i.val):=by
   apply Array.ext
   ·simp [I.size]
   ·intro i hi hi'
    have hio:i < ops.size:=by rw [← I.size];exact hi
    simp only [Array.getElem_ofFn]
    by_cases h:i < n
    ·have:=hall i h;simp [hi] at this;simp [this,h]
    ·by_cases h2:n+g≤i
     ·have:=I.fl i h2 hio;simp [hi] at this;simp [this,h2]
     ·have:=I.tail i (by omega) (by omega);simp [hi] at this;simp [this,h,h2]
  have hlen:((ops.toList.drop n).take g).length=g:=by have:=S.le;simp;omega
  have h:=seqList (P:=P) (md:=md) (ops:=ops) (Q':=Q) ((ops.toList.drop n).take g) n listed a W (fun j hj=>by
   rw [hlen] at hj
   rw [List.getElem?_take_of_lt hj,List.getElem?_drop];simp) (by rw [hlen,hL];exact S.seq) (hfin listed a W I hall)
  rw [hlen] at h
  rw [Nat.zero_add];exact h
 | succ c =>
  rw [show c+1+g=(c+g)+1 by omega]
  refine⟨fun h0=>absurd h0 (some_readyL S I (by omega)),fun k hk=>?_⟩
  obtain⟨hun,ok,hok,hall⟩:=mem_ready.1 hk
  have hks:k < ops.size:=(Array.getElem?_eq_some_iff.1 hok).1
  have hkn:k < n:=by
   rcases Nat.lt_or_ge k n with h | h
   ·exact h
   ·exfalso
    have h1:=tail_notL S I L hk h
    have:left n listed=0:=by
     unfold left
     rw [List.length_eq_zero_iff,List.filter_eq_nil_iff]
     intro i hi
     have:=h1 i (List.mem_range.1 hi)
     simp [this]
    omega
  have h:=hstep k ok hkn hok a W (hsee k ok listed a W I hk hkn hok)
  have hlf:=left_set (n:=n) (by rw [I.size];exact hks) (getD_both hun) hkn
  have go:∀ v W',Below W.heap.size W W'→T k v W'→wpAny P md ops Q (c+g) (listed.setIfInBounds k true) (a.put ok.dst v) W':=fun v W' hb hT=>by
   have I2:=I.stepL S hst hk hkn hok hb hT
   have hc2:left n (listed.setIfInBounds k true)=c:=by omega
   by_cases hr:i0∈Region.ready md ops (listed.setIfInBounds k true)
   ·obtain⟨oi,hoi,hh,⟨d,hd⟩,_,hap⟩:=S.late
    obtain⟨hun0,oi',hoi',hall0⟩:=mem_ready.1 hr
    have:oi'=oi:=Option.some.inj (hoi'.symm.trans hoi)
    subst this
    have h0:=hstep i0 oi' S.lt0 hoi _ _ (hsee i0 oi' _ _ _ I2 hr S.lt0 hoi)
    have his:i0 < ops.size:=(Array.getElem?_eq_some_iff.1 hoi).1
    have hlf2:=left_set (n:=n) (by rw [I2.size];exact his) (getD_both hun0) S.lt0
    obtain⟨c',rfl⟩:∃ c',c=c'+1:=⟨c - 1,by omega⟩
    obtain⟨u,hTu,hy⟩:∃ u,T i0 u W'∧Yields P ops oi' u (a.put ok.dst v):=by
     unfold TStep at h0
     split at h0
     ·rename_i hw
      obtain⟨u,hu,hrun⟩:=handsOn_mid hh h0
      exact⟨u,hu,.inl ⟨hw,hrun⟩⟩
     ·rename_i hw
      exact⟨undef,h0,.inr ⟨by simpa using hw,rfl⟩⟩
    have I3:=I2.stepL S hst hr S.lt0 hoi (Below.refl _ _) hTu
    rw [show c'+1+g=(c'+g)+1 by omega]
    refine wpAny_first hoi (fun j o cs b hj=>Region.noSelect_spec S.sel j o cs b hj) (fun cc a' w' hq=>by rw [hd] at hq;exact hQ cc a' d _ w' hq) (c'+g) _ _ _ (fun j oj hj hne hl hno=>?_) hr hy (ih c' (by omega) _ _ _ (by omega) I3 fun _=>?_)
    ·rcases hap j oj hj hne with h1 | h1 | h1
     ·obtain⟨e,he,hb',hon⟩:=waitsOn_spec h1
      have:=hall0 e he hb'
      rw [hon,getD_both hl] at this
      cases this
     ·obtain⟨e,he,hb',hon⟩:=waitsOn_spec h1
      exact absurd hon (hno e he hb')
     ·exact h1
    ·have:i0 < listed.size:=by rw [I.size];exact his
     simp [this]
   ·refine ih c (by omega) _ _ _ hc2 I2 fun hd=>?_
    cases hl:(listed.setIfInBounds k true).getD i0 false with
    | true=>rfl
    | false =>
     exfalso
     obtain⟨oi,hoi,_⟩:=S.late
     exact hr (mem_ready.2 ⟨getD_in (by rw [I2.size];exact (Array.getElem?_eq_some_iff.1 hoi).1) hl,oi,hoi,fun e he hb=>hd oi hoi e he hb⟩)
  unfold TStep at h
  unfold wpOp
  simp only [hok]
  split
  ·rename_i hw
   simp only [hw,if_true] at h
   left
   unfold midAt at h
   unfold Oper.wp
   generalize (execOp a.eval ok).run P W=r at *
   cases r with
   | ok x w' =>
    cases x <;> simp only [midUpon] at h <;> simp only [Oper.upon]
    case value u=>exact go u _ h.1 h.2
    case skip=>exact go undef _ h.1 h.2
    case enter f args =>
     obtain⟨e1,hc⟩:=h
     rw [e1]
     exact hc.mono fun e w'' ⟨v,he,hb,hT⟩=>by subst he;exact go v _ hb hT
   | halt x w'=>simp only [midUpon] at h
  ·rename_i hw
   simp only [hw] at h
   exact go undef W (Below.refl _ _) h
theorem phaseL0 {n g i0:Nat} (S:StatL md ops n g i0) {T:Nat→Value→World→Prop} {a0:Act} {Q:Exit→Act→World→Prop} (hQ:∀ c a d v w,Q (.panic c) (Act.put a (some d) v) w→Q (.panic c) a w)(hst:∀ k,k < n→∀ v W W',T k v W→Below W.heap.size W W'→T k v W')
  (hstep:∀ k ok,k < n→ops[k]?=some ok→∀ a W,SeesM md ops n T a0 w ok a W→TStep P ops ok a W (T k))
  (hfin:∀ listed a W,InvM md ops n g T a0 w listed a W→(∀ k,k < n→listed.getD k false=true)→wpList P ops Q ((ops.toList.drop n).take g) a W)
  (c:Nat) (listed:Array Bool) (a:Act) (W:World) (hc:left n listed=c) (I2:InvM md ops n g T a0 w listed a W):wpAny P md ops Q (c+g) listed a W:=by
 by_cases hr:i0∈Region.ready md ops listed
 ·obtain⟨oi,hoi,hh,⟨d,hd⟩,_,hap⟩:=S.late
  obtain⟨hun0,oi',hoi',hall0⟩:=mem_ready.1 hr
  have:oi'=oi:=Option.some.inj (hoi'.symm.trans hoi)
  subst this
  have hsee:SeesM md ops n T a0 w oi' a W:=⟨I2.below,fun t _ hno=>I2.same t fun j hj _=>hno j hj,fun t ht j hj hs hsz=>by
   obtain⟨e,he,hb,hon⟩:=waitsOn_spec (S.slots i0 oi' S.lt0 hoi t ht j hj hs)
   exact I2.val j t hj (by rw [← hon];exact hall0 e he hb) hs hsz,I2.sz⟩
  have h0:=hstep i0 oi' S.lt0 hoi _ _ hsee
  have his:i0 < ops.size:=(Array.getElem?_eq_some_iff.1 hoi).1
  have hlf2:=left_set (n:=n) (by rw [I2.size];exact his) (getD_both hun0) S.lt0
  obtain⟨c',rfl⟩:∃ c',c=c'+1:=⟨c - 1,by omega⟩
  obtain⟨u,hTu,hy⟩:∃ u,T i0 u W∧Yields P ops oi' u a:=by
   unfold TStep at h0
   split at h0
   ·rename_i hw
    obtain⟨u,hu,hrun⟩:=handsOn_mid hh h0
    exact⟨u,hu,.inl ⟨hw,hrun⟩⟩
   ·rename_i hw
    exact⟨undef,h0,.inr ⟨by simpa using hw,rfl⟩⟩
  have I3:=I2.stepL S hst hr S.lt0 hoi (Below.refl _ _) hTu
  rw [show c'+1+g=(c'+g)+1 by omega]
  refine wpAny_first hoi (fun j o cs b hj=>Region.noSelect_spec S.sel j o cs b hj) (fun cc a' w' hq=>by rw [hd] at hq;exact hQ cc a' d _ w' hq) (c'+g) _ _ _ (fun j oj hj hne hl hno=>?_) hr hy (phaseL S hQ hst hstep hfin c' _ _ _ (by omega) I3 fun _=>?_)
  ·rcases hap j oj hj hne with h1 | h1 | h1
   ·obtain⟨e,he,hb',hon⟩:=waitsOn_spec h1
    have:=hall0 e he hb'
    rw [hon,getD_both hl] at this
    cases this
   ·obtain⟨e,he,hb',hon⟩:=waitsOn_spec h1
    exact absurd hon (hno e he hb')
   ·exact h1
  ·have:i0 < listed.size:=by rw [I2.size];exact his
   simp [this]
 ·refine phaseL S hQ hst hstep hfin c _ _ _ hc I2 fun hd=>?_
  cases hl:listed.getD i0 false with
  | true=>rfl
  | false =>
   exfalso
   obtain⟨oi,hoi,_⟩:=S.late
   exact hr (mem_ready.2 ⟨getD_in (by rw [I2.size];exact (Array.getElem?_eq_some_iff.1 hoi).1) hl,oi,hoi,fun e he hb=>hd oi hoi e he hb⟩)
theorem wp_region_late {id:Nat} {Q:Exit→Act→World→Prop} {a:Act} {l:List Oper} (n g i0:Nat)(mids:List Nat)(fls:List (Tmp × Value))(ms:List (Nat × (Value→World→Prop)))(hmids:ms.map (·.1)=mids)(hm:P.follows .mixedOrders=true)
  (hB:midBl l.toArray n g i0 mids=true) (hfls:flOf l.toArray (l.length - (n+g)) (n+g)=fls) (hsz:slotsB l.toArray a.tmps.size=true) (hQ:∀ c a d v w,Q (.panic c) (Act.put a (some d) v) w→Q (.panic c) a w) (hst:StableM ms)
  (h:∀ L:Act→Prop,(∀ A,MidsOKg P l.toArray w A ms ms→(∀ vs W,Below w.heap.size w W→FitsM ms vs W→wpList P l.toArray Q ((l.drop n).take g) (putHd l.toArray vs mids A) W)→L A) →
   wpHead P l.toArray w mids L 0 (l.take n) (putL fls a)) :
  (Code.region id l.toArray true).wp P Q a w:=by
 subst hmids
 have hle0:n+g≤l.length:=by
  simp only [midBl,Bool.and_eq_true,decide_eq_true_eq] at hB
  simpa using hB.1.1.1.1.1.1.1.1.1.1.1.1.2
 have h:=h _ (fun A h1 h2=>(show MidsOKg P l.toArray w A ms ms∧∀ vs W,Below w.heap.size w W→FitsM ms vs W→wpList P l.toArray Q ((l.drop n).take g) (putHd l.toArray vs (ms.map (·.1)) A) W from ⟨h1,h2⟩))
 have h:=quietR_of_head _ _ _ (fun j hj=>by
  have:j < n:=by simp at hj;omega
  simp [List.getElem?_take_of_lt this]) h
 rw [← hfls,← putFl_eq,show (l.take n).length=n by simp;omega,← List.range_eq_range'] at h
 change wpQuietR P l.toArray w _ ((headOf n (ms.map (·.1))).filterMap (l.toArray[·]?)) _ at h
 clear hfls
 simp only [midBl,Bool.and_eq_true,decide_eq_true_eq] at hB
 obtain⟨⟨⟨⟨⟨⟨⟨⟨⟨⟨⟨⟨⟨hsel,hle⟩,hk⟩,hsink⟩,hchain⟩,hseq⟩,hhd⟩,hoff⟩,hmid⟩,hnd⟩,hfl⟩,hi0⟩,him⟩,hlt⟩:=hB
 generalize hops:l.toArray=ops at *
 have hl:l=ops.toList:=by rw [← hops]
 subst hl
 have hmk:∀ k ok,k < n→ops[k]?=some ok→(∀ e∈ok.after,Region.binds .any e=true→e.on < k)∧∀ j t,j < n→slotOf ops j=some t→(t∈ok.looksAt ops→waitsOn .any ok j=true)∧(j≠k→slotOf ops k≠some t):=by
  intro k ok hkn hok
  have h1:=List.all_eq_true.1 hk k (List.mem_range.2 hkn)
  rw [hok] at h1
  simp only [Bool.and_eq_true] at h1
  refine⟨fun e he hb=>?_,fun j t hj hs=>?_⟩
  ·have:=Array.all_eq_true'.1 h1.1 e he
   simpa [hb] using this
  ·have h2:=List.all_eq_true.1 h1.2 j (List.mem_range.2 hj)
   rw [hs] at h2
   simp only [Bool.and_eq_true,Bool.or_eq_true,Bool.not_eq_true',beq_iff_eq,bne_iff_ne] at h2
   refine⟨fun ht=>h2.1.resolve_left (by simpa using ht),fun hne=>h2.2.resolve_left hne⟩
 have S:StatL .any ops n g i0:={
  sel:=hsel,le:=hle
  down:=fun k ok hkn hok=>(hmk k ok hkn hok).1
  slots:=fun k ok hkn hok t ht j hj hs=>((hmk k ok hkn hok).2 j t hj hs).1 ht
  uniq:=fun i j t hi hj hne hs=>by
   have hjs:j < ops.size:=by omega
   exact ((hmk j ops[j] hj (Array.getElem?_eq_getElem hjs)).2 i t hi hs).2 hne
  sink:=fun hg i hi hne=>by
   rcases Bool.or_eq_true _ _ ▸ hsink with h0 | h0
   ·have:g=0:=by simpa using h0
    omega
   ·have h0:=List.all_eq_true.1 h0 i (List.mem_range.2 hi)
    rcases Bool.or_eq_true _ _ ▸ h0 with h1 | h1
    ·exact absurd (by simpa using h1) hne
    ·obtain⟨j,hj,h2⟩:=List.any_eq_true.1 h1
     simp only [Bool.and_eq_true,decide_eq_true_eq,bne_iff_ne] at h2
     exact⟨j,h2.1.1,by have:=List.mem_range.1 hj;omega,h2.1.2,h2.2⟩
  lt0:=hi0
  late:=lateB_spec hlt
  chain:=fun t h1 h2=>by
   have:=List.all_eq_true.1 hchain t (List.mem_range.2 h2)
   simp only [Bool.or_eq_true,decide_eq_true_eq] at this
   exact this.resolve_left (by omega)
  seq:=hseq }
 obtain⟨vals,⟨hmo,htl⟩,hy⟩:=head_table hsel (headOf n (ms.map (·.1))) _ hhd h
 generalize ha0:putFl ops (ops.toList.length - (n+g)) (n+g) a=a0 at *
 have hsz0:a0.tmps.size=a.tmps.size:=by
  rw [← ha0]
  have:∀ f t (a:Act),(putFl ops f t a).tmps.size=a.tmps.size:=by
   intro f
   induction f with
   | zero=>intro t a;rfl
   | succ f ih=>intro t a;unfold putFl;rw [ih];split <;> simp [put_size]
  exact this _ _ _
 have hin:∀ k t,slotOf ops k=some t→t < a0.tmps.size:=by
  intro k t hs
  unfold slotOf at hs
  cases ho:ops[k]? with
  | none=>rw [ho] at hs;cases hs
  | some o =>
   rw [ho] at hs
   have h1:=Array.all_eq_true'.1 hsz o (Array.mem_of_getElem? ho)
   simp only [Option.bind_some] at hs
   rw [hs] at h1
   rw [hsz0];simpa using h1
 generalize hA:putHd ops vals (headOf n (ms.map (·.1))) a0=A at *
 have hAsz:A.tmps.size=a0.tmps.size:=by rw [← hA];exact putHd_size _ _ _
 have hAdf:A.defers=a0.defers:=by rw [← hA];exact putHd_defers _ _ _
 have memH:∀ k,k∈headOf n (ms.map (·.1))↔k < n∧k ∉ ms.map (·.1):=by
  intro k;unfold headOf;rw [List.mem_filter,List.mem_range];simp
 have hAs:∀ k t,k∈headOf n (ms.map (·.1))→slotOf ops k=some t→A.tmps[t]?=some (vals k):=by
  intro k t hkh hs
  rw [← hA]
  exact putHd_slot vals t k hs _ _ hkh (fun j hj hne=>S.uniq k j t ((memH k).1 hkh).1 ((memH j).1 hj).1 (Ne.symm hne) hs) (hin k t hs)
 have hAo:∀ t,(∀ k,k < n→slotOf ops k≠some t)→A.tmps[t]?=a0.tmps[t]?:=by
  intro t ht
  rw [← hA]
  exact putHd_other vals t _ _ fun k hk=>ht k ((memH k).1 hk).1
 have hmid':∀ k∈ms.map (·.1),k < n∧∃ o,ops[k]?=some o∧∃ d,o.dst=some d:=by
  intro k hk
  have h1:=List.all_eq_true.1 hmid k hk
  simp only [Bool.and_eq_true,decide_eq_true_eq] at h1
  refine⟨h1.1,?_⟩
  cases ho:ops[k]? with
  | none=>rw [ho] at h1;cases h1.2
  | some o =>
   rw [ho] at h1
   exact⟨o,rfl,Option.isSome_iff_exists.1 h1.2⟩
 -- the frame with the middle's values
 have hF:∀ (vs:Nat→Value) (t:Tmp),(∀ k t,k∈ms.map (·.1)→slotOf ops k=some t→(putHd ops vs (ms.map (·.1)) A).tmps[t]?=some (vs k))∧((∀ k∈ms.map (·.1),slotOf ops k≠some t)→(putHd ops vs (ms.map (·.1)) A).tmps[t]?=A.tmps[t]?):=by
  intro vs t
  refine⟨fun k t hk hs=>putHd_slot vs t k hs _ _ hk (fun j hj hne=>S.uniq k j t (hmid' k hk).1 (hmid' j hj).1 (Ne.symm hne) hs) (by rw [hAsz];exact hin k t hs),fun h=>putHd_other vs t _ _ h⟩
 let T:Nat→Value→World→Prop:=fun k v W=>if k∈ms.map (·.1) then tOf ms k v W else v=vals k
 have hT:∀ k,k ∉ ms.map (·.1)→∀ v W,T k v W↔v=vals k:=fun k hk v W=>by show (if _ then _ else _)↔_;rw [if_neg hk]
 have hTm:∀ k,k∈ms.map (·.1)→∀ v W,T k v W↔tOf ms k v W:=fun k hk v W=>by show (if _ then _ else _)↔_;rw [if_pos hk]
 have hstT:∀ k,k < n→∀ v W W',T k v W→Below W.heap.size W W'→T k v W':=by
  intro k _ v W W' h1 h2
  by_cases hk:k∈ms.map (·.1)
  ·rw [hTm k hk] at h1 ⊢
   obtain⟨p,hp,rfl⟩:=List.mem_map.1 hk
   rw [tOf_mem hp hnd] at h1 ⊢
   exact stableM_mem hp hst v W W' h1 h2
  ·rw [hT k hk] at h1 ⊢;exact h1
 have valOf:∀ (b:Act) (W:World) (o:Oper),SeesM .any ops n T a0 w o b W→∀ t∈o.looksAt ops,(∀ j∈ms.map (·.1),slotOf ops j≠some t)→b.tmps[t]?=A.tmps[t]?:=by
  intro b W o hse t ht hno
  by_cases hex:∃ j,j < n∧slotOf ops j=some t
  ·obtain⟨j,hj,hs⟩:=hex
   have hjm:j ∉ ms.map (·.1):=fun hm=>hno j hm hs
   obtain⟨v,hv,hTv⟩:=hse.val t ht j hj hs (hin j t hs)
   rw [hT j hjm] at hTv
   rw [hv,hTv,hAs j t ((memH j).2 ⟨hj,hjm⟩) hs]
  ·have hno':∀ k,k < n→slotOf ops k≠some t:=fun k hk hs=>hex ⟨k,hk,hs⟩
   rw [hse.same t ht hno',hAo t hno']
 have hstep:∀ k ok,k < n→ops[k]?=some ok→∀ b W,SeesM .any ops n T a0 w ok b W→TStep P ops ok b W (T k):=by
  intro k ok hkn hok b W hse
  have hs:=fun cs b=>Region.noSelect_spec hsel k ok cs b hok
  by_cases hk:k∈ms.map (·.1)
  ·obtain⟨p,hp,rfl⟩:=List.mem_map.1 hk
   obtain⟨_,o',ho',_⟩:=hmid' p.1 hk
   have:o'=ok:=Option.some.inj (ho'.symm.trans hok)
   subst this
   have hvs:∃ vs:Nat→Value,vs=fun j=>(match slotOf ops j with | some t=>b.tmps.getD t undef | none=>undef):=⟨_,rfl⟩
   obtain⟨vs,hvs⟩:=hvs
   have hfit:FitsM (ms.filter fun q=>needsB ops o' q.1) vs W:=by
    refine fitsM_of fun q hq=>?_
    obtain⟨hqm,hqn⟩:=List.mem_filter.1 hq
    have hqk:q.1∈ms.map (·.1):=List.mem_map.2 ⟨q,hqm,rfl⟩
    unfold needsB at hqn
    cases hsq:slotOf ops q.1 with
    | none=>rw [hsq] at hqn;cases hqn
    | some t =>
     rw [hsq] at hqn
     obtain⟨v,hv,hTv⟩:=hse.val t (by simpa using hqn) q.1 (hmid' _ hqk).1 hsq (hin _ t hsq)
     rw [hTm _ hqk,tOf_mem hqm hnd] at hTv
     have:vs q.1=v:=by rw [hvs];simp only [hsq,Array.getD_eq_getD_getElem?,hv,Option.getD_some]
     rw [this];exact hTv
   have hmid2:=midsOKg_mem hp hmo o' hok vs W hse.below hfit
   have hag:∀ t∈o'.looksAt ops,b.tmps[t]?=(putHd ops vs (ms.map (·.1)) A).tmps[t]?:=by
    intro t ht
    by_cases hex:∃ j,j∈ms.map (·.1)∧slotOf ops j=some t
    ·obtain⟨j,hj,hsj⟩:=hex
     obtain⟨v,hv,_⟩:=hse.val t ht j (hmid' j hj).1 hsj (hin j t hsj)
     rw [(hF vs t).1 j t hj hsj,hv,hvs]
     simp only [hsj,Array.getD_eq_getD_getElem?,hv,Option.getD_some]
    ·have hno:∀ j∈ms.map (·.1),slotOf ops j≠some t:=fun j hj hsj=>hex ⟨j,hj,hsj⟩
     rw [(hF vs t).2 hno,valOf b W o' hse t ht hno]
   obtain⟨e1,e2⟩:=agree_exec hs hag
   have e3:(fun v W=>T p.1 v W)=p.2:=by funext v W;exact propext (by rw [hTm _ hk,tOf_mem hp hnd])
   rw [show T p.1=p.2 from e3]
   unfold TStep midAt at *
   rw [e1,e2];exact hmid2
  ·have hkh:=(memH k).2 ⟨hkn,hk⟩
   have hyk:=hy k hkh ok hok
   have hof:=offB_spec (List.all_eq_true.1 hoff k hkh)
   obtain⟨o2,ho2,hof⟩:=hof
   have:o2=ok:=Option.some.inj (ho2.symm.trans hok)
   subst this
   have hag:∀ t∈o2.looksAt ops,b.tmps[t]?=A.tmps[t]?:=fun t ht=>valOf b W o2 hse t ht fun j hj hsj=>hof j hj t hsj ht
   obtain⟨e1,e2⟩:=agree_exec hs hag
   have e3:T k=fun v _=>v=vals k:=by funext v W;exact propext (hT k hk v W)
   unfold TStep
   rw [e3,e2]
   rcases hyk with ⟨hw,hq⟩ | ⟨hw,hu⟩
   ·rw [if_pos hw]
    have h1:=hq W
    rw [← eq_over hse.below] at h1
    unfold midAt
    rw [e1]
    unfold quietAtR at h1
    generalize (execOp A.eval o2).run P W=r at *
    cases r with
    | halt x w'=>simp only [quietUponR] at h1
    | ok x w' =>
     cases x <;> simp only [quietUponR] at h1 <;> simp only [midUpon]
     case value u=>exact⟨by rw [h1.1];exact Below.refl _ _,h1.2⟩
     case skip=>exact⟨by rw [h1.1];exact Below.refl _ _,h1.2.symm⟩
     case enter f args=>exact⟨h1.1,h1.2.mono fun e W'' ⟨he,hb⟩=>⟨_,he,hb,rfl⟩⟩
   ·rw [if_neg (by rw [hw];simp)]
    exact hu.symm
 have hfin:∀ listed b W,InvM .any ops n g T a0 w listed b W→(∀ k,k < n→listed.getD k false=true)→wpList P ops Q ((ops.toList.drop n).take g) b W:=by
  intro listed b W I hall
  have hvs:∃ vs:Nat→Value,vs=fun j=>(match slotOf ops j with | some t=>b.tmps.getD t undef | none=>undef):=⟨_,rfl⟩
  obtain⟨vs,hvs⟩:=hvs
  have hval:∀ k,k∈ms.map (·.1)→∀ t,slotOf ops k=some t→b.tmps[t]?=some (vs k)∧tOf ms k (vs k) W:=by
   intro k hk t hs
   obtain⟨v,hv,hTv⟩:=I.val k t (hmid' k hk).1 (hall k (hmid' k hk).1) hs (hin k t hs)
   have:vs k=v:=by rw [hvs];simp only [hs,Array.getD_eq_getD_getElem?,hv,Option.getD_some]
   rw [this,← hTm k hk];exact⟨hv,hTv⟩
  have hfit:FitsM ms vs W:=fitsM_of fun q hq=>by
   have hqk:q.1∈ms.map (·.1):=List.mem_map.2 ⟨q,hq,rfl⟩
   obtain⟨_,o,ho,d,hd⟩:=hmid' _ hqk
   have:=(hval _ hqk d (by unfold slotOf;rw [ho];exact hd)).2
   rw [tOf_mem hq hnd] at this
   exact this
  have hb:b=putHd ops vs (ms.map (·.1)) A:=by
   have ht:b.tmps=(putHd ops vs (ms.map (·.1)) A).tmps:=by
    apply Array.ext_getElem?
    intro t
    by_cases hex:∃ j,j∈ms.map (·.1)∧slotOf ops j=some t
    ·obtain⟨j,hj,hsj⟩:=hex
     rw [(hval j hj t hsj).1,(hF vs t).1 j t hj hsj]
    ·have hno:∀ j∈ms.map (·.1),slotOf ops j≠some t:=fun j hj hsj=>hex ⟨j,hj,hsj⟩
     rw [(hF vs t).2 hno]
     by_cases hex2:∃ j,j < n∧slotOf ops j=some t
     ·obtain⟨j,hj,hs⟩:=hex2
      have hjm:j ∉ ms.map (·.1):=fun hm=>hno j hm hs
      obtain⟨v,hv,hTv⟩:=I.val j t hj (hall j hj) hs (hin j t hs)
      rw [hT j hjm] at hTv
      rw [hv,hTv,hAs j t ((memH j).2 ⟨hj,hjm⟩) hs]
     ·have hno':∀ k,k < n→slotOf ops k≠some t:=fun k hk hs=>hex2 ⟨k,hk,hs⟩
      rw [I.same t fun k hk _=>hno' k hk,hAo t hno']
   have hd:b.defers=(putHd ops vs (ms.map (·.1)) A).defers:=by rw [putHd_defers,hAdf];exact I.defers
   cases b
   generalize putHd ops vs (ms.map (·.1)) A=F at *
   cases F
   simp only at ht hd
   subst ht;subst hd;rfl
  rw [hb]
  exact htl vs W I.below hfit
 refine wp_region_any hm ?_
 have hsum:n+g+(ops.toList.length - (n+g))=ops.size:=by simp;omega
 have I0:InvM .any ops n g T a0 w (listFl (ops.toList.length - (n+g)) (n+g) (Array.replicate ops.size false)) a0 w.drew:=by
  refine⟨by rw [listFl_size];simp,?_,?_,?_,(Below.refl _ w).drew,rfl,rfl,fun t _=>rfl,?_⟩
  ·intro j oj hj _ hl
   rw [listFl_low _ _ _ _ _ (by omega),getD_replicate_false] at hl
   cases hl
  ·intro t h1 h2
   rw [listFl_low _ _ _ _ _ h2]
   exact getD_in (by simp;omega) (getD_replicate_false _ _)
  ·intro t h1 h2
   exact listFl_in _ _ _ t h1 (by omega) (by simp;omega)
  ·intro k t hk hl
   rw [listFl_low _ _ _ _ _ (by omega),getD_replicate_false] at hl
   cases hl
 have hleft:left n (listFl (ops.toList.length - (n+g)) (n+g) (Array.replicate ops.size false))=n:=by
  unfold left
  rw [List.filter_eq_self.2,List.length_range]
  intro k hk
  rw [listFl_low _ _ _ _ _ (by have:=List.mem_range.1 hk;omega),getD_replicate_false]
  rfl
 have h1:=phaseL0 (Q:=Q) S hQ hstT hstep hfin n _ a0 w.drew hleft I0
 rw [← ha0] at h1
 have h2:=take_floats hsel hQ (n+g) _ _ _ a (by rw [show ops.toList.length=ops.size by simp];exact hfl) h1
 rw [hsum] at h2
 exact h2
end
end
section
open Go.RowKit
section
variable {P : Program} {ops : Array Oper} {md : Region.Mode} {w : World}
end
theorem fits_cast {p q:Prop} (h:p)(e:p=q):q:=e ▸ h
end
end Go.Proofs.YtmmeopjemkjllaaGreat
