/- Lemmas of the claim. No conditions beyond those that each states. -/
import Derived.Test.YtmmeopjemkjllaaGreatPT10
set_option linter.unusedVariables false
set_option linter.unusedSimpArgs false
set_option maxRecDepth 100000
set_option maxHeartbeats 8000000
namespace Go.Proofs.YtmmeopjemkjllaaGreat
section
open Go.RowKit
section
variable {P : Program} {ops : Array Oper} {md : Region.Mode} {w : World}
structure InvK (md:Region.Mode)(ops:Array Oper)(n g:Nat)(T:Nat→Value→World→Prop)(x:Nat→Nat)(J JK:World→Prop)(jend:Nat)(a0:Act)(w:World)(listed:Array Bool)(a:Act)(W:World):Prop where
 inv:InvM md ops n g (fun _ _ _=>True) a0 w listed a W
 al:∀ k t v,k < n→listed.getD k false=true→listed.getD (x k) false=false→slotOf ops k=some t→t < a0.tmps.size→a.tmps[t]?=some v→T k v W
 jal:listed.getD jend false=false→J W
 jkl:JK W
theorem InvK.step {n g k:Nat} (S:StatM md ops n g) {x:Nat→Nat} {hot still:Nat→Bool} {J JK:World→Prop} {jend:Nat} (X:StatX md ops n x hot still) {T:Nat→Value→World→Prop} {a0:Act} {listed:Array Bool} {a:Act} {W W':World} {ok:Oper} {v:Value}
  (hst:∀ k,k < n→∀ v W W',T k v W→Below W.heap.size W W'→T k v W') (hsl:∀ k,k < n→still k=true→∀ v W W',T k v W→T k v W') (hJst:∀ W W',J W→Below W.heap.size W W'→J W') (hJh:(∀ W,J W)∨∀ k,k < n→hot k=true→k=jend∨∃ f,pathB md ops f k jend=true) (hKst:∀ W W',JK W→Below W.heap.size W W'→JK W') (hKh:∀ k,k < n→hot k=true→∀ v W,T k v W→JK W)
  (I:InvK md ops n g T x J JK jend a0 w listed a W) (hr:k∈Region.ready md ops listed) (hkn:k < n) (hok:ops[k]?=some ok) (hbw:Below w.heap.size w W') (hb:hot k=true∨Below W.heap.size W W') (hT:T k v W') :
  InvK md ops n g T x J JK jend a0 w (listed.setIfInBounds k true) (a.put ok.dst v) W':=by
 obtain⟨hun,ok',hok',hall⟩:=mem_ready.1 hr
 have:ok'=ok:=Option.some.inj (hok'.symm.trans hok)
 subst this
 have hks:k < listed.size:=by rw [I.inv.size];exact (Array.getElem?_eq_some_iff.1 hok).1
 have hsk:slotOf ops k=ok'.dst:=by unfold slotOf;rw [hok];rfl
 refine⟨I.inv.stepX S (fun _ _ _=>trivial) hr hkn hok hbw,?_,fun hl=>?_,?_⟩
 rotate_left
 rotate_left
 ·rcases hb with hh | hb
  ·exact hKh k hkn hh v W' hT
  ·exact hKst W W' I.jkl hb
 rotate_left
 ·have hkj:k≠jend:=by
   intro e
   rw [← e] at hl
   simp [hks] at hl
  rw [getD_set_ne false hkj] at hl
  rcases hb with hh | hb
  ·rcases hJh with h | h
   ·exact h W'
   rcases h k hkn hh with h | ⟨f,h⟩
   ·exact absurd h hkj
   ·have:=path_come I.inv.closed S.down f k jend ok' hkn hok h hall
    rw [hl] at this;cases this
  ·exact hJst W W' (I.jal hl) hb
 intro j t u hj hl hx hs ht hu
 by_cases hjk:k=j
 ·subst hjk
  rw [hsk] at hs
  rw [put_tmps,if_pos ⟨hs,by rw [I.inv.sz];exact ht⟩] at hu
  cases hu
  exact hT
 ·rw [getD_set_ne false hjk] at hl
  have hxk:k≠x j:=by
   intro e
   rw [← e] at hx
   simp [hks] at hx
  rw [getD_set_ne false hxk] at hx
  have hu':a.tmps[t]?=some u:=by
   rw [put_tmps,if_neg] at hu
   ·exact hu
   ·rintro ⟨h1,_⟩
    exact S.uniq k j t hkn hj hjk (by rw [hsk];exact h1) hs
  have hTj:=I.al j t u hj hl hx hs ht hu'
  rcases hb with hh | hb
  ·rcases X.hotp k hkn hh j hj (Ne.symm hjk) with h | h | ⟨f,h⟩ | ⟨f,h⟩
   ·exact hsl j hj h u W W' hTj
   ·exact absurd h.symm hxk
   ·have:=path_come I.inv.closed S.down f k (x j) ok' hkn hok h hall
    rw [hx] at this;cases this
   ·have hjs:j < ops.size:=by have:=S.le;omega
    have:=path_come I.inv.closed S.down f j k _ hj (Array.getElem?_eq_getElem hjs) h (I.inv.closed j _ hj (Array.getElem?_eq_getElem hjs) hl)
    rw [getD_both hun] at this;cases this
  ·exact hst j hj u W W' hTj hb
theorem phaseK {n g:Nat} (S:StatM md ops n g) {x:Nat→Nat} {hot still:Nat→Bool} {J JK:World→Prop} {jend:Nat} (X:StatX md ops n x hot still) {T:Nat→Value→World→Prop} {a0:Act} {Q:Exit→Act→World→Prop} (hst:∀ k,k < n→∀ v W W',T k v W→Below W.heap.size W W'→T k v W')(hsl:∀ k,k < n→still k=true→∀ v W W',T k v W→T k v W')(hJst:∀ W W',J W→Below W.heap.size W W'→J W')(hJh:(∀ W,J W)∨∀ k,k < n→hot k=true→k=jend∨∃ f,pathB md ops f k jend=true)(hKst:∀ W W',JK W→Below W.heap.size W W'→JK W')(hKh:∀ k,k < n→hot k=true→∀ v W,T k v W→JK W)
  (hstep:∀ k ok,k < n→ops[k]?=some ok→∀ a W,SeesM md ops n T a0 w ok a W→(k=jend∨(jend < n∧pathB md ops ops.size jend k=true)→J W)→JK W→if hot k then HStep P ops w ok a W (T k) else TStep P ops ok a W (T k))
  (hfin:∀ listed a W,InvK md ops n g T x J JK jend a0 w listed a W→(∀ k,k < n→listed.getD k false=true)→wpList P ops Q ((ops.toList.drop n).take g) a W) :
  ∀ (c:Nat) (listed:Array Bool) (a:Act) (W:World),left n listed=c→InvK md ops n g T x J JK jend a0 w listed a W→wpAny P md ops Q (c+g) listed a W:=by
 intro c
 induction c with
 | zero =>
  intro listed a W hc I
  have hall:=left_zero hc
  have hL:listed=Array.ofFn fun i:Fin ops.size=>decide (i.val < n∨n+g≤i.val):=by
   apply Array.ext
   ·simp [I.inv.size]
   ·intro i hi hi'
    have hio:i < ops.size:=by rw [← I.inv.size];exact hi
    simp only [Array.getElem_ofFn]
    by_cases h:i < n
    ·have:=hall i h;simp [hi] at this;simp [this,h]
    ·by_cases h2:n+g≤i
     ·have:=I.inv.fl i h2 hio;simp [hi] at this;simp [this,h2]
     ·have:=I.inv.tail i (by omega) (by omega);simp [hi] at this;simp [this,h,h2]
  have hlen:((ops.toList.drop n).take g).length=g:=by have:=S.le;simp;omega
  have h:=seqList (P:=P) (md:=md) (ops:=ops) (Q':=Q) ((ops.toList.drop n).take g) n listed a W (fun j hj=>by
   rw [hlen] at hj
   rw [List.getElem?_take_of_lt hj,List.getElem?_drop];simp) (by rw [hlen,hL];exact S.seq) (hfin listed a W I hall)
  rw [hlen] at h
  rw [Nat.zero_add];exact h
 | succ c ih =>
  intro listed a W hc I
  rw [show c+1+g=(c+g)+1 by omega]
  refine⟨fun h0=>absurd h0 (some_ready S I.inv (by omega)),fun k hk=>?_⟩
  obtain⟨hun,ok,hok,hall⟩:=mem_ready.1 hk
  have hks:k < ops.size:=(Array.getElem?_eq_some_iff.1 hok).1
  have hkn:k < n:=by
   rcases Nat.lt_or_ge k n with h | h
   ·exact h
   ·exfalso
    have h1:=tail_not S I.inv hk h
    have:left n listed=0:=by
     unfold left
     rw [List.length_eq_zero_iff,List.filter_eq_nil_iff]
     intro i hi
     have:=h1 i (List.mem_range.1 hi)
     simp [this]
    omega
  have hsee:SeesM md ops n T a0 w ok a W:=⟨I.inv.below,fun t _ hno=>I.inv.same t fun j hj _=>hno j hj,fun t ht j hj hs hsz=>by
   obtain⟨e,he,hb,hon⟩:=waitsOn_spec (S.slots k ok hkn hok t ht j hj hs)
   have hlj:listed.getD j false=true:=by rw [← hon];exact hall e he hb
   obtain⟨v,hv,_⟩:=I.inv.val j t hj hlj hs hsz
   refine⟨v,hv,I.al j t v hj hlj ?_ hs hsz hv⟩
   rcases X.look k ok hkn hok t ht j hj hs with h | h | ⟨h1,f,h2⟩
   ·rw [h];exact getD_both hun
   ·exact getD_out (by rw [I.inv.size];exact h)
   ·cases hl:listed.getD (x j) false with
    | false=>rfl
    | true =>
     have hxs:x j < ops.size:=by have:=S.le;omega
     have:=path_come I.inv.closed S.down f (x j) k _ h1 (Array.getElem?_eq_getElem hxs) h2 (I.inv.closed _ _ h1 (Array.getElem?_eq_getElem hxs) hl)
     rw [getD_both hun] at this
     exact absurd this (by simp),I.inv.sz⟩
  have h:=hstep k ok hkn hok a W hsee (fun e=>I.jal (by
   rcases e with e | ⟨e1,e2⟩
   ·rw [← e];exact getD_both hun
   ·cases hl:listed.getD jend false with
    | false=>rfl
    | true =>
     have hjs:jend < ops.size:=by have:=S.le;omega
     have:=path_come I.inv.closed S.down ops.size jend k _ e1 (Array.getElem?_eq_getElem hjs) e2 (I.inv.closed _ _ e1 (Array.getElem?_eq_getElem hjs) hl)
     rw [getD_both hun] at this
     exact absurd this (by simp))) I.jkl
  have hlf:=left_set (n:=n) (by rw [I.inv.size];exact hks) (getD_both hun) hkn
  have go:∀ v W',Below w.heap.size w W'→hot k=true∨Below W.heap.size W W'→T k v W'→wpAny P md ops Q (c+g) (listed.setIfInBounds k true) (a.put ok.dst v) W':=fun v W' hbw hb hT =>
   ih _ _ _ (by omega) (I.step S X hst hsl hJst hJh hKst hKh hk hkn hok hbw hb hT)
  have goB:∀ v W',Below W.heap.size W W'→T k v W'→wpAny P md ops Q (c+g) (listed.setIfInBounds k true) (a.put ok.dst v) W':=fun v W' hb hT=>go v W' (I.inv.below.trans (hb.mono I.inv.below.size)) (.inr hb) hT
  unfold wpOp
  simp only [hok]
  by_cases hh:hot k=true
  ·rw [if_pos hh] at h
   unfold HStep at h
   split
   ·rename_i hw
    simp only [hw,if_true] at h
    left
    unfold Oper.wp
    generalize (execOp a.eval ok).run P W=r at *
    cases r with
    | ok x w' =>
     cases x <;> simp only [hotUpon] at h <;> simp only [Oper.upon]
     case value u=>exact go u _ h.1 (.inl hh) h.2
     case enter f args =>
      obtain⟨e1,hc⟩:=h
      rw [e1]
      exact hc.mono fun e w'' ⟨v,he,hb,hT⟩=>by subst he;exact go v _ hb (.inl hh) hT
    | halt x w'=>simp only [hotUpon] at h
   ·rename_i hw
    simp only [hw] at h
    exact goB undef W (Below.refl _ _) h
  ·rw [if_neg hh] at h
   unfold TStep at h
   split
   ·rename_i hw
    simp only [hw,if_true] at h
    left
    unfold midAt at h
    unfold Oper.wp
    generalize (execOp a.eval ok).run P W=r at *
    cases r with
    | ok x w' =>
     cases x <;> simp only [midUpon] at h <;> simp only [Oper.upon]
     case value u=>exact goB u _ h.1 h.2
     case skip=>exact goB undef _ h.1 h.2
     case enter f args =>
      obtain⟨e1,hc⟩:=h
      rw [e1]
      exact hc.mono fun e w'' ⟨v,he,hb,hT⟩=>by subst he;exact goB v _ hb hT
    | halt x w'=>simp only [midUpon] at h
   ·rename_i hw
    simp only [hw] at h
    exact goB undef W (Below.refl _ _) h
def MidsOKk (P:Program)(ops:Array Oper)(n:Nat)(w:World)(A:Act)(J JK:World→Prop)(jend:Nat)(hots:List Nat)(ms:List (Nat × (Value→World→Prop))):List (Nat × (Value→World→Prop))→Prop
 | []=>True
 | p :: r=>(match ops[p.1]? with
   | some o=>∀ vs W,Below w.heap.size w W→FitsM (ms.filter fun q=>needsB ops o q.1) vs W→(p.1=jend∨(jend < n∧pathB .any ops ops.size jend p.1=true)→J W)→JK W→if hots.contains p.1 then HStep P ops w o (putHd ops vs (ms.map (·.1)) A) W p.2 else TStep P ops o (putHd ops vs (ms.map (·.1)) A) W p.2
   | none=>True)∧MidsOKk P ops n w A J JK jend hots ms r
theorem midsOKk_mem {n:Nat} {A:Act} {J JK:World→Prop} {jend:Nat} {hots:List Nat} {ms:List (Nat × (Value→World→Prop))}:∀ {l:List (Nat × (Value→World→Prop))} {p},p∈l→MidsOKk P ops n w A J JK jend hots ms l→∀ o,ops[p.1]?=some o→∀ vs W,Below w.heap.size w W→FitsM (ms.filter fun q=>needsB ops o q.1) vs W→(p.1=jend∨(jend < n∧pathB .any ops ops.size jend p.1=true)→J W)→JK W→if hots.contains p.1 then HStep P ops w o (putHd ops vs (ms.map (·.1)) A) W p.2 else TStep P ops o (putHd ops vs (ms.map (·.1)) A) W p.2
 | q :: r,p,hp,h,o,ho,vs,W,hb,hf,hj,hjk=>by
  rcases List.mem_cons.1 hp with rfl | hp
  ·have h1:=h.1
   rw [ho] at h1
   exact h1 vs W hb hf hj hjk
  ·exact midsOKk_mem hp h.2 o ho vs W hb hf hj hjk
theorem wp_region_keep {id:Nat} {ws:World} {Q:Exit→Act→World→Prop} {a:Act} {l:List Oper} (n g:Nat)(mids:List Nat)(fls:List (Tmp × Value))(ms:List (Nat × (Value→World→Prop)))(xs:List (Nat × Nat))(hots stills:List Nat)(hmids:ms.map (·.1)=mids)(hhm:∀ k∈hots,k∈mids)(hxs:∀ k∈xs.map (·.1),k∈mids)(hws:Below w.heap.size w ws) {J JK:World→Prop} {jend:Nat} (hJ0:J ws)(hJst:∀ W W',J W→Below W.heap.size W W'→J W')(hJh:(∀ W,J W)∨(hots.all fun k=>k == jend || pathB .any l.toArray n k jend)=true)(hK0:JK ws)(hKst:∀ W W',JK W→Below W.heap.size W W'→JK W')(hKh:∀ p∈ms,hots.contains p.1=true→∀ v W,p.2 v W→JK W)(hm:P.follows .mixedOrders=true)
  (hB:midBg l.toArray n g mids=true) (hX:hotB l.toArray n mids xs hots stills=true) (hfls:flOf l.toArray (l.length - (n+g)) (n+g)=fls) (hsz:slotsB l.toArray a.tmps.size=true) (hQ:∀ c a d v w,Q (.panic c) (Act.put a (some d) v) w→Q (.panic c) a w) (hst:StableM ms) (hsl:StillM stills ms)
  (h:∀ L:Act→Prop,(∀ A,MidsOKk P l.toArray n w A J JK jend hots ms ms→(∀ vs W,Below w.heap.size w W→JK W→FitsM (ms.filter fun q=>!(xs.map (·.1)).contains q.1) vs W→wpList P l.toArray Q ((l.drop n).take g) (putHd l.toArray vs mids A) W)→L A) →
   wpHead P l.toArray w mids L 0 (l.take n) (putL fls a)) :
  (Code.region id l.toArray true).wp P Q a ws:=by
 subst hmids
 have hle0:n+g≤l.length:=by
  simp only [midBg,Bool.and_eq_true,decide_eq_true_eq] at hB
  simpa using hB.1.1.1.1.1.1.1.1.1.2
 have h:=h _ (fun A h1 h2=>(show MidsOKk P l.toArray n w A J JK jend hots ms ms∧∀ vs W,Below w.heap.size w W→JK W→FitsM (ms.filter fun q=>!(xs.map (·.1)).contains q.1) vs W→wpList P l.toArray Q ((l.drop n).take g) (putHd l.toArray vs (ms.map (·.1)) A) W from ⟨h1,h2⟩))
 have h:=quietR_of_head _ _ _ (fun j hj=>by
  have:j < n:=by simp at hj;omega
  simp [List.getElem?_take_of_lt this]) h
 rw [← hfls,← putFl_eq,show (l.take n).length=n by simp;omega,← List.range_eq_range'] at h
 change wpQuietR P l.toArray w _ ((headOf n (ms.map (·.1))).filterMap (l.toArray[·]?)) _ at h
 clear hfls
 simp only [midBg,Bool.and_eq_true,decide_eq_true_eq] at hB
 obtain⟨⟨⟨⟨⟨⟨⟨⟨⟨⟨hsel,hle⟩,hk⟩,hsink⟩,hchain⟩,hseq⟩,hhd⟩,hoff⟩,hmid⟩,hnd⟩,hfl⟩:=hB
 generalize hops:l.toArray=ops at *
 have hl:l=ops.toList:=by rw [← hops]
 subst hl
 have hmk:∀ k ok,k < n→ops[k]?=some ok→(∀ e∈ok.after,Region.binds .any e=true→e.on < k)∧∀ j t,j < n→slotOf ops j=some t→(t∈ok.looksAt ops→waitsOn .any ok j=true)∧(j≠k→slotOf ops k≠some t):=by
  intro k ok hkn hok
  have h1:=List.all_eq_true.1 hk k (List.mem_range.2 hkn)
  rw [hok] at h1
  simp only [Bool.and_eq_true] at h1
  refine⟨fun e he hb=>?_,fun j t hj hs=>?_⟩
  ·have:=Array.all_eq_true'.1 h1.1 e he
   simpa [hb] using this
  ·have h2:=List.all_eq_true.1 h1.2 j (List.mem_range.2 hj)
   rw [hs] at h2
   simp only [Bool.and_eq_true,Bool.or_eq_true,Bool.not_eq_true',beq_iff_eq,bne_iff_ne] at h2
   refine⟨fun ht=>h2.1.resolve_left (by simpa using ht),fun hne=>h2.2.resolve_left hne⟩
 have S:StatM .any ops n g:={
  sel:=hsel,le:=hle
  down:=fun k ok hkn hok=>(hmk k ok hkn hok).1
  slots:=fun k ok hkn hok t ht j hj hs=>((hmk k ok hkn hok).2 j t hj hs).1 ht
  uniq:=fun i j t hi hj hne hs=>by
   have hjs:j < ops.size:=by omega
   exact ((hmk j ops[j] hj (Array.getElem?_eq_getElem hjs)).2 i t hi hs).2 hne
  sink:=fun hg i hi=>by
   rcases Bool.or_eq_true _ _ ▸ hsink with h0 | h0
   ·have:g=0:=by simpa using h0
    omega
   ·obtain⟨j,hj,h2⟩:=List.any_eq_true.1 (List.all_eq_true.1 h0 i (List.mem_range.2 hi))
    simp only [Bool.and_eq_true,decide_eq_true_eq] at h2
    exact⟨j,h2.1,by have:=List.mem_range.1 hj;omega,h2.2⟩
  chain:=fun t h1 h2=>by
   have:=List.all_eq_true.1 hchain t (List.mem_range.2 h2)
   simp only [Bool.or_eq_true,decide_eq_true_eq] at this
   exact this.resolve_left (by omega)
  seq:=hseq }
 obtain⟨vals,⟨hmo,htl⟩,hy⟩:=head_table hsel (headOf n (ms.map (·.1))) _ hhd h
 generalize ha0:putFl ops (ops.toList.length - (n+g)) (n+g) a=a0 at *
 have hsz0:a0.tmps.size=a.tmps.size:=by
  rw [← ha0]
  have:∀ f t (a:Act),(putFl ops f t a).tmps.size=a.tmps.size:=by
   intro f
   induction f with
   | zero=>intro t a;rfl
   | succ f ih=>intro t a;unfold putFl;rw [ih];split <;> simp [put_size]
  exact this _ _ _
 have hin:∀ k t,slotOf ops k=some t→t < a0.tmps.size:=by
  intro k t hs
  unfold slotOf at hs
  cases ho:ops[k]? with
  | none=>rw [ho] at hs;cases hs
  | some o =>
   rw [ho] at hs
   have h1:=Array.all_eq_true'.1 hsz o (Array.mem_of_getElem? ho)
   simp only [Option.bind_some] at hs
   rw [hs] at h1
   rw [hsz0];simpa using h1
 generalize hA:putHd ops vals (headOf n (ms.map (·.1))) a0=A at *
 have hAsz:A.tmps.size=a0.tmps.size:=by rw [← hA];exact putHd_size _ _ _
 have hAdf:A.defers=a0.defers:=by rw [← hA];exact putHd_defers _ _ _
 have memH:∀ k,k∈headOf n (ms.map (·.1))↔k < n∧k ∉ ms.map (·.1):=by
  intro k;unfold headOf;rw [List.mem_filter,List.mem_range];simp
 have hAs:∀ k t,k∈headOf n (ms.map (·.1))→slotOf ops k=some t→A.tmps[t]?=some (vals k):=by
  intro k t hkh hs
  rw [← hA]
  exact putHd_slot vals t k hs _ _ hkh (fun j hj hne=>S.uniq k j t ((memH k).1 hkh).1 ((memH j).1 hj).1 (Ne.symm hne) hs) (hin k t hs)
 have hAo:∀ t,(∀ k,k < n→slotOf ops k≠some t)→A.tmps[t]?=a0.tmps[t]?:=by
  intro t ht
  rw [← hA]
  exact putHd_other vals t _ _ fun k hk=>ht k ((memH k).1 hk).1
 have hmid':∀ k∈ms.map (·.1),k < n∧∃ o,ops[k]?=some o∧∃ d,o.dst=some d:=by
  intro k hk
  have h1:=List.all_eq_true.1 hmid k hk
  simp only [Bool.and_eq_true,decide_eq_true_eq] at h1
  refine⟨h1.1,?_⟩
  cases ho:ops[k]? with
  | none=>rw [ho] at h1;cases h1.2
  | some o =>
   rw [ho] at h1
   exact⟨o,rfl,Option.isSome_iff_exists.1 h1.2⟩
 -- the frame with the middle's values
 have hF:∀ (vs:Nat→Value) (t:Tmp),(∀ k t,k∈ms.map (·.1)→slotOf ops k=some t→(putHd ops vs (ms.map (·.1)) A).tmps[t]?=some (vs k))∧((∀ k∈ms.map (·.1),slotOf ops k≠some t)→(putHd ops vs (ms.map (·.1)) A).tmps[t]?=A.tmps[t]?):=by
  intro vs t
  refine⟨fun k t hk hs=>putHd_slot vs t k hs _ _ hk (fun j hj hne=>S.uniq k j t (hmid' k hk).1 (hmid' j hj).1 (Ne.symm hne) hs) (by rw [hAsz];exact hin k t hs),fun h=>putHd_other vs t _ _ h⟩
 let T:Nat→Value→World→Prop:=fun k v W=>if k∈ms.map (·.1) then tOf ms k v W else v=vals k
 have hT:∀ k,k ∉ ms.map (·.1)→∀ v W,T k v W↔v=vals k:=fun k hk v W=>by show (if _ then _ else _)↔_;rw [if_neg hk]
 have hTm:∀ k,k∈ms.map (·.1)→∀ v W,T k v W↔tOf ms k v W:=fun k hk v W=>by show (if _ then _ else _)↔_;rw [if_pos hk]
 have hstT:∀ k,k < n→∀ v W W',T k v W→Below W.heap.size W W'→T k v W':=by
  intro k _ v W W' h1 h2
  by_cases hk:k∈ms.map (·.1)
  ·rw [hTm k hk] at h1 ⊢
   obtain⟨p,hp,rfl⟩:=List.mem_map.1 hk
   rw [tOf_mem hp hnd] at h1 ⊢
   exact stableM_mem hp hst v W W' h1 h2
  ·rw [hT k hk] at h1 ⊢;exact h1
 have valOf:∀ (b:Act) (W:World) (o:Oper),SeesM .any ops n T a0 w o b W→∀ t∈o.looksAt ops,(∀ j∈ms.map (·.1),slotOf ops j≠some t)→b.tmps[t]?=A.tmps[t]?:=by
  intro b W o hse t ht hno
  by_cases hex:∃ j,j < n∧slotOf ops j=some t
  ·obtain⟨j,hj,hs⟩:=hex
   have hjm:j ∉ ms.map (·.1):=fun hm=>hno j hm hs
   obtain⟨v,hv,hTv⟩:=hse.val t ht j hj hs (hin j t hs)
   rw [hT j hjm] at hTv
   rw [hv,hTv,hAs j t ((memH j).2 ⟨hj,hjm⟩) hs]
  ·have hno':∀ k,k < n→slotOf ops k≠some t:=fun k hk hs=>hex ⟨k,hk,hs⟩
   rw [hse.same t ht hno',hAo t hno']
 have hslT:∀ k,k < n→(stills.contains k || !(ms.map (·.1)).contains k)=true→∀ v W W',T k v W→T k v W':=by
  intro k _ hs v W W' h1
  by_cases hk:k∈ms.map (·.1)
  ·rw [hTm k hk] at h1 ⊢
   obtain⟨p,hp,rfl⟩:=List.mem_map.1 hk
   rw [tOf_mem hp hnd] at h1 ⊢
   refine stillM_mem hp hsl ?_ v W W' h1
   have hkc:(ms.map (·.1)).contains p.1=true:=by simpa using hk
   rw [hkc] at hs
   simpa using hs
  ·rw [hT k hk] at h1 ⊢;exact h1
 have hKT:∀ k,k < n→hots.contains k=true→∀ v W,T k v W→JK W:=by
  intro k _ hk v W h1
  have hkm:k∈ms.map (·.1):=hhm k (by simpa using hk)
  rw [hTm k hkm] at h1
  obtain⟨p,hp,rfl⟩:=List.mem_map.1 hkm
  rw [tOf_mem hp hnd] at h1
  exact hKh p hp hk v W h1
 have hstep:∀ k ok,k < n→ops[k]?=some ok→∀ b W,SeesM .any ops n T a0 w ok b W→(k=jend∨(jend < n∧pathB .any ops ops.size jend k=true)→J W)→JK W→if hots.contains k then HStep P ops w ok b W (T k) else TStep P ops ok b W (T k):=by
  intro k ok hkn hok b W hse hjk hjk2
  have hs:=fun cs b=>Region.noSelect_spec hsel k ok cs b hok
  by_cases hk:k∈ms.map (·.1)
  ·obtain⟨p,hp,rfl⟩:=List.mem_map.1 hk
   obtain⟨_,o',ho',_⟩:=hmid' p.1 hk
   have:o'=ok:=Option.some.inj (ho'.symm.trans hok)
   subst this
   have hvs:∃ vs:Nat→Value,vs=fun j=>(match slotOf ops j with | some t=>b.tmps.getD t undef | none=>undef):=⟨_,rfl⟩
   obtain⟨vs,hvs⟩:=hvs
   have hfit:FitsM (ms.filter fun q=>needsB ops o' q.1) vs W:=by
    refine fitsM_of fun q hq=>?_
    obtain⟨hqm,hqn⟩:=List.mem_filter.1 hq
    have hqk:q.1∈ms.map (·.1):=List.mem_map.2 ⟨q,hqm,rfl⟩
    unfold needsB at hqn
    cases hsq:slotOf ops q.1 with
    | none=>rw [hsq] at hqn;cases hqn
    | some t =>
     rw [hsq] at hqn
     obtain⟨v,hv,hTv⟩:=hse.val t (by simpa using hqn) q.1 (hmid' _ hqk).1 hsq (hin _ t hsq)
     rw [hTm _ hqk,tOf_mem hqm hnd] at hTv
     have:vs q.1=v:=by rw [hvs];simp only [hsq,Array.getD_eq_getD_getElem?,hv,Option.getD_some]
     rw [this];exact hTv
   have hmid2:=midsOKk_mem hp hmo o' hok vs W hse.below hfit hjk hjk2
   have hag:∀ t∈o'.looksAt ops,b.tmps[t]?=(putHd ops vs (ms.map (·.1)) A).tmps[t]?:=by
    intro t ht
    by_cases hex:∃ j,j∈ms.map (·.1)∧slotOf ops j=some t
    ·obtain⟨j,hj,hsj⟩:=hex
     obtain⟨v,hv,_⟩:=hse.val t ht j (hmid' j hj).1 hsj (hin j t hsj)
     rw [(hF vs t).1 j t hj hsj,hv,hvs]
     simp only [hsj,Array.getD_eq_getD_getElem?,hv,Option.getD_some]
    ·have hno:∀ j∈ms.map (·.1),slotOf ops j≠some t:=fun j hj hsj=>hex ⟨j,hj,hsj⟩
     rw [(hF vs t).2 hno,valOf b W o' hse t ht hno]
   obtain⟨e1,e2⟩:=agree_exec hs hag
   have e3:(fun v W=>T p.1 v W)=p.2:=by funext v W;exact propext (by rw [hTm _ hk,tOf_mem hp hnd])
   rw [show T p.1=p.2 from e3]
   unfold HStep TStep midAt at *
   rw [e1,e2];exact hmid2
  ·have hkh:=(memH k).2 ⟨hkn,hk⟩
   have hyk:=hy k hkh ok hok
   have hof:=offB_spec (List.all_eq_true.1 hoff k hkh)
   obtain⟨o2,ho2,hof⟩:=hof
   have:o2=ok:=Option.some.inj (ho2.symm.trans hok)
   subst this
   have hag:∀ t∈o2.looksAt ops,b.tmps[t]?=A.tmps[t]?:=fun t ht=>valOf b W o2 hse t ht fun j hj hsj=>hof j hj t hsj ht
   obtain⟨e1,e2⟩:=agree_exec hs hag
   have e3:T k=fun v _=>v=vals k:=by funext v W;exact propext (hT k hk v W)
   have hnh:hots.contains k=false:=by
    cases hc:hots.contains k with
    | false=>rfl
    | true=>exact absurd (hhm k (by simpa using hc)) hk
   rw [if_neg (by rw [hnh];simp)]
   unfold TStep
   rw [e3,e2]
   rcases hyk with ⟨hw,hq⟩ | ⟨hw,hu⟩
   ·rw [if_pos hw]
    have h1:=hq W
    rw [← eq_over hse.below] at h1
    unfold midAt
    rw [e1]
    unfold quietAtR at h1
    generalize (execOp A.eval o2).run P W=r at *
    cases r with
    | halt x w'=>simp only [quietUponR] at h1
    | ok x w' =>
     cases x <;> simp only [quietUponR] at h1 <;> simp only [midUpon]
     case value u=>exact⟨by rw [h1.1];exact Below.refl _ _,h1.2⟩
     case skip=>exact⟨by rw [h1.1];exact Below.refl _ _,h1.2.symm⟩
     case enter f args=>exact⟨h1.1,h1.2.mono fun e W'' ⟨he,hb⟩=>⟨_,he,hb,rfl⟩⟩
   ·rw [if_neg (by rw [hw];simp)]
    exact hu.symm
 have hfin:∀ listed b W,InvK .any ops n g T (xOf ops.size xs) J JK jend a0 w listed b W→(∀ k,k < n→listed.getD k false=true)→wpList P ops Q ((ops.toList.drop n).take g) b W:=by
  intro listed b W IX hall
  have I:=IX.inv
  have hvs:∃ vs:Nat→Value,vs=fun j=>(match slotOf ops j with | some t=>b.tmps.getD t undef | none=>undef):=⟨_,rfl⟩
  obtain⟨vs,hvs⟩:=hvs
  have hval:∀ k,k∈ms.map (·.1)→∀ t,slotOf ops k=some t→b.tmps[t]?=some (vs k):=by
   intro k hk t hs
   obtain⟨v,hv,_⟩:=I.val k t (hmid' k hk).1 (hall k (hmid' k hk).1) hs (hin k t hs)
   have:vs k=v:=by rw [hvs];simp only [hs,Array.getD_eq_getD_getElem?,hv,Option.getD_some]
   rw [this];exact hv
  have xnone:∀ (N:Nat) (r:List (Nat × Nat)) (k:Nat),k ∉ r.map (·.1)→xOf N r k=N:=by
   intro N r
   induction r with
   | nil=>intro k _;rfl
   | cons p r ih=>intro k hk;unfold xOf;rw [List.map_cons,List.mem_cons] at hk;rw [if_neg (fun e=>hk (.inl e.symm)),ih k fun h=>hk (.inr h)]
  have hfit:FitsM (ms.filter fun q=>!(xs.map (·.1)).contains q.1) vs W:=fitsM_of fun q hq=>by
   obtain⟨hqm,hqx⟩:=List.mem_filter.1 hq
   have hqk:q.1∈ms.map (·.1):=List.mem_map.2 ⟨q,hqm,rfl⟩
   obtain⟨_,o,ho,d,hd⟩:=hmid' _ hqk
   have hsd:slotOf ops q.1=some d:=by unfold slotOf;rw [ho];exact hd
   have hxn:xOf ops.size xs q.1=ops.size:=xnone _ _ _ (by simpa using hqx)
   have:=IX.al q.1 d (vs q.1) (hmid' _ hqk).1 (hall _ (hmid' _ hqk).1) (by rw [hxn];exact getD_out (by rw [I.size];exact Nat.le_refl _)) hsd (hin _ d hsd) (hval _ hqk d hsd)
   rw [hTm _ hqk,tOf_mem hqm hnd] at this
   exact this
  have hb:b=putHd ops vs (ms.map (·.1)) A:=by
   have ht:b.tmps=(putHd ops vs (ms.map (·.1)) A).tmps:=by
    apply Array.ext_getElem?
    intro t
    by_cases hex:∃ j,j∈ms.map (·.1)∧slotOf ops j=some t
    ·obtain⟨j,hj,hsj⟩:=hex
     rw [hval j hj t hsj,(hF vs t).1 j t hj hsj]
    ·have hno:∀ j∈ms.map (·.1),slotOf ops j≠some t:=fun j hj hsj=>hex ⟨j,hj,hsj⟩
     rw [(hF vs t).2 hno]
     by_cases hex2:∃ j,j < n∧slotOf ops j=some t
     ·obtain⟨j,hj,hs⟩:=hex2
      have hjm:j ∉ ms.map (·.1):=fun hm=>hno j hm hs
      obtain⟨v,hv,_⟩:=I.val j t hj (hall j hj) hs (hin j t hs)
      have hxm:ops.size≤xOf ops.size xs j:=by
       rcases Nat.lt_or_ge (xOf ops.size xs j) ops.size with h | h
       ·exfalso
        exact hjm (hxs j (by
         apply Classical.byContradiction
         intro hn
         rw [xnone _ _ _ hn] at h
         omega))
       ·exact h
      have hTv:=IX.al j t v hj (hall j hj) (getD_out (by rw [I.size];exact hxm)) hs (hin j t hs) hv
      rw [hT j hjm] at hTv
      rw [hv,hTv,hAs j t ((memH j).2 ⟨hj,hjm⟩) hs]
     ·have hno':∀ k,k < n→slotOf ops k≠some t:=fun k hk hs=>hex2 ⟨k,hk,hs⟩
      rw [I.same t fun k hk _=>hno' k hk,hAo t hno']
   have hd:b.defers=(putHd ops vs (ms.map (·.1)) A).defers:=by rw [putHd_defers,hAdf];exact I.defers
   cases b
   generalize putHd ops vs (ms.map (·.1)) A=F at *
   cases F
   simp only at ht hd
   subst ht;subst hd;rfl
  rw [hb]
  exact htl vs W I.below IX.jkl hfit
 refine wp_region_any hm ?_
 have hsum:n+g+(ops.toList.length - (n+g))=ops.size:=by simp;omega
 have I0:InvM .any ops n g (fun _ _ _=>True) a0 w (listFl (ops.toList.length - (n+g)) (n+g) (Array.replicate ops.size false)) a0 ws.drew:=by
  refine⟨by rw [listFl_size];simp,?_,?_,?_,hws.drew,rfl,rfl,fun t _=>rfl,?_⟩
  ·intro j oj hj _ hl
   rw [listFl_low _ _ _ _ _ (by omega),getD_replicate_false] at hl
   cases hl
  ·intro t h1 h2
   rw [listFl_low _ _ _ _ _ h2]
   exact getD_in (by simp;omega) (getD_replicate_false _ _)
  ·intro t h1 h2
   exact listFl_in _ _ _ t h1 (by omega) (by simp;omega)
  ·intro k t hk hl
   rw [listFl_low _ _ _ _ _ (by omega),getD_replicate_false] at hl
   cases hl
 have IX0:InvK .any ops n g T (xOf ops.size xs) J JK jend a0 w (listFl (ops.toList.length - (n+g)) (n+g) (Array.replicate ops.size false)) a0 ws.drew:=by
  refine⟨I0,?_,fun _=>hJst _ _ hJ0 (Below.refl _ ws).drew,hKst _ _ hK0 (Below.refl _ ws).drew⟩
  intro k t v hk hl
  rw [listFl_low _ _ _ _ _ (by omega),getD_replicate_false] at hl
  cases hl
 have hleft:left n (listFl (ops.toList.length - (n+g)) (n+g) (Array.replicate ops.size false))=n:=by
  unfold left
  rw [List.filter_eq_self.2,List.length_range]
  intro k hk
  rw [listFl_low _ _ _ _ _ (by have:=List.mem_range.1 hk;omega),getD_replicate_false]
  rfl
 have h1:=phaseK (Q:=Q) S (statX_of hX) hstT hslT hJst (hJh.imp (fun h=>h) hJ_of) hKst hKT hstep hfin n _ a0 ws.drew hleft IX0
 rw [← ha0] at h1
 have h2:=take_floats hsel hQ (n+g) _ _ _ a (by rw [show ops.toList.length=ops.size by simp];exact hfl) h1
 rw [hsum] at h2
 exact h2
end
def cutW (w:World)(B:Nat):World:={ w with heap:=w.heap.extract 0 B }
theorem cutW_size {w:World} {B:Nat} (h:B≤w.heap.size):(cutW w B).heap.size=B:=by simp [cutW];omega
theorem below_cut {w W:World} {B:Nat} (hB:B≤w.heap.size)(h:Below B w W):Below (cutW w B).heap.size (cutW w B) W:=by
 rw [cutW_size hB]
 refine⟨h.os,h.tape,h.output,?_,fun k hk=>?_⟩
 ·rw [cutW_size hB];exact Nat.le_trans hB h.size
 ·rw [h.block k hk]
  simp [cutW,Array.getElem?_extract]
  omega
theorem fits_cast {p q:Prop} (h:p)(e:p=q):q:=e ▸ h
end
end Go.Proofs.YtmmeopjemkjllaaGreat
