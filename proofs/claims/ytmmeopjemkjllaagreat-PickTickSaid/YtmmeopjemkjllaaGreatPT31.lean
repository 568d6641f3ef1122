/- Lemmas of the claim. No conditions beyond those that each states. -/
import Derived.Test.YtmmeopjemkjllaaGreatPT30
import Derived.ScopeJumps
import Derived.WalkMore
import Derived.ArgAppend
import Derived.Deep.Upon
set_option linter.unusedVariables false
set_option linter.unusedSimpArgs false
set_option maxRecDepth 100000
set_option maxHeartbeats 8000000
namespace Go.Proofs.YtmmeopjemkjllaaGreat
section
def mem0 (c:Int × Int × Int):Mem:=⟨0,0,rn0 c,false⟩
def addF (id:Int)(c:Int × Int × Int)(f:Fam):Fam:={ f with m:=putM f.m id (mem0 c) }
def outF (id:Int)(f:Fam):Fam:={ f with m:=delM f.m id }
def cls0 (pa:Int)(lf sh:Bool)(lim:Option Rn):Cls:=⟨pa,lf,sh,0,lim,fam0,[],0⟩
theorem only_add (id:Int)(c:Int × Int × Int):OnlyM id (addF id c):=fun f j hj=>look_put_other _ hj _
theorem only_out (id:Int):OnlyM id (outF id):=fun f j hj=>look_del_other hj _
def putP (P:Pk)(id pa:Int)(lf sh:Bool)(share:Int × Int × Int)(lim:Option Rn):Pk :=
 updP (putM P id (cls0 pa lf sh lim)) pa fun p=>{ p with fam:=if sh=true then addF id share p.fam else p.fam,un:=p.un+1 }
def dropP (P:Pk)(id pa:Int):Pk:=delM (updP P pa fun p=>{ p with fam:=outF id p.fam,un:=p.un - 1 }) id
def renewP (P:Pk)(id pa:Int)(sh:Bool)(share:Int × Int × Int)(lim:Option Rn):Pk :=
 updP (updP P pa fun p=>{ p with fam:=if sh=true then addF id share (outF id p.fam) else outF id p.fam }) id fun c=>{ c with sh:=sh,tot:=0,lim:=lim }
structure PAll (ow:Option Rn→Int→Int)(dp:Int→Nat)(P:Pk)(wt:Int→Bool):Prop extends PInv ow dp P wt where
 fams:∀ q j,kf P q j=true→0 < j∧paP P j=some q
section
variable {ow : Option Rn → Int → Int} {rc : Rn → Int → Int} {dp : Int → Nat}
theorem PAll.wake {P:Pk} {wt:Int→Bool} (h:PAll ow dp P wt) {leaf now:Int} {l:List Int} (hU:Up P leaf l)(hlf:lfP P leaf=true)(hl0:0 < leaf) :
  PAll ow dp (wakeP ow now leaf l P) (fun j=>if j=leaf then true else wt j)∧∀ j,statP (wakeP ow now leaf l P) j=statP P j:=by
 obtain⟨h1,h2,h3⟩:=wake_inv (now:=now) h.toPInv hU hlf hl0
 exact⟨⟨h1,fun q j hk=>by rw [h3] at hk;rw [pa_of_stat (h2 j)];exact h.fams q j hk⟩,h2⟩
theorem PAll.sent {P:Pk} {wt:Int→Bool} (h:PAll ow dp P wt) {leaf n:Int} {more:Bool} {l:List Int} (hU:Up P leaf l)(hlf:lfP P leaf=true)(hl0:0 < leaf)(hwt:wt leaf=true) :
  PAll ow dp (sentP ow rc leaf n more l P) (fun j=>if j=leaf then more else wt j)∧∀ j,statP (sentP ow rc leaf n more l P) j=statP P j:=by
 obtain⟨h1,h2,h3⟩:=sent_inv (rc:=rc) (n:=n) (more:=more) h.toPInv hU hlf hl0 hwt
 exact⟨⟨h1,fun q j hk=>by rw [h3] at hk;rw [pa_of_stat (h2 j)];exact h.fams q j hk⟩,h2⟩
theorem InvE.nil':InvE []:=⟨.nil,.nil⟩
theorem kf_of {P:Pk} {q j:Int} {p:Cls} (h:lookM P q=some p):kf P q j=(lookM p.fam.m j).isSome:=by unfold kf famP;rw [h];rfl
theorem put_inv {P:Pk} {wt:Int→Bool} (h:PAll ow dp P wt) {id pa:Int} {lf sh:Bool} {share:Int × Int × Int} {lim:Option Rn} {p:Cls} (hid:0 < id)(hn:lookM P id=none)(hp:lookM P pa=some p)(hpl:p.lf=false)(hsh:lf=false→sh=true) :
  PAll ow (fun j=>if j=id then dp pa+1 else dp j) (putP P id pa lf sh share lim) (fun j=>if j=id then false else wt j) ∧
   (∀ j,lookM (putP P id pa lf sh share lim) j=if j=id then some (cls0 pa lf sh lim) else if j=pa then some { p with fam:=if sh=true then addF id share p.fam else p.fam,un:=p.un+1 } else lookM P j):=by
 have hne:pa≠id:=fun e=>by rw [e,hn] at hp;cases hp
 have hlook:∀ j,lookM (putP P id pa lf sh share lim) j=if j=id then some (cls0 pa lf sh lim) else if j=pa then some { p with fam:=if sh=true then addF id share p.fam else p.fam,un:=p.un+1 } else lookM P j:=fun j=>by
  unfold putP
  rw [look_upd,look_put_other _ hne,hp]
  by_cases e:j=id
  ·subst e
   rw [if_neg (fun e=>hne e.symm),look_put_same,if_pos rfl]
  ·rw [if_neg e,look_put_other _ e]
   by_cases e2:j=pa
   ·rw [if_pos e2,if_pos e2];rfl
   ·rw [if_neg e2,if_neg e2]
 refine⟨?_,hlook⟩
 have hris:Rising (putP P id pa lf sh share lim):=rising_upd (rising_put _ _ h.wf.rise) _ _
 generalize putP P id pa lf sh share lim=Q at hlook hris
 have hback:∀ j c',j≠id→lookM Q j=some c'→∃ c,lookM P j=some c∧c'.pa=c.pa∧c'.lf=c.lf∧c'.sh=c.sh∧c'.tr=c.tr∧c'.tot=c.tot∧c'.lim=c.lim:=fun j c' hj hc=>by
  rw [hlook,if_neg hj] at hc
  by_cases e2:j=pa
  ·rw [if_pos e2] at hc
   cases hc
   exact⟨p,by rw [e2];exact hp,rfl,rfl,rfl,rfl,rfl,rfl⟩
  ·rw [if_neg e2] at hc
   exact⟨c',hc,rfl,rfl,rfl,rfl,rfl,rfl⟩
 have hfwd:∀ j c,lookM P j=some c→∃ c',lookM Q j=some c'∧c'.pa=c.pa∧c'.lf=c.lf∧c'.sh=c.sh∧c'.tr=c.tr:=fun j c hc=>by
  have hj:j≠id:=fun e=>by rw [e,hn] at hc;cases hc
  rw [hlook,if_neg hj]
  by_cases e2:j=pa
  ·rw [if_pos e2]
   rw [e2,hp] at hc
   cases hc
   exact⟨_,rfl,rfl,rfl,rfl,rfl⟩
  ·rw [if_neg e2]
   exact⟨c,hc,rfl,rfl,rfl,rfl⟩
 have hpa:∀ j,j≠id→paP Q j=paP P j:=fun j hj=>by
  cases hc:lookM P j with
  | none =>
   cases hq:lookM Q j with
   | none=>unfold paP;rw [hc,hq]
   | some c'=>obtain⟨c,h1,_⟩:=hback j c' hj hq;rw [hc] at h1;cases h1
  | some c =>
   obtain⟨c',h1,h2,_⟩:=hfwd j c hc
   rw [paP_of h1,paP_of hc,h2]
 have hpaid:paP Q id=some pa:=by
  have:=hlook id
  rw [if_pos rfl] at this
  exact paP_of this
 have hmem:∀ j,0 < j→j≠id→memP Q j=memP P j:=fun j hj0 hj=>by
  refine memP_congr (hpa j hj) fun q hq=>?_
  obtain⟨cj,hcj,hcq⟩:=paP_some hq
  have hqid:q≠id:=fun e=>by
   obtain⟨pj,hpj,_⟩:=h.wf.par j cj hcj (by omega)
   rw [hcq,e,hn] at hpj
   cases hpj
  unfold famP
  rw [hlook,if_neg hqid]
  by_cases e2:q=pa
  ·rw [if_pos e2,e2,hp]
   show lookM _ j=lookM p.fam.m j
   dsimp only
   split
   ·exact only_add id share _ j hj
   ·rfl
  ·rw [if_neg e2]
 have hmid:memP Q id=if sh=true then some (mem0 share) else lookM p.fam.m id:=by
  have h1:=hlook id
  rw [if_pos rfl] at h1
  have h2:=hlook pa
  rw [if_neg hne,if_pos rfl] at h2
  rw [memP_is h1 h2]
  dsimp only
  by_cases e:sh=true
  ·rw [if_pos e,if_pos e];exact look_put_same _ _ _
  ·rw [if_neg e,if_neg e]
 have hold:lookM p.fam.m id=none:=by
  cases e:lookM p.fam.m id with
  | none=>rfl
  | some m =>
   obtain⟨_,h2⟩:=h.fams pa id (by rw [kf_of hp,e];rfl)
   unfold paP at h2
   rw [hn] at h2
   cases h2
 rw [hold] at hmid
 have hself:lookM Q id=some (cls0 pa lf sh lim):=by rw [hlook,if_pos rfl]
 have hawid:awP Q id=false:=by
  unfold awP
  rw [hmid]
  by_cases e:sh=true
  ·rw [if_pos e];simp [mem0]
  ·rw [if_neg e];simp
 have haw:∀ j,j≠id→awP Q j=awP P j:=fun j hj=>by
  by_cases h0:0 < j
  ·exact awP_congr (hmem j h0 hj)
  ·unfold awP;rw [decide_eq_false h0];rfl
 have hv:∀ j,j≠id→vP Q j=vP P j:=fun j hj=>by
  by_cases h0:0 < j
  ·exact vP_congr (hmem j h0 hj)
  ·unfold vP;rw [if_neg h0,if_neg h0]
 have hsome:∀ j,j≠id→(lookM Q j).isSome=(lookM P j).isSome:=fun j hj=>by
  cases hc:lookM P j with
  | none =>
   cases hq:lookM Q j with
   | none=>rfl
   | some c'=>obtain⟨c,h1,_⟩:=hback j c' hj hq;rw [hc] at h1;cases h1
  | some c=>obtain⟨c',h1,_⟩:=hfwd j c hc;rw [h1];rfl
 have hlf':∀ j,j≠id→lfP Q j=lfP P j:=fun j hj=>by
  cases hc:lookM P j with
  | none =>
   have:=hsome j hj
   rw [hc] at this
   unfold lfP
   rw [hc,show lookM Q j=none by simpa using this]
  | some c=>obtain⟨c',h1,_,h2,_⟩:=hfwd j c hc;rw [lfP_of h1,lfP_of hc,h2]
 have hsh':∀ j,j≠id→shP Q j=shP P j:=fun j hj=>by
  cases hc:lookM P j with
  | none =>
   have:=hsome j hj
   rw [hc] at this
   unfold shP
   rw [hc,show lookM Q j=none by simpa using this]
  | some c=>obtain⟨c',h1,_,_,h2,_⟩:=hfwd j c hc;rw [shP_of h1,shP_of hc,h2]
 have hnokid:∀ k,paP Q k=some id→k=0:=fun k hk=>by
  by_cases e:k=id
  ·rw [e,hpaid] at hk
   exact absurd (Option.some.inj hk) hne
  ·rw [hpa k e] at hk
   obtain⟨c,hc,hcp⟩:=paP_some hk
   by_cases h0:k=0
   ·exact h0
   ·obtain⟨pk,hpk,_⟩:=h.wf.par k c hc h0
    rw [hcp,hn] at hpk
    cases hpk
 have hd0:∀ j c,lookM P j=some c→(if j=id then dp pa+1 else dp j)=dp j:=fun j c hc=>if_neg fun e=>by rw [e,hn] at hc;cases hc
 refine⟨⟨⟨hris,?_,fun j c' hj h0=>?_,fun j c' hj=>?_,fun j c' hj=>?_,fun j c' e hj he=>?_⟩,fun j c' p' hj0 _ hj hpj=>?_,⟨fun j hj hs hf=>?_,fun j hj hs hf=>?_,fun j hj hs hf=>?_,fun j hj hs=>?_⟩⟩,fun q j hk=>?_⟩
 ·obtain⟨r,hr,hl⟩:=h.wf.root
  obtain⟨r',h1,_,h2,_⟩:=hfwd 0 r hr
  exact⟨r',h1,h2.trans hl⟩
 ·by_cases e:j=id
  ·rw [e,hself] at hj
   cases hj
   obtain⟨p',h1,_,h2,_⟩:=hfwd pa p hp
   refine⟨p',h1,h2.trans hpl,?_⟩
   show (if j=id then dp pa+1 else dp j)=(if pa=id then _ else _)+1
   rw [if_pos e,if_neg hne]
   rfl
  ·obtain⟨c,hc,h1,_⟩:=hback j c' e hj
   obtain⟨q,hq,hql,hqd⟩:=h.wf.par j c hc h0
   obtain⟨q',h2,_,h3,_⟩:=hfwd c.pa q hq
   rw [h1]
   refine⟨q',h2,h3.trans hql,?_⟩
   rw [if_neg e,hd0 c.pa q hq]
   exact hqd
 ·by_cases e:j=id
  ·rw [e];omega
  ·obtain⟨c,hc,_⟩:=hback j c' e hj
   exact h.wf.pos j c hc
 ·by_cases e:j=id
  ·rw [e,hself] at hj
   cases hj
   exact InvE.nil'
  ·obtain⟨c,hc,_,_,_,h1,_⟩:=hback j c' e hj
   rw [h1]
   exact h.wf.inv j c hc
 ·by_cases e2:j=id
  ·rw [e2,hself] at hj
   cases hj
   cases he
  ·obtain⟨c,hc,_,_,_,h1,_⟩:=hback j c' e2 hj
   rw [h1] at he
   obtain⟨k1,k2⟩:=h.wf.kids j c e hc he
   exact⟨k1,by rw [hpa _ (fun e3=>by unfold paP at k2;rw [e3,hn] at k2;cases k2)];exact k2⟩
 ·by_cases e:j=id
  ·subst e
   rw [hawid]
   rw [hself] at hj
   cases hj
   obtain⟨p2,h1,_,_,_,h2⟩:=hfwd pa p hp
   have hpp:p'=p2:=by
    have:=hpj.symm.trans h1
    exact Option.some.inj this
   rw [hpp,h2]
   refine (getE_none.2 fun e he he2=>?_)
   obtain⟨_,k2⟩:=h.wf.kids pa p e hp he
   unfold paP at k2
   rw [he2,hn] at k2
   cases k2
  ·obtain⟨c,hc,h1,h2,_,h4,h5,h6⟩:=hback j c' e hj
   rw [h1] at hpj
   have hpid:c.pa≠id:=fun e3=>by
    obtain⟨q,hq,_⟩:=h.wf.par j c hc (by omega)
    rw [e3,hn] at hq
    cases hq
   obtain⟨p0,hp0,_,_,_,h7,_⟩:=hback c.pa p' hpid hpj
   rw [h7,haw j e,hv j e,show fitC ow c'=fitC ow c by unfold fitC;rw [h2,h4,h5,h6]]
   exact h.noted j c p0 hj0 (fun h=>h) hc hp0
 ·by_cases e:j=id
  ·rw [e,hawid,if_pos rfl,Bool.and_false]
  ·rw [hsome j e] at hs
   rw [hlf' j e] at hf
   rw [haw j e,hsh' j e,if_neg e]
   exact h.awk.leaf j hj hs hf
 ·by_cases e:j=id
  ·subst e
   rw [hawid]
   constructor
   ·intro h;cases h
   ·rintro ⟨k,hk,ha⟩
    have:=awP_pos ha
    have:=hnokid k hk
    omega
  ·rw [hsome j e] at hs
   rw [hlf' j e] at hf
   rw [haw j e,h.awk.inner j hj hs hf]
   constructor
   ·rintro ⟨k,hk,ha⟩
    have hki:k≠id:=fun e2=>by unfold paP at hk;rw [e2,hn] at hk;cases hk
    exact⟨k,by rw [hpa k hki];exact hk,by rw [haw k hki];exact ha⟩
   ·rintro ⟨k,hk,ha⟩
    have hki:k≠id:=fun e2=>by rw [e2,hawid] at ha;cases ha
    exact⟨k,by rw [← hpa k hki];exact hk,by rw [← haw k hki];exact ha⟩
 ·by_cases e:j=id
  ·subst e
   rw [lfP_of hself] at hf
   rw [shP_of hself]
   exact hsh hf
  ·rw [hsome j e] at hs
   rw [hlf' j e] at hf
   rw [hsh' j e]
   exact h.awk.innersh j hj hs hf
 ·by_cases e:j=id
  ·subst e
   rw [hmid,shP_of hself]
   show (if sh=true then _ else _:Option Mem).isSome=sh
   cases sh <;> rfl
  ·rw [hsome j e] at hs
   rw [hmem j hj e,hsh' j e]
   exact h.awk.mems j hj hs
 ·by_cases eq:q=id
  ·rw [eq,kf_of hself] at hk
   cases hk
  ·cases hq:lookM Q q with
   | none=>unfold kf famP at hk;rw [hq] at hk;cases hk
   | some c' =>
    by_cases e:j=id
    ·by_cases e2:q=pa
     ·rw [e,e2];exact⟨hid,hpaid⟩
     ·rw [e] at hk
      have h1:kf P q id=true:=by
       rw [hlook,if_neg eq,if_neg e2] at hq
       rw [kf_of hq]
       have h2:lookM Q q=some c':=by rw [hlook,if_neg eq,if_neg e2];exact hq
       rwa [kf_of h2] at hk
      obtain⟨_,h2⟩:=h.fams q id h1
      unfold paP at h2
      rw [hn] at h2
      cases h2
    ·have h1:kf P q j=true:=by
      by_cases e2:q=pa
      ·have h2:=hlook q
       rw [if_neg eq,if_pos e2] at h2
       rw [kf_of h2] at hk
       rw [e2,kf_of hp]
       dsimp only at hk
       split at hk
       ·rwa [only_add id share _ j e] at hk
       ·exact hk
      ·have h2:=hlook q
       rw [if_neg eq,if_neg e2] at h2
       unfold kf famP at hk ⊢
       rw [h2] at hk
       exact hk
     obtain⟨h2,h3⟩:=h.fams q j h1
     exact⟨h2,by rw [hpa j e];exact h3⟩
end
end
section
section
variable {ow : Option Rn → Int → Int} {rc : Rn → Int → Int} {dp : Int → Nat}
structure OneT (P Q:Pk)(id:Int):Prop where
 back:∀ j c',j≠id→lookM Q j=some c'→∃ c,lookM P j=some c∧c'.pa=c.pa∧c'.lf=c.lf∧c'.sh=c.sh∧c'.tr=c.tr∧c'.tot=c.tot∧c'.lim=c.lim
 fwd:∀ j c,j≠id→lookM P j=some c→∃ c',lookM Q j=some c'∧c'.pa=c.pa∧c'.lf=c.lf∧c'.sh=c.sh∧c'.tr=c.tr
 mem:∀ j,0 < j→j≠id→memP Q j=memP P j
 keys:∀ q j,j≠id→kf Q q j=true→kf P q j=true
theorem PAll.one {P Q:Pk} {wt:Int→Bool} (h:PAll ow dp P wt) {id:Int} (hid:0 < id)(hT:OneT P Q id)(hris:Rising Q)(haw0:awP P id=false)(haw:awP Q id=false)
  (hsome:lookM Q id=none→∀ k,paP P k=some id→k=0∨k=id)
  (hself:∀ c',lookM Q id=some c'→∃ c,lookM P id=some c∧c'.pa=c.pa∧c'.lf=c.lf∧c'.tr=c.tr∧(c'.lf=true→c'.sh=true→wt id=false)∧(c'.lf=false→c'.sh=true)∧(memP Q id).isSome=c'.sh)
  (hkf:∀ q,kf Q q id=true→paP Q id=some q):PAll ow dp Q wt:=by
 have hpa:∀ j,j≠id→paP Q j=paP P j:=fun j hj=>by
  cases hc:lookM P j with
  | none =>
   cases hq:lookM Q j with
   | none=>unfold paP;rw [hc,hq]
   | some c'=>obtain⟨c,h1,_⟩:=hT.back j c' hj hq;rw [hc] at h1;cases h1
  | some c =>
   obtain⟨c',h1,h2,_⟩:=hT.fwd j c hj hc
   rw [paP_of h1,paP_of hc,h2]
 have hawj:∀ j,j≠id→awP Q j=awP P j:=fun j hj=>by
  by_cases h0:0 < j
  ·exact awP_congr (hT.mem j h0 hj)
  ·unfold awP;rw [decide_eq_false h0];rfl
 have hv:∀ j,j≠id→vP Q j=vP P j:=fun j hj=>by
  by_cases h0:0 < j
  ·exact vP_congr (hT.mem j h0 hj)
  ·unfold vP;rw [if_neg h0,if_neg h0]
 -- every class that is there was there,with its parent
 have hb:∀ j c',lookM Q j=some c'→∃ c,lookM P j=some c∧c'.pa=c.pa∧c'.lf=c.lf∧c'.tr=c.tr:=fun j c' hj=>by
  by_cases e:j=id
  ·subst e
   obtain⟨c,h1,h2,h3,h4,_⟩:=hself c' hj
   exact⟨c,h1,h2,h3,h4⟩
  ·obtain⟨c,h1,h2,h3,_,h4,_⟩:=hT.back j c' e hj
   exact⟨c,h1,h2,h3,h4⟩
 have hpar:∀ j c',lookM Q j=some c'→j≠0→∃ p',lookM Q c'.pa=some p'∧∃ p,lookM P c'.pa=some p∧p'.lf=p.lf∧p'.tr=p.tr∧p.lf=false∧dp j=dp c'.pa+1:=fun j c' hj h0=>by
  obtain⟨c,hc,h1,_⟩:=hb j c' hj
  obtain⟨p,hp,hpl,hpd⟩:=h.wf.par j c hc h0
  rw [h1]
  by_cases e:c.pa=id
  ·cases hq:lookM Q id with
   | none =>
    rcases hsome hq j (by rw [paP_of hc,e]) with k | k
    ·exact absurd k h0
    ·rw [k] at hj;rw [hq] at hj;cases hj
   | some p' =>
    obtain⟨p0,k1,_,k2,k3,_⟩:=hself p' hq
    rw [e] at hp ⊢
    rw [hp] at k1
    cases k1
    rw [e] at hpd
    exact⟨p',hq,p,hp,k2,k3,hpl,hpd⟩
  ·obtain⟨p',k1,_,k2,_,k3⟩:=hT.fwd c.pa p e hp
   exact⟨p',k1,p,hp,k2,k3,hpl,hpd⟩
 have hlfQ:∀ j,(lookM Q j).isSome=true→lfP Q j=lfP P j∧(lookM P j).isSome=true:=fun j hs=>by
  obtain⟨c',hc'⟩:=Option.isSome_iff_exists.1 hs
  obtain⟨c,hc,_,h2,_⟩:=hb j c' hc'
  exact⟨by rw [lfP_of hc',lfP_of hc,h2],by rw [hc];rfl⟩
 have hshQ:∀ j,j≠id→(lookM Q j).isSome=true→shP Q j=shP P j:=fun j hj hs=>by
  obtain⟨c',hc'⟩:=Option.isSome_iff_exists.1 hs
  obtain⟨c,hc,_,_,h2,_⟩:=hT.back j c' hj hc'
  rw [shP_of hc',shP_of hc,h2]
 have hpaQ:∀ k q,paP Q k=some q→paP P k=some q:=fun k q hk=>by
  obtain⟨c',hc',hq⟩:=paP_some hk
  obtain⟨c,hc,h1,_⟩:=hb k c' hc'
  rw [paP_of hc,← h1,hq]
 -- nobody's tree has it
 have hnot:∀ q p,lookM P q=some p→∀ e∈p.tr,e.1.2≠id:=fun q p hp e he heq=>by
  obtain⟨k1,k2⟩:=h.wf.kids q p e hp he
  obtain⟨c,hc,hcp⟩:=paP_some k2
  rw [heq] at hc
  have:=h.noted id c p hid (fun h=>h) hc (by rw [heq] at k2;rw [paP_of hc] at k2;rw [Option.some.inj k2];exact hp)
  rw [haw0] at this
  exact getE_none.1 this e he heq
 refine⟨⟨⟨hris,?_,fun j c' hj h0=>?_,fun j c' hj=>?_,fun j c' hj=>?_,fun j c' e hj he=>?_⟩,fun j c' p' hj0 _ hj hpj=>?_,⟨fun j hj hs hf=>?_,fun j hj hs hf=>?_,fun j hj hs hf=>?_,fun j hj hs=>?_⟩⟩,fun q j hk=>?_⟩
 ·obtain⟨r,hr,hl⟩:=h.wf.root
  obtain⟨r',h1,_,h2,_⟩:=hT.fwd 0 r (by omega) hr
  exact⟨r',h1,h2.trans hl⟩
 ·obtain⟨p',h1,p,_,h2,_,h3,h4⟩:=hpar j c' hj h0
  exact⟨p',h1,h2.trans h3,h4⟩
 ·obtain⟨c,hc,_⟩:=hb j c' hj
  exact h.wf.pos j c hc
 ·obtain⟨c,hc,_,_,h1⟩:=hb j c' hj
  rw [h1]
  exact h.wf.inv j c hc
 ·obtain⟨c,hc,_,_,h1⟩:=hb j c' hj
  rw [h1] at he
  obtain⟨k1,k2⟩:=h.wf.kids j c e hc he
  exact⟨k1,by rw [hpa _ (hnot j c hc e he)];exact k2⟩
 ·obtain⟨p2,h1,p,h2,_,h3,_⟩:=hpar j c' hj (by omega)
  rw [hpj] at h1
  cases h1
  by_cases e:j=id
  ·subst e
   rw [haw,h3]
   exact getE_none.2 (hnot _ _ h2)
  ·obtain⟨c,hc,k1,k2,_,k4,k5,k6⟩:=hT.back j c' e hj
   rw [h3,hawj j e,hv j e,show fitC ow c'=fitC ow c by unfold fitC;rw [k2,k4,k5,k6]]
   exact h.noted j c p hj0 (fun h=>h) hc (by rw [← k1];exact h2)
 ·obtain⟨h1,h2⟩:=hlfQ j hs
  rw [h1] at hf
  by_cases e:j=id
  ·subst e
   obtain⟨c',hc'⟩:=Option.isSome_iff_exists.1 hs
   obtain⟨c,hc,_,k2,_,k3,_⟩:=hself c' hc'
   rw [haw,shP_of hc']
   cases hsh:c'.sh with
   | false=>rfl
   | true =>
    rw [lfP_of hc] at hf
    rw [k3 (k2.trans hf) hsh];rfl
  ·rw [hawj j e,hshQ j e hs]
   exact h.awk.leaf j hj h2 hf
 ·obtain⟨h1,h2⟩:=hlfQ j hs
  rw [h1] at hf
  by_cases e:j=id
  ·subst e
   rw [haw]
   constructor
   ·intro h;cases h
   ·rintro ⟨k,hk,ha⟩
    have hk0:=awP_pos ha
    have hkj:k≠j:=fun e=>by rw [e,haw] at ha;cases ha
    rw [hawj k hkj] at ha
    have:=(h.awk.inner j hj h2 hf).2 ⟨k,hpaQ k j hk,ha⟩
    rw [haw0] at this
    cases this
  ·rw [hawj j e,h.awk.inner j hj h2 hf]
   constructor
   ·rintro ⟨k,hk,ha⟩
    have hki:k≠id:=fun e2=>by rw [e2,haw0] at ha;cases ha
    exact⟨k,by rw [hpa k hki];exact hk,by rw [hawj k hki];exact ha⟩
   ·rintro ⟨k,hk,ha⟩
    have hki:k≠id:=fun e2=>by rw [e2,haw] at ha;cases ha
    exact⟨k,by rw [← hpa k hki];exact hk,by rw [← hawj k hki];exact ha⟩
 ·obtain⟨h1,h2⟩:=hlfQ j hs
  by_cases e:j=id
  ·subst e
   obtain⟨c',hc'⟩:=Option.isSome_iff_exists.1 hs
   obtain⟨c,hc,_,_,_,_,k3,_⟩:=hself c' hc'
   rw [lfP_of hc'] at hf
   rw [shP_of hc']
   exact k3 hf
  ·rw [h1] at hf
   rw [hshQ j e hs]
   exact h.awk.innersh j hj h2 hf
 ·by_cases e:j=id
  ·subst e
   obtain⟨c',hc'⟩:=Option.isSome_iff_exists.1 hs
   obtain⟨c,hc,_,_,_,_,_,k3⟩:=hself c' hc'
   rw [shP_of hc',k3]
  ·rw [hT.mem j hj e,hshQ j e hs]
   exact h.awk.mems j hj (hlfQ j hs).2
 ·by_cases e:j=id
  ·subst e
   exact⟨hid,hkf q hk⟩
  ·obtain⟨h1,h2⟩:=h.fams q j (hT.keys q j e hk)
   exact⟨h1,by rw [hpa j e];exact h2⟩
theorem look_del {P:Pk} (id j:Int):lookM (delM P id) j=if j=id then none else lookM P j:=by
 by_cases e:j=id
 ·subst e;rw [if_pos rfl];exact look_del_same _ _
 ·rw [if_neg e];exact look_del_other e _
theorem drop_look {P:Pk} {id pa:Int} {p:Cls} (hp:lookM P pa=some p)(j:Int):lookM (dropP P id pa) j=if j=id then none else if j=pa then some { p with fam:=outF id p.fam,un:=p.un - 1 } else lookM P j:=by
 unfold dropP
 rw [look_del,look_upd,hp]
 rfl
theorem drop_inv {P:Pk} {wt:Int→Bool} (h:PAll ow dp P wt) {id:Int} {c p:Cls} (hid:0 < id)(hc:lookM P id=some c)(hp:lookM P c.pa=some p)(haw:awP P id=false)(hno:∀ k,paP P k=some id→k=0∨k=id):PAll ow dp (dropP P id c.pa) wt:=by
 have hlook:=drop_look (id:=id) hp
 have hne:c.pa≠id:=fun e=>by
  obtain⟨q,_,_,hd⟩:=h.wf.par id c hc (by omega)
  rw [e] at hd;omega
 have hris:Rising (dropP P id c.pa):=rising_del (rising_upd h.wf.rise _ _) _
 generalize dropP P id c.pa=Q at hlook hris
 have hself:lookM Q id=none:=by rw [hlook,if_pos rfl]
 have hkeys:∀ q j,kf Q q j=true→kf P q j=true∧(q=c.pa→j≠id):=fun q j hk=>by
  have hq:=hlook q
  by_cases e:q=id
  ·rw [if_pos e] at hq
   unfold kf famP at hk
   rw [hq] at hk;cases hk
  ·rw [if_neg e] at hq
   by_cases e2:q=c.pa
   ·rw [if_pos e2] at hq
    rw [kf_of hq] at hk
    dsimp only at hk
    rw [e2,kf_of hp]
    by_cases e3:j=id
    ·subst e3
     unfold outF at hk
     dsimp only at hk
     rw [look_del_same] at hk
     cases hk
    ·rw [only_out id _ j e3] at hk
     exact⟨hk,fun _=>e3⟩
   ·rw [if_neg e2] at hq
    unfold kf famP at hk ⊢
    rw [hq] at hk
    exact⟨hk,fun h=>absurd h e2⟩
 refine h.one hid ⟨fun j c' hj hc'=>?_,fun j c0 hj hc0=>?_,fun j hj0 hj=>?_,fun q j _ hk=>(hkeys q j hk).1⟩ hris haw ?_ (fun _=>hno) (fun c' hc'=>by rw [hself] at hc';cases hc') fun q hk=>?_
 ·rw [hlook,if_neg hj] at hc'
  by_cases e2:j=c.pa
  ·rw [if_pos e2] at hc'
   cases hc'
   exact⟨p,by rw [e2];exact hp,rfl,rfl,rfl,rfl,rfl,rfl⟩
  ·rw [if_neg e2] at hc'
   exact⟨c',hc',rfl,rfl,rfl,rfl,rfl,rfl⟩
 ·rw [hlook,if_neg hj]
  by_cases e2:j=c.pa
  ·rw [if_pos e2]
   rw [e2,hp] at hc0
   cases hc0
   exact⟨_,rfl,rfl,rfl,rfl,rfl⟩
  ·rw [if_neg e2]
   exact⟨c0,hc0,rfl,rfl,rfl,rfl⟩
 ·have hpaj:paP Q j=paP P j:=by
   unfold paP
   rw [hlook,if_neg hj]
   by_cases e2:j=c.pa
   ·rw [if_pos e2,e2,hp];rfl
   ·rw [if_neg e2]
  refine memP_congr hpaj fun q hq=>?_
  have hqid:q≠id:=fun e=>by
   rw [e] at hq
   rcases hno j hq with k | k
   ·omega
   ·exact hj k
  unfold famP
  rw [hlook,if_neg hqid]
  by_cases e2:q=c.pa
  ·rw [if_pos e2,e2,hp]
   exact only_out id p.fam j hj
  ·rw [if_neg e2]
 ·unfold awP memP paP
  rw [hself];simp
 ·obtain⟨h1,h2⟩:=hkeys q id hk
  obtain⟨_,h3⟩:=h.fams q id h1
  rw [paP_of hc] at h3
  exact absurd rfl (h2 (Option.some.inj h3).symm)
theorem renew_look {P:Pk} {id:Int} {c p:Cls} {sh:Bool} {share:Int × Int × Int} {lim:Option Rn} (hc:lookM P id=some c)(hp:lookM P c.pa=some p)(hne:c.pa≠id)(j:Int) :
  lookM (renewP P id c.pa sh share lim) j=if j=id then some { c with sh:=sh,tot:=0,lim:=lim } else if j=c.pa then some { p with fam:=if sh=true then addF id share (outF id p.fam) else outF id p.fam } else lookM P j:=by
 unfold renewP
 rw [look_upd]
 by_cases e:j=id
 ·rw [if_pos e,if_pos e,look_upd,if_neg (fun h=>hne h.symm),hc];rfl
 ·rw [if_neg e,if_neg e,look_upd,hp];rfl
theorem renew_inv {P:Pk} {wt:Int→Bool} (h:PAll ow dp P wt) {id:Int} {c p:Cls} {sh:Bool} {share:Int × Int × Int} {lim:Option Rn} (hid:0 < id)(hc:lookM P id=some c)(hp:lookM P c.pa=some p)(haw:awP P id=false)(hw:c.lf=true→sh=true→wt id=false)(hs:c.lf=false→sh=true):PAll ow dp (renewP P id c.pa sh share lim) wt:=by
 have hne:c.pa≠id:=fun e=>by
  obtain⟨q,_,_,hd⟩:=h.wf.par id c hc (by omega)
  rw [e] at hd;omega
 have hlook:=renew_look (sh:=sh) (share:=share) (lim:=lim) hc hp hne
 have hris:Rising (renewP P id c.pa sh share lim):=rising_upd (rising_upd h.wf.rise _ _) _ _
 generalize renewP P id c.pa sh share lim=Q at hlook hris
 have hself:lookM Q id=some { c with sh:=sh,tot:=0,lim:=lim }:=by rw [hlook,if_pos rfl]
 have hpaf:lookM Q c.pa=some { p with fam:=if sh=true then addF id share (outF id p.fam) else outF id p.fam }:=by rw [hlook,if_neg hne,if_pos rfl]
 have hmid:memP Q id=if sh=true then some (mem0 share) else none:=by
  rw [memP_is hself hpaf]
  show lookM (if sh=true then addF id share (outF id p.fam) else outF id p.fam).m id=_
  by_cases e:sh=true
  ·rw [if_pos e,if_pos e];exact look_put_same _ _ _
  ·rw [if_neg e,if_neg e];exact look_del_same _ _
 have hfar:∀ j,j≠id→lookM (if sh=true then addF id share (outF id p.fam) else outF id p.fam).m j=lookM p.fam.m j:=fun j hj=>by
  by_cases e:sh=true
  ·rw [if_pos e,only_add id share _ j hj,only_out id _ j hj]
  ·rw [if_neg e,only_out id _ j hj]
 refine h.one hid ⟨fun j c' hj hc'=>?_,fun j c0 hj hc0=>?_,fun j hj0 hj=>?_,fun q j hj hk=>?_⟩ hris haw ?_ (fun hn=>by rw [hself] at hn;cases hn) (fun c' hc'=>?_) fun q hk=>?_
 ·rw [hlook,if_neg hj] at hc'
  by_cases e2:j=c.pa
  ·rw [if_pos e2] at hc'
   cases hc'
   exact⟨p,by rw [e2];exact hp,rfl,rfl,rfl,rfl,rfl,rfl⟩
  ·rw [if_neg e2] at hc'
   exact⟨c',hc',rfl,rfl,rfl,rfl,rfl,rfl⟩
 ·rw [hlook,if_neg hj]
  by_cases e2:j=c.pa
  ·rw [if_pos e2]
   rw [e2,hp] at hc0
   cases hc0
   exact⟨_,rfl,rfl,rfl,rfl,rfl⟩
  ·rw [if_neg e2]
   exact⟨c0,hc0,rfl,rfl,rfl,rfl⟩
 ·have hpaj:paP Q j=paP P j:=by
   unfold paP
   rw [hlook,if_neg hj]
   by_cases e2:j=c.pa
   ·rw [if_pos e2,e2,hp];rfl
   ·rw [if_neg e2]
  refine memP_congr hpaj fun q hq=>?_
  unfold famP
  rw [hlook]
  by_cases e:q=id
  ·rw [if_pos e,e,hc];rfl
  ·rw [if_neg e]
   by_cases e2:q=c.pa
   ·rw [if_pos e2,e2,hp]
    exact hfar j hj
   ·rw [if_neg e2]
 ·have hq:=hlook q
  unfold kf famP at hk ⊢
  rw [hq] at hk
  by_cases e:q=id
  ·rw [if_pos e] at hk
   rw [e,hc];exact hk
  ·rw [if_neg e] at hk
   by_cases e2:q=c.pa
   ·rw [if_pos e2] at hk
    rw [e2,hp]
    have hk:(lookM (if sh=true then addF id share (outF id p.fam) else outF id p.fam).m j).isSome=true:=hk
    rw [hfar j hj] at hk
    exact hk
   ·rw [if_neg e2] at hk
    exact hk
 ·unfold awP
  rw [hmid]
  by_cases e:sh=true
  ·rw [if_pos e];simp [mem0]
  ·rw [if_neg e];simp
 ·rw [hself] at hc'
  cases hc'
  refine⟨c,hc,rfl,rfl,rfl,hw,hs,?_⟩
  rw [hmid]
  show (if sh=true then _ else _:Option Mem).isSome=sh
  cases sh <;> rfl
 ·have hq:=hlook q
  rw [paP_of hself]
  show some c.pa=some q
  by_cases e:q=id
  ·unfold kf famP at hk
   rw [hq,if_pos e] at hk
   have h1:kf P id id=true:=by rw [kf_of hc];exact hk
   obtain⟨_,h2⟩:=h.fams id id h1
   rw [paP_of hc] at h2
   exact absurd (Option.some.inj h2) hne
  ·by_cases e2:q=c.pa
   ·rw [e2]
   ·unfold kf famP at hk
    rw [hq,if_neg e,if_neg e2] at hk
    obtain⟨_,h2⟩:=h.fams q id hk
    rw [paP_of hc] at h2
    exact h2
end
end
section
open Go.RowKit Go.Maps
noncomputable def reachR (r:Rn)(y:Int):Int:=qR r.F r.L r.R r.x r.A y
noncomputable def owL (l:Option Rn)(y:Int):Int:=match l with
 | none=>0
 | some r=>reachR r y
def RunM (W:World)(r g:Nat)(x:Rn):Prop:=RunAt W r g x.F x.L x.R x.x x.A
def runOwn (W:World)(r g b:Nat):Prop:=b=r∨b=g∨∃ v,W.cell? ⟨g,6,none⟩=some v∧v.ownBlock=some b
def RunO (r:Nat)(x:Rn):Ob:=fun W S=>∃ g,RunM W r g x∧∀ b,S b↔runOwn W r g b
theorem run_row {W:World} {r g:Nat} {x:Rn} (h:RunM W r g x) {v:Value} {b:Nat} (hv:W.cell? ⟨g,6,none⟩=some v)(hb:v.ownBlock=some b):g < b∧b < W.heap.size:=by
 rcases h with ⟨h1,h2,h3⟩ | ⟨h1,⟨K,h2⟩,h3⟩
 ·obtain⟨p,q,hB,_⟩:=h2.blk
  have:=Option.some.inj (hv.symm.trans (hB.cell 6))
  rw [this] at hb
  cases hb
 ·obtain⟨v',hB,hr⟩:=h2.at_
  have:=Option.some.inj (hv.symm.trans (hB.cell 6))
  rw [this] at hb
  have:=hr.lt b hb
  exact⟨this.1,this.2⟩
theorem run_lt {W:World} {r g:Nat} {x:Rn} (h:RunM W r g x) {b:Nat} (hb:runOwn W r g b):b < W.heap.size:=by
 have:=h.lt
 rcases hb with rfl | rfl | ⟨v,hv,hb⟩
 ·omega
 ·omega
 ·exact (run_row h hv hb).2
theorem run_heap {W W':World} {r g:Nat} {x:Rn} (h:RunM W r g x)(hk:∀ b,runOwn W r g b→W'.heap[b]?=W.heap[b]?):RunM W' r g x∧∀ b,runOwn W' r g b↔runOwn W r g b:=by
 have hr:=hk r (.inl rfl)
 have hg:=hk g (.inr (.inl rfl))
 have hc:W'.cell? ⟨g,6,none⟩=W.cell? ⟨g,6,none⟩:=World.cell?_of_block (w:=W) (w':=W') (a:=⟨g,6,none⟩) hg
 refine⟨?_,fun b=>by unfold runOwn;rw [hc]⟩
 rcases h with ⟨h1,h2,h3⟩ | ⟨h1,⟨K,h2⟩,h3⟩
 ·obtain⟨p,q,hB,hrest⟩:=h2.blk
  exact .inl ⟨hr.trans h1,⟨⟨p,q,hg.trans hB,hrest⟩,h2.may,h2.lt_,h2.num,h2.x0,h2.x1,h2.few⟩,h3⟩
 ·obtain⟨v,hB,hrow⟩:=h2.at_
  refine .inr ⟨hr.trans h1,⟨K,⟨v,hg.trans hB,?_⟩,h2.may,h2.le,h2.run,h2.num,h2.x0,h2.x1,h2.few,h2.one⟩,h3⟩
  exact owns_heapH hrow fun b hb=>hk b (.inr (.inr ⟨v,hB.cell 6,hb⟩))
theorem good_run (r:Nat)(x:Rn):Good (RunO r x):=by
 refine⟨fun ⟨g,h,hS⟩ b hb=>run_lt h ((hS b).1 hb),fun ⟨g,h,hS⟩ _ hk=>?_⟩
 obtain⟨h1,h2⟩:=run_heap h fun b hb=>hk b ((hS b).2 hb)
 exact⟨g,h1,fun b=>(hS b).trans (h2 b).symm⟩
theorem made_run {w w':World} {F L R:Int} {e:Ending} (h:Made w F L R e w'):∃ r,e=.returned (.pointer (some ⟨r,0,none⟩))∧Below w.heap.size w w'∧∃ S,RunO r (rn0 (F,L,R)) w' S∧∀ b,S b→w.heap.size≤b:=by
 obtain⟨r,g,he,hg,hr,hb⟩:=h
 have hr:RunM w' r g (rn0 (F,L,R)):=hr
 refine⟨r,he,hb,fun b=>runOwn w' r g b,⟨g,hr,fun b=>Iff.rfl⟩,fun b hb2=>?_⟩
 have:=hr.lt
 rcases hb2 with rfl | rfl | ⟨v,hv,hb2⟩
 ·omega
 ·exact hg
 ·have:=(run_row hr hv hb2).1;omega
theorem run_started {W W':World} {r g:Nat} {x x':Rn} (h:RunM W r g x)(h':RunM W' r g x')(hg:W.grownBy W' (some g))(hn:NewRow W W' g) {A:Nat→Prop} (hA:∀ b,A b↔runOwn W r g b):∃ A',RunO r x' W' A'∧Went W W' A A':=by
 refine⟨fun b=>runOwn W' r g b,⟨g,h',fun b=>Iff.rfl⟩,Fr.of_grown hg fun b e=>by cases e;exact (hA g).2 (.inr (.inl rfl)),fun b hb=>?_⟩
 rcases hb with rfl | rfl | ⟨v,hv,hb⟩
 ·exact .inl ((hA _).2 (.inl rfl))
 ·exact .inl ((hA _).2 (.inr (.inl rfl)))
 ·exact .inr (hn v b hv hb)
theorem ro_start {W:World} {r:Nat} {x:Rn} (t y:Int)(ht:U t)(hy:U y)(hfew:x.A.length < 900000) :
  Acts (fun e=>e=.returned (.tuple #[])) (RunO r x) (RunO r (startR x t y)) 88 #[.pointer (some ⟨r,0,none⟩),.int .u64 t,.int .u64 y] Tryz.prog W:=fun A ⟨g,h,hA⟩ =>
 (run_start_own h t y _ _ ht hy rfl rfl hfew).mono fun e W' ⟨h1,h2,h3,h4⟩=>⟨h1,run_started (x:=x) (x':=startR x t y) h h2 h3 h4 hA⟩
theorem ro_reach {W:World} {r:Nat} {x:Rn} {S:Nat→Prop} (h:RunO r x W S)(y:Int)(hy:U y) :
  Calls Tryz.prog 102 #[.pointer (some ⟨r,0,none⟩),.int .u64 y] W fun e W'=>e=.returned (.int .u64 (reachR x y))∧Below W.heap.size W W':=by
 obtain⟨g,h,_⟩:=h
 exact urun_reach h y hy
def LimO (l:Nat):Option Rn→Ob
 | none=>fun W S=>LFree W l∧∀ b,S b↔b=l
 | some x=>fun W S=>∃ r g,LimAt W l r g x.F x.L x.R x.x x.A∧∀ b,S b↔b=l∨runOwn W r g b
theorem good_lim (l:Nat):∀ o,Good (LimO l o)
 | none=>⟨fun ⟨h,hS⟩ b hb=>by rw [(hS b).1 hb];exact h.lt,fun ⟨h,hS⟩ _ hk=>⟨(hk l ((hS l).2 rfl)).trans h,hS⟩⟩
 | some x=>by
  refine⟨fun ⟨r,g,h,hS⟩ b hb=>?_,fun ⟨r,g,h,hS⟩ _ hk=>?_⟩
  ·rcases (hS b).1 hb with rfl | hb
   ·exact h.1.lt
   ·exact run_lt (x:=x) h.2.1 hb
  ·obtain⟨h1,h2⟩:=run_heap (x:=x) h.2.1 fun b hb=>hk b ((hS b).2 (.inr hb))
   exact⟨r,g,⟨(hk l ((hS l).2 (.inl rfl))).trans h.1,h1,h.2.2⟩,fun b=>(hS b).trans (or_congr Iff.rfl (h2 b).symm)⟩
theorem lo_fit {W:World} {l:Nat} {o:Option Rn} {S:Nat→Prop} (h:LimO l o W S)(y:Int)(hy:U y) :
  Calls Tryz.prog 112 #[.pointer (some ⟨l,0,none⟩),.int .u64 y] W fun e W'=>e=.returned (.int .u64 (owL o y))∧Below W.heap.size W W':=by
 cases o with
 | none=>exact lfit_free y h.1
 | some x =>
  obtain⟨r,g,h,_⟩:=h
  have hr:=fun W (hr:RunM W r g x)=>urun_reach hr y hy
  have H:=Lib.hid h
  have HR:=Lib.hid hr
  clear h hr
  show Calls Tryz.prog _ _ W fun e W'=>e=.returned (.int .u64 (reachR x y))∧_
  unfold reachR
  go_enter Tryz.func112,Tryz.ntmps112
  go_wp2_with (first
   | (go_at_call 89;refine (lbound_some H.out).mono ?_;rintro e w0 ⟨rfl,hb0⟩;have hq:=H.out.below hb0;clear H;have H:=Lib.hid hq;clear hq)
   | (go_at_call 102;refine (HR.out _ H.out.2.1).mono ?_;rintro e w1 ⟨rfl,hb1⟩))
  go_ret
  exact⟨rfl,hb0.trans (hb1.mono hb0.size)⟩
def wakeL (o:Option Rn)(now tot:Int):Option Rn:=o.map fun r=>startR r now tot
theorem lo_wake {W:World} {l:Nat} {o:Option Rn} (now tot:Int)(ht:U now)(hy:U tot)(hfew:∀ x,o=some x→x.A.length < 900000) :
  Acts (fun e=>e=.returned (.tuple #[])) (LimO l o) (LimO l (wakeL o now tot)) 44 #[.pointer (some ⟨l,0,none⟩),.int .u64 now,.int .u64 tot] Tryz.prog W:=fun A hA=>by
 cases o with
 | none =>
  have H:=Lib.hid hA
  clear hA
  go_enter Tryz.func44,Tryz.ntmps44
  go_wp2_with (go_at_call 89;refine (lbound_free H.out.1).mono ?_;rintro e w0 ⟨rfl,hb0⟩)
  go_returns
  exact⟨rfl,A,⟨H.out.1.below hb0 H.out.1.lt,H.out.2⟩,Fr.of_below hb0,fun b hb=>.inl hb⟩
 | some x =>
  obtain⟨r,g,h,hS⟩:=hA
  have hw:=fun W (hr:RunM W r g x)=>run_start_own hr now tot _ _ ht hy rfl rfl (hfew x rfl)
  have H:=Lib.hid h
  have HW:=Lib.hid hw
  have HS:=Lib.hid hS
  clear h hw hS hfew
  go_enter Tryz.func44,Tryz.ntmps44
  go_wp2_with (first
   | (go_at_call 89;refine (lbound_some H.out).mono ?_;rintro e w0 ⟨rfl,hb0⟩;have H1:=Lib.hid (And.intro (H.out.below hb0) hb0);clear hb0)
   | (go_at_call 88;refine (HW.out _ H1.out.1.2.1).mono ?_;rintro e w1 ⟨rfl,hr1,hg1,hn1⟩;have H2:=Lib.hid (And.intro hr1 (And.intro hg1 hn1));clear hr1 hg1 hn1))
  go_returns
  obtain⟨hr1,hg1,hn1⟩:=H2.out
  have hown:∀ b,runOwn w0 r g b↔runOwn W r g b:=(run_heap (x:=x) H.out.2.1 fun b hb=>H1.out.2.block b (run_lt (x:=x) H.out.2.1 hb)).2
  obtain⟨A',⟨g',hm,hA'⟩,hwent⟩:=run_started (x:=x) (x':=startR x now tot) H1.out.1.2.1 hr1 hg1 hn1 (A:=fun b=>runOwn w0 r g b) fun b=>Iff.rfl
  have hl1:LimAt w1 l r g (startR x now tot).F (startR x now tot).L (startR x now tot).R (startR x now tot).x (startR x now tot).A:=⟨H1.out.1.1.grown hg1 (by have:=H.out.glt;simp;omega),hr1,H.out.2.2⟩
  refine⟨rfl,fun b=>b=l∨runOwn w1 r g b,⟨r,g,hl1,fun b=>Iff.rfl⟩,?_,fun b hb=>?_⟩
  ·refine (Fr.of_below H1.out.2).trans (Fr.of_grown hg1 fun b e=>?_)
   cases e
   exact (HS.out g).2 (.inr (.inr (.inl rfl)))
  ·rcases hb with rfl | rfl | rfl | ⟨v,hv,hb⟩
   ·exact .inl ((HS.out _).2 (.inl rfl))
   ·exact .inl ((HS.out _).2 (.inr (.inl rfl)))
   ·exact .inl ((HS.out _).2 (.inr (.inr (.inl rfl))))
   ·exact .inr (Nat.le_trans H1.out.2.size (hn1 v b hv hb))
end
section
open Go.RowKit Go.Maps
def TrO (q:Nat)(L:List En):Ob:=fun W S=>∃ g m t M,AugAt W q g m t M∧listT t=L∧∀ b,S b↔ownA q g m t b
theorem good_tr (q:Nat)(L:List En):Good (TrO q L) :=
 ⟨fun ⟨g,m,t,M,h,_,hS⟩ b hb=>h.lt b ((hS b).1 hb),fun ⟨g,m,t,M,h,hL,hS⟩ _ hk=>⟨g,m,t,M,⟨(hk q ((hS q).2 (.inl rfl))).trans h.aug,⟨(hk g ((hS g).2 (.inr (.inl rfl)))).trans h.tr.tree,h.tr.rb.kept fun a ha=>hk a ((hS a).2 (.inr (.inr (.inr ha)))),h.tr.nd,h.tr.well⟩,h.map.heap (hk m ((hS m).2 (.inr (.inr (.inl rfl))))),h.inv,h.look,h.len⟩,hL,hS⟩⟩
theorem tr_went {W W':World} {q g m:Nat} {t t':RB} {M:List (Int × Ky)} {L:List En} (ha:AugAt W' q g m t' M)(hl:listT t'=L)(hx:∀ x∈addrs t',x∈addrs t∨W.heap.size≤x)(hf:Fr (ownA q g m t) W W') {A:Nat→Prop} (hA:∀ b,A b↔ownA q g m t b):∃ A',TrO q L W' A'∧Went W W' A A':=by
 refine⟨fun b=>ownA q g m t' b,⟨g,m,t',M,ha,hl,fun b=>Iff.rfl⟩,hf.weak fun b _ hb=>(hA b).2 hb,fun b hb=>?_⟩
 rcases hb with rfl | rfl | rfl | hb
 ·exact .inl ((hA _).2 (.inl rfl))
 ·exact .inl ((hA _).2 (.inr (.inl rfl)))
 ·exact .inl ((hA _).2 (.inr (.inr (.inl rfl))))
 ·exact (hx b hb).imp (fun h=>(hA b).2 (.inr (.inr (.inr h)))) id
section
variable {W : World} {q : Nat} {L : List En}
theorem tr_put (i a b:Int)(hi:(Lit.int .i64 i).wf=true)(hfew:L.length < 900000) :
  Acts (fun e=>e=.returned (.tuple #[])) (TrO q L) (TrO q (putI L i a b)) 90 #[.pointer (some ⟨q,0,none⟩),.int .i64 i,.int .u64 a,.int .u64 b] Tryz.prog W:=fun A ⟨g,m,t,M,h,hL,hA⟩ =>
 (aput_any q g m i a b t M W h hi (by rw [hL];exact hfew)).mono fun e W' ⟨t',M',he,ha,hl,hx,hf⟩=>⟨he,tr_went ha (by rw [hl,hL]) hx hf hA⟩
theorem tr_drop (i:Int)(hi:(Lit.int .i64 i).wf=true)(hfew:L.length < 900000) :
  Acts (fun e=>∃ b,e=.returned (.bool b)) (TrO q L) (TrO q (dropI L i)) 91 #[.pointer (some ⟨q,0,none⟩),.int .i64 i] Tryz.prog W:=fun A ⟨g,m,t,M,h,hL,hA⟩ =>
 (adrop_any q g m i t M W h hi (by rw [hL];omega)).mono fun e W' ⟨t',M',he,ha,hl,hx,hf⟩=>⟨⟨_,he⟩,tr_went ha (by rw [hl,hL]) hx hf hA⟩
theorem tr_len {S:Nat→Prop} (h:TrO q L W S):Calls Tryz.prog 58 #[.pointer (some ⟨q,0,none⟩)] W fun e W'=>e=.returned (.int .i64 L.length)∧W=W':=by
 obtain⟨g,m,t,M,h,rfl,_⟩:=h
 exact alen_any q g m t M W h
theorem tr_within {S:Nat→Prop} (h:TrO q L W S)(v:Int):Calls Tryz.prog 52 #[.pointer (some ⟨q,0,none⟩),.int .u64 v] W (OptW W (withinV L v)):=by
 obtain⟨g,m,t,M,h,rfl,_⟩:=h
 exact awithin_any q g m v t M W h
theorem tr_lowest {S:Nat→Prop} (h:TrO q L W S):Calls Tryz.prog 68 #[.pointer (some ⟨q,0,none⟩)] W (LowW W (lowV L)):=by
 obtain⟨g,m,t,M,h,rfl,_⟩:=h
 exact alowest_any q g m t M W h
end
def NewO (w:World)(P:Nat→Ob)(e:Ending)(w':World):Prop:=∃ q,e=.returned (.pointer (some ⟨q,0,none⟩))∧Below w.heap.size w w'∧∃ S,P q w' S∧∀ b,S b→w.heap.size≤b
theorem tr_new (w:World):Calls Tryz.prog 32 #[] w (NewO w fun q=>TrO q []) :=
 (augnew_any w).mono fun e w' ⟨q,g,m,he,h,hb,hlo⟩=>⟨q,he,hb,fun b=>ownA q g m .nil b,⟨g,m,.nil,[],h,rfl,fun b=>Iff.rfl⟩,hlo⟩
theorem run_newO (c:Int × Int × Int)(w:World)(h0:0≤c.1)(h1:0≤c.2.1)(h2:0≤c.2.2)(hm:mayB c.1 c.2.1 c.2.2=true) :
  Calls Tryz.prog 83 #[.agg #[.int .u64 c.1,.int .u64 c.2.1,.int .u64 c.2.2]] w (NewO w fun r=>RunO r (rn0 c)) :=
 (run_new c.1 c.2.1 c.2.2 w h0 h1 h2 hm).mono fun e w' h=>by
  obtain⟨r,he,hb,S,hr,hlo⟩:=made_run h
  exact⟨r,he,hb,S,hr,hlo⟩
def limN (u:Int × Int × Int):Option Rn:=if (u.1=0∧u.2.1=0∧u.2.2=0)∨mayB u.1 u.2.1 u.2.2=false then none else some (rn0 u)
theorem lim_newO (u:Int × Int × Int)(w:World)(h0:0≤u.1)(h1:0≤u.2.1)(h2:0≤u.2.2) :
  Calls Tryz.prog 36 #[.agg #[.int .u64 u.1,.int .u64 u.2.1,.int .u64 u.2.2]] w (NewO w fun l=>LimO l (limN u)):=by
 unfold limN
 by_cases h:(u.1=0∧u.2.1=0∧u.2.2=0)∨mayB u.1 u.2.1 u.2.2=false
 ·rw [if_pos h]
  exact (lnew_free u.1 u.2.1 u.2.2 w h1 h).mono fun e w' ⟨l,he,hl,hf,hb⟩=>⟨l,he,hb,fun b=>b=l,⟨hf,fun b=>Iff.rfl⟩,fun b hb=>by rw [hb];exact hl⟩
 ·rw [if_neg h]
  have hm:mayB u.1 u.2.1 u.2.2=true:=by
   cases hm:mayB u.1 u.2.1 u.2.2 with
   | true=>rfl
   | false=>exact absurd (.inr hm) h
  refine (lnew_some u.1 u.2.1 u.2.2 w h0 h1 h2 (fun h3=>h (.inl h3)) hm).mono fun e w' ⟨l,r,g,he,hg,hl,hb⟩=>⟨l,he,hb,fun b=>b=l∨runOwn w' r g b,⟨r,g,hl,fun b=>Iff.rfl⟩,fun b hb2=>?_⟩
  have hlt:=hl.2.1.lt
  have hlr:=hl.2.2
  rcases hb2 with rfl | rfl | rfl | ⟨v,hv,hb2⟩
  ·omega
  ·omega
  ·exact hg
  ·have:=(run_row (x:=rn0 u) hl.2.1 hv hb2).1;omega
end
section
open Go.RowKit Go.Maps Go.Sort Go.Shelf
attribute [local go_sem ↓] Go.wp_at_zero Go.wp_at_succ
attribute [local go_sem] quietR quietAtR quietUponR midAt midUpon
theorem TreeX.look {W:World} {base g ma mu:Nat} {U:List (Int × Value)} {M:Mp} (h:TreeX W base g ma mu U M) {id:Int} (hid:(Lit.int .i64 id).wf=true) :
  (Instr.lookup 98 (.map (some ma)) (.int .i64 id) true).run Tryz.prog W=.ok (.tuple #[clV ((lookM M id).getD cl0),.bool (lookM M id).isSome]) W:=by
 have hq:=h.all.look_ok (k:=id) (E:=107) (T:=98) (z:=clV cl0) Tryz.underlying3 Tryz.underlying98 (by exact Tryz.zeroValue107 _) hid
 have hval:(lookM (mapV clV M) id).getD (clV cl0)=clV ((lookM M id).getD cl0):=by rw [look_map];cases lookM M id <;> rfl
 have hsm:(lookM (mapV clV M) id).isSome=(lookM M id).isSome:=by rw [look_map];cases lookM M id <;> rfl
 rw [hval,hsm] at hq
 exact hq
theorem TreeX.look1 {W:World} {base g ma mu:Nat} {U:List (Int × Value)} {M:Mp} (h:TreeX W base g ma mu U M) {id:Int} (hid:(Lit.int .i64 id).wf=true) :
  (Instr.lookup 98 (.map (some ma)) (.int .i64 id) false).run Tryz.prog W=.ok (clV ((lookM M id).getD cl0)) W:=by
 have hq:=h.all.look (k:=id) (E:=107) (T:=98) (z:=clV cl0) Tryz.underlying3 Tryz.underlying98 (by exact Tryz.zeroValue107 _) hid
 have hval:(lookM (mapV clV M) id).getD (clV cl0)=clV ((lookM M id).getD cl0):=by rw [look_map];cases lookM M id <;> rfl
 rw [hval] at hq
 exact hq
theorem TreeX.lookU {W:World} {base g ma mu:Nat} {U:List (Int × Value)} {M:Mp} (h:TreeX W base g ma mu U M) {id:Int} (hid:(Lit.int .i64 id).wf=true) :
  (Instr.lookup 99 (.map (some mu)) (.int .i64 id) false).run Tryz.prog W=.ok (rowV U id) W :=
 h.und.look (k:=id) (E:=51) (T:=99) (z:=.slice none 0 0) Tryz.underlying3 Tryz.underlying99 (by exact Tryz.zeroValue51 _) hid
def getS (M:Mp)(id:Int):Sp:=((lookM M id).getD cl0).1
def GetW (w:World)(M:Mp)(id:Int)(e:Ending)(w':World):Prop:=e=.returned (.tuple #[spV (getS M id),.bool (lookM M id).isSome])∧Below w.heap.size w w'
theorem tget_any (id:Int)(base g ma mu:Nat)(U:List (Int × Value))(M:Mp)(w:World)(hid:(Lit.int .i64 id).wf=true)(h:TreeX w base g ma mu U M) :
  Calls Tryz.prog 26 #[.pointer (some ⟨g,0,none⟩),.int .i64 id] w (GetW w M id):=by
 have hb0:=(Below.refl w.heap.size w).alloc (Nat.le_refl _) (.cells (spC sp0) 32)
 have h0:=h.later hb0
 have hn:=htnone_no g ma _ _ h0.blk
 have hlook:=h0.look hid
 have y0:=h0.blk.cell 0
 have hB:=Blk.new w 32 (spC sp0)
 unfold spC sp0 at *
 simp only [lTA,lCZ,lCS] at y0
 unfold GetW getS
 generalize (lookM M id).isSome=bs at hlook ⊢
 generalize (lookM M id).getD cl0=c at hlook ⊢
 obtain⟨⟨i1,i2,i3,⟨F1,L1,R1⟩,⟨F2,L2,R2⟩,⟨F3,L3,R3⟩,i4,i5⟩,d⟩:=c
 unfold spV spC
 unfold clV clC at hlook
 dsimp only at hlook hn y0 ⊢
 have HB:=Lib.hid hb0
 clear h h0 hb0 hB
 go_enter Tryz.func26,Tryz.ntmps26
 go_wp2_with (go_at_call 69;refine hn.mono ?_;rintro e w1 ⟨rfl,rfl⟩)
 have hE:=(Blk.new w 32 #[.int .i64 i1,.int .i64 i2,.bool i3,.int .u64 F1,.int .u64 L1,.int .u64 R1,.int .u64 F2,.int .u64 L2,.int .u64 R2,.int .u64 F3,.int .u64 L3,.int .u64 R3,.int .i64 i4,.int .i64 i5]).alloc (.cells #[.int .i64 i1,.int .i64 i2,.bool i3,.int .u64 F1,.int .u64 L1,.int .u64 R1,.int .u64 F2,.int .u64 L2,.int .u64 R2,.int .u64 F3,.int .u64 L3,.int .u64 R3,.int .i64 i4,.int .i64 i5,.int .i64 d] 107)
 have q0:=hE.cell 0;have q1:=hE.cell 1;have q2:=hE.cell 2;have q3:=hE.cell 3;have q4:=hE.cell 4;have q5:=hE.cell 5;have q6:=hE.cell 6;have q7:=hE.cell 7;have q8:=hE.cell 8;have q9:=hE.cell 9;have q10:=hE.cell 10;have q11:=hE.cell 11;have q12:=hE.cell 12;have q13:=hE.cell 13
 simp only [lTA,lCZ,lCS] at q0 q1 q2 q3 q4 q5 q6 q7 q8 q9 q10 q11 q12 q13
 refine bodyPost_ret (v:=.tuple #[.agg #[.int .i64 i1,.int .i64 i2,.bool i3,.int .u64 F1,.int .u64 L1,.int .u64 R1,.int .u64 F2,.int .u64 L2,.int .u64 R2,.int .u64 F3,.int .u64 L3,.int .u64 R3,.int .i64 i4,.int .i64 i5],.bool bs]) (by simp [results,Tryz.results26,go_sem,q0,q1,q2,q3,q4,q5,q6,q7,q8,q9,q10,q11,q12,q13]) rfl ⟨rfl,((Below.refl w.heap.size w).alloc (Nat.le_refl _) _).alloc (by simp) _⟩
end
section
open Go.RowKit Go.Maps Go.Sort Go.Shelf
def IdsW (w:World)(l:List Int)(e:Ending)(w':World):Prop:=∃ v,e=.returned v∧w'.ownsRow w.heap.size 3 1 v l.length (l.map (Value.int .i64))∧Below w.heap.size w w'
theorem clone_int (base:Nat)(v:Value)(l:List Int)(w:World)(h:w.ownsRow base 3 1 v l.length (l.map (Value.int .i64)))(hl:l.length≤1000) :
  Calls Tryz.prog 70 #[v] w (IdsW w l):=by
 rcases h.2 with ⟨rfl,h0⟩ | ⟨g,cap,cur,rfl,h1,h2,h3,h4⟩
 ·obtain rfl:l=[]:=List.eq_nil_of_length_eq_zero h0
  refine (AnyE.slices_Clone_nil cloneI 0 0 w).mono ?_
  rintro e w' ⟨rfl,rfl⟩
  exact⟨_,rfl,World.ownsRow_nil _ _ _ _,Below.refl _ _⟩
 ·obtain⟨i0,hi0,hz0,hz1,hz2⟩:=info_parts info_int
  refine (AnyE.slices_Clone cloneI i0 (.int .i64 0) 1 8 hi0 hz0 hz1 hz2 rfl (by decide) (by exact Tryz.sizeOf3) g 0 l.length cap (l.map (Value.int .i64)) w (by simp) (by unfold maxLen;omega) (by omega) (fun j u hj=>?_) (fun u hu=>?_)).mono ?_
  ·rw [Nat.zero_add,h.cellAt j (by have:=(List.getElem?_eq_some_iff.1 hj).1;simp at this;omega)]
   exact hj
  ·obtain⟨x,_,rfl⟩:=List.mem_map.1 hu
   rfl
  ·rintro e w' ⟨v',rfl,hr,_,hb⟩
   exact⟨v',rfl,hr,hb⟩
theorem tunder_any (id:Int)(base g ma mu:Nat)(U:List (Int × Value))(M:Mp)(w:World)(hid:(Lit.int .i64 id).wf=true)(h:TreeX w base g ma mu U M) :
  Calls Tryz.prog 22 #[.pointer (some ⟨g,0,none⟩),.int .i64 id] w (IdsW w (kids M id)):=by
 have hn:=htnone_no g ma _ _ h.blk
 have hlook:=h.lookU hid
 have y1:=h.blk.cell 1
 simp only [lTA,lCZ,lCS] at y1
 have hc:=clone_int base (rowV U id) (kids M id) w (h.rows id) (by have:=h.inv.few;have:=kids_len M id;omega)
 generalize rowV U id=v at hlook hc
 clear h
 go_enter Tryz.func22,Tryz.ntmps22
 go_wp2_with (first | (go_at_call 69;refine hn.mono ?_;rintro e w' ⟨rfl,rfl⟩) | (go_at_call 70;refine hc.mono ?_;rintro e w' ⟨v',rfl,hrow,hb⟩))
 go_ret
 exact⟨_,rfl,hrow,hb⟩
end
section
open Go.RowKit Go.Maps Go.Sort Go.Shelf
attribute [local go_sem ↓] Go.wp_at_zero Go.wp_at_succ
attribute [local go_sem] quietR quietAtR quietUponR midAt midUpon
theorem depth_cases {M:Mp} (h:InvT M) {pa:Int} (h0:pa≠0):(lookM M pa=none∧depthM M pa=0)∨∃ c,lookM M pa=some c∧1≤c.2∧c.2≤8∧((c.1.lf=true∧depthM M pa=0)∨(c.1.lf=false∧8≤c.2∧depthM M pa=0)∨(c.1.lf=false∧¬ 8≤c.2∧depthM M pa=c.2+1)):=by
 cases e:lookM M pa with
 | none=>left;exact⟨rfl,by unfold depthM;rw [if_neg h0,e]⟩
 | some c =>
  right
  have o:=h.ok _ _ e
  refine⟨c,rfl,o.d1,o.d8,?_⟩
  have hd:depthM M pa=if c.1.lf=true∨8≤c.2 then 0 else c.2+1:=by unfold depthM;rw [if_neg h0,e]
  rw [hd]
  cases hl:c.1.lf
  ·by_cases h8:8≤c.2
   ·exact .inr (.inl ⟨rfl,h8,by simp [h8]⟩)
   ·exact .inr (.inr ⟨rfl,h8,by simp [h8]⟩)
  ·exact .inl ⟨rfl,by simp⟩
theorem tdepth_any (pa:Int)(base g ma mu:Nat)(U:List (Int × Value))(M:Mp)(w:World)(hid:(Lit.int .i64 pa).wf=true)(h:TreeX w base g ma mu U M) :
  Calls Tryz.prog 131 #[.pointer (some ⟨g,0,none⟩),.int .i64 pa] w fun e w'=>e=.returned (.int .i64 (depthM M pa))∧Below w.heap.size w w':=by
 by_cases h0:pa=0
 ·subst h0
  have hd:depthM M 0=1:=by unfold depthM;simp
  have HD:=Lib.hid hd
  clear h hd
  go_enter Tryz.func131,Tryz.ntmps131
  go_wp2_with fail
  go_ret
  exact⟨by rw [HD.out];rfl,Below.refl _ _⟩
 ·have hlook:=h.look hid
  have y0:=h.blk.cell 0
  simp only [lTA,lCZ,lCS] at y0
  have hcs:=depth_cases h.inv h0
  clear h
  have h0b:(pa == 0)=false:=by simpa using h0
  rcases hcs with ⟨e,hd⟩ | ⟨c,e,hd1,hd8,hcs⟩
  ·rw [e] at hlook
   unfold clV clC cl0 sp0 at hlook
   dsimp only [Option.getD,Option.isSome] at hlook
   have HD:=Lib.hid hd
   clear hd e
   go_enter Tryz.func131,Tryz.ntmps131
   go_wp2_with fail
   go_ret
   exact⟨by rw [HD.out];rfl,by go_grown⟩
  ·rw [e] at hlook
   obtain⟨⟨i1,i2,i3,⟨F1,L1,R1⟩,⟨F2,L2,R2⟩,⟨F3,L3,R3⟩,i4,i5⟩,d⟩:=c
   unfold clV clC at hlook
   dsimp only [Option.getD,Option.isSome] at hlook hcs hd1 hd8
   clear e
   rcases hcs with ⟨rfl,hd⟩ | ⟨rfl,h8,hd⟩ | ⟨rfl,h8,hd⟩
   all_goals
    have HD:=Lib.hid hd
    clear hd
    go_enter Tryz.func131,Tryz.ntmps131
    go_wp2_with fail
    go_ret
    exact⟨by rw [HD.out];first | rfl | simp,by go_grown⟩
end
section
open Go.RowKit Go.Maps
attribute [local go_sem ↓] Go.wp_at_zero Go.wp_at_succ
attribute [local go_sem] quietR quietAtR quietUponR midAt midUpon
theorem wpList_append_runH {P:Program} {w w':World} {ops:Array Oper} {rest:List Oper} {o:Oper} {a:Act} {Q:Exit→Act→World→Prop} (hgd:o.guard=none)(s x:Operand)(t:TypeId)
  (ho:o.op=.call { callee:=.builtin .append,args:=#[s,x],argTypes:=#[t,t] })(va vx v:Value)(hs:a.eval s=va)(hx:a.eval x=vx)
  (hr:(Builtin.append_ #[t,t] o.type #[va,vx]).run P w=.ok v w')(h:wpList P ops Q rest (a.put o.dst v) w'):wpList P ops Q (o :: rest) a w :=
 wpList_plain hgd fun K hK=>by
  unfold Oper.wp execOp
  simp only [ho,resolve,invoke,builtin,Sem.run_bind,Sem.run_pure,Result.andThen_ok,List.map_toArray,List.map_cons,List.map_nil,hs,hx,hr]
  exact hK _ _ h
theorem app_one (ty:TypeId) {A:List Int} {x:Int} {w:World} {v:Value} {base b:Nat} (hc:w.cell? ⟨b,0,none⟩=some (.int .i64 x))(hown:w.ownsRow base 3 1 v A.length (A.map (Value.int .i64)))(hb:base≤w.heap.size)(hl:A.length≤3000000) :
  ∃ v' w',(Builtin.append_ #[51,51] ty #[v,.slice (some ⟨b,0,none⟩) 1 1]).run Tryz.prog w=.ok v' w'∧w'.ownsRow base 3 1 v' (A ++ [x]).length ((A ++ [x]).map (Value.int .i64))∧w.grownBy w' v.ownBlock:=by
 obtain⟨i0,hi0,hz0,hz1,hz2⟩:=info_parts info_int
 obtain⟨v',w',hr,ho,hg,_⟩:=run_append_own (P:=Tryz.prog) (w:=w) base 51 ty 3 i0 _ 1 8 Tryz.underlying51 hi0 hz0 hz1 hz2 rfl (by decide) v A.length _ hown ⟨b,0,none⟩ 1 1 ([x].map (Value.int .i64)) (by simp) (fun j u hj=>by
    match j with
    | 0=>simp at hj;subst hj;simpa [Addr.add_lit] using hc
    | j+1=>simp at hj) (by intro u hu;obtain⟨x,_,rfl⟩:=List.mem_map.1 hu;rfl) (by unfold maxLen;omega) (by omega) hb
 exact⟨v',w',hr,by simpa using ho,hg⟩
theorem pathF_le (M:Mp):∀ (n:Nat)(id:Int),(pathF M n id).length≤n
 | 0,_=>Nat.le_refl _
 | n+1,id=>by
  unfold pathF
  cases lookM M id with
  | none=>simp
  | some c=>have:=pathF_le M n c.1.pa;simp;omega
theorem InvT.path_step {M:Mp} (h:InvT M) {id:Int} {c:Cl} (e:lookM M id=some c):pathM M id=id :: pathM M c.1.pa:=by
 unfold pathM
 rw [pathF_some e 7,h.pathF_more 7 8 fun c' hc'=>by
  have o:=h.ok _ _ e
  have:=o.d8
  rcases o.up with ⟨h0,_⟩ | ⟨p,hp,_,hd⟩
  ·rw [h0,h.zero] at hc';cases hc'
  ·rw [hp] at hc';cases hc';omega]
def dep (M:Mp)(x:Int):Nat:=((lookM M x).map fun c=>c.2.toNat).getD 0
theorem InvT.dep_lt {M:Mp} (h:InvT M) {id:Int} {c:Cl} (e:lookM M id=some c):dep M c.1.pa < dep M id:=by
 have o:=h.ok _ _ e
 have:=o.d1
 unfold dep
 rw [e]
 rcases o.up with ⟨h0,h1⟩ | ⟨p,hp,_,hd⟩
 ·rw [h0,h.zero];simp;omega
 ·rw [hp];have:=(h.ok _ _ hp).d1;simp;omega
theorem InvT.pa_wf {M:Mp} (h:InvT M) {id:Int} {c:Cl} (e:lookM M id=some c):(Lit.int .i64 c.1.pa).wf=true:=(h.ok _ _ e).wf.1.2.1
def PathJ (w:World)(g:Nat)(M:Mp)(id:Int)(a':Act)(w':World):Prop :=
 ∃ (A:List Int)(cur:Int)(v u2 u3 u6 u7 u8 u9 u10 u11 u12 u13 u14 u15 u16 u17 u18 u19 u20 u21:Value),a'={ tmps:=#[.pointer (some ⟨g,0,none⟩),.int .i64 cur,u2,u3,.slice none 0 0,v,u6,u7,u8,u9,u10,u11,u12,u13,u14,u15,u16,u17,u18,u19,u20,u21],defers:=[] }∧Below w.heap.size w w'∧w'.ownsRow w.heap.size 3 1 v A.length (A.map (Value.int .i64))∧A ++ pathM M cur=pathM M id∧(Lit.int .i64 cur).wf=true
theorem tpath_any (id:Int)(base g ma mu:Nat)(U:List (Int × Value))(M:Mp)(w:World)(hid:(Lit.int .i64 id).wf=true)(h:TreeX w base g ma mu U M) :
  Calls Tryz.prog 29 #[.pointer (some ⟨g,0,none⟩),.int .i64 id] w (IdsW w (pathM M id)):=by
 have H:=Lib.hid h
 clear h
 go_enter Tryz.func29,Tryz.ntmps29
 go_wp2
 refine wp_scope_jumps 0 (PathJ w g M id) (fun a' _=>dep M (Go.RowKit.intOf (a'.tmps.getD 1 undef))) rfl ?_ ?_
 ·go_wp2_with fail
  go_step3
  have hget:=tget_any id base g ma mu U M w hid (H.out.later (Below.refl w.heap.size w))
  unfold GetW getS spV spC at hget
  have HS:=Lib.hid (And.intro (Below.refl w.heap.size w) (And.intro (show w.ownsRow w.heap.size 3 1 (.slice none 0 0) ([]:List Int).length (([]:List Int).map (Value.int .i64)) from World.ownsRow_nil _ _ _ _) (show ([]:List Int) ++ pathM M id=pathM M id from rfl)))
  cases e:lookM M id with
  | none =>
   rw [e] at hget
   unfold cl0 sp0 at hget
   dsimp only [Option.getD,Option.isSome] at hget
   have HE:=Lib.hid e
   clear e
   go_wp2_with fail
   refine hget.mono ?_
   clear hget
   rintro e w1 ⟨rfl,hb1⟩
   have hw1:=HS.out.1.trans (hb1.mono HS.out.1.size)
   have ho1:=owns_laterH HS.out.2.1 hb1
   have hb2:=(Below.refl w1.heap.size w1).alloc (Nat.le_refl _) (.cells #[.int .i64 0,.int .i64 0,.bool false,.int .u64 0,.int .u64 0,.int .u64 0,.int .u64 0,.int .u64 0,.int .u64 0,.int .u64 0,.int .u64 0,.int .u64 0,.int .i64 0,.int .i64 0] 32)
   have HF:=Lib.hid (And.intro (owns_laterH ho1 hb2) (hw1.trans (hb2.mono hw1.size)))
   clear hw1 ho1 hb2 hb1
   go_wp2_with fail
   simp only [Exit.jump]
   go_ret
   have hA:=HS.out.2.2
   have hz:pathM M id=[]:=pathF_none HE.out 8
   exact⟨_,rfl,by rw [hz];exact HF.out.1,HF.out.2⟩
  | some c =>
   have HP:=Lib.hid (And.intro (H.out.inv.path_step e) (And.intro (H.out.inv.dep_lt e) (H.out.inv.pa_wf e)))
   rw [e] at hget
   obtain⟨⟨i1,pa,i3,⟨F1,L1,R1⟩,⟨F2,L2,R2⟩,⟨F3,L3,R3⟩,i4,i5⟩,d⟩:=c
   dsimp only [Option.getD,Option.isSome] at hget HP
   clear e
   go_wp2_with fail
   refine hget.mono ?_
   clear hget
   rintro e w1 ⟨rfl,hb1⟩
   have hw1:=HS.out.1.trans (hb1.mono HS.out.1.size)
   have ho1:=owns_laterH HS.out.2.1 hb1
   have hb2:=(Below.refl w1.heap.size w1).alloc (Nat.le_refl _) (.cells #[.int .i64 i1,.int .i64 pa,.bool i3,.int .u64 F1,.int .u64 L1,.int .u64 R1,.int .u64 F2,.int .u64 L2,.int .u64 R2,.int .u64 F3,.int .u64 L3,.int .u64 R3,.int .i64 i4,.int .i64 i5] 32)
   have hX:=Blk.new w1 32 #[.int .i64 i1,.int .i64 pa,.bool i3,.int .u64 F1,.int .u64 L1,.int .u64 R1,.int .u64 F2,.int .u64 L2,.int .u64 R2,.int .u64 F3,.int .u64 L3,.int .u64 R3,.int .i64 i4,.int .i64 i5]
   have ho2:=owns_laterH ho1 hb2
   have hw2:=hw1.trans (hb2.mono hw1.size)
   have hvlt:=fun k hk=>(ho1.lt k hk).2
   have hx1:=hX.lt
   go_upto_region 3 with fail
   generalize w1.alloc (.cells #[.int .i64 i1,.int .i64 pa,.bool i3,.int .u64 F1,.int .u64 L1,.int .u64 R1,.int .u64 F2,.int .u64 L2,.int .u64 R2,.int .u64 F3,.int .u64 L3,.int .u64 R3,.int .i64 i4,.int .i64 i5] 32)=w2 at hX ho2 hw2 hx1 ⊢
   have hb3:=(Below.refl w2.heap.size w2).alloc (Nat.le_refl _) (.cells #[.int .i64 id] 3)
   have k2:=Blk.new w2 3 #[.int .i64 id]
   have hX3:=hX.below hb3 hX.lt
   have ho3:=owns_laterH ho2 hb3
   have hw3:=hw2.trans (hb3.mono hw2.size)
   have hAl:([]:List Int).length≤8:=by
    have h8:=pathF_le M 8 id
    have hA:=congrArg List.length HS.out.2.2
    unfold pathM at hA
    simp only [List.length_append,List.length_nil] at hA ⊢
    omega
   obtain⟨v',w',hr,ho',hg⟩:=app_one 51 (A:=[]) (k2.cell 0) ho3 hw3.size (by omega)
   have hX4:=hX3.grown hg (fun e=>by have:=hvlt _ e.symm;omega)
   have k1:=hX4.cell 1
   simp only [lTA,lCZ,lCS] at k1
   have hw4:=hw3.grown hg hw3.size fun k hk=>(ho3.lt k hk).1
   have HF:=Lib.hid (And.intro ho' hw4)
   clear hw1 ho1 hb2 hb1 hX ho2 hw2 hvlt hb3 k2 hX3 ho3 hw3 hAl ho' hg hX4 hw4 hx1
   go_wp2_with (at_builtin;refine wpList_append_runH rfl _ _ _ rfl _ _ _ rfl rfl hr ?_;clear hr)
   go_step3
   change _∧PathJ w g M id _ _
   refine⟨rfl,?_⟩
   unfold PathJ
   refine⟨[] ++ [id],pa,v',_,_,_,_,_,_,_,_,_,_,_,_,_,_,_,_,_,_,rfl,HF.out.2,HF.out.1,?_,HP.out.2.2⟩
   rw [HP.out.1];rfl
 ·rintro a' w' ⟨A,cur,v,u2,u3,u6,u7,u8,u9,u10,u11,u12,u13,u14,u15,u16,u17,u18,u19,u20,u21,rfl,hbc,hoc,hac,hcc⟩
  have hget:=tget_any cur base g ma mu U M w' hcc (H.out.later hbc)
  unfold GetW getS spV spC at hget
  have HS:=Lib.hid (And.intro hbc (And.intro hoc hac))
  clear hbc hoc hac
  cases e:lookM M cur with
  | none =>
   rw [e] at hget
   unfold cl0 sp0 at hget
   dsimp only [Option.getD,Option.isSome] at hget
   have HE:=Lib.hid e
   clear e
   go_wp2_with fail
   refine hget.mono ?_
   clear hget
   rintro e w1 ⟨rfl,hb1⟩
   have hw1:=HS.out.1.trans (hb1.mono HS.out.1.size)
   have ho1:=owns_laterH HS.out.2.1 hb1
   have hb2:=(Below.refl w1.heap.size w1).alloc (Nat.le_refl _) (.cells #[.int .i64 0,.int .i64 0,.bool false,.int .u64 0,.int .u64 0,.int .u64 0,.int .u64 0,.int .u64 0,.int .u64 0,.int .u64 0,.int .u64 0,.int .u64 0,.int .i64 0,.int .i64 0] 32)
   have HF:=Lib.hid (And.intro (owns_laterH ho1 hb2) (hw1.trans (hb2.mono hw1.size)))
   clear hw1 ho1 hb2 hb1
   go_wp2_with fail
   simp only [Exit.jump]
   go_ret
   have hA:=HS.out.2.2
   have hz:pathM M cur=[]:=pathF_none HE.out 8
   rw [hz,List.append_nil] at hA;exact⟨_,rfl,by rw [← hA];exact HF.out.1,HF.out.2⟩
  | some c =>
   have HP:=Lib.hid (And.intro (H.out.inv.path_step e) (And.intro (H.out.inv.dep_lt e) (H.out.inv.pa_wf e)))
   rw [e] at hget
   obtain⟨⟨i1,pa,i3,⟨F1,L1,R1⟩,⟨F2,L2,R2⟩,⟨F3,L3,R3⟩,i4,i5⟩,d⟩:=c
   dsimp only [Option.getD,Option.isSome] at hget HP
   clear e
   go_wp2_with fail
   refine hget.mono ?_
   clear hget
   rintro e w1 ⟨rfl,hb1⟩
   have hw1:=HS.out.1.trans (hb1.mono HS.out.1.size)
   have ho1:=owns_laterH HS.out.2.1 hb1
   have hb2:=(Below.refl w1.heap.size w1).alloc (Nat.le_refl _) (.cells #[.int .i64 i1,.int .i64 pa,.bool i3,.int .u64 F1,.int .u64 L1,.int .u64 R1,.int .u64 F2,.int .u64 L2,.int .u64 R2,.int .u64 F3,.int .u64 L3,.int .u64 R3,.int .i64 i4,.int .i64 i5] 32)
   have hX:=Blk.new w1 32 #[.int .i64 i1,.int .i64 pa,.bool i3,.int .u64 F1,.int .u64 L1,.int .u64 R1,.int .u64 F2,.int .u64 L2,.int .u64 R2,.int .u64 F3,.int .u64 L3,.int .u64 R3,.int .i64 i4,.int .i64 i5]
   have ho2:=owns_laterH ho1 hb2
   have hw2:=hw1.trans (hb2.mono hw1.size)
   have hvlt:=fun k hk=>(ho1.lt k hk).2
   have hx1:=hX.lt
   go_upto_region 3 with fail
   generalize w1.alloc (.cells #[.int .i64 i1,.int .i64 pa,.bool i3,.int .u64 F1,.int .u64 L1,.int .u64 R1,.int .u64 F2,.int .u64 L2,.int .u64 R2,.int .u64 F3,.int .u64 L3,.int .u64 R3,.int .i64 i4,.int .i64 i5] 32)=w2 at hX ho2 hw2 hx1 ⊢
   have hb3:=(Below.refl w2.heap.size w2).alloc (Nat.le_refl _) (.cells #[.int .i64 cur] 3)
   have k2:=Blk.new w2 3 #[.int .i64 cur]
   have hX3:=hX.below hb3 hX.lt
   have ho3:=owns_laterH ho2 hb3
   have hw3:=hw2.trans (hb3.mono hw2.size)
   have hAl:A.length≤8:=by
    have h8:=pathF_le M 8 id
    have hA:=congrArg List.length HS.out.2.2
    unfold pathM at hA
    simp only [List.length_append,List.length_nil] at hA ⊢
    omega
   obtain⟨v'',w'',hr,ho',hg⟩:=app_one 51 (A:=A) (k2.cell 0) ho3 hw3.size (by omega)
   have hX4:=hX3.grown hg (fun e=>by have:=hvlt _ e.symm;omega)
   have k1:=hX4.cell 1
   simp only [lTA,lCZ,lCS] at k1
   have hw4:=hw3.grown hg hw3.size fun k hk=>(ho3.lt k hk).1
   have HF:=Lib.hid (And.intro ho' hw4)
   clear hw1 ho1 hb2 hb1 hX ho2 hw2 hvlt hb3 k2 hX3 ho3 hw3 hAl ho' hg hX4 hw4 hx1
   go_wp2_with (at_builtin;refine wpList_append_runH rfl _ _ _ rfl _ _ _ rfl rfl hr ?_;clear hr)
   go_step3
   change _∧(PathJ w g M id _ _∧_)
   refine⟨rfl,?_,?_⟩
   unfold PathJ
   refine⟨A ++ [cur],pa,v'',_,_,_,_,_,_,_,_,_,_,_,_,_,_,_,_,_,_,rfl,HF.out.2,HF.out.1,?_,HP.out.2.2⟩
   ·rw [← HS.out.2.2,HP.out.1,List.append_assoc];rfl
   ·exact HP.out.2.1
end
end Go.Proofs.YtmmeopjemkjllaaGreat
