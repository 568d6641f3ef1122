/- Lemmas of the claim. No conditions beyond those that each states. -/
import Derived.Test.YtmmeopjemkjllaaGreatPT6
set_option linter.unusedVariables false
set_option linter.unusedSimpArgs false
set_option maxRecDepth 100000
set_option maxHeartbeats 8000000
namespace Go.Proofs.YtmmeopjemkjllaaGreat
section
section
variable {ow : Option Rn → Int → Int} {rc : Rn → Int → Int} {dp : Int → Nat}
structure OneT (P Q:Pk)(id:Int):Prop where
 back:∀ j c',j≠id→lookM Q j=some c'→∃ c,lookM P j=some c∧c'.pa=c.pa∧c'.lf=c.lf∧c'.sh=c.sh∧c'.tr=c.tr∧c'.tot=c.tot∧c'.lim=c.lim
 fwd:∀ j c,j≠id→lookM P j=some c→∃ c',lookM Q j=some c'∧c'.pa=c.pa∧c'.lf=c.lf∧c'.sh=c.sh∧c'.tr=c.tr
 mem:∀ j,0 < j→j≠id→memP Q j=memP P j
 keys:∀ q j,j≠id→kf Q q j=true→kf P q j=true
theorem PAll.one {P Q:Pk} {wt:Int→Bool} (h:PAll ow dp P wt) {id:Int} (hid:0 < id)(hT:OneT P Q id)(hris:Rising Q)(haw0:awP P id=false)(haw:awP Q id=false)
  (hsome:lookM Q id=none→∀ k,paP P k=some id→k=0∨k=id)
  (hself:∀ c',lookM Q id=some c'→∃ c,lookM P id=some c∧c'.pa=c.pa∧c'.lf=c.lf∧c'.tr=c.tr∧(c'.lf=true→c'.sh=true→wt id=false)∧(c'.lf=false→c'.sh=true)∧(memP Q id).isSome=c'.sh)
  (hkf:∀ q,kf Q q id=true→paP Q id=some q):PAll ow dp Q wt:=by
 have hpa:∀ j,j≠id→paP Q j=paP P j:=fun j hj=>by
  cases hc:lookM P j with
  | none =>
   cases hq:lookM Q j with
   | none=>unfold paP;rw [hc,hq]
   | some c'=>obtain⟨c,h1,_⟩:=hT.back j c' hj hq;rw [hc] at h1;cases h1
  | some c =>
   obtain⟨c',h1,h2,_⟩:=hT.fwd j c hj hc
   rw [paP_of h1,paP_of hc,h2]
 have hawj:∀ j,j≠id→awP Q j=awP P j:=fun j hj=>by
  by_cases h0:0 < j
  ·exact awP_congr (hT.mem j h0 hj)
  ·unfold awP;rw [decide_eq_false h0];rfl
 have hv:∀ j,j≠id→vP Q j=vP P j:=fun j hj=>by
  by_cases h0:0 < j
  ·exact vP_congr (hT.mem j h0 hj)
  ·unfold vP;rw [if_neg h0,if_neg h0]
 -- every class that is there was there,with its parent
 have hb:∀ j c',lookM Q j=some c'→∃ c,lookM P j=some c∧c'.pa=c.pa∧c'.lf=c.lf∧c'.tr=c.tr:=fun j c' hj=>by
  by_cases e:j=id
  ·subst e
   obtain⟨c,h1,h2,h3,h4,_⟩:=hself c' hj
   exact⟨c,h1,h2,h3,h4⟩
  ·obtain⟨c,h1,h2,h3,_,h4,_⟩:=hT.back j c' e hj
   exact⟨c,h1,h2,h3,h4⟩
 have hpar:∀ j c',lookM Q j=some c'→j≠0→∃ p',lookM Q c'.pa=some p'∧∃ p,lookM P c'.pa=some p∧p'.lf=p.lf∧p'.tr=p.tr∧p.lf=false∧dp j=dp c'.pa+1:=fun j c' hj h0=>by
  obtain⟨c,hc,h1,_⟩:=hb j c' hj
  obtain⟨p,hp,hpl,hpd⟩:=h.wf.par j c hc h0
  rw [h1]
  by_cases e:c.pa=id
  ·cases hq:lookM Q id with
   | none =>
    rcases hsome hq j (by rw [paP_of hc,e]) with k | k
    ·exact absurd k h0
    ·rw [k] at hj;rw [hq] at hj;cases hj
   | some p' =>
    obtain⟨p0,k1,_,k2,k3,_⟩:=hself p' hq
    rw [e] at hp ⊢
    rw [hp] at k1
    cases k1
    rw [e] at hpd
    exact⟨p',hq,p,hp,k2,k3,hpl,hpd⟩
  ·obtain⟨p',k1,_,k2,_,k3⟩:=hT.fwd c.pa p e hp
   exact⟨p',k1,p,hp,k2,k3,hpl,hpd⟩
 have hlfQ:∀ j,(lookM Q j).isSome=true→lfP Q j=lfP P j∧(lookM P j).isSome=true:=fun j hs=>by
  obtain⟨c',hc'⟩:=Option.isSome_iff_exists.1 hs
  obtain⟨c,hc,_,h2,_⟩:=hb j c' hc'
  exact⟨by rw [lfP_of hc',lfP_of hc,h2],by rw [hc];rfl⟩
 have hshQ:∀ j,j≠id→(lookM Q j).isSome=true→shP Q j=shP P j:=fun j hj hs=>by
  obtain⟨c',hc'⟩:=Option.isSome_iff_exists.1 hs
  obtain⟨c,hc,_,_,h2,_⟩:=hT.back j c' hj hc'
  rw [shP_of hc',shP_of hc,h2]
 have hpaQ:∀ k q,paP Q k=some q→paP P k=some q:=fun k q hk=>by
  obtain⟨c',hc',hq⟩:=paP_some hk
  obtain⟨c,hc,h1,_⟩:=hb k c' hc'
  rw [paP_of hc,← h1,hq]
 -- nobody's tree has it
 have hnot:∀ q p,lookM P q=some p→∀ e∈p.tr,e.1.2≠id:=fun q p hp e he heq=>by
  obtain⟨k1,k2⟩:=h.wf.kids q p e hp he
  obtain⟨c,hc,hcp⟩:=paP_some k2
  rw [heq] at hc
  have:=h.noted id c p hid (fun h=>h) hc (by rw [heq] at k2;rw [paP_of hc] at k2;rw [Option.some.inj k2];exact hp)
  rw [haw0] at this
  exact getE_none.1 this e he heq
 refine⟨⟨⟨hris,?_,fun j c' hj h0=>?_,fun j c' hj=>?_,fun j c' hj=>?_,fun j c' e hj he=>?_⟩,fun j c' p' hj0 _ hj hpj=>?_,⟨fun j hj hs hf=>?_,fun j hj hs hf=>?_,fun j hj hs hf=>?_,fun j hj hs=>?_⟩⟩,fun q j hk=>?_⟩
 ·obtain⟨r,hr,hl⟩:=h.wf.root
  obtain⟨r',h1,_,h2,_⟩:=hT.fwd 0 r (by omega) hr
  exact⟨r',h1,h2.trans hl⟩
 ·obtain⟨p',h1,p,_,h2,_,h3,h4⟩:=hpar j c' hj h0
  exact⟨p',h1,h2.trans h3,h4⟩
 ·obtain⟨c,hc,_⟩:=hb j c' hj
  exact h.wf.pos j c hc
 ·obtain⟨c,hc,_,_,h1⟩:=hb j c' hj
  rw [h1]
  exact h.wf.inv j c hc
 ·obtain⟨c,hc,_,_,h1⟩:=hb j c' hj
  rw [h1] at he
  obtain⟨k1,k2⟩:=h.wf.kids j c e hc he
  exact⟨k1,by rw [hpa _ (hnot j c hc e he)];exact k2⟩
 ·obtain⟨p2,h1,p,h2,_,h3,_⟩:=hpar j c' hj (by omega)
  rw [hpj] at h1
  cases h1
  by_cases e:j=id
  ·subst e
   rw [haw,h3]
   exact getE_none.2 (hnot _ _ h2)
  ·obtain⟨c,hc,k1,k2,_,k4,k5,k6⟩:=hT.back j c' e hj
   rw [h3,hawj j e,hv j e,show fitC ow c'=fitC ow c by unfold fitC;rw [k2,k4,k5,k6]]
   exact h.noted j c p hj0 (fun h=>h) hc (by rw [← k1];exact h2)
 ·obtain⟨h1,h2⟩:=hlfQ j hs
  rw [h1] at hf
  by_cases e:j=id
  ·subst e
   obtain⟨c',hc'⟩:=Option.isSome_iff_exists.1 hs
   obtain⟨c,hc,_,k2,_,k3,_⟩:=hself c' hc'
   rw [haw,shP_of hc']
   cases hsh:c'.sh with
   | false=>rfl
   | true =>
    rw [lfP_of hc] at hf
    rw [k3 (k2.trans hf) hsh];rfl
  ·rw [hawj j e,hshQ j e hs]
   exact h.awk.leaf j hj h2 hf
 ·obtain⟨h1,h2⟩:=hlfQ j hs
  rw [h1] at hf
  by_cases e:j=id
  ·subst e
   rw [haw]
   constructor
   ·intro h;cases h
   ·rintro ⟨k,hk,ha⟩
    have hk0:=awP_pos ha
    have hkj:k≠j:=fun e=>by rw [e,haw] at ha;cases ha
    rw [hawj k hkj] at ha
    have:=(h.awk.inner j hj h2 hf).2 ⟨k,hpaQ k j hk,ha⟩
    rw [haw0] at this
    cases this
  ·rw [hawj j e,h.awk.inner j hj h2 hf]
   constructor
   ·rintro ⟨k,hk,ha⟩
    have hki:k≠id:=fun e2=>by rw [e2,haw0] at ha;cases ha
    exact⟨k,by rw [hpa k hki];exact hk,by rw [hawj k hki];exact ha⟩
   ·rintro ⟨k,hk,ha⟩
    have hki:k≠id:=fun e2=>by rw [e2,haw] at ha;cases ha
    exact⟨k,by rw [← hpa k hki];exact hk,by rw [← hawj k hki];exact ha⟩
 ·obtain⟨h1,h2⟩:=hlfQ j hs
  by_cases e:j=id
  ·subst e
   obtain⟨c',hc'⟩:=Option.isSome_iff_exists.1 hs
   obtain⟨c,hc,_,_,_,_,k3,_⟩:=hself c' hc'
   rw [lfP_of hc'] at hf
   rw [shP_of hc']
   exact k3 hf
  ·rw [h1] at hf
   rw [hshQ j e hs]
   exact h.awk.innersh j hj h2 hf
 ·by_cases e:j=id
  ·subst e
   obtain⟨c',hc'⟩:=Option.isSome_iff_exists.1 hs
   obtain⟨c,hc,_,_,_,_,_,k3⟩:=hself c' hc'
   rw [shP_of hc',k3]
  ·rw [hT.mem j hj e,hshQ j e hs]
   exact h.awk.mems j hj (hlfQ j hs).2
 ·by_cases e:j=id
  ·subst e
   exact⟨hid,hkf q hk⟩
  ·obtain⟨h1,h2⟩:=h.fams q j (hT.keys q j e hk)
   exact⟨h1,by rw [hpa j e];exact h2⟩
theorem look_del {P:Pk} (id j:Int):lookM (delM P id) j=if j=id then none else lookM P j:=by
 by_cases e:j=id
 ·subst e;rw [if_pos rfl];exact look_del_same _ _
 ·rw [if_neg e];exact look_del_other e _
theorem drop_look {P:Pk} {id pa:Int} {p:Cls} (hp:lookM P pa=some p)(j:Int):lookM (dropP P id pa) j=if j=id then none else if j=pa then some { p with fam:=outF id p.fam,un:=p.un - 1 } else lookM P j:=by
 unfold dropP
 rw [look_del,look_upd,hp]
 rfl
theorem drop_inv {P:Pk} {wt:Int→Bool} (h:PAll ow dp P wt) {id:Int} {c p:Cls} (hid:0 < id)(hc:lookM P id=some c)(hp:lookM P c.pa=some p)(haw:awP P id=false)(hno:∀ k,paP P k=some id→k=0∨k=id):PAll ow dp (dropP P id c.pa) wt:=by
 have hlook:=drop_look (id:=id) hp
 have hne:c.pa≠id:=fun e=>by
  obtain⟨q,_,_,hd⟩:=h.wf.par id c hc (by omega)
  rw [e] at hd;omega
 have hris:Rising (dropP P id c.pa):=rising_del (rising_upd h.wf.rise _ _) _
 generalize dropP P id c.pa=Q at hlook hris
 have hself:lookM Q id=none:=by rw [hlook,if_pos rfl]
 have hkeys:∀ q j,kf Q q j=true→kf P q j=true∧(q=c.pa→j≠id):=fun q j hk=>by
  have hq:=hlook q
  by_cases e:q=id
  ·rw [if_pos e] at hq
   unfold kf famP at hk
   rw [hq] at hk;cases hk
  ·rw [if_neg e] at hq
   by_cases e2:q=c.pa
   ·rw [if_pos e2] at hq
    rw [kf_of hq] at hk
    dsimp only at hk
    rw [e2,kf_of hp]
    by_cases e3:j=id
    ·subst e3
     unfold outF at hk
     dsimp only at hk
     rw [look_del_same] at hk
     cases hk
    ·rw [only_out id _ j e3] at hk
     exact⟨hk,fun _=>e3⟩
   ·rw [if_neg e2] at hq
    unfold kf famP at hk ⊢
    rw [hq] at hk
    exact⟨hk,fun h=>absurd h e2⟩
 refine h.one hid ⟨fun j c' hj hc'=>?_,fun j c0 hj hc0=>?_,fun j hj0 hj=>?_,fun q j _ hk=>(hkeys q j hk).1⟩ hris haw ?_ (fun _=>hno) (fun c' hc'=>by rw [hself] at hc';cases hc') fun q hk=>?_
 ·rw [hlook,if_neg hj] at hc'
  by_cases e2:j=c.pa
  ·rw [if_pos e2] at hc'
   cases hc'
   exact⟨p,by rw [e2];exact hp,rfl,rfl,rfl,rfl,rfl,rfl⟩
  ·rw [if_neg e2] at hc'
   exact⟨c',hc',rfl,rfl,rfl,rfl,rfl,rfl⟩
 ·rw [hlook,if_neg hj]
  by_cases e2:j=c.pa
  ·rw [if_pos e2]
   rw [e2,hp] at hc0
   cases hc0
   exact⟨_,rfl,rfl,rfl,rfl,rfl⟩
  ·rw [if_neg e2]
   exact⟨c0,hc0,rfl,rfl,rfl,rfl⟩
 ·have hpaj:paP Q j=paP P j:=by
   unfold paP
   rw [hlook,if_neg hj]
   by_cases e2:j=c.pa
   ·rw [if_pos e2,e2,hp];rfl
   ·rw [if_neg e2]
  refine memP_congr hpaj fun q hq=>?_
  have hqid:q≠id:=fun e=>by
   rw [e] at hq
   rcases hno j hq with k | k
   ·omega
   ·exact hj k
  unfold famP
  rw [hlook,if_neg hqid]
  by_cases e2:q=c.pa
  ·rw [if_pos e2,e2,hp]
   exact only_out id p.fam j hj
  ·rw [if_neg e2]
 ·unfold awP memP paP
  rw [hself];simp
 ·obtain⟨h1,h2⟩:=hkeys q id hk
  obtain⟨_,h3⟩:=h.fams q id h1
  rw [paP_of hc] at h3
  exact absurd rfl (h2 (Option.some.inj h3).symm)
theorem renew_look {P:Pk} {id:Int} {c p:Cls} {sh:Bool} {share:Int × Int × Int} {lim:Option Rn} (hc:lookM P id=some c)(hp:lookM P c.pa=some p)(hne:c.pa≠id)(j:Int) :
  lookM (renewP P id c.pa sh share lim) j=if j=id then some { c with sh:=sh,tot:=0,lim:=lim } else if j=c.pa then some { p with fam:=if sh=true then addF id share (outF id p.fam) else outF id p.fam } else lookM P j:=by
 unfold renewP
 rw [look_upd]
 by_cases e:j=id
 ·rw [if_pos e,if_pos e,look_upd,if_neg (fun h=>hne h.symm),hc];rfl
 ·rw [if_neg e,if_neg e,look_upd,hp];rfl
theorem renew_inv {P:Pk} {wt:Int→Bool} (h:PAll ow dp P wt) {id:Int} {c p:Cls} {sh:Bool} {share:Int × Int × Int} {lim:Option Rn} (hid:0 < id)(hc:lookM P id=some c)(hp:lookM P c.pa=some p)(haw:awP P id=false)(hw:c.lf=true→sh=true→wt id=false)(hs:c.lf=false→sh=true):PAll ow dp (renewP P id c.pa sh share lim) wt:=by
 have hne:c.pa≠id:=fun e=>by
  obtain⟨q,_,_,hd⟩:=h.wf.par id c hc (by omega)
  rw [e] at hd;omega
 have hlook:=renew_look (sh:=sh) (share:=share) (lim:=lim) hc hp hne
 have hris:Rising (renewP P id c.pa sh share lim):=rising_upd (rising_upd h.wf.rise _ _) _ _
 generalize renewP P id c.pa sh share lim=Q at hlook hris
 have hself:lookM Q id=some { c with sh:=sh,tot:=0,lim:=lim }:=by rw [hlook,if_pos rfl]
 have hpaf:lookM Q c.pa=some { p with fam:=if sh=true then addF id share (outF id p.fam) else outF id p.fam }:=by rw [hlook,if_neg hne,if_pos rfl]
 have hmid:memP Q id=if sh=true then some (mem0 share) else none:=by
  rw [memP_is hself hpaf]
  show lookM (if sh=true then addF id share (outF id p.fam) else outF id p.fam).m id=_
  by_cases e:sh=true
  ·rw [if_pos e,if_pos e];exact look_put_same _ _ _
  ·rw [if_neg e,if_neg e];exact look_del_same _ _
 have hfar:∀ j,j≠id→lookM (if sh=true then addF id share (outF id p.fam) else outF id p.fam).m j=lookM p.fam.m j:=fun j hj=>by
  by_cases e:sh=true
  ·rw [if_pos e,only_add id share _ j hj,only_out id _ j hj]
  ·rw [if_neg e,only_out id _ j hj]
 refine h.one hid ⟨fun j c' hj hc'=>?_,fun j c0 hj hc0=>?_,fun j hj0 hj=>?_,fun q j hj hk=>?_⟩ hris haw ?_ (fun hn=>by rw [hself] at hn;cases hn) (fun c' hc'=>?_) fun q hk=>?_
 ·rw [hlook,if_neg hj] at hc'
  by_cases e2:j=c.pa
  ·rw [if_pos e2] at hc'
   cases hc'
   exact⟨p,by rw [e2];exact hp,rfl,rfl,rfl,rfl,rfl,rfl⟩
  ·rw [if_neg e2] at hc'
   exact⟨c',hc',rfl,rfl,rfl,rfl,rfl,rfl⟩
 ·rw [hlook,if_neg hj]
  by_cases e2:j=c.pa
  ·rw [if_pos e2]
   rw [e2,hp] at hc0
   cases hc0
   exact⟨_,rfl,rfl,rfl,rfl,rfl⟩
  ·rw [if_neg e2]
   exact⟨c0,hc0,rfl,rfl,rfl,rfl⟩
 ·have hpaj:paP Q j=paP P j:=by
   unfold paP
   rw [hlook,if_neg hj]
   by_cases e2:j=c.pa
   ·rw [if_pos e2,e2,hp];rfl
   ·rw [if_neg e2]
  refine memP_congr hpaj fun q hq=>?_
  unfold famP
  rw [hlook]
  by_cases e:q=id
  ·rw [if_pos e,e,hc];rfl
  ·rw [if_neg e]
   by_cases e2:q=c.pa
   ·rw [if_pos e2,e2,hp]
    exact hfar j hj
   ·rw [if_neg e2]
 ·have hq:=hlook q
  unfold kf famP at hk ⊢
  rw [hq] at hk
  by_cases e:q=id
  ·rw [if_pos e] at hk
   rw [e,hc];exact hk
  ·rw [if_neg e] at hk
   by_cases e2:q=c.pa
   ·rw [if_pos e2] at hk
    rw [e2,hp]
    have hk:(lookM (if sh=true then addF id share (outF id p.fam) else outF id p.fam).m j).isSome=true:=hk
    rw [hfar j hj] at hk
    exact hk
   ·rw [if_neg e2] at hk
    exact hk
 ·unfold awP
  rw [hmid]
  by_cases e:sh=true
  ·rw [if_pos e];simp [mem0]
  ·rw [if_neg e];simp
 ·rw [hself] at hc'
  cases hc'
  refine⟨c,hc,rfl,rfl,rfl,hw,hs,?_⟩
  rw [hmid]
  show (if sh=true then _ else _:Option Mem).isSome=sh
  cases sh <;> rfl
 ·have hq:=hlook q
  rw [paP_of hself]
  show some c.pa=some q
  by_cases e:q=id
  ·unfold kf famP at hk
   rw [hq,if_pos e] at hk
   have h1:kf P id id=true:=by rw [kf_of hc];exact hk
   obtain⟨_,h2⟩:=h.fams id id h1
   rw [paP_of hc] at h2
   exact absurd (Option.some.inj h2) hne
  ·by_cases e2:q=c.pa
   ·rw [e2]
   ·unfold kf famP at hk
    rw [hq,if_neg e,if_neg e2] at hk
    obtain⟨_,h2⟩:=h.fams q id hk
    rw [paP_of hc] at h2
    exact h2
end
end
end Go.Proofs.YtmmeopjemkjllaaGreat
