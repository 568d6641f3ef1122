/- Lemmas of the claim. No conditions beyond those that each states. -/
import Derived.Test.YtmmeopjemkjllaaGreatPU41
import Derived.Deep.Cut
set_option linter.unusedVariables false
set_option linter.unusedSimpArgs false
set_option maxRecDepth 100000
set_option maxHeartbeats 8000000
namespace Go.Proofs.YtmmeopjemkjllaaGreat
section
open Go.RowKit Go.Maps
attribute [local go_sem ↓] Go.wp_at_zero Go.wp_at_succ
attribute [local go_sem] quietR quietAtR quietUponR midAt midUpon
section
variable {W : World} {k fl : Nat} {v : Value} {D : List DC} {F : Fam}
theorem pdwake_no {i:Nat} {e:DC} (now:Int)(h1:1≤i)(he:D[i]?=some e)(hF:FlatD D fl)(hsh:noneB e.s.s=true) :
  Acts (fun r=>r=.returned (.tuple #[])) (PdX k v fl D F) (PdX k v fl D F) 12 #[.pointer (some ⟨k,0,none⟩),.int .i64 i,.int .u64 now] Tryz.prog W:=fun A h=>by
 have hi:=(List.getElem?_eq_some_iff.1 he).1
 have hat:=pdat_any (i:Int) h hF
 rw [posD_at hi rfl] at hat
 have hlf:=hF.lf i e he (by omega)
 have hs:e.s.s=(0,0,0):=of_decide_eq_true hsh
 obtain⟨g,cap,rfl,hcap,hg,d0,hrg⟩:=h.at_ he
 have k2:W.cell? ⟨g,i*17+2,none⟩=some (.bool true):=by rw [← hlf];exact hrg 2 _ rfl
 have k6:W.cell? ⟨g,i*17+6,none⟩=some (.int .u64 e.s.s.1):=hrg 6 _ rfl
 have k7:W.cell? ⟨g,i*17+7,none⟩=some (.int .u64 e.s.s.2.1):=hrg 7 _ rfl
 have k8:W.cell? ⟨g,i*17+8,none⟩=some (.int .u64 e.s.s.2.2):=hrg 8 _ rfl
 rw [hs] at k6 k7 k8
 dsimp only at k6 k7 k8
 have H:=Lib.hid h
 have hi1:¬ (i:Int) < 1:=by omega
 have hi0:¬ (i:Int) < 0:=by omega
 have hd1:decide ((i:Int) < 1)=false:=decide_eq_false hi1
 have hd0:decide ((i:Int) < 0)=false:=decide_eq_false hi0
 clear h hF hlf hrg hs hsh
 go_enter Tryz.func12,Tryz.ntmps12
 go_wp2_with (go_at_call 38;refine hat.mono ?_;rintro r w1 ⟨rfl,rfl⟩;clear hat)
 all_goals (go_returns;exact⟨rfl,A,H.out,Went.refl _ _⟩)
end
def HalfO (kp kd n m:Nat)(s:Sp):Ob:=fun W S=>∃ P wt D F v fl,FlatR n P wt D F fl∧D.length=m∧(∀ j:Int,(m:Int)≤j→wt j=false)∧Star (PkO kp (putP P s.id s.pa s.lf (shB s) s.s (limN s.u))) (PdX kd v fl D F) W S
def HalfW (kp kd n m:Nat)(now:Int):Ob:=fun W S=>∃ P wt D F v fl,FlatR n P wt D F fl∧D.length=m+1∧(∀ j:Int,(m:Int)≤j→wt j=false)∧Star (PkO kp (wakeP owL now m [(m:Int)] P)) (PdX kd v fl D F) W S
def HalfS (kp kd n m b:Nat)(i:Nat)(g:Int)(more:Bool):Ob:=fun W S=>∃ P wt D F v fl,FlatR n P wt D F fl∧D.length=m∧(∀ j:Int,(b:Int)≤j→wt j=false)∧awP P i=true∧Star (PkO kp (sentP owL reachR i g more [(i:Int)] P)) (PdX kd v fl D F) W S
section
variable {W : World} {kp kd n m b : Nat} {P Q : Pk} {wt : Int → Bool} {D : List DC} {F : Fam} {fl : Nat}
theorem good_half {s:Sp}:Good (HalfO kp kd n m s) :=
 ⟨fun ⟨P,wt,D,F,v,fl,_,_,_,h⟩=>((good_pk _ _).star (good_pdX _ _ _ _ _)).lt h,fun ⟨P,wt,D,F,v,fl,h1,h2,h3,h⟩ hs hk=>⟨P,wt,D,F,v,fl,h1,h2,h3,((good_pk _ _).star (good_pdX _ _ _ _ _)).kept h hs hk⟩⟩
theorem FlatR.new (h:FlatR n P wt D F fl) {id:Int} (hid:(D.length:Int)≤id):(∀ q∈F.m,q.1 < id)∧lookM F.m id=none∧lookM P id=none:=by
 have h1:∀ q∈F.m,q.1 < id:=fun q hq=>by
  obtain⟨_,i,hi,hlt,_⟩:=posD_is (h.mem q hq)
  omega
 refine⟨h1,look_none.2 fun q hq e=>by have:=h1 q hq;omega,?_⟩
 have:=h.is id
 rw [decide_eq_false (show ¬ id < (D.length:Int) by omega),Bool.and_false] at this
 cases e:lookM P id with
 | none=>rfl
 | some c=>rw [e] at this;cases this
theorem put1_acts (s:Sp)(hw:WfSp s)(h1:1≤m)(hid:s.id=(m:Int))(hpa:s.pa=0)(hn:n < 900) :
  Acts (fun e=>e=.returned (.bool true)) (TwoO kp kd n m m) (HalfO kp kd n m s) 9 #[.pointer (some ⟨kp,0,none⟩),spV s] Tryz.prog W:=fun A ⟨P,wt,D,F,v,fl,hR,hm,hb,hst⟩=>by
 obtain⟨c0,hc0,hf0,hl0⟩:=hR.c0
 obtain⟨_,hfn,hpn⟩:=hR.new (id:=s.id) (by omega)
 refine ((Sx.start hst).act (good_pk _ _) (good_pdX _ _ _ _ _) (Acts.pkO fun mb ps=>pput_any s hw (hR.pg (by omega)) (by omega) hpn (by rw [hpa];exact hc0) hl0 (by rw [hf0];exact hfn))).mono fun e W' ⟨h1,h2⟩=>⟨h1,(h2.weak fun h=>⟨P,wt,D,F,v,fl,hR,hm,hb,h⟩).done⟩
theorem put2_acts (s:Sp)(hw:WfSp s)(h1:1≤m)(hid:s.id=(m:Int))(hpa:s.pa=0)(hlf:s.lf=true)(hn:n < 900)(hm:m < 1000) :
  Acts (fun e=>e=.returned (.bool true)) (HalfO kp kd n m s) (TwoO kp kd (n+1) (m+1) m) 10 #[.pointer (some ⟨kd,0,none⟩),spV s] Tryz.prog W:=fun A ⟨P,wt,D,F,v,fl,hR,hm',hb,hst⟩=>by
 subst hm'
 obtain⟨hfl,_,_⟩:=hR.new (id:=s.id) (by omega)
 have hl:=hR.famZ.len
 refine ((Sx.start (Star.comm hst)).act (good_pdX _ _ _ _ _) (good_pk _ _) (pdput_any s hw hid h1 hpa hR.fd hfl (by omega))).mono fun e W' ⟨h1,h2⟩=>⟨h1,(h2.weak fun h=>?_).done⟩
 obtain⟨A,B,hd,hs,⟨v',q,f,hx⟩,hp⟩:=h
 obtain⟨hR2,_⟩:=hR.put q f hid hpa hlf hm
 refine⟨_,_,_,_,v',fl,hR2,by simp,fun j hj=>?_,Star.comm ⟨A,B,hd,hs,hx,hp⟩⟩
 by_cases e:j=s.id
 ·rw [if_pos e]
 ·rw [if_neg e];exact hb j hj
theorem wake1_acts {now:Int} (hnow:U now)(h1:1≤m)(hn:n < 900) :
  Acts (fun e=>e=.returned (.tuple #[])) (TwoO kp kd n (m+1) m) (HalfW kp kd n m now) 11 #[.pointer (some ⟨kp,0,none⟩),.int .i64 m,.int .u64 now] Tryz.prog W:=fun A ⟨P,wt,D,F,v,fl,hR,hm,hb,hst⟩=>by
 have he:D[m]?=some D[m]:=List.getElem?_eq_getElem (by omega)
 obtain⟨c,hc,hlf,_⟩:=hR.leaf h1 he
 refine ((Sx.start hst).act (good_pk _ _) (good_pdX _ _ _ _ _) (Acts.pk fun mb ps=>pwake_any hR.pb hR.num (hR.up h1 he) (by simp;omega) hnow (by omega) hc hlf)).mono fun e W' ⟨h1,h2⟩=>⟨h1,(h2.weak fun h=>⟨P,wt,D,F,v,fl,hR,hm,hb,h⟩).done⟩
theorem wake2_acts {now:Int} (hnow:U now)(h1:1≤m)(hn:n < 900) :
  Acts (fun e=>e=.returned (.tuple #[])) (HalfW kp kd n m now) (TwoO kp kd (n+4) (m+1) (m+1)) 12 #[.pointer (some ⟨kd,0,none⟩),.int .i64 m,.int .u64 now] Tryz.prog W:=fun A ⟨P,wt,D,F,v,fl,hR,hm,hb,hst⟩=>by
 have he:D[m]?=some D[m]:=List.getElem?_eq_getElem (by omega)
 obtain⟨hfaw,hR2⟩:=hR.wake (now:=now) h1 he (hb m (Int.le_refl _)) hnow (by omega)
 obtain⟨c,hc,_,_,htot,hlim,_⟩:=hR.leaf h1 he
 have hZ:=hR.famZ
 have hU:U D[m].tot:=by have:=hR.tot m _ he;unfold U;omega
 have hwt:∀ j:Int,((m+1:Nat):Int)≤j→(if j=m then true else wt j)=false:=fun j hj=>by rw [if_neg (by omega)];exact hb j (by omega)
 cases hs:noneB D[m].s.s with
 | true =>
  rw [hs,if_pos rfl,if_pos rfl] at hR2
  exact ((Sx.start (Star.comm hst)).act (good_pdX _ _ _ _ _) (good_pk _ _) (pdwake_no now h1 he hR.fd hs)).mono fun e W' ⟨h1,h2⟩=>⟨h1,(h2.weak fun h=>⟨_,_,D,F,v,fl,hR2,hm,hwt,Star.comm h⟩).done⟩
 | false =>
  rw [hs,if_neg (by decide),if_neg (by decide)] at hR2
  exact ((Sx.start (Star.comm hst)).act (good_pdX _ _ _ _ _) (good_pk _ _) (pdwake_any now hnow h1 he hR.fd (hZ.famN (by omega)) hZ.rise (by have:=hZ.len;omega) hU (fun x hx=>by have:=(hR.num.lim m c x hc (by rw [hlim];exact hx)).few;omega) hfaw hs)).mono fun e W' ⟨h1,h2⟩=>⟨h1,(h2.weak fun h=>⟨_,_,_,_,v,fl,hR2,by rw [List.length_set];exact hm,hwt,Star.comm h⟩).done⟩
theorem sent1_acts {i:Nat} {g:Int} {more:Bool} (hg:U g)(h1:1≤i)(hi:i < m)(hn:n < 900) :
  ∀ A,(∃ P wt D F v fl,FlatR n P wt D F fl∧D.length=m∧(∀ j:Int,(b:Int)≤j→wt j=false)∧awP P i=true∧Star (PkO kp P) (PdX kd v fl D F) W A) →
  Calls Tryz.prog 15 #[.pointer (some ⟨kp,0,none⟩),.int .i64 i,.int .u64 g,.bool more] W fun e W'=>e=.returned (.tuple #[])∧∃ A',HalfS kp kd n m b i g more W' A'∧Went W W' A A':=fun A ⟨P,wt,D,F,v,fl,hR,hm,hb,haw,hst⟩=>by
 have he:D[i]?=some D[i]:=List.getElem?_eq_getElem (by omega)
 obtain⟨c,hc,hlf,_⟩:=hR.leaf h1 he
 refine ((Sx.start hst).act (good_pk _ _) (good_pdX _ _ _ _ _) (Acts.pk fun mb ps=>psent_any hR.pb hR.num (hR.up h1 he) (by simp;omega) hg (by omega) hc hlf)).mono fun e W' ⟨h1,h2⟩=>⟨h1,(h2.weak fun h=>⟨P,wt,D,F,v,fl,hR,hm,hb,haw,h⟩).done⟩
theorem sent2_acts {i:Nat} {g:Int} {more:Bool} (hg:U g)(h1:1≤i)(hi:i < b)(hbm:b≤m)(hn:n < 900) :
  Acts (fun e=>e=.returned (.tuple #[])) (HalfS kp kd n m b i g more) (TwoO kp kd (n+4) m b) 16 #[.pointer (some ⟨kd,0,none⟩),.int .i64 i,.int .u64 g,.bool more] Tryz.prog W:=fun A ⟨P,wt,D,F,v,fl,hR,hm,hb,haw,hst⟩=>by
 have he:D[i]?=some D[i]:=List.getElem?_eq_getElem (by omega)
 have haw2:fawF F i=true:=by
  rw [hR.aw] at haw
  exact (Bool.and_eq_true _ _ ▸ haw).2
 have hZ:=hR.famZ
 have hZ2:=famZ_gain hZ (i:Int) hg.1
 have hR2:=hR.send (more:=more) h1 he haw2 hg (by omega)
 refine ((Sx.start (Star.comm hst)).act (good_pdX _ _ _ _ _) (good_pk _ _) (pdsent_any g more hg h1 he hR.fd (hZ.famN (by omega)) hZ.rise (by have:=hZ.len;omega) (hR.tot i _ he) hZ2.rise (by have:=hZ2.len;omega) (fawF_gain g haw2))).mono fun e W' ⟨h1,h2⟩=>⟨h1,(h2.weak fun h=>⟨_,_,_,_,v,fl,hR2,by rw [List.length_set];exact hm,fun j hj=>by rw [if_neg (by omega)];exact hb j hj,Star.comm h⟩).done⟩
end
end
end Go.Proofs.YtmmeopjemkjllaaGreat
