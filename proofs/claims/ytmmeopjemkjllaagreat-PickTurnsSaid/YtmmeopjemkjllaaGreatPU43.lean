/- Lemmas of the claim. No conditions beyond those that each states. -/
import Derived.Test.YtmmeopjemkjllaaGreatPU42
set_option linter.unusedVariables false
set_option linter.unusedSimpArgs false
set_option maxRecDepth 100000
set_option maxHeartbeats 8000000
namespace Go.Proofs.YtmmeopjemkjllaaGreat
section
open Go.RowKit Go.Maps
attribute [local go_sem ↓] Go.wp_at_zero Go.wp_at_succ
attribute [local go_sem] quietR quietAtR quietUponR midAt midUpon
def CvsAt (w:World)(a:Option Addr)(len:Nat)(z:List (Int × Int × Int)):Prop :=
 z.length=len∧(∀ q∈z,U q.1∧U q.2.1∧U q.2.2)∧(len=0∨∃ b off,a=some ⟨b,off,none⟩∧b < w.heap.size∧∀ i q,z[i]?=some q→w.cell? ⟨b,off+i*3,none⟩=some (.int .u64 q.1)∧w.cell? ⟨b,off+i*3+1,none⟩=some (.int .u64 q.2.1)∧w.cell? ⟨b,off+i*3+2,none⟩=some (.int .u64 q.2.2))
def NumsAt (w:World)(a:Option Addr)(len:Nat)(z:List Int):Prop :=
 z.length=len∧(∀ q∈z,U q)∧(len=0∨∃ b off,a=some ⟨b,off,none⟩∧b < w.heap.size∧∀ i q,z[i]?=some q→w.cell? ⟨b,off+i,none⟩=some (.int .u64 q))
def NewD (k:Nat):Ob:=fun W S=>∃ v fl q,PdX k v fl [⟨sp00,0,q,fl,none⟩] fam0 W S
theorem good_newD (k:Nat):Good (NewD k):=⟨fun ⟨v,fl,q,h⟩=>(good_pdX _ _ _ _ _).lt h,fun ⟨v,fl,q,h⟩ hs hk=>⟨v,fl,q,(good_pdX _ _ _ _ _).kept h hs hk⟩⟩
theorem two_new {kp kd:Nat} {w0 W:World} {A:Nat→Prop} (h:Sx w0 A W (Star (NewD kd) (PkO kp pk0))):Sx w0 A W (TwoO kp kd 0 1 1) :=
 h.weak fun h=>by
  obtain⟨A,B,hd,hs,⟨v,fl,q,hx⟩,hp⟩:=h
  exact⟨pk0,_,_,_,v,fl,flatR_0 q fl,rfl,fun _ _=>rfl,Star.comm ⟨A,B,hd,hs,hx,hp⟩⟩
def OneO (kp kd n m b:Nat)(i:Nat):Ob:=fun W S=>∃ P wt D F v fl,FlatR n P wt D F fl∧D.length=m∧(∀ j:Int,(b:Int)≤j→wt j=false)∧awP P i=true∧Star (PkO kp P) (PdX kd v fl D F) W S
theorem good_one {kp kd n m b i:Nat}:Good (OneO kp kd n m b i) :=
 ⟨fun ⟨P,wt,D,F,v,fl,_,_,_,_,h⟩=>((good_pk _ _).star (good_pdX _ _ _ _ _)).lt h,fun ⟨P,wt,D,F,v,fl,h1,h2,h3,h4,h⟩ hs hk=>⟨P,wt,D,F,v,fl,h1,h2,h3,h4,((good_pk _ _).star (good_pdX _ _ _ _ _)).kept h hs hk⟩⟩
theorem one_sends {W:World} {kp kd n m b i:Nat} {g:Int} {more:Bool} (hg:U g)(h1:1≤i)(hi:i < m)(hn:n < 900) :
  Acts (fun e=>e=.returned (.tuple #[])) (OneO kp kd n m b i) (HalfS kp kd n m b i g more) 15 #[.pointer (some ⟨kp,0,none⟩),.int .i64 i,.int .u64 g,.bool more] Tryz.prog W:=fun A h=>sent1_acts hg h1 hi hn A h
theorem two_mono {kp kd n n' m b:Nat} {w0 W:World} {A:Nat→Prop} (hn:n≤n')(h:Sx w0 A W (TwoO kp kd n m b)):Sx w0 A W (TwoO kp kd n' m b) :=
 h.weak fun ⟨P,wt,D,F,v,fl,hR,h⟩=>⟨P,wt,D,F,v,fl,⟨hR.all,hR.flat,hR.fd,hR.num.mono hn,hR.len,hR.is,hR.root,hR.rel,hR.shr,hR.tot⟩,h⟩
theorem same_two {kp kd n m b:Nat} {w0 W:World} {A:Nat→Prop} (h:Sx w0 A W (TwoO kp kd n m b))(hn:n≤1000)(now id:Int)(hid:(Lit.int .i64 id).wf=true) :
  Calls Tryz.prog 17 #[.pointer (some ⟨kp,0,none⟩),.pointer (some ⟨kd,0,none⟩),.int .u64 now,.int .i64 id] W fun e W'=>e=.returned (.bool true)∧Below W.heap.size W W':=by
 obtain⟨S,hS,_⟩:=h
 obtain⟨g,cap,a,is,tk,aw,vv,tt,ff,hq⟩:=two_q now hS hn
 exact same_any id hid hq
theorem pickTurns_any (a0 a1 a2:Option Addr)(l0 c0 l1 c1 l2 c2:Nat)(z0 z1:List (Int × Int × Int))(z2:List Int)(w:World)(hl0:l0≤9223372036854775807)(hl1:l1≤9223372036854775807)(hl2:l2≤9223372036854775807)(h0:CvsAt w a0 l0 z0)(h1:CvsAt w a1 l1 z1)(h2:NumsAt w a2 l2 z2) :
  Calls Tryz.prog 3 #[.slice a0 l0 c0,.slice a1 l1 c1,.slice a2 l2 c2] w fun e w'=>e=.returned (.bool true)∧Below w.heap.size w w':=by
 have HZ:=Lib.hid (And.intro h0 (And.intro h1 h2))
 clear h0 h1 h2
 by_cases hA:10 < l0
 ·clear HZ
  go_enter Tryz.func3,Tryz.ntmps3
  go_wp2_with fail
  go_ret
  exact⟨rfl,Below.refl _ _⟩
 by_cases hB:60 < l2
 ·clear HZ
  go_enter Tryz.func3,Tryz.ntmps3
  go_wp2_with fail
  go_ret
  exact⟨rfl,Below.refl _ _⟩
 have hs0:Sx w (fun _=>False) w Emp:=Sx.start (P:=Emp) (fun b h=>h)
 have H0:=Lib.hid hs0
 clear hs0
 go_enter Tryz.func3,Tryz.ntmps3
 go_wp2_with (first
  | (go_at_call 7;refine (pnew_any _).mono ?_;intro e w1 hn;obtain⟨kp,rfl,hs1⟩:=Sx.new good_emp (fun q=>good_pk q _) H0.out hn;have H1:=Lib.hid hs1.comm.rest;clear hs1 hn)
  | (go_at_call 8;refine (pdnew_any _).mono ?_;intro e w2 hn;obtain⟨kd,rfl,hs2⟩:=Sx.new (Z:=NewD) (good_pk _ _) good_newD H1.out hn;have H2:=Lib.hid (two_new hs2);clear hs2 hn))
 go_loopw [9] (fun v9 wr=>∃ i:Nat,v9=.int .i64 i∧i≤l0∧Sx w (fun _=>False) wr (TwoO kp kd (5*i) (i+1) (i+1))) (fun v9 _=>(l0 - Go.RowKit.intOf v9).toNat)
 case atStart=>exact⟨0,rfl,Nat.zero_le _,H2.out⟩
 case round =>
  obtain⟨i,hv9,hi,hs⟩:=hrel
  rw [hv9]
  clear hv9
  have HS:=Lib.hid hs
  clear hs
  by_cases hlt:i < l0
  ·have hw64:wrap64 ((i:Int)+1)=(i:Int)+1:=by unfold wrap64;omega
   obtain⟨x0,hx0⟩:∃ x,z0[i]?=some x:=⟨_,List.getElem?_eq_getElem (by rw [HZ.out.1.1];exact hlt)⟩
   obtain⟨b0,o0,rfl,hb0,hc0⟩:=HZ.out.1.2.2.resolve_left (by omega)
   have hU0:=HZ.out.1.2.1 x0 (List.mem_of_getElem? hx0)
   have hbw:=(Sx.newO HS.out).1
   have k0:=(hbw.cell (p:=⟨b0,_,none⟩) hb0).trans (hc0 i x0 hx0).1
   have k1:=(hbw.cell (p:=⟨b0,_,none⟩) hb0).trans (hc0 i x0 hx0).2.1
   have k2:=(hbw.cell (p:=⟨b0,_,none⟩) hb0).trans (hc0 i x0 hx0).2.2
   obtain⟨F0,L0,R0⟩:=x0
   dsimp only at k0 k1 k2 hU0
   have HU0:=Lib.hid hU0
   clear hU0 hc0 hx0 hbw
   by_cases hi1:i < l1
   ·obtain⟨x1,hx1⟩:∃ x,z1[i]?=some x:=⟨_,List.getElem?_eq_getElem (by rw [HZ.out.2.1.1];exact hi1)⟩
    obtain⟨b1,o1,rfl,hb1,hc1⟩:=HZ.out.2.1.2.2.resolve_left (by omega)
    have hU1:=HZ.out.2.1.2.1 x1 (List.mem_of_getElem? hx1)
    have hbw:=(Sx.newO HS.out).1
    have q0:=(hbw.cell (p:=⟨b1,_,none⟩) hb1).trans (hc1 i x1 hx1).1
    have q1:=(hbw.cell (p:=⟨b1,_,none⟩) hb1).trans (hc1 i x1 hx1).2.1
    have q2:=(hbw.cell (p:=⟨b1,_,none⟩) hb1).trans (hc1 i x1 hx1).2.2
    have hbw1:b1 < wr.heap.size:=Nat.lt_of_lt_of_le hb1 hbw.size
    obtain⟨F1,L1,R1⟩:=x1
    dsimp only at q0 q1 q2 hU1
    have HU1:=Lib.hid hU1
    clear hU1 hc1 hx1 hbw
    go_upto_region 12 with fail
    obtain⟨s,hsd⟩:∃ s:Sp,s=⟨(i:Int)+1,0,true,(0,0,0),(F0,L0,R0),(F1,L1,R1),0,0⟩:=⟨_,rfl⟩
    have hs5:=HS.out.alloc good_two (spC s) 32
    have hwf:WfSp s:=by
     have w0:(Lit.int .i64 (0:Int)).wf=true:=by decide
     have wi:(Lit.int .i64 ((i:Int)+1)).wf=true:=wf_small (by omega) (by omega)
     have u0:U 0:=by unfold U;omega
     rw [hsd]
     exact⟨⟨wi,w0,w0,w0⟩,⟨u0,u0,u0⟩,HU0.out,HU1.out⟩
    have hp1:=fun W=>put1_acts (W:=W) (kp:=kp) (kd:=kd) (n:=5*i) (m:=i+1) s hwf (by omega) (by rw [hsd];rfl) (by rw [hsd]) (by omega)
    have hp2:=fun W=>put2_acts (W:=W) (kp:=kp) (kd:=kd) (n:=5*i) (m:=i+1) s hwf (by omega) (by rw [hsd];rfl) (by rw [hsd]) (by rw [hsd]) (by omega) (by omega)
    rw [show spC s=#[.int .i64 ((i:Int)+1),.int .i64 0,.bool true,.int .u64 0,.int .u64 0,.int .u64 0,.int .u64 F0,.int .u64 L0,.int .u64 R0,.int .u64 F1,.int .u64 L1,.int .u64 R1,.int .i64 0,.int .i64 0] by rw [hsd];rfl] at hs5
    rw [show spV s=.agg #[.int .i64 ((i:Int)+1),.int .i64 0,.bool true,.int .u64 0,.int .u64 0,.int .u64 0,.int .u64 F0,.int .u64 L0,.int .u64 R0,.int .u64 F1,.int .u64 L1,.int .u64 R1,.int .i64 0,.int .i64 0] by rw [hsd];rfl] at hp1 hp2
    generalize (wr.alloc _)=w5 at hs5 ⊢
    have hB5:∃ B,B=wr.heap.size:=⟨_,rfl⟩
    obtain⟨B,hB⟩:=hB5
    rw [← hB] at hs5 ⊢
    have hx5:=hs5.box
    have e0:=hx5.cell 0;have e1:=hx5.cell 1;have e2:=hx5.cell 2;have e3:=hx5.cell 3;have e4:=hx5.cell 4;have e5:=hx5.cell 5;have e6:=hx5.cell 6;have e7:=hx5.cell 7;have e8:=hx5.cell 8;have e9:=hx5.cell 9;have e10:=hx5.cell 10;have e11:=hx5.cell 11;have e12:=hx5.cell 12;have e13:=hx5.cell 13
    simp only [lTA,lCZ,lCS] at e0 e1 e2 e3 e4 e5 e6 e7 e8 e9 e10 e11 e12 e13
    have H5:=Lib.hid (hs5.later ((good_box _ _ _).star good_two) ((Below.refl _ w5).drew))
    have HP:=Lib.hid (And.intro hp1 (And.intro hp2 hsd))
    clear hs5 hp1 hp2 hx5 hsd hwf hB
    go_cut [57] from 51 to 57 (fun vc wx=>vc=.bool false∧Sx w (fun _=>False) wx (TwoO kp kd (5*i+1) (i+1+1) (i+1)))
    case first =>
     go_region_with (first
      | (go_at_call 9;refine (Sx.act good_two (good_box _ _ _) H5.out.comm (HP.out.1 _)).mono ?_;rintro e w6 ⟨rfl,hs6⟩;have H6:=Lib.hid hs6;have hx6:=hs6.comm.box;clear hs6;have e0:=hx6.cell 0;have e1:=hx6.cell 1;have e2:=hx6.cell 2;have e3:=hx6.cell 3;have e4:=hx6.cell 4;have e5:=hx6.cell 5;have e6:=hx6.cell 6;have e7:=hx6.cell 7;have e8:=hx6.cell 8;have e9:=hx6.cell 9;have e10:=hx6.cell 10;have e11:=hx6.cell 11;have e12:=hx6.cell 12;have e13:=hx6.cell 13;simp only [lTA,lCZ,lCS] at e0 e1 e2 e3 e4 e5 e6 e7 e8 e9 e10 e11 e12 e13;clear hx6)
      | (go_at_call 10;refine (Sx.act good_half (good_box _ _ _) H6.out (HP.out.2.1 _)).mono ?_;rintro e w7 ⟨rfl,hs7⟩;have H7:=Lib.hid hs7.comm.rest;clear hs7))
     all_goals (go_wp2_with fail;go_meet;exact⟨rfl,H7.out⟩)
    case rest =>
     obtain⟨hvc,hs8⟩:=hcut
     rw [hvc]
     clear hvc e0 e1 e2 e3 e4 e5 e6 e7 e8 e9 e10 e11 e12 e13
     have H8:=Lib.hid hs8
     clear hs8
     have hk1:∀ W,Acts (fun e=>e=.returned (.tuple #[])) (TwoO kp kd (5*i+1) (i+1+1) (i+1)) (HalfW kp kd (5*i+1) (i+1) 3) 11 #[.pointer (some ⟨kp,0,none⟩),.int .i64 ((i:Int)+1),.int .u64 3] Tryz.prog W:=fun W=>wake1_acts (show U 3 by unfold U;omega) (by omega) (by omega)
     have hk2:∀ W,Acts (fun e=>e=.returned (.tuple #[])) (HalfW kp kd (5*i+1) (i+1) 3) (TwoO kp kd (5*i+1+4) (i+1+1) (i+1+1)) 12 #[.pointer (some ⟨kd,0,none⟩),.int .i64 ((i:Int)+1),.int .u64 3] Tryz.prog W:=fun W=>wake2_acts (show U 3 by unfold U;omega) (by omega) (by omega)
     have HK:=Lib.hid (And.intro hk1 hk2)
     clear hk1 hk2
     go_wp2_with (first
      | (go_at_call 11;refine (Sx.act0 H8.out (HK.out.1 _)).mono ?_;rintro e w9 ⟨rfl,hs9⟩;have H9:=Lib.hid hs9;clear hs9)
      | (go_at_call 12;refine (Sx.act0 H9.out (HK.out.2 _)).mono ?_;rintro e w10 ⟨rfl,hs10⟩;have H10:=Lib.hid hs10;clear hs10))
     go_roundw
     case measure=>exact meas_to hlt rfl
     case rel=>exact⟨i+1,rfl,by omega,by rw [show 5*(i+1)=5*i+1+4 by omega];exact H10.out⟩
   ·skip
    go_upto_region 12 with fail
    obtain⟨s,hsd⟩:∃ s:Sp,s=⟨(i:Int)+1,0,true,(0,0,0),(F0,L0,R0),(0,0,0),0,0⟩:=⟨_,rfl⟩
    have hs5:=HS.out.alloc good_two (spC s) 32
    have hwf:WfSp s:=by
     have w0:(Lit.int .i64 (0:Int)).wf=true:=by decide
     have wi:(Lit.int .i64 ((i:Int)+1)).wf=true:=wf_small (by omega) (by omega)
     have u0:U 0:=by unfold U;omega
     rw [hsd]
     exact⟨⟨wi,w0,w0,w0⟩,⟨u0,u0,u0⟩,HU0.out,⟨u0,u0,u0⟩⟩
    have hp1:=fun W=>put1_acts (W:=W) (kp:=kp) (kd:=kd) (n:=5*i) (m:=i+1) s hwf (by omega) (by rw [hsd];rfl) (by rw [hsd]) (by omega)
    have hp2:=fun W=>put2_acts (W:=W) (kp:=kp) (kd:=kd) (n:=5*i) (m:=i+1) s hwf (by omega) (by rw [hsd];rfl) (by rw [hsd]) (by rw [hsd]) (by omega) (by omega)
    rw [show spC s=#[.int .i64 ((i:Int)+1),.int .i64 0,.bool true,.int .u64 0,.int .u64 0,.int .u64 0,.int .u64 F0,.int .u64 L0,.int .u64 R0,.int .u64 0,.int .u64 0,.int .u64 0,.int .i64 0,.int .i64 0] by rw [hsd];rfl] at hs5
    rw [show spV s=.agg #[.int .i64 ((i:Int)+1),.int .i64 0,.bool true,.int .u64 0,.int .u64 0,.int .u64 0,.int .u64 F0,.int .u64 L0,.int .u64 R0,.int .u64 0,.int .u64 0,.int .u64 0,.int .i64 0,.int .i64 0] by rw [hsd];rfl] at hp1 hp2
    generalize (wr.alloc _)=w5 at hs5 ⊢
    have hB5:∃ B,B=wr.heap.size:=⟨_,rfl⟩
    obtain⟨B,hB⟩:=hB5
    rw [← hB] at hs5 ⊢
    have hx5:=hs5.box
    have e0:=hx5.cell 0;have e1:=hx5.cell 1;have e2:=hx5.cell 2;have e3:=hx5.cell 3;have e4:=hx5.cell 4;have e5:=hx5.cell 5;have e6:=hx5.cell 6;have e7:=hx5.cell 7;have e8:=hx5.cell 8;have e9:=hx5.cell 9;have e10:=hx5.cell 10;have e11:=hx5.cell 11;have e12:=hx5.cell 12;have e13:=hx5.cell 13
    simp only [lTA,lCZ,lCS] at e0 e1 e2 e3 e4 e5 e6 e7 e8 e9 e10 e11 e12 e13
    have H5:=Lib.hid (hs5.later ((good_box _ _ _).star good_two) ((Below.refl _ w5).drew))
    have HP:=Lib.hid (And.intro hp1 (And.intro hp2 hsd))
    clear hs5 hp1 hp2 hx5 hsd hwf hB
    go_cut [57] from 51 to 57 (fun vc wx=>vc=.bool false∧Sx w (fun _=>False) wx (TwoO kp kd (5*i+1) (i+1+1) (i+1)))
    case first =>
     go_region_with (first
      | (go_at_call 9;refine (Sx.act good_two (good_box _ _ _) H5.out.comm (HP.out.1 _)).mono ?_;rintro e w6 ⟨rfl,hs6⟩;have H6:=Lib.hid hs6;have hx6:=hs6.comm.box;clear hs6;have e0:=hx6.cell 0;have e1:=hx6.cell 1;have e2:=hx6.cell 2;have e3:=hx6.cell 3;have e4:=hx6.cell 4;have e5:=hx6.cell 5;have e6:=hx6.cell 6;have e7:=hx6.cell 7;have e8:=hx6.cell 8;have e9:=hx6.cell 9;have e10:=hx6.cell 10;have e11:=hx6.cell 11;have e12:=hx6.cell 12;have e13:=hx6.cell 13;simp only [lTA,lCZ,lCS] at e0 e1 e2 e3 e4 e5 e6 e7 e8 e9 e10 e11 e12 e13;clear hx6)
      | (go_at_call 10;refine (Sx.act good_half (good_box _ _ _) H6.out (HP.out.2.1 _)).mono ?_;rintro e w7 ⟨rfl,hs7⟩;have H7:=Lib.hid hs7.comm.rest;clear hs7))
     all_goals (go_wp2_with fail;go_meet;exact⟨rfl,H7.out⟩)
    case rest =>
     obtain⟨hvc,hs8⟩:=hcut
     rw [hvc]
     clear hvc e0 e1 e2 e3 e4 e5 e6 e7 e8 e9 e10 e11 e12 e13
     have H8:=Lib.hid hs8
     clear hs8
     have hk1:∀ W,Acts (fun e=>e=.returned (.tuple #[])) (TwoO kp kd (5*i+1) (i+1+1) (i+1)) (HalfW kp kd (5*i+1) (i+1) 3) 11 #[.pointer (some ⟨kp,0,none⟩),.int .i64 ((i:Int)+1),.int .u64 3] Tryz.prog W:=fun W=>wake1_acts (show U 3 by unfold U;omega) (by omega) (by omega)
     have hk2:∀ W,Acts (fun e=>e=.returned (.tuple #[])) (HalfW kp kd (5*i+1) (i+1) 3) (TwoO kp kd (5*i+1+4) (i+1+1) (i+1+1)) 12 #[.pointer (some ⟨kd,0,none⟩),.int .i64 ((i:Int)+1),.int .u64 3] Tryz.prog W:=fun W=>wake2_acts (show U 3 by unfold U;omega) (by omega) (by omega)
     have HK:=Lib.hid (And.intro hk1 hk2)
     clear hk1 hk2
     go_wp2_with (first
      | (go_at_call 11;refine (Sx.act0 H8.out (HK.out.1 _)).mono ?_;rintro e w9 ⟨rfl,hs9⟩;have H9:=Lib.hid hs9;clear hs9)
      | (go_at_call 12;refine (Sx.act0 H9.out (HK.out.2 _)).mono ?_;rintro e w10 ⟨rfl,hs10⟩;have H10:=Lib.hid hs10;clear hs10))
     go_roundw
     case measure=>exact meas_to hlt rfl
     case rel=>exact⟨i+1,rfl,by omega,by rw [show 5*(i+1)=5*i+1+4 by omega];exact H10.out⟩
  ·obtain rfl:i=l0:=by omega
   go_wp2_with fail
   have hi0:=hA
   go_loopw [11,12] (fun v11 v12 wr=>∃ (j:Nat) (now:Int),v11=.int .u64 now∧v12=.int .i64 j∧j≤l2∧0≤now∧now≤3+5*j∧Sx w (fun _=>False) wr (TwoO kp kd (5*i+4*j) (i+1) (i+1))) (fun _ v12 _=>(l2 - Go.RowKit.intOf v12).toNat)
   case atStart=>exact⟨0,3,rfl,rfl,Nat.zero_le _,by decide,by decide,HS.out⟩
   case round =>
    obtain⟨j,now,hv11,hv12,hj,hn0,hn1,hs⟩:=hrel
    rw [hv11,hv12]
    clear hv11 hv12
    obtain⟨w4,hw4⟩:∃ w4,w4=wr:=⟨wr,rfl⟩
    subst hw4
    have HT:=Lib.hid hs
    clear hs
    have hbT:=(Sx.newO HT.out).1
    have HBT:=Lib.hid hbT
    clear hbT
    obtain⟨St,⟨P,wt,D,F,v,fl,hR,hm,hbt,hst⟩,hwent⟩:=HT.out
    obtain⟨g,cap,a,is,tk,vv,tt,ff,hQ⟩:=two_qs now hR hm hst (by omega)
    have HQ:=Lib.hid (And.intro hQ (And.intro hR (And.intro hm (And.intro hbt (And.intro hst hwent)))))
    clear hQ hR hm hbt hst hwent
    by_cases hlt2:j < l2
    ·have hw64:wrap64 ((j:Int)+1)=(j:Int)+1:=by unfold wrap64;omega
     cases is with
     | false =>
      go_wp2_with (first
       | (go_at_call 13;refine (HQ.out.1.n1 _ (Below.refl _ _)).mono ?_;rintro e w5 ⟨rfl,hb5⟩)
       | (go_at_call 14;refine (HQ.out.1.n2 _ hb5).mono ?_;rintro e w6 ⟨rfl,hb6⟩))
      go_roundw
      case measure=>exact meas_to hlt2 rfl
      case rel =>
       refine⟨j+1,_,rfl,rfl,by omega,?_,?_,two_mono (by omega) (HT.out.later good_two (hb5.trans (hb6.mono hb5.size)))⟩
       all_goals omega
     | true =>
      obtain⟨hw1,hw2,hw3⟩:=HQ.out.1.who rfl
      obtain⟨x,rfl⟩:∃ x:Nat,a=x:=⟨a.toNat,by omega⟩
      obtain⟨z,hz⟩:∃ z,z2[j]?=some z:=⟨_,List.getElem?_eq_getElem (by rw [HZ.out.2.2.1];exact hlt2)⟩
      obtain⟨b2,o2,rfl,hb2,hc2⟩:=HZ.out.2.2.2.2.resolve_left (by omega)
      have hU:=HZ.out.2.2.2.1 z (List.mem_of_getElem? hz)
      have hkz:=fun W' (hb:Below w.heap.size w W')=>(hb.cell (p:=⟨b2,o2+j,none⟩) hb2).trans (hc2 j z hz)
      have HKZ:=Lib.hid (And.intro hkz hU)
      have hone:Sx w (fun _=>False) w4 (OneO kp kd (5*i+4*j) (i+1) (i+1) x):=⟨St,⟨P,wt,D,F,v,fl,HQ.out.2.1,HQ.out.2.2.1,HQ.out.2.2.2.1,hw3,HQ.out.2.2.2.2.1⟩,HQ.out.2.2.2.2.2⟩
      have hx1:1≤x:=by omega
      have hxm:x < i+1:=by omega
      have hwx:(Lit.int .i64 (x:Int)).wf=true:=wf_small (by omega) (by omega)
      have HX:=Lib.hid (And.intro hone (And.intro hx1 (And.intro hxm hwx)))
      have hnn:5*i+4*j < 900:=by omega
      have HNN:=Lib.hid hnn
      have kz:=hkz _ HBT.out
      clear hkz hU hone hx1 hxm hwx hz hc2 hw1 hw2 hw3 hnn
      go_upto_region 26 with (first
       | (go_at_call 13;refine (HQ.out.1.n1 _ (Below.refl _ _)).mono ?_;rintro e w5 ⟨rfl,hb5⟩)
       | (go_at_call 14;refine (HQ.out.1.n2 _ hb5).mono ?_;rintro e w6 ⟨rfl,hb6⟩))
      have h6:=HX.out.1.later good_one (hb5.trans (hb6.mono hb5.size))
      have H6:=Lib.hid h6
      have kz6:=HKZ.out.1 _ (Sx.newO h6).1
      clear h6 hb5 hb6 kz
      go_wp2_with (first
       | (go_at_call 15;refine (Sx.act0 H6.out (one_sends HKZ.out.2 HX.out.2.1 HX.out.2.2.1 HNN.out)).mono ?_;rintro e w7 ⟨rfl,hs7⟩;have H7:=Lib.hid hs7;have kz7:=HKZ.out.1 _ (Sx.newO hs7).1;clear hs7)
       | (go_at_call 16;refine (Sx.act0 H7.out (sent2_acts HKZ.out.2 HX.out.2.1 HX.out.2.2.1 (Nat.le_refl _) HNN.out)).mono ?_;rintro e w8 ⟨rfl,hs8⟩;have H8:=Lib.hid hs8;have kz8:=HKZ.out.1 _ (Sx.newO hs8).1;clear hs8)
       | (go_at_call 17;refine (same_two H8.out (by have:=HNN.out;omega) _ _ HX.out.2.2.2).mono ?_;rintro e w9 ⟨rfl,hb9⟩;have H9:=Lib.hid (H8.out.later good_two hb9);clear hb9))
      go_roundw
      case measure=>exact meas_to hlt2 rfl
      case rel =>
       have hUz:=HKZ.out.2
       unfold U at hUz
       have hmz:z.tmod 5=z % 5:=Int.tmod_eq_emod_of_nonneg hUz.1
       have hwz:IntKind.u64.wrap (now+z.tmod 5)=now+z.tmod 5:=IntWalk.u64_in _ (by omega)
       refine⟨j+1,_,rfl,rfl,by omega,?_,?_,two_mono (by omega) H9.out⟩
       all_goals rw [hwz]
       all_goals omega
    ·go_wp2_with (go_at_call 17;refine (same_two HT.out (by omega) _ _ (by decide)).mono ?_;rintro e w9 ⟨rfl,hb9⟩;have H9:=Lib.hid (HBT.out.trans (hb9.mono HBT.out.size));clear hb9)
     go_ret
     exact⟨rfl,H9.out⟩
end
end Go.Proofs.YtmmeopjemkjllaaGreat
