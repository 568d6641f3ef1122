/- Lemmas of the claim. No conditions beyond those that each states. -/
import Derived.Test.YtmmeopjemkjllaaGreatPT43
set_option linter.unusedVariables false
set_option linter.unusedSimpArgs false
set_option maxRecDepth 100000
set_option maxHeartbeats 8000000
namespace Go.Proofs.YtmmeopjemkjllaaGreat
section
open Go.RowKit Go.Maps
attribute [local go_sem ↓] Go.wp_at_zero Go.wp_at_succ
attribute [local go_sem] quietR quietAtR quietUponR midAt midUpon
def anyAw (P:Pk)(l:List Int):Bool:=l.any fun x=>awP P x
theorem any_step {P:Pk} {l:List Int} {i:Nat} {x:Int} (hx:l[i]?=some x):anyAw P (l.take (i+1))=(anyAw P (l.take i) || awP P x):=by
 unfold anyAw
 rw [List.take_add_one,hx]
 simp
theorem pickTick_any (a0:Option Addr)(len cap:Nat)(z:List GAct)(w:World)(hl:len≤9223372036854775807)(hz:GActsAt w a0 len z) :
  Calls Tryz.prog 4 #[.slice a0 len cap] w fun e w'=>e=.returned (.bool true)∧Below w.heap.size w w':=by
 have HZ:=Lib.hid hz
 clear hz
 go_enter Tryz.func4,Tryz.ntmps4
 go_wp2_with fail
 refine (pkawake_any w).mono ?_
 rintro e w1 ⟨rfl,hb1⟩
 have HB1:=Lib.hid hb1
 have HZ1:=Lib.hid (HZ.out.below hb1)
 clear hb1 HZ
 go_wp2_with fail
 refine (plong_any a0 len cap w1 hl).mono ?_
 rintro e w1' ⟨rfl,rfl⟩
 by_cases hlong:120 < len
 ·have hd:decide (120 < len)=true:=decide_eq_true hlong
  rw [hd]
  clear hd
  go_wp2_with fail
  go_ret
  exact⟨rfl,HB1.out⟩
 have hd:decide (120 < len)=false:=decide_eq_false hlong
 rw [hd]
 clear hd
 have hpl:=gplayed_any a0 len cap z w1 (by omega) HZ1.out
 go_wp2_with fail
 refine hpl.mono ?_
 clear hpl HZ1
 rintro e w2 ⟨g,rfl,hb2,S2,hgam,_⟩
 obtain⟨p,t,now,P,M,sent,wt,hG,hnow,hgo⟩:=hgam
 have h2:=Sx.start (P:=GamO g p t now P M sent wt) hgo
 have HB2:=Lib.hid (HB1.out.trans (hb2.mono HB1.out.size))
 have HG:=Lib.hid (And.intro hG (show 32*len < 100000 by omega))
 have H2:=Lib.hid h2
 obtain⟨g0,g1,_,_⟩:=rd_cells h2
 have htk:=rd_tick hG h2 (Below.refl _ _)
 obtain⟨tk,htk2⟩:∃ tk,tk=tickP P:=⟨_,rfl⟩
 have htb:=hG.tick_le
 rw [← htk2] at htk htb
 have HTK:=Lib.hid htk2
 clear hb2 hgo h2 hG hnow htk2 HB1
 go_wp2_with fail
 refine htk.mono ?_
 clear htk g0 g1
 rintro e w3 ⟨rfl,hb3⟩
 have h3:=H2.out.later (good_gam _ _ _ _ _ _ _ _) hb3
 have HB3:=Lib.hid (HB2.out.trans (hb3.mono HB2.out.size))
 have H3:=Lib.hid h3
 obtain⟨g0,g1,_,_⟩:=rd_cells h3
 obtain⟨St,ht⟩:=rd_tree h3 (Below.refl _ _)
 have hund:=tro_under 0 (by decide) ht
 clear hb3 h3 ht H2 HB2
 go_wp2_with fail
 refine hund.mono ?_
 clear hund g0 g1
 rintro e w4 hi4
 have hb4:Below w3.heap.size w3 w4:=by obtain⟨_,_,_,h⟩:=hi4;exact h
 obtain⟨v,rfl,h4⟩:=H3.out.ids (good_gam _ _ _ _ _ _ _ _) hi4
 obtain⟨S4,hS4⟩:=h4.first
 obtain⟨va,vc,hv⟩:=hS4.form
 subst hv
 have HB4:=Lib.hid (HB3.out.trans (hb4.mono HB3.out.size))
 obtain⟨L,hL⟩:∃ L,L=kids M 0:=⟨_,rfl⟩
 rw [← hL] at h4 ⊢
 obtain⟨m,hm⟩:∃ m,m=L.length:=⟨_,rfl⟩
 rw [← hm] at h4 ⊢
 have H4:=Lib.hid h4
 have hml:m≤64:=by
  rw [hm,hL]
  have:=kids_len M 0
  have:=HG.out.1.inv.few
  omega
 have HL:=Lib.hid (And.intro hL hm)
 clear hi4 hb4 h4 hS4 H3 HB3 hL hm
 go_wp2_with fail
 go_loopw [6,7] (fun v6 v7 wr=>∃ j:Nat,v6=.bool (anyAw P (L.take j))∧v7=.int .i64 j∧j≤m∧Below w4.heap.size w4 wr) (fun v6 v7 _=>(m - Go.RowKit.intOf v7).toNat)
 case atStart=>exact⟨0,rfl,rfl,Nat.zero_le _,Below.refl _ _⟩
 case round =>
  obtain⟨j,rfl,rfl,hj,hb⟩:=hrel
  have hs:=H4.out.later ((good_row _ _).star (good_gam _ _ _ _ _ _ _ _)) hb
  have HB:=Lib.hid hb
  clear hb
  by_cases hlt:j < m
  ·obtain⟨x,hx⟩:∃ x,L[j]?=some x:=⟨_,List.getElem?_eq_getElem (by have:=HL.out.2;omega)⟩
   obtain⟨S7,hS7⟩:=hs.first
   obtain⟨pb,cap2,hv,cx⟩:=hS7.cell (by have:=HL.out.2;omega) hx
   rw [← HL.out.2] at hv
   simp only [Value.slice.injEq] at hv
   obtain⟨rfl,-,rfl⟩:=hv
   have hpbl:pb < wr.heap.size:=(hS7.1.lt pb rfl).2
   have q0:=(rd_cells hs.rest).2.2.2.1
   have qx:=fun e=>(over_cell (w:=wr) (e:=e) (o:=j) hpbl).trans cx
   have hxk:x∈kids M 0:=by rw [← HL.out.1];exact List.mem_of_getElem? hx
   obtain⟨hxp,hx0⟩:=HG.out.1.kid.1 hxk
   obtain⟨cx2,hcx,hcp⟩:=paP_some hxp
   obtain⟨sx,hsx,_⟩:=HG.out.1.tree hx0 hcx
   have hxw:=HG.out.1.wf_id hsx
   have hst:=any_step (P:=P) hx
   have hfx:awP P x=true→tk≤fitA P x:=fun ha=>by
    unfold fitA
    rw [if_pos ha,HTK.out]
    exact HG.out.1.all.toPInv.tick.1 x hxp ha
   have hva:=fun e=>rd_awake HG.out.1 hs.rest x hxw (over_below wr e)
   have hvf:=fun e=>rd_fit HG.out.1 HG.out.2 hs.rest x hxw (over_below wr e)
   have hkeep:∀ w',Below wr.heap.size wr w'→Below w4.heap.size w4 w':=fun w' hb=>HB.out.trans (hb.mono HB.out.size)
   have HK:=Lib.hid hkeep
   have hvr:∀ w':World,Below wr.heap.size wr w'→w'.cell? ⟨pb,j,none⟩=some (.int .i64 x):=fun w' hb=>(hb.cell (p:=⟨pb,j,none⟩) hpbl).trans cx
   have HVR:=Lib.hid hvr
   have HVA:=Lib.hid hva
   have HS:=Lib.hid hs
   have HW:=Lib.hid (And.intro hxw hfx)
   generalize hbb:anyAw P (L.take j)=b at hst ⊢
   generalize haa:awP P x=aw at hst hva hfx HVA HW
   have HST:=Lib.hid hst
   have HAA:=Lib.hid haa
   clear hs hS7 cx hx hxk hxp hcx hcp hsx hst hfx hva hvf hkeep hvr hbb haa hxw hx0
   cases b with
   | true =>
    go_upto_region 12 with fail
    refine wp_region_over (by kernel_rfl) (by kernel_rfl) ?_
    repeat (first | go_big_quiet_skip | (go_big_quiet_want;go_big_quiet_op;go_big_quiet_on))
    refine wpQuiet_nil ?_
    rintro w5 ⟨e,he⟩
    have hb5:=over_below wr e
    rw [← he] at hb5
    have h5:=HS.out.later ((good_row _ _).star (good_gam _ _ _ _ _ _ _ _)) hb5
    have q5:=(rd_cells h5.rest).2.2.2.1
    have c5:=HVR.out _ hb5
    have hpb5:pb < w5.heap.size:=Nat.lt_of_lt_of_le hpbl hb5.size
    have qx5:=fun e=>(over_cell (w:=w5) (e:=e) (o:=j) hpb5).trans c5
    have hv5:=fun e=>rd_awake HG.out.1 h5.rest x HW.out.1 (over_below w5 e)
    have hf5:=fun e=>rd_fit HG.out.1 HG.out.2 h5.rest x HW.out.1 (over_below w5 e)
    have hfd:aw=true→decide (fitA P x < tk)=false:=fun ha=>decide_eq_false (by have:=HW.out.2 ha;omega)
    rw [HAA.out] at hv5
    have HV5:=Lib.hid hv5
    generalize fitA P x=fx at hf5 hfd HW
    have HF5:=Lib.hid hf5
    have HB5:=Lib.hid (HK.out _ hb5)
    clear he hb5 h5 hv5 hf5 q0 qx c5
    cases aw with
    | true =>
     have hfd2:=hfd rfl
     have hfd3:¬ fx < tk:=by simpa using hfd2
     clear hfd
     go_upto_region 13 with fail
     refine wp_region_over (by kernel_rfl) (by kernel_rfl) ?_
     repeat (first | go_big_quiet_skip | (go_big_quiet_want;go_big_quiet_op;first | go_big_quiet_on | (apply Exists.intro;refine⟨fun e=>?_,?_⟩;(focus (first | (go_at_call 23;with_reducible exact calls_over (HV5.out e)) | (go_at_call 24;with_reducible exact calls_over (HF5.out e))));go_big_quiet_on)))
     refine wpQuiet_nil ?_
     rintro w6 ⟨e,he⟩
     have hb6:=over_below w5 e
     rw [← he] at hb6
     have HB6:=Lib.hid (HB5.out.trans (hb6.mono HB5.out.size))
     clear he hb6 q5 qx5
     go_wp2_with fail
     go_roundw
     case measure=>(simp [Go.RowKit.intOf];try omega)
     case rel=>exact⟨j+1,by rw [HST.out];rfl,by go_num,by omega,HB6.out⟩
    | false =>
     clear hfd
     go_upto_region 13 with fail
     refine wp_region_over (by kernel_rfl) (by kernel_rfl) ?_
     repeat (first | go_big_quiet_skip | (go_big_quiet_want;go_big_quiet_op;first | go_big_quiet_on | (apply Exists.intro;refine⟨fun e=>?_,?_⟩;(focus (first | (go_at_call 23;with_reducible exact calls_over (HV5.out e))));go_big_quiet_on)))
     refine wpQuiet_nil ?_
     rintro w6 ⟨e,he⟩
     have hb6:=over_below w5 e
     rw [← he] at hb6
     have HB6:=Lib.hid (HB5.out.trans (hb6.mono HB5.out.size))
     clear he hb6 q5 qx5
     go_wp2_with fail
     go_roundw
     case measure=>(simp [Go.RowKit.intOf];try omega)
     case rel=>exact⟨j+1,by rw [HST.out];rfl,by go_num,by omega,HB6.out⟩
   | false =>
    go_upto_region 12 with fail
    refine wp_region_over (by kernel_rfl) (by kernel_rfl) ?_
    repeat (first | go_big_quiet_skip | (go_big_quiet_want;go_big_quiet_op;first | go_big_quiet_on | (apply Exists.intro;refine⟨fun e=>?_,?_⟩;(focus (first | (go_at_call 23;with_reducible exact calls_over (HVA.out e))));go_big_quiet_on)))
    refine wpQuiet_nil ?_
    rintro w5 ⟨e,he⟩
    have hb5:=over_below wr e
    rw [← he] at hb5
    have h5:=HS.out.later ((good_row _ _).star (good_gam _ _ _ _ _ _ _ _)) hb5
    have q5:=(rd_cells h5.rest).2.2.2.1
    have c5:=HVR.out _ hb5
    have hpb5:pb < w5.heap.size:=Nat.lt_of_lt_of_le hpbl hb5.size
    have qx5:=fun e=>(over_cell (w:=w5) (e:=e) (o:=j) hpb5).trans c5
    have hv5:=fun e=>rd_awake HG.out.1 h5.rest x HW.out.1 (over_below w5 e)
    have hf5:=fun e=>rd_fit HG.out.1 HG.out.2 h5.rest x HW.out.1 (over_below w5 e)
    have hfd:aw=true→decide (fitA P x < tk)=false:=fun ha=>decide_eq_false (by have:=HW.out.2 ha;omega)
    rw [HAA.out] at hv5
    have HV5:=Lib.hid hv5
    generalize fitA P x=fx at hf5 hfd HW
    have HF5:=Lib.hid hf5
    have HB5:=Lib.hid (HK.out _ hb5)
    clear he hb5 h5 hv5 hf5 q0 qx c5
    cases aw with
    | true =>
     have hfd2:=hfd rfl
     have hfd3:¬ fx < tk:=by simpa using hfd2
     clear hfd
     go_upto_region 13 with fail
     refine wp_region_over (by kernel_rfl) (by kernel_rfl) ?_
     repeat (first | go_big_quiet_skip | (go_big_quiet_want;go_big_quiet_op;first | go_big_quiet_on | (apply Exists.intro;refine⟨fun e=>?_,?_⟩;(focus (first | (go_at_call 23;with_reducible exact calls_over (HV5.out e)) | (go_at_call 24;with_reducible exact calls_over (HF5.out e))));go_big_quiet_on)))
     refine wpQuiet_nil ?_
     rintro w6 ⟨e,he⟩
     have hb6:=over_below w5 e
     rw [← he] at hb6
     have HB6:=Lib.hid (HB5.out.trans (hb6.mono HB5.out.size))
     clear he hb6 q5 qx5
     go_wp2_with fail
     go_roundw
     case measure=>(simp [Go.RowKit.intOf];try omega)
     case rel=>exact⟨j+1,by rw [HST.out];rfl,by go_num,by omega,HB6.out⟩
    | false =>
     clear hfd
     go_upto_region 13 with fail
     refine wp_region_over (by kernel_rfl) (by kernel_rfl) ?_
     repeat (first | go_big_quiet_skip | (go_big_quiet_want;go_big_quiet_op;first | go_big_quiet_on | (apply Exists.intro;refine⟨fun e=>?_,?_⟩;(focus (first | (go_at_call 23;with_reducible exact calls_over (HV5.out e))));go_big_quiet_on)))
     refine wpQuiet_nil ?_
     rintro w6 ⟨e,he⟩
     have hb6:=over_below w5 e
     rw [← he] at hb6
     have HB6:=Lib.hid (HB5.out.trans (hb6.mono HB5.out.size))
     clear he hb6 q5 qx5
     go_wp2_with fail
     go_roundw
     case measure=>(simp [Go.RowKit.intOf];try omega)
     case rel=>exact⟨j+1,by rw [HST.out];rfl,by go_num,by omega,HB6.out⟩
  ·obtain rfl:j=m:=by omega
   have hs2:Sx w2 S2 wr (GamO g p t now P M sent wt):=hs.rest
   obtain⟨g0,g1,_,_⟩:=rd_cells hs2
   have htake:L.take j=L:=by rw [HL.out.2,List.take_length]
   rw [htake]
   have hkid:∀ x,x∈L↔paP P x=some 0∧x≠0:=fun x=>by rw [HL.out.1];exact HG.out.1.kid
   have HK:=Lib.hid hkid
   have HS:=Lib.hid hs2
   have HBw:=Lib.hid (HB4.out.trans (HB.out.mono HB4.out.size))
   clear hs hs2 htake hkid H4 hj HB HB4
   cases hany:anyAw P L with
   | false =>
    have hno:∀ x,paP P x=some 0→awP P x=false:=fun x hx=>by
     cases ha:awP P x with
     | false=>rfl
     | true =>
      unfold anyAw at hany
      have:=List.any_eq_false.1 hany x ((HK.out x).2 ⟨hx,by have:=awP_pos ha;omega⟩)
      rw [ha] at this
      exact absurd rfl this
    obtain⟨h1,h2⟩:=HG.out.1.all.toPInv.tick.2.1 hno
    rw [← HTK.out] at h1
    unfold nevC at h1
    have hn:=rd_next HG.out.1 HS.out (h2 9223372036854775808) (Below.refl _ _)
    dsimp only [Option.getD,Option.isSome] at hn
    clear hany hno h2 htb
    subst h1
    go_wp2_with (go_at_call 13;refine hn.mono ?_;clear hn;rintro e w8 ⟨rfl,hb8⟩)
    go_ret
    exact⟨rfl,HBw.out.trans (hb8.mono HBw.out.size)⟩
   | true =>
    have hyes:∃ x,paP P x=some 0∧awP P x=true:=by
     unfold anyAw at hany
     obtain⟨x,hx,ha⟩:=List.any_eq_true.1 hany
     exact⟨x,((HK.out x).1 hx).1,ha⟩
    obtain⟨y,hy1,hy2,hy3⟩:=HG.out.1.all.toPInv.tick.2.2 hyes
    rw [← HTK.out] at hy3
    have hd8:∀ id c,lookM P id=some c→dep M id≤8:=fun id c _=>HG.out.1.depth id
    obtain⟨jj,mm,hdd⟩:∃ jj mm,Desc P tk 0 (some jj) mm:=by
     rcases HG.out.1.all.toPInv.next hd8 tk with ⟨jj,mm,l,hd,_⟩ | ⟨_,hno⟩
     ·exact⟨jj,mm,hd⟩
     ·have:=hno y hy1 hy2;omega
    have hn:=rd_next HG.out.1 HS.out hdd (Below.refl _ _)
    dsimp only [Option.getD,Option.isSome] at hn
    have hless:Desc P (tk - 1) 0 none 0:=by
     rcases HG.out.1.all.toPInv.next hd8 (tk - 1) with ⟨jj,mm,l,hd,hu,hx,hlf⟩ | ⟨hd,_⟩
     ·have hj0:0 < jj:=by
       cases hu with
       | root =>
        obtain⟨r,hr,hrl⟩:=HG.out.1.all.wf.root
        rw [lfP_of hr,hrl] at hlf
        cases hlf
       | step h1 h2 h3=>exact h1
      obtain⟨tt,htt,hpt⟩:=hu.last hj0
      have h1:=(hx tt htt)
      have h2:=HG.out.1.all.toPInv.tick.1 tt hpt h1.aw
      have h3:=h1.fit
      rw [← HTK.out] at h2
      omega
     ·exact hd
    have HLE:=Lib.hid hless
    clear hany hyes hy1 hy2 hy3 hd8 hdd hless
    by_cases h0:0 < tk
    ·have hwr:IntKind.u64.wrap (tk - 1)=tk - 1:=by rw [IntKind.wrap_u64];omega
     go_wp2_with (first
      | (go_at_call 13;refine hn.mono ?_;clear hn;rintro e w8 ⟨rfl,hb8⟩;have h8:=HS.out.later (good_gam _ _ _ _ _ _ _ _) hb8;obtain⟨k0,k1,_,_⟩:=rd_cells h8;have hn2:=rd_next HG.out.1 h8 HLE.out (Below.refl _ _);dsimp only [Option.getD,Option.isSome] at hn2;have HB8:=Lib.hid (HBw.out.trans (hb8.mono HBw.out.size));clear hb8 h8)
      | (go_at_call 13;refine hn2.mono ?_;clear hn2;rintro e w9 ⟨rfl,hb9⟩))
     go_ret
     exact⟨rfl,HB8.out.trans (hb9.mono HB8.out.size)⟩
    ·go_wp2_with (go_at_call 13;refine hn.mono ?_;clear hn;rintro e w8 ⟨rfl,hb8⟩)
     go_ret
     exact⟨rfl,HBw.out.trans (hb8.mono HBw.out.size)⟩
end
end Go.Proofs.YtmmeopjemkjllaaGreat
