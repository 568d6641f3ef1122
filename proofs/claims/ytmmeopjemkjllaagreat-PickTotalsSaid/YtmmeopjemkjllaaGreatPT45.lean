/- Lemmas of the claim. No conditions beyond those that each states. -/
import Derived.Test.YtmmeopjemkjllaaGreatPT44
set_option linter.unusedVariables false
set_option linter.unusedSimpArgs false
set_option maxRecDepth 100000
set_option maxHeartbeats 8000000
namespace Go.Proofs.YtmmeopjemkjllaaGreat
section
open Go.RowKit Go.Maps
attribute [local go_sem ↓] Go.wp_at_zero Go.wp_at_succ
attribute [local go_sem] quietR quietAtR quietUponR midAt midUpon
section
variable {n k : Nat} {P : Pk} {M : Mp} {wt : Int → Bool} {sent : Int → Int}
theorem GInv.some_ (hG:GInv n k P M wt sent) {x:Int} {s:Cl} (hs:lookM M x=some s):((s.1.lf && wt x && !noneB s.1.s) || anyAw P (kids M x))=awP P x:=by
 obtain⟨c,hc,hr,ht⟩:=hG.pick hs
 have hp:=(hG.inv.pos hs).1
 have hsome:(lookM P x).isSome=true:=by rw [hc];rfl
 obtain⟨hlf,hsh⟩:=hG.lookP hs
 cases hl:s.1.lf with
 | true =>
  rw [hG.inv.leaf hs hl]
  have h:=hG.all.toPInv.awk.leaf x (by omega) hsome (by rw [hlf,hl])
  rw [h,hsh]
  cases wt x <;> cases noneB s.1.s <;> rfl
 | false =>
  have h:=hG.all.toPInv.awk.inner x (by omega) hsome (by rw [hlf,hl])
  show anyAw P (kids M x)=awP P x
  unfold anyAw
  cases ha:awP P x with
  | true =>
   obtain⟨j,hj,hja⟩:=h.1 ha
   exact List.any_eq_true.2 ⟨j,hG.kid.2 ⟨hj,by have:=awP_pos hja;omega⟩,hja⟩
  | false =>
   refine List.any_eq_false.2 fun j hj hja=>?_
   have:=h.2 ⟨j,(hG.kid.1 hj).1,hja⟩
   rw [ha] at this
   cases this
theorem GInv.tot (hG:GInv n k P M wt sent) {x:Int} {s:Cl} (hs:lookM M x=some s):totP P x=sent x:=by
 obtain⟨c,hc,hr,ht⟩:=hG.pick hs
 have hp:=(hG.inv.pos hs).1
 unfold totP
 rw [if_pos (by omega),hc]
 exact ht
theorem kids_le (h:M.length≤64)(q:Int):(kids M q).length≤64:=by
 have:=kids_len M q
 omega
end
theorem pickTotals_any (a0:Option Addr)(len cap:Nat)(z:List GAct)(w:World)(hl:len≤9223372036854775807)(hz:GActsAt w a0 len z) :
  Calls Tryz.prog 5 #[.slice a0 len cap] w fun e w'=>e=.returned (.bool true)∧Below w.heap.size w w':=by
 have HZ:=Lib.hid hz
 clear hz
 go_enter Tryz.func5,Tryz.ntmps5
 go_wp2_with fail
 refine (pkawake_any w).mono ?_
 rintro e w1 ⟨rfl,hb1⟩
 have HB1:=Lib.hid hb1
 have HZ1:=Lib.hid (HZ.out.below hb1)
 clear hb1 HZ
 go_wp2_with fail
 refine (plong_any a0 len cap w1 hl).mono ?_
 rintro e w1' ⟨rfl,rfl⟩
 by_cases hlong:120 < len
 ·have hd:decide (120 < len)=true:=decide_eq_true hlong
  rw [hd]
  clear hd
  go_wp2_with fail
  go_ret
  exact⟨rfl,HB1.out⟩
 have hd:decide (120 < len)=false:=decide_eq_false hlong
 rw [hd]
 clear hd
 have hpl:=gplayed_any a0 len cap z w1 (by omega) HZ1.out
 go_wp2_with fail
 refine hpl.mono ?_
 clear hpl HZ1
 rintro e w2 ⟨g,rfl,hb2,S2,hgam,_⟩
 obtain⟨p,t,now,P,M,sent,wt,hG,hnow,hgo⟩:=hgam
 have h2:=Sx.start (P:=GamO g p t now P M sent wt) hgo
 have HB2:=Lib.hid (HB1.out.trans (hb2.mono HB1.out.size))
 have HG:=Lib.hid (And.intro hG (show 32*len < 100000 by omega))
 have H2:=Lib.hid h2
 obtain⟨g0,g1,_,_⟩:=rd_cells h2
 obtain⟨St,ht⟩:=rd_tree h2 (Below.refl _ _)
 have hids:=tro_ids ht
 clear hb2 hgo h2 hG hnow HB1 ht
 go_wp2_with fail
 refine hids.mono ?_
 clear hids g0 g1
 rintro e w4 hi4
 have hb4:Below w2.heap.size w2 w4:=by obtain⟨_,_,_,h⟩:=hi4;exact h
 obtain⟨v,rfl,h4⟩:=H2.out.ids (good_gam _ _ _ _ _ _ _ _) hi4
 obtain⟨S4,hS4⟩:=h4.first
 obtain⟨va,vc,hv⟩:=hS4.form
 subst hv
 have HB4:=Lib.hid (HB2.out.trans (hb4.mono HB2.out.size))
 obtain⟨L,hL⟩:∃ L,L=M.map (·.1):=⟨_,rfl⟩
 rw [← hL] at h4 ⊢
 obtain⟨m,hm⟩:∃ m,m=L.length:=⟨_,rfl⟩
 rw [← hm] at h4 ⊢
 have H4:=Lib.hid h4
 have hml:m≤64:=by
  rw [hm,hL,List.length_map]
  exact HG.out.1.inv.few
 have HL:=Lib.hid (And.intro hL hm)
 clear hi4 hb4 h4 hS4 H2 HB2 hL hm
 go_wp2_with fail
 go_loopw [5] (fun v5 wr=>∃ j:Nat,v5=.int .i64 j∧j≤m∧Below w4.heap.size w4 wr) (fun v5 _=>(m - Go.RowKit.intOf v5).toNat)
 case atStart=>exact⟨0,rfl,Nat.zero_le _,Below.refl _ _⟩
 case round =>
  obtain⟨j,rfl,hj,hb⟩:=hrel
  have hs:=H4.out.later ((good_row _ _).star (good_gam _ _ _ _ _ _ _ _)) hb
  have HB:=Lib.hid (HB4.out.trans (hb.mono HB4.out.size))
  have HBW:=Lib.hid hb
  clear hb
  by_cases hlt:j < m
  ·obtain⟨x,hx⟩:∃ x,L[j]?=some x:=⟨_,List.getElem?_eq_getElem (by have:=HL.out.2;omega)⟩
   obtain⟨s,hsx⟩:∃ s,lookM M x=some s:=by
    have h:=List.mem_of_getElem? hx
    rw [HL.out.1] at h
    obtain⟨⟨y,s⟩,hy,rfl⟩:=List.mem_map.1 h
    exact⟨s,look_of_mem HG.out.1.inv.rise hy⟩
   have hx1:=(HG.out.1.inv.pos hsx).1
   have hx2:=HG.out.1.ids _ _ hsx
   obtain⟨i,rfl⟩:∃ i:Nat,x=i:=⟨x.toNat,by omega⟩
   have hi:i < 64:=by omega
   obtain⟨S7,hS7⟩:=hs.first
   obtain⟨pb,cap2,hv,cx⟩:=hS7.cell (by have:=HL.out.2;omega) hx
   rw [← HL.out.2] at hv
   simp only [Value.slice.injEq] at hv
   obtain⟨rfl,-,rfl⟩:=hv
   have hpbl:pb < wr.heap.size:=(hS7.1.lt pb rfl).2
   have hwf:=HG.out.1.wf_id hsx
   obtain⟨c,hc⟩:∃ c,c=s.1:=⟨_,rfl⟩
   have hkeep:∀ w',Below wr.heap.size wr w'→Sx w2 S2 w' (GamO g p t now P M sent wt)∧(∀ e,(over w' e).cell? ⟨pb,j,none⟩=some (.int .i64 i))∧Below w.heap.size w w'∧Below w4.heap.size w4 w':=fun w' hb =>
    ⟨(hs.later ((good_row _ _).star (good_gam _ _ _ _ _ _ _ _)) hb).rest,fun e=>(over_cell (w:=w') (e:=e) (o:=j) (Nat.lt_of_lt_of_le hpbl hb.size)).trans ((hb.cell (p:=⟨pb,j,none⟩) hpbl).trans cx),HB.out.trans (hb.mono HB.out.size),HBW.out.trans (hb.mono HBW.out.size)⟩
   have HK:=Lib.hid hkeep
   have qx:=(HK.out wr (Below.refl _ _)).2.1
   have q1:=(rd_cells hs.rest).2.2.2.2.1
   have hget:∀ e,Calls Tryz.prog 26 #[.pointer (some ⟨t,0,none⟩),.int .i64 i] (over wr e) (GetW (over wr e) M i):=fun e=>by
    obtain⟨S8,hS8⟩:=rd_tree hs.rest (over_below wr e)
    exact tro_get (i:Int) hwf hS8
   have hgs:getS M (i:Int)=c:=by unfold getS;rw [hsx,hc];rfl
   unfold GetW spV spC at hget
   rw [hgs,hsx] at hget
   dsimp only [Option.isSome] at hget
   have HX:=Lib.hid (And.intro hsx (And.intro hwf hc))
   have HGT:=Lib.hid hget
   clear hs hx hS7 hsx hwf hc hkeep hget hgs
   go_upto_region 12 with fail
   clear cx
   refine wp_region_alloc (w:=wr) 12 _ _ 6 (.cells #[.int .i64 0,.int .i64 0,.bool false,.int .u64 0,.int .u64 0,.int .u64 0,.int .u64 0,.int .u64 0,.int .u64 0,.int .u64 0,.int .u64 0,.int .u64 0,.int .i64 0,.int .i64 0] 32) (by kernel_rfl) rfl rfl rfl (fun _ _=>by kernel_rfl) (by kernel_rfl) ?_
   simp only [List.take_succ_cons,List.take_zero,List.drop_succ_cons,List.drop_zero]
   repeat (refine wpQuietR_step (fun K hK=>?_);go_simp;first | (refine hK _ ?_;clear hK K) | (apply Exists.intro;refine⟨fun e=>?_,hK _ ?_⟩;(go_at_call 26;exact HGT.out e);clear hK K))
   refine wpQuietR_nil ?_
   intro B W2 hB hb2 hO
   have bN:Blk W2 B 32 #[.int .i64 0,.int .i64 0,.bool false,.int .u64 0,.int .u64 0,.int .u64 0,.int .u64 0,.int .u64 0,.int .u64 0,.int .u64 0,.int .u64 0,.int .u64 0,.int .i64 0,.int .i64 0]:=hO
   have hb3:Below wr.heap.size wr (W2.setCells B 0 [.int .i64 c.id,.int .i64 c.pa,.bool c.lf,.int .u64 c.r.1,.int .u64 c.r.2.1,.int .u64 c.r.2.2,.int .u64 c.s.1,.int .u64 c.s.2.1,.int .u64 c.s.2.2,.int .u64 c.u.1,.int .u64 c.u.2.1,.int .u64 c.u.2.2,.int .i64 c.pk,.int .i64 c.by_]):=hb2.grown (grown_setCells B _ _ W2) hb2.size (fun q e=>by cases e;exact hB)
   have bC:=bN.setCells [.int .i64 c.id,.int .i64 c.pa,.bool c.lf,.int .u64 c.r.1,.int .u64 c.r.2.1,.int .u64 c.r.2.2,.int .u64 c.s.1,.int .u64 c.s.2.1,.int .u64 c.s.2.2,.int .u64 c.u.1,.int .u64 c.u.2.1,.int .u64 c.u.2.2,.int .i64 c.pk,.int .i64 c.by_] 0
   rw [setL_all _ _ (by simp)] at bC
   refine plain_store 32 _ _ B [.int .i64 c.id,.int .i64 c.pa,.bool c.lf,.int .u64 c.r.1,.int .u64 c.r.2.1,.int .u64 c.r.2.2,.int .u64 c.s.1,.int .u64 c.s.2.1,.int .u64 c.s.2.2,.int .u64 c.u.1,.int .u64 c.u.2.1,.int .u64 c.u.2.2,.int .i64 c.pk,.int .i64 c.by_] 32 #[.int .i64 0,.int .i64 0,.bool false,.int .u64 0,.int .u64 0,.int .u64 0,.int .u64 0,.int .u64 0,.int .u64 0,.int .u64 0,.int .u64 0,.int .u64 0,.int .i64 0,.int .i64 0] bN (by simp) rfl (by kernel_rfl) (by kernel_rfl) (by kernel_rfl) (by kernel_rfl) ⟨hb3,?_⟩
   generalize W2.setCells B 0 [.int .i64 c.id,.int .i64 c.pa,.bool c.lf,.int .u64 c.r.1,.int .u64 c.r.2.1,.int .u64 c.r.2.2,.int .u64 c.s.1,.int .u64 c.s.2.1,.int .u64 c.s.2.2,.int .u64 c.u.1,.int .u64 c.u.2.1,.int .u64 c.u.2.2,.int .i64 c.pk,.int .i64 c.by_]=w5 at hb3 bC ⊢
   clear qx q1 bN hO hb2 HGT hB
   have HB5:=Lib.hid hb3
   have hBl:=bC.lt
   have q2:=fun e=>(over_cell (w:=w5) (e:=e) (o:=2) hBl).trans (bC.cell 2)
   have q6:=fun e=>(over_cell (w:=w5) (e:=e) (o:=6) hBl).trans (bC.cell 6)
   have q7:=fun e=>(over_cell (w:=w5) (e:=e) (o:=7) hBl).trans (bC.cell 7)
   have q8:=fun e=>(over_cell (w:=w5) (e:=e) (o:=8) hBl).trans (bC.cell 8)
   simp only [lTA,lCZ,lCS] at q2 q6 q7 q8
   obtain⟨h5,qx,_,_⟩:=HK.out w5 hb3
   have hg5:=h5.box
   have qw:∀ e,(over w5 e).cell? ⟨g,67+i,none⟩=some (.bool (wt i)):=fun e=>(over_cell (w:=w5) (e:=e) (o:=67+i) hg5.lt).trans ((hg5.cell (67+i)).trans (game_wait hi))
   have hsm:=HG.out.1.some_ HX.out.1
   rw [← HX.out.2.2] at hsm
   obtain⟨b0,hb0⟩:∃ b0,b0=(c.lf && wt (i:Int) && !noneB c.s):=⟨_,rfl⟩
   rw [← hb0] at hsm
   have HSM:=Lib.hid hsm
   clear h5 hg5 bC hb3 hsm
   go_upto_region 13 with fail
   go_cut [8] from 22 to 145 (fun v8 wx=>v8=.bool b0∧Below w5.heap.size w5 wx)
   case first =>
    unfold noneB at hb0
    obtain⟨ci,cp,cl,cr,⟨F,LL,R⟩,cu,ck,cb⟩:=c
    dsimp only at q2 q6 q7 q8 hb0 ⊢
    generalize wt (i:Int)=wi at qw hb0
    clear HK HX HSM HBW HB
    cases cl with
    | false =>
     have HE:=Lib.hid hb0
     clear hb0
     refine wp_region_over (by kernel_rfl) (by kernel_rfl) ?_
     repeat (first | go_big_quiet_skip | (go_big_quiet_want;go_big_quiet_op;go_big_quiet_on))
     refine wpQuiet_nil ?_
     rintro w6 ⟨e,he⟩
     have hb6:=over_below w5 e
     rw [← he] at hb6
     clear he
     go_wp2_with fail
     go_meet
     exact⟨by rw [HE.out];rfl,hb6⟩
    | true =>
     cases wi with
     | false =>
      have HE:=Lib.hid hb0
      clear hb0
      refine wp_region_over (by kernel_rfl) (by kernel_rfl) ?_
      repeat (first | go_big_quiet_skip | (go_big_quiet_want;go_big_quiet_op;go_big_quiet_on))
      refine wpQuiet_nil ?_
      rintro w6 ⟨e,he⟩
      have hb6:=over_below w5 e
      rw [← he] at hb6
      clear he
      go_wp2_with fail
      go_meet
      exact⟨by rw [HE.out];rfl,hb6⟩
     | true =>
      by_cases h1:F=0
      ·by_cases h2:LL=0
       ·by_cases h3:R=0
        ·subst h1 h2 h3
         have HE:=Lib.hid hb0
         clear hb0
         refine wp_region_over (by kernel_rfl) (by kernel_rfl) ?_
         repeat (first | go_big_quiet_skip | (go_big_quiet_want;go_big_quiet_op;go_big_quiet_on))
         refine wpQuiet_nil ?_
         rintro w6 ⟨e,he⟩
         have hb6:=over_below w5 e
         rw [← he] at hb6
         clear he
         go_wp2_with fail
         go_meet
         exact⟨by rw [HE.out];rfl,hb6⟩
        ·skip
         have HE:=Lib.hid hb0
         clear hb0
         refine wp_region_over (by kernel_rfl) (by kernel_rfl) ?_
         repeat (first | go_big_quiet_skip | (go_big_quiet_want;go_big_quiet_op;go_big_quiet_on))
         refine wpQuiet_nil ?_
         rintro w6 ⟨e,he⟩
         have hb6:=over_below w5 e
         rw [← he] at hb6
         clear he
         go_wp2_with fail
         go_meet
         exact⟨by rw [HE.out];simp [h1,h2,h3],hb6⟩
       ·skip
        have HE:=Lib.hid hb0
        clear hb0
        refine wp_region_over (by kernel_rfl) (by kernel_rfl) ?_
        repeat (first | go_big_quiet_skip | (go_big_quiet_want;go_big_quiet_op;go_big_quiet_on))
        refine wpQuiet_nil ?_
        rintro w6 ⟨e,he⟩
        have hb6:=over_below w5 e
        rw [← he] at hb6
        clear he
        go_wp2_with fail
        go_meet
        exact⟨by rw [HE.out];simp [h1,h2],hb6⟩
      ·skip
       have HE:=Lib.hid hb0
       clear hb0
       refine wp_region_over (by kernel_rfl) (by kernel_rfl) ?_
       repeat (first | go_big_quiet_skip | (go_big_quiet_want;go_big_quiet_op;go_big_quiet_on))
       refine wpQuiet_nil ?_
       rintro w6 ⟨e,he⟩
       have hb6:=over_below w5 e
       rw [← he] at hb6
       clear he
       go_wp2_with fail
       go_meet
       exact⟨by rw [HE.out];simp [h1],hb6⟩
   case rest =>
    obtain⟨rfl,hb6⟩:=hcut
    have hb6:=(show Below w5.heap.size w5 wc from hb6)
    have HB6:=Lib.hid (HB5.out.trans (hb6.mono HB5.out.size))
    clear q2 q6 q7 q8 qw qx hb6 HB5 hb0
    obtain⟨h6,qx,_,_⟩:=HK.out wc HB6.out
    have q1:=(rd_cells h6).2.2.2.2.1
    go_upto_region 14 with fail
    refine wp_region_over_tail 8 (by kernel_rfl) (by kernel_rfl) ?_
    simp only [List.take_succ_cons,List.take_zero,List.drop_succ_cons,List.drop_zero]
    repeat (first | go_big_quiet_skip | (go_big_quiet_want;go_big_quiet_op;go_big_quiet_on))
    refine wpQuiet_nil ?_
    rintro w7 ⟨e,he⟩
    have hb7:=over_below wc e
    rw [← he] at hb7
    have HB7:=Lib.hid (HB6.out.trans (hb7.mono HB6.out.size))
    clear he hb7 h6 q1 qx HB6
    obtain⟨h7,_,_,_⟩:=HK.out w7 HB7.out
    obtain⟨S8,hS8⟩:=rd_tree h7 (Below.refl _ _)
    have hund:=tro_under (i:Int) HX.out.2.1 hS8
    have H7:=Lib.hid h7
    clear h7 hS8
    go_upto_region 15 with (go_at_call 22;refine hund.mono ?_;clear hund;rintro e w8 hi8;have hb8:Below w7.heap.size w7 w8:=(by obtain⟨_,_,_,h⟩:=hi8;exact h);obtain⟨v8,rfl,h8⟩:=H7.out.ids (good_gam _ _ _ _ _ _ _ _) hi8;obtain⟨S9,hS9⟩:=h8.first;obtain⟨va2,vc2,hv2⟩:=hS9.form;subst hv2;have HB8:=Lib.hid (HB7.out.trans (hb8.mono HB7.out.size));have H8:=Lib.hid h8;clear hi8 hb8 h8 hS9 H7 HB7)
    obtain⟨K,hK⟩:∃ K,K=kids M (i:Int):=⟨_,rfl⟩
    rw [← hK] at H8 HSM ⊢
    obtain⟨mk,hmk⟩:∃ m,m=K.length:=⟨_,rfl⟩
    rw [← hmk] at H8 ⊢
    have hmkl:mk≤64:=by
     rw [hmk,hK]
     exact kids_le HG.out.1.inv.few _
    have HKK:=Lib.hid (And.intro hK hmk)
    clear hK hmk
    go_wp2_with fail
    go_loopw [8,10] (fun v8 v10 wr=>∃ q:Nat,v8=.bool (b0 || anyAw P (K.take q))∧v10=.int .i64 q∧q≤mk∧Below w8.heap.size w8 wr) (fun v8 v10 _=>(mk - Go.RowKit.intOf v10).toNat)
    case atStart=>exact⟨0,by simp [anyAw],rfl,Nat.zero_le _,Below.refl _ _⟩
    case round =>
     obtain⟨q,rfl,rfl,hq,hb⟩:=hrel
     have hs:=H8.out.later ((good_row _ _).star (good_gam _ _ _ _ _ _ _ _)) hb
     have HBk:=Lib.hid hb
     clear hb
     by_cases hlq:q < mk
     ·obtain⟨y,hy⟩:∃ y,K[q]?=some y:=⟨_,List.getElem?_eq_getElem (by have:=HKK.out.2;omega)⟩
      obtain⟨S9,hS9⟩:=hs.first
      obtain⟨kb,cap3,hv,cy⟩:=hS9.cell (by have:=HKK.out.2;omega) hy
      rw [← HKK.out.2] at hv
      simp only [Value.slice.injEq] at hv
      obtain⟨rfl,-,rfl⟩:=hv
      have hkbl:kb < wr.heap.size:=(hS9.1.lt kb rfl).2
      have q0:=(rd_cells hs.rest).2.2.2.1
      have qy:=fun e=>(over_cell (w:=wr) (e:=e) (o:=q) hkbl).trans cy
      have hyk:y∈kids M (i:Int):=by rw [← HKK.out.1];exact List.mem_of_getElem? hy
      obtain⟨hyp,hy0⟩:=HG.out.1.kid.1 hyk
      obtain⟨cy2,hcy,_⟩:=paP_some hyp
      obtain⟨sy,hsy,_⟩:=HG.out.1.tree hy0 hcy
      have hyw:=HG.out.1.wf_id hsy
      have hst:=any_step (P:=P) hy
      have hva:=fun e=>rd_awake HG.out.1 hs.rest y hyw (over_below wr e)
      have HVA:=Lib.hid hva
      generalize hbb:anyAw P (K.take q)=bb at hst ⊢
      generalize haa:awP P y=aw at hst hva HVA
      have HST:=Lib.hid hst
      clear hs hS9 cy hy hyk hyp hy0 hcy hsy hyw hst hva hbb haa
      obtain⟨b1,hb1⟩:∃ b1,b1=(b0 || bb):=⟨_,rfl⟩
      rw [← hb1]
      have HB1':=Lib.hid hb1
      clear hb1
      cases b1 with
      | true =>
       go_upto_region 18 with fail
       refine wp_region_over (by kernel_rfl) (by kernel_rfl) ?_
       repeat (first | go_big_quiet_skip | (go_big_quiet_want;go_big_quiet_op;go_big_quiet_on))
       refine wpQuiet_nil ?_
       rintro w9 ⟨e,he⟩
       have hb9:=over_below wr e
       rw [← he] at hb9
       have HB9:=Lib.hid (HBk.out.trans (hb9.mono HBk.out.size))
       clear he hb9 q0 qy
       go_wp2_with fail
       go_roundw
       case measure=>(simp [Go.RowKit.intOf];try omega)
       case rel=>exact⟨q+1,by rw [HST.out,← Bool.or_assoc,← HB1'.out];rfl,by go_num,by omega,HB9.out⟩
      | false =>
       go_upto_region 18 with fail
       refine wp_region_over (by kernel_rfl) (by kernel_rfl) ?_
       repeat (first | go_big_quiet_skip | (go_big_quiet_want;go_big_quiet_op;first | go_big_quiet_on | (apply Exists.intro;refine⟨fun e=>?_,?_⟩;(focus (first | (go_at_call 23;with_reducible exact calls_over (HVA.out e))));go_big_quiet_on)))
       refine wpQuiet_nil ?_
       rintro w9 ⟨e,he⟩
       have hb9:=over_below wr e
       rw [← he] at hb9
       have HB9:=Lib.hid (HBk.out.trans (hb9.mono HBk.out.size))
       clear he hb9 q0 qy
       go_wp2_with fail
       go_roundw
       case measure=>(simp [Go.RowKit.intOf];try omega)
       case rel=>exact⟨q+1,by rw [HST.out,← Bool.or_assoc,← HB1'.out];rfl,by go_num,by omega,HB9.out⟩
     ·obtain rfl:q=mk:=by omega
      have htake:K.take q=K:=by rw [HKK.out.2,List.take_length]
      rw [htake,HSM.out]
      have HBt:=Lib.hid (HB8.out.trans (HBk.out.mono HB8.out.size))
      clear hs htake HBk HB8
      obtain⟨h9,qx,_,hbw⟩:=HK.out wr HBt.out
      have q0:=(rd_cells h9).2.2.2.1
      have hg9:=h9.box
      have qs:∀ e,(over wr e).cell? ⟨g,3+i,none⟩=some (.int .u64 (sent i)):=fun e=>(over_cell (w:=wr) (e:=e) (o:=3+i) hg9.lt).trans ((hg9.cell (3+i)).trans (game_sent hi))
      have hvt:=fun e=>rd_total h9 i HX.out.2.1 (over_below wr e)
      have hva:=fun e=>rd_awake HG.out.1 h9 i HX.out.2.1 (over_below wr e)
      have hvf:=fun e=>rd_fit HG.out.1 HG.out.2 h9 i HX.out.2.1 (over_below wr e)
      rw [HG.out.1.tot HX.out.1] at hvt
      have hfa:awP P (i:Int)=false→fitA P (i:Int)=9223372036854775808:=fun ha=>by unfold fitA;rw [if_neg (by rw [ha];exact Bool.false_ne_true)];rfl
      generalize sent (i:Int)=st at qs hvt
      generalize awP P (i:Int)=aw at hva hfa ⊢
      generalize fitA P (i:Int)=ft at hvf hfa
      have HVT:=Lib.hid hvt
      have HVA:=Lib.hid hva
      have HVF:=Lib.hid hvf
      clear h9 hg9 hvt hva hvf hbw
      cases aw with
      | true =>
       clear hfa
       go_upto_region 19 with fail
       refine wp_region_over (by kernel_rfl) (by kernel_rfl) ?_
       repeat (first | go_big_quiet_skip | (go_big_quiet_want;go_big_quiet_op;first | go_big_quiet_on | (apply Exists.intro;refine⟨fun e=>?_,?_⟩;(focus (first | (go_at_call 27;with_reducible exact calls_over (HVT.out e)) | (go_at_call 23;with_reducible exact calls_over (HVA.out e))));go_big_quiet_on)))
       refine wpQuiet_nil ?_
       rintro w9 ⟨e,he⟩
       have hb9:=over_below wr e
       rw [← he] at hb9
       have HB9:=Lib.hid (HBt.out.trans (hb9.mono HBt.out.size))
       clear he hb9 q0 qx qs
       go_wp2_with fail
       go_roundw
       case measure=>(simp [Go.RowKit.intOf];try omega)
       case rel=>exact⟨j+1,by go_num,by omega,(HK.out _ HB9.out).2.2.2⟩
      | false =>
       obtain rfl:=hfa rfl
       clear hfa
       go_upto_region 19 with fail
       refine wp_region_over (by kernel_rfl) (by kernel_rfl) ?_
       repeat (first | go_big_quiet_skip | (go_big_quiet_want;go_big_quiet_op;first | go_big_quiet_on | (apply Exists.intro;refine⟨fun e=>?_,?_⟩;(focus (first | (go_at_call 27;with_reducible exact calls_over (HVT.out e)) | (go_at_call 23;with_reducible exact calls_over (HVA.out e)) | (go_at_call 24;with_reducible exact calls_over (HVF.out e))));go_big_quiet_on)))
       refine wpQuiet_nil ?_
       rintro w9 ⟨e,he⟩
       have hb9:=over_below wr e
       rw [← he] at hb9
       have HB9:=Lib.hid (HBt.out.trans (hb9.mono HBt.out.size))
       clear he hb9 q0 qx qs
       go_wp2_with fail
       go_roundw
       case measure=>(simp [Go.RowKit.intOf];try omega)
       case rel=>exact⟨j+1,by go_num,by omega,(HK.out _ HB9.out).2.2.2⟩
  ·obtain rfl:j=m:=by omega
   clear hs H4
   go_wp2_with fail
   go_ret
   exact⟨rfl,HB.out⟩
end
end Go.Proofs.YtmmeopjemkjllaaGreat
