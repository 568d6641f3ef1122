/- Lemmas of the claim. No conditions beyond those that each states. -/
import Derived.Test.YtmmeopjemkjllaaGreatPT44
set_option linter.unusedVariables false
set_option linter.unusedSimpArgs false
set_option maxRecDepth 100000
set_option maxHeartbeats 8000000
namespace Go.Proofs.YtmmeopjemkjllaaGreat
section
open Go.RowKit Go.Maps
attribute [local go_sem ↓] Go.wp_at_zero Go.wp_at_succ
attribute [local go_sem] quietR quietAtR quietUponR midAt midUpon
theorem Sx.row {w0 W:World} {A:Nat→Prop} {R:Ob} {va:Option Addr} {vc m:Nat} {l:List Int} {j:Nat} {x:Int} (h:Sx w0 A W (Star (RowO (.slice va m vc) l) R))(hl:l.length≤1000000)(hx:l[j]?=some x) :
  ∃ pb,va=some ⟨pb,0,none⟩∧∀ w',Below W.heap.size W w'→w'.cell? ⟨pb,j,none⟩=some (.int .i64 x)∧∀ e,(over w' e).cell? ⟨pb,j,none⟩=some (.int .i64 x):=by
 obtain⟨S,hS⟩:=h.first
 obtain⟨pb,cap,hv,cx⟩:=hS.cell hl hx
 simp only [Value.slice.injEq] at hv
 obtain⟨rfl,-,rfl⟩:=hv
 have hlt:pb < W.heap.size:=(hS.1.lt pb rfl).2
 exact⟨pb,rfl,fun w' hb=>⟨(hb.cell (p:=⟨pb,j,none⟩) hlt).trans cx,fun e=>(over_cell (w:=w') (e:=e) (o:=j) (Nat.lt_of_lt_of_le hlt hb.size)).trans ((hb.cell (p:=⟨pb,j,none⟩) hlt).trans cx)⟩⟩
noncomputable def anyLate (P:Pk)(now:Int)(l:List Int):Bool:=l.any fun x=>decide (now < fitA P x)
theorem late_step {P:Pk} {now:Int} {l:List Int} {i:Nat} {x:Int} (hx:l[i]?=some x):anyLate P now (l.take (i+1))=(anyLate P now (l.take i) || decide (now < fitA P x)):=by
 unfold anyLate
 rw [List.take_add_one,hx]
 simp
theorem fitA_aw {P:Pk} {x:Int} (h:awP P x=true):fitA P x=fitP owL P x:=by unfold fitA;rw [if_pos h]
section
variable {n k : Nat} {P : Pk} {M : Mp} {wt : Int → Bool} {sent : Int → Int}
theorem GInv.held (hG:GInv n k P M wt sent) {now x:Int} {s:Cl} (hno:∀ x,paP P x=some 0→awP P x=true→now < fitP owL P x)(hs:lookM M x=some s):(!awP P x || anyLate P now (pathM M x))=true:=by
 cases ha:awP P x with
 | false=>rfl
 | true =>
  obtain⟨y,hy,hya,hyf⟩:=hG.all.toPInv.held hno (hG.upL hs) ha
  show anyLate P now (pathM M x)=true
  unfold anyLate
  exact List.any_eq_true.2 ⟨y,hy,decide_eq_true (by rw [fitA_aw hya];exact hyf)⟩
theorem GInv.way (hG:GInv n k P M wt sent) {now:Int} {j:Int} {l:List Int} (hU:Up P j l)(hX:∀ x∈l,WayX owL P now x)(hlf:lfP P j=true):∃ s,lookM M j=some s∧s.1.lf=true∧∀ x∈pathM M j,WayX owL P now x∧∃ t,lookM M x=some t∧paP P x=some t.1.pa:=by
 have h0:j≠0:=fun e=>by
  obtain⟨r,hr,hrl⟩:=hG.all.wf.root
  rw [e,lfP_of hr,hrl] at hlf
  cases hlf
 have hj:∃ c,lookM P j=some c:=by
  cases h:lookM P j with
  | some c=>exact⟨c,rfl⟩
  | none=>unfold lfP at hlf;rw [h] at hlf;cases hlf
 obtain⟨c,hc⟩:=hj
 obtain⟨s,hs,_⟩:=hG.tree h0 hc
 have hl:=hG.lookP hs
 refine⟨s,hs,by rw [← hl.1,hlf],fun x hx=>?_⟩
 have he:=hU.unique (hG.upL hs)
 obtain⟨⟨t,ht⟩,_⟩:=hG.inv.path_mem (dep M j) (Nat.le_refl _) x hx
 exact⟨hX x (by rw [he];exact hx),t,ht,hG.pa ht⟩
end
theorem pickWay_any (a0:Option Addr)(len cap:Nat)(z:List GAct)(w:World)(hl:len≤9223372036854775807)(hz:GActsAt w a0 len z) :
  Calls Tryz.prog 6 #[.slice a0 len cap] w fun e w'=>e=.returned (.bool true)∧Below w.heap.size w w':=by
 have HZ:=Lib.hid hz
 clear hz
 go_enter Tryz.func6,Tryz.ntmps6
 go_wp2_with fail
 refine (pkawake_any w).mono ?_
 rintro e w1 ⟨rfl,hb1⟩
 have HB1:=Lib.hid hb1
 have HZ1:=Lib.hid (HZ.out.below hb1)
 clear hb1 HZ
 go_wp2_with fail
 refine (plong_any a0 len cap w1 hl).mono ?_
 rintro e w1' ⟨rfl,rfl⟩
 by_cases hlong:120 < len
 ·have hd:decide (120 < len)=true:=decide_eq_true hlong
  rw [hd]
  clear hd
  go_wp2_with fail
  go_ret
  exact⟨rfl,HB1.out⟩
 have hd:decide (120 < len)=false:=decide_eq_false hlong
 rw [hd]
 clear hd
 have hpl:=gplayed_any a0 len cap z w1 (by omega) HZ1.out
 go_wp2_with fail
 refine hpl.mono ?_
 clear hpl HZ1
 rintro e w2 ⟨g,rfl,hb2,S2,hgam,_⟩
 obtain⟨p,t,now,P,M,sent,wt,hG,hnow,hgo⟩:=hgam
 have h2:=Sx.start (P:=GamO g p t now P M sent wt) hgo
 have HB2:=Lib.hid (HB1.out.trans (hb2.mono HB1.out.size))
 have HG:=Lib.hid (And.intro hG (show 32*len < 100000 by omega))
 have H2:=Lib.hid h2
 have hnow':0≤now∧now < 18446744073709551616:=by first | exact hnow | (have:=hnow;omega)
 have HNW:=Lib.hid hnow'
 have hd8:∀ id c,lookM P id=some c→dep M id≤8:=fun id c _=>HG.out.1.depth id
 have hnx:=HG.out.1.all.toPInv.next hd8 now
 have q0:=(rd_cells h2).2.2.2.1
 have q2:=(rd_cells h2).2.2.2.2.2
 clear hb2 hgo hG hnow HB1 hd8 hnow'
 rcases hnx with ⟨jn,mm,lw,hd,hU,hWX,hlf⟩ | ⟨hd,hno⟩
 ·obtain⟨sn,hsn,hsl,hway⟩:=HG.out.1.way hU hWX hlf
  have hnwf:=HG.out.1.wf_id hsn
  have HW:=Lib.hid hway
  have hself:=HG.out.1.inv.path_self hsn
  have hgs:getS M jn=sn.1:=by unfold getS;rw [hsn];rfl
  clear hU hWX hlf hway
  have hn:=fun e=>rd_next HG.out.1 h2 hd (over_below w2 e)
  dsimp only [Option.getD,Option.isSome] at hn
  have HN:=Lib.hid hn
  clear hn hd h2
  go_upto_region 6 with fail
  refine wp_region_over (by kernel_rfl) (by kernel_rfl) ?_
  repeat (first | go_big_quiet_skip | (go_big_quiet_want;go_big_quiet_op;first | go_big_quiet_on | (apply Exists.intro;refine⟨fun e=>?_,?_⟩;(focus (first | (go_at_call 13;with_reducible exact calls_over (HN.out e))));go_big_quiet_on)))
  refine wpQuiet_nil ?_
  rintro w3 ⟨e,he⟩
  have hb3:=over_below w2 e
  rw [← he] at hb3
  have h3:=H2.out.later (good_gam _ _ _ _ _ _ _ _) hb3
  have HB3:=Lib.hid (HB2.out.trans (hb3.mono HB2.out.size))
  have H3:=Lib.hid h3
  have g1:=(rd_cells h3).2.1
  obtain⟨S3,hS3⟩:=rd_tree h3 (Below.refl _ _)
  clear he hb3 h3 q0 q2 HN H2 HB2
  have hpath:=tro_path jn hnwf hS3
  clear hS3
  go_upto_region 22 with (go_at_call 29;refine hpath.mono ?_;clear hpath;rintro e w4 hi8;have hb8:Below w3.heap.size w3 w4:=(by obtain⟨_,_,_,h⟩:=hi8;exact h);obtain⟨v8,rfl,h8⟩:=H3.out.ids (good_gam _ _ _ _ _ _ _ _) hi8;obtain⟨S9,hS9⟩:=h8.first;obtain⟨va,vac,hv2⟩:=hS9.form;subst hv2;have HB4:=Lib.hid (HB3.out.trans (hb8.mono HB3.out.size));have H4:=Lib.hid h8;clear hi8 hb8 h8 hS9 H3 HB3)
  obtain⟨L,hL⟩:∃ L,L=pathM M jn:=⟨_,rfl⟩
  rw [← hL] at H4 ⊢
  obtain⟨m,hm⟩:∃ m,m=L.length:=⟨_,rfl⟩
  rw [← hm] at H4 ⊢
  have ml:m≤64:=by
   rw [hm,hL]
   have:=HG.out.1.inv.path_len jn;omega
  have HL:=Lib.hid (And.intro hL hm)
  clear hL hm
  have hm1:0 < m:=by
   have:=List.length_pos_of_mem hself
   rw [← HL.out.1,← HL.out.2] at this
   exact this
  have h4:=H4.out.rest
  have g1':=(rd_cells h4).2.1
  obtain⟨S4,hS4⟩:=rd_tree h4 (Below.refl _ _)
  have hget:=tro_get jn hnwf hS4
  unfold GetW spV spC at hget
  rw [hgs,hsn] at hget
  dsimp only [Option.isSome] at hget
  obtain⟨c,hc⟩:∃ c,c=sn.1:=⟨_,rfl⟩
  rw [← hc] at hget hsl
  have HSL:=Lib.hid hsl
  clear g1 h4 hS4 hgs hself hc hsn hnwf hsl
  go_upto_region 23 with (go_at_call 26;refine hget.mono ?_;clear hget;rintro e w5 ⟨rfl,hb5⟩;have HB5:=Lib.hid (HB4.out.trans (hb5.mono HB4.out.size));have H5:=Lib.hid (H4.out.later ((good_row _ _).star (good_gam _ _ _ _ _ _ _ _)) hb5);clear hb5 H4 HB4)
  have hbx:=Blk.new w5 32 #[.int .i64 c.id,.int .i64 c.pa,.bool c.lf,.int .u64 c.r.1,.int .u64 c.r.2.1,.int .u64 c.r.2.2,.int .u64 c.s.1,.int .u64 c.s.2.1,.int .u64 c.s.2.2,.int .u64 c.u.1,.int .u64 c.u.2.1,.int .u64 c.u.2.2,.int .i64 c.pk,.int .i64 c.by_]
  have hba:=(Below.refl w5.heap.size w5).alloc (Nat.le_refl _) (.cells #[.int .i64 c.id,.int .i64 c.pa,.bool c.lf,.int .u64 c.r.1,.int .u64 c.r.2.1,.int .u64 c.r.2.2,.int .u64 c.s.1,.int .u64 c.s.2.1,.int .u64 c.s.2.2,.int .u64 c.u.1,.int .u64 c.u.2.1,.int .u64 c.u.2.2,.int .i64 c.pk,.int .i64 c.by_] 32)
  have d2:=hbx.cell 2
  simp only [lTA,lCZ,lCS] at d2
  have H6:=Lib.hid (H5.out.later ((good_row _ _).star (good_gam _ _ _ _ _ _ _ _)) hba)
  have HB6:=Lib.hid (HB5.out.trans (hba.mono HB5.out.size))
  clear hbx hba g1' H5 HB5
  generalize w5.alloc (.cells #[.int .i64 c.id,.int .i64 c.pa,.bool c.lf,.int .u64 c.r.1,.int .u64 c.r.2.1,.int .u64 c.r.2.2,.int .u64 c.s.1,.int .u64 c.s.2.1,.int .u64 c.s.2.2,.int .u64 c.u.1,.int .u64 c.u.2.1,.int .u64 c.u.2.2,.int .i64 c.pk,.int .i64 c.by_] 32)=w6 at *
  rw [HSL.out] at d2
  have hm0:¬ m=0:=by omega
  clear HSL
  go_wp2_with fail
  have hmb:((m:Int) == 0)=false:=by
   have h:¬ (m:Int)=0:=by omega
   simpa using h
  rw [hmb]
  clear hm0 hmb
  go_loopw [14] (fun v14 wr=>∃ j:Nat,v14=.int .i64 j∧j≤m∧Below w6.heap.size w6 wr) (fun v14 _=>(m - Go.RowKit.intOf v14).toNat)
  case atStart=>exact⟨0,rfl,Nat.zero_le _,Below.refl _ _⟩
  case round =>
   obtain⟨j,rfl,hj,hb⟩:=hrel
   clear d2
   have hs:=H6.out.later ((good_row _ _).star (good_gam _ _ _ _ _ _ _ _)) hb
   have HB:=Lib.hid (HB6.out.trans (hb.mono HB6.out.size))
   have HBW:=Lib.hid hb
   clear hb
   by_cases hlt:j < m
   ·obtain⟨x,hx⟩:∃ x,L[j]?=some x:=⟨_,List.getElem?_eq_getElem (by have:=HL.out.2;omega)⟩
    obtain⟨hwx,tx,htx,hpx⟩:=HW.out x (by rw [← HL.out.1];exact List.mem_of_getElem? hx)
    obtain⟨pb,rfl,hrow⟩:=hs.row (by have:=HL.out.2;omega) hx
    have cx:=(hrow wr (Below.refl _ _)).1
    have hkeep:∀ w',Below wr.heap.size wr w'→Sx w2 S2 w' (GamO g p t now P M sent wt)∧Below w.heap.size w w'∧Below w6.heap.size w6 w':=fun w' hb =>
     ⟨(hs.later ((good_row _ _).star (good_gam _ _ _ _ _ _ _ _)) hb).rest,HB.out.trans (hb.mono HB.out.size),HBW.out.trans (hb.mono HBW.out.size)⟩
    have HK:=Lib.hid hkeep
    have g1:=(rd_cells hs.rest).2.1
    have hxw:=HG.out.1.wf_id htx
    obtain⟨S4,hS4⟩:=rd_tree hs.rest (Below.refl _ _)
    have hget:=tro_get x hxw hS4
    have hgs:getS M x=tx.1:=by unfold getS;rw [htx];rfl
    unfold GetW spV spC at hget
    rw [hgs,htx] at hget
    dsimp only [Option.isSome] at hget
    have hpaw:(Lit.int .i64 tx.1.pa).wf=true:=by
     by_cases h0:tx.1.pa=0
     ·rw [h0];rfl
     ·obtain⟨cx2,hcx,_⟩:=paP_some hpx
      obtain⟨p2,hp2,_⟩:=HG.out.1.all.wf.par x cx2 hcx (by have:=(HG.out.1.inv.pos htx).1;omega)
      have e:cx2.pa=tx.1.pa:=by have:=paP_of hcx;rw [hpx] at this;exact (Option.some.inj this).symm
      rw [e] at hp2
      obtain⟨s2,hs2,_⟩:=HG.out.1.tree h0 hp2
      exact HG.out.1.wf_id hs2
    obtain⟨c,hc⟩:∃ c,c=tx.1:=⟨_,rfl⟩
    rw [← hc] at hget hpx hpaw
    have HX:=Lib.hid (And.intro hwx (And.intro hpx (And.intro hxw hpaw)))
    clear hs hx hS4 hgs hkeep hwx htx hpx hxw hpaw hrow hc
    go_upto_region 30 with (go_at_call 26;refine hget.mono ?_;clear hget;rintro e w7 ⟨rfl,hb7⟩;have HB7:=Lib.hid hb7;clear hb7)
    clear cx g1
    have hbx:=Blk.new w7 32 #[.int .i64 c.id,.int .i64 c.pa,.bool c.lf,.int .u64 c.r.1,.int .u64 c.r.2.1,.int .u64 c.r.2.2,.int .u64 c.s.1,.int .u64 c.s.2.1,.int .u64 c.s.2.2,.int .u64 c.u.1,.int .u64 c.u.2.1,.int .u64 c.u.2.2,.int .i64 c.pk,.int .i64 c.by_]
    have hba:=(Below.refl w7.heap.size w7).alloc (Nat.le_refl _) (.cells #[.int .i64 c.id,.int .i64 c.pa,.bool c.lf,.int .u64 c.r.1,.int .u64 c.r.2.1,.int .u64 c.r.2.2,.int .u64 c.s.1,.int .u64 c.s.2.1,.int .u64 c.s.2.2,.int .u64 c.u.1,.int .u64 c.u.2.1,.int .u64 c.u.2.2,.int .i64 c.pk,.int .i64 c.by_] 32)
    have HB8:=Lib.hid (HB7.out.trans (hba.mono HB7.out.size))
    have HD:=Lib.hid hbx
    clear hbx hba HB7
    obtain⟨D,hD⟩:∃ D,D=w7.heap.size:=⟨_,rfl⟩
    rw [← hD] at HD ⊢
    clear hD
    generalize w7.alloc (.cells #[.int .i64 c.id,.int .i64 c.pa,.bool c.lf,.int .u64 c.r.1,.int .u64 c.r.2.1,.int .u64 c.r.2.2,.int .u64 c.s.1,.int .u64 c.s.2.1,.int .u64 c.s.2.2,.int .u64 c.u.1,.int .u64 c.u.2.1,.int .u64 c.u.2.2,.int .i64 c.pk,.int .i64 c.by_] 32)=w8 at *
    obtain⟨h8,_,_⟩:=HK.out w8 HB8.out
    have q0:=(rd_cells h8).2.2.2.1
    have q2:=(rd_cells h8).2.2.2.2.2
    have hva:=fun e=>rd_awake HG.out.1 h8 x HX.out.2.2.1 (over_below w8 e)
    have hvf:=fun e=>rd_fit HG.out.1 HG.out.2 h8 x HX.out.2.2.1 (over_below w8 e)
    have hax:=HX.out.1.aw
    have hfx:¬ now < fitA P x:=by rw [fitA_aw hax];have:=HX.out.1.fit;omega
    rw [hax] at hva
    generalize fitA P x=fx at hvf hfx
    have hfd:decide (now < fx)=false:=decide_eq_false hfx
    have HVA:=Lib.hid hva
    have HVF:=Lib.hid hvf
    clear h8 hva hvf hax
    refine wp_region_over (by kernel_rfl) (by kernel_rfl) ?_
    repeat (first | go_big_quiet_skip | (go_big_quiet_want;go_big_quiet_op;first | go_big_quiet_on | (apply Exists.intro;refine⟨fun e=>?_,?_⟩;(focus (first | (go_at_call 23;with_reducible exact calls_over (HVA.out e)) | (go_at_call 24;with_reducible exact calls_over (HVF.out e))));go_big_quiet_on)))
    refine wpQuiet_nil ?_
    rintro w9 ⟨e,he⟩
    have hb9:=over_below w8 e
    rw [← he] at hb9
    have hx9:=HD.out.below hb9 HD.out.lt
    have HD9:=Lib.hid hx9
    have HB9:=Lib.hid (HB8.out.trans (hb9.mono HB8.out.size))
    clear he hb9 q0 q2 hfx hfd HVA HVF hx9 HD HB8
    go_upto_region 32 with fail
    obtain⟨h9,_,_⟩:=HK.out w9 HB9.out
    have q1:=(rd_cells h9).2.2.2.2.1
    have qp:=fun e=>(over_cell (w:=w9) (e:=e) (o:=1) HD9.out.lt).trans (HD9.out.cell 1)
    simp only [lTA,lCZ,lCS] at qp
    refine wp_region_over_tail 6 (by kernel_rfl) (by kernel_rfl) ?_
    simp only [List.take_succ_cons,List.take_zero,List.drop_succ_cons,List.drop_zero]
    repeat (first | go_big_quiet_skip | (go_big_quiet_want;go_big_quiet_op;go_big_quiet_on))
    refine wpQuiet_nil ?_
    rintro w10 ⟨e,he⟩
    have hb10:=over_below w9 e
    rw [← he] at hb10
    have HB10:=Lib.hid (HB9.out.trans (hb10.mono HB9.out.size))
    clear he hb10 h9 q1 qp HB9 HD9
    obtain⟨h10,_,_⟩:=HK.out w10 HB10.out
    obtain⟨S8,hS8⟩:=rd_tree h10 (Below.refl _ _)
    have hund:=tro_under c.pa HX.out.2.2.2 hS8
    have H10:=Lib.hid h10
    clear h10 hS8
    go_upto_region 33 with (go_at_call 22;refine hund.mono ?_;clear hund;rintro e w11 hi8;have hb8:Below w10.heap.size w10 w11:=(by obtain⟨_,_,_,h⟩:=hi8;exact h);obtain⟨v8,rfl,h8⟩:=H10.out.ids (good_gam _ _ _ _ _ _ _ _) hi8;obtain⟨S9,hS9⟩:=h8.first;obtain⟨vk,vkc,hv2⟩:=hS9.form;subst hv2;have HB11:=Lib.hid (HB10.out.trans (hb8.mono HB10.out.size));have H11:=Lib.hid h8;clear hi8 hb8 h8 hS9 H10 HB10)
    obtain⟨K,hL⟩:∃ L,L=kids M c.pa:=⟨_,rfl⟩
    rw [← hL] at H11 ⊢
    obtain⟨mk,hm⟩:∃ m,m=K.length:=⟨_,rfl⟩
    rw [← hm] at H11 ⊢
    have mkl:mk≤64:=by
     rw [hm,hL]
     have:=kids_len M c.pa;have:=HG.out.1.inv.few;omega
    have HKK:=Lib.hid (And.intro hL hm)
    clear hL hm
    go_wp2_with fail
    go_loopw [19] (fun v19 wr=>∃ q:Nat,v19=.int .i64 q∧q≤mk∧Below w11.heap.size w11 wr) (fun v19 _=>(mk - Go.RowKit.intOf v19).toNat)
    case atStart=>exact⟨0,rfl,Nat.zero_le _,Below.refl _ _⟩
    case round =>
     obtain⟨q,rfl,hq,hb⟩:=hrel
     have hs:=H11.out.later ((good_row _ _).star (good_gam _ _ _ _ _ _ _ _)) hb
     have HBk:=Lib.hid hb
     clear hb
     by_cases hlq:q < mk
     ·obtain⟨y,hy⟩:∃ y,K[q]?=some y:=⟨_,List.getElem?_eq_getElem (by have:=HKK.out.2;omega)⟩
      obtain⟨kb,rfl,hrow⟩:=hs.row (by have:=HKK.out.2;omega) hy
      have cy:=(hrow wr (Below.refl _ _)).1
      have hyk:y∈kids M c.pa:=by rw [← HKK.out.1];exact List.mem_of_getElem? hy
      obtain⟨hyp,hy0⟩:=HG.out.1.kid.1 hyk
      obtain⟨cy2,hcy,_⟩:=paP_some hyp
      obtain⟨sy,hsy,_⟩:=HG.out.1.tree hy0 hcy
      have hyw:=HG.out.1.wf_id hsy
      have h12:=hs.rest
      have q0:=(rd_cells h12).2.2.2.1
      have q2:=(rd_cells h12).2.2.2.2.2
      have hva:=fun e=>rd_awake HG.out.1 h12 y hyw (over_below wr e)
      have hvf:=fun e=>rd_fit HG.out.1 HG.out.2 h12 y hyw (over_below wr e)
      have hvy:=fun e=>rd_v HG.out.1 h12 y hyw (over_below wr e)
      have hvx:=fun e=>rd_v HG.out.1 h12 x HX.out.2.2.1 (over_below wr e)
      have hfirst:awP P y=true→fitA P y≤now→¬ (vP P y < vP P x∨vP P y=vP P x∧y < x):=fun ha hf=>HX.out.1.first y (by rw [hyp,HX.out.2.1]) ha (by rw [← fitA_aw ha];exact hf)
      generalize awP P y=ay at hva hfirst
      generalize fitA P y=fy at hvf hfirst
      generalize vP P y=vy at hvy hfirst
      generalize vP P x=vx at hvx hfirst
      clear hs hy hrow hyk hyp hy0 hcy hsy hyw h12
      have HVF:=Lib.hid hvf
      have HVX:=Lib.hid hvx
      go_upto_region 37 with fail
      clear cy
      cases ay with
      | false =>
       have HVA:=Lib.hid hva
       clear hva hvf hvy hvx hfirst
       refine wp_region_over (by kernel_rfl) (by kernel_rfl) ?_
       repeat (first | go_big_quiet_skip | (go_big_quiet_want;go_big_quiet_op;first | go_big_quiet_on | (apply Exists.intro;refine⟨fun e=>?_,?_⟩;(focus (first | (go_at_call 23;with_reducible exact calls_over (HVA.out e))));go_big_quiet_on)))
       refine wpQuiet_nil ?_
       rintro w13 ⟨e,he⟩
       have hb13:=over_below wr e
       rw [← he] at hb13
       have HB13:=Lib.hid (HBk.out.trans (hb13.mono HBk.out.size))
       clear he hb13 q0 q2
       go_wp2_with fail
       go_roundw
       case measure=>(simp [Go.RowKit.intOf];try omega)
       case rel=>exact⟨q+1,by go_num,by omega,HB13.out⟩
      | true =>
       have HVA:=Lib.hid hva
       by_cases hle:fy≤now
       ·have hno:=hfirst rfl hle
        have hd1:decide (fy≤now)=true:=decide_eq_true hle
        have hd2:decide (vy < vx)=false:=decide_eq_false (by omega)
        by_cases hveq:vy=vx
        ·subst hveq
         have hd3:decide (y < x)=false:=decide_eq_false (by omega)
         have HVY:=Lib.hid hvy
         clear hva hvf hvy hvx hfirst hle hno
         refine wp_region_over (by kernel_rfl) (by kernel_rfl) ?_
         repeat (first | go_big_quiet_skip | (go_big_quiet_want;go_big_quiet_op;first | go_big_quiet_on | (apply Exists.intro;refine⟨fun e=>?_,?_⟩;(focus (first | (go_at_call 23;with_reducible exact calls_over (HVA.out e)) | (go_at_call 24;with_reducible exact calls_over (HVF.out e)) | (go_at_call 30;with_reducible exact calls_over (HVY.out e)) | (go_at_call 30;with_reducible exact calls_over (HVX.out e))));go_big_quiet_on)))
         refine wpQuiet_nil ?_
         rintro w13 ⟨e,he⟩
         have hb13:=over_below wr e
         rw [← he] at hb13
         have HB13:=Lib.hid (HBk.out.trans (hb13.mono HBk.out.size))
         clear he hb13 q0 q2
         go_wp2_with fail
         go_roundw
         case measure=>(simp [Go.RowKit.intOf];try omega)
         case rel=>exact⟨q+1,by go_num,by omega,HB13.out⟩
        ·have hd3:decide (vy=vx)=false:=decide_eq_false hveq
         have hd4:(vy == vx)=false:=by simpa using hveq
         have HVY:=Lib.hid hvy
         clear hva hvf hvy hvx hfirst hle hno
         refine wp_region_over (by kernel_rfl) (by kernel_rfl) ?_
         repeat (first | go_big_quiet_skip | (go_big_quiet_want;go_big_quiet_op;first | go_big_quiet_on | (apply Exists.intro;refine⟨fun e=>?_,?_⟩;(focus (first | (go_at_call 23;with_reducible exact calls_over (HVA.out e)) | (go_at_call 24;with_reducible exact calls_over (HVF.out e)) | (go_at_call 30;with_reducible exact calls_over (HVY.out e)) | (go_at_call 30;with_reducible exact calls_over (HVX.out e))));go_big_quiet_on)))
         refine wpQuiet_nil ?_
         rintro w13 ⟨e,he⟩
         have hb13:=over_below wr e
         rw [← he] at hb13
         have HB13:=Lib.hid (HBk.out.trans (hb13.mono HBk.out.size))
         clear he hb13 q0 q2
         go_wp2_with fail
         go_roundw
         case measure=>(simp [Go.RowKit.intOf];try omega)
         case rel=>exact⟨q+1,by go_num,by omega,HB13.out⟩
       ·have hd1:decide (fy≤now)=false:=decide_eq_false hle
        clear hva hvf hvy hvx hfirst
        refine wp_region_over (by kernel_rfl) (by kernel_rfl) ?_
        repeat (first | go_big_quiet_skip | (go_big_quiet_want;go_big_quiet_op;first | go_big_quiet_on | (apply Exists.intro;refine⟨fun e=>?_,?_⟩;(focus (first | (go_at_call 23;with_reducible exact calls_over (HVA.out e)) | (go_at_call 24;with_reducible exact calls_over (HVF.out e))));go_big_quiet_on)))
        refine wpQuiet_nil ?_
        rintro w13 ⟨e,he⟩
        have hb13:=over_below wr e
        rw [← he] at hb13
        have HB13:=Lib.hid (HBk.out.trans (hb13.mono HBk.out.size))
        clear he hb13 q0 q2
        go_wp2_with fail
        go_roundw
        case measure=>(simp [Go.RowKit.intOf];try omega)
        case rel=>exact⟨q+1,by go_num,by omega,HB13.out⟩
     ·obtain rfl:q=mk:=by omega
      have HBt:=Lib.hid (HB11.out.trans (HBk.out.mono HB11.out.size))
      clear hs HBk HB11 H11
      go_wp2_with fail
      go_roundw
      case measure=>(simp [Go.RowKit.intOf];try omega)
      case rel=>exact⟨j+1,by go_num,by omega,(HK.out _ HBt.out).2.2⟩
   ·obtain rfl:j=m:=by omega
    clear hs H6
    go_wp2_with fail
    go_ret
    exact⟨rfl,HB.out⟩
 ·have HNO:=Lib.hid hno
  clear hno
  have hn:=fun e=>rd_next HG.out.1 h2 hd (over_below w2 e)
  dsimp only [Option.getD,Option.isSome] at hn
  have HN:=Lib.hid hn
  clear hn hd h2
  go_upto_region 6 with fail
  refine wp_region_over (by kernel_rfl) (by kernel_rfl) ?_
  repeat (first | go_big_quiet_skip | (go_big_quiet_want;go_big_quiet_op;first | go_big_quiet_on | (apply Exists.intro;refine⟨fun e=>?_,?_⟩;(focus (first | (go_at_call 13;with_reducible exact calls_over (HN.out e))));go_big_quiet_on)))
  refine wpQuiet_nil ?_
  rintro w3 ⟨e,he⟩
  have hb3:=over_below w2 e
  rw [← he] at hb3
  have h3:=H2.out.later (good_gam _ _ _ _ _ _ _ _) hb3
  have HB3:=Lib.hid (HB2.out.trans (hb3.mono HB2.out.size))
  have H3:=Lib.hid h3
  have g1:=(rd_cells h3).2.1
  obtain⟨S3,hS3⟩:=rd_tree h3 (Below.refl _ _)
  clear he hb3 h3 q0 q2 HN H2 HB2
  have hlv:=tro_leaves 0 (by decide) hS3
  clear hS3
  go_upto_region 9 with (go_at_call 28;refine hlv.mono ?_;clear hlv;rintro e w4 hi8;have hb8:Below w3.heap.size w3 w4:=(by obtain⟨_,_,_,h⟩:=hi8;exact h);obtain⟨v8,rfl,h8⟩:=H3.out.ids (good_gam _ _ _ _ _ _ _ _) hi8;obtain⟨S9,hS9⟩:=h8.first;obtain⟨va,vac,hv2⟩:=hS9.form;subst hv2;have HB4:=Lib.hid (HB3.out.trans (hb8.mono HB3.out.size));have H4:=Lib.hid h8;clear hi8 hb8 h8 hS9 H3 HB3)
  obtain⟨L,hL⟩:∃ L,L=leavesM M 0:=⟨_,rfl⟩
  rw [← hL] at H4 ⊢
  obtain⟨m,hm⟩:∃ m,m=L.length:=⟨_,rfl⟩
  rw [← hm] at H4 ⊢
  have ml:m≤64:=by
   rw [hm,hL]
   have:=leaves_len M 0;have:=HG.out.1.inv.few;omega
  have HL:=Lib.hid (And.intro hL hm)
  clear hL hm
  clear g1
  go_wp2_with fail
  go_loopw [7] (fun v7 wr=>∃ j:Nat,v7=.int .i64 j∧j≤m∧Below w4.heap.size w4 wr) (fun v7 _=>(m - Go.RowKit.intOf v7).toNat)
  case atStart=>exact⟨0,rfl,Nat.zero_le _,Below.refl _ _⟩
  case round =>
   obtain⟨j,rfl,hj,hb⟩:=hrel
   have hs:=H4.out.later ((good_row _ _).star (good_gam _ _ _ _ _ _ _ _)) hb
   have HB:=Lib.hid (HB4.out.trans (hb.mono HB4.out.size))
   have HBW:=Lib.hid hb
   clear hb
   by_cases hlt:j < m
   ·obtain⟨x,hx⟩:∃ x,L[j]?=some x:=⟨_,List.getElem?_eq_getElem (by have:=HL.out.2;omega)⟩
    obtain⟨sx,hsx,_⟩:=(mem_leaves HG.out.1.inv.rise).1 (show x∈leavesM M 0 by rw [← HL.out.1];exact List.mem_of_getElem? hx)
    have hfin:=HG.out.1.held HNO.out hsx
    obtain⟨pb,rfl,hrow⟩:=hs.row (by have:=HL.out.2;omega) hx
    have hxw:=HG.out.1.wf_id hsx
    have hkeep:∀ w',Below wr.heap.size wr w'→Sx w2 S2 w' (GamO g p t now P M sent wt)∧(∀ e,(over w' e).cell? ⟨pb,j,none⟩=some (.int .i64 x))∧Below w.heap.size w w'∧Below w4.heap.size w4 w':=fun w' hb =>
     ⟨(hs.later ((good_row _ _).star (good_gam _ _ _ _ _ _ _ _)) hb).rest,(hrow w' hb).2,HB.out.trans (hb.mono HB.out.size),HBW.out.trans (hb.mono HBW.out.size)⟩
    have HK:=Lib.hid hkeep
    have HF:=Lib.hid hfin
    have HX:=Lib.hid hxw
    have q1:=(rd_cells hs.rest).2.2.2.2.1
    have qx:=(hrow wr (Below.refl _ _)).2
    clear hs hx hsx hfin hrow hxw hkeep
    go_upto_region 12 with fail
    refine wp_region_over_tail 8 (by kernel_rfl) (by kernel_rfl) ?_
    simp only [List.take_succ_cons,List.take_zero,List.drop_succ_cons,List.drop_zero]
    repeat (first | go_big_quiet_skip | (go_big_quiet_want;go_big_quiet_op;go_big_quiet_on))
    refine wpQuiet_nil ?_
    rintro w7 ⟨e,he⟩
    have hb7:=over_below wr e
    rw [← he] at hb7
    have HB7:=Lib.hid hb7
    clear he hb7 q1 qx
    obtain⟨h7,_,_,_⟩:=HK.out w7 HB7.out
    obtain⟨S8,hS8⟩:=rd_tree h7 (Below.refl _ _)
    have hpath:=tro_path x HX.out hS8
    have H7:=Lib.hid h7
    clear h7 hS8
    go_upto_region 13 with (go_at_call 29;refine hpath.mono ?_;clear hpath;rintro e w8 hi8;have hb8:Below w7.heap.size w7 w8:=(by obtain⟨_,_,_,h⟩:=hi8;exact h);obtain⟨v8,rfl,h8⟩:=H7.out.ids (good_gam _ _ _ _ _ _ _ _) hi8;obtain⟨S9,hS9⟩:=h8.first;obtain⟨vk,vkc,hv2⟩:=hS9.form;subst hv2;have HB8:=Lib.hid (HB7.out.trans (hb8.mono HB7.out.size));have H8:=Lib.hid h8;clear hi8 hb8 h8 hS9 H7 HB7)
    obtain⟨K,hL⟩:∃ L,L=pathM M x:=⟨_,rfl⟩
    rw [← hL] at H8 ⊢
    obtain⟨mk,hm⟩:∃ m,m=K.length:=⟨_,rfl⟩
    rw [← hm] at H8 ⊢
    have mkl:mk≤64:=by
     rw [hm,hL]
     have:=HG.out.1.inv.path_len x;omega
    have HKK:=Lib.hid (And.intro hL hm)
    clear hL hm
    obtain⟨h8,qx,_,_⟩:=HK.out w8 HB8.out
    have q0:=(rd_cells h8).2.2.2.1
    have hva:=fun e=>rd_awake HG.out.1 h8 x HX.out (over_below w8 e)
    rw [← HKK.out.1] at HF
    generalize awP P x=aw at hva HF
    have HVA:=Lib.hid hva
    clear h8 hva
    refine wp_region_over (by kernel_rfl) (by kernel_rfl) ?_
    repeat (first | go_big_quiet_skip | (go_big_quiet_want;go_big_quiet_op;first | go_big_quiet_on | (apply Exists.intro;refine⟨fun e=>?_,?_⟩;(focus (first | (go_at_call 23;with_reducible exact calls_over (HVA.out e))));go_big_quiet_on)))
    refine wpQuiet_nil ?_
    rintro w9 ⟨e,he⟩
    have hb9:=over_below w8 e
    rw [← he] at hb9
    have HB9:=Lib.hid (HB8.out.trans (hb9.mono HB8.out.size))
    have H9:=Lib.hid (H8.out.later ((good_row _ _).star (good_gam _ _ _ _ _ _ _ _)) hb9)
    clear he hb9 q0 qx HVA H8 HB8
    go_wp2_with fail
    go_loopw [9,10] (fun v9 v10 wr=>∃ q:Nat,v9=.bool (!aw || anyLate P now (K.take q))∧v10=.int .i64 q∧q≤mk∧Below w9.heap.size w9 wr) (fun v9 v10 _=>(mk - Go.RowKit.intOf v10).toNat)
    case atStart=>exact⟨0,by simp [anyLate],rfl,Nat.zero_le _,Below.refl _ _⟩
    case round =>
     obtain⟨q,rfl,rfl,hq,hb⟩:=hrel
     have hs:=H9.out.later ((good_row _ _).star (good_gam _ _ _ _ _ _ _ _)) hb
     have HBk:=Lib.hid hb
     clear hb
     by_cases hlq:q < mk
     ·obtain⟨y,hy⟩:∃ y,K[q]?=some y:=⟨_,List.getElem?_eq_getElem (by have:=HKK.out.2;omega)⟩
      obtain⟨kb,rfl,hrow⟩:=hs.row (by have:=HKK.out.2;omega) hy
      have qy:=(hrow wr (Below.refl _ _)).2
      have hyk:y∈pathM M x:=by rw [← HKK.out.1];exact List.mem_of_getElem? hy
      obtain⟨⟨sy,hsy⟩,_⟩:=HG.out.1.inv.path_mem (dep M x) (Nat.le_refl _) y hyk
      have hyw:=HG.out.1.wf_id hsy
      have h12:=hs.rest
      have q0:=(rd_cells h12).2.2.2.1
      have q2:=(rd_cells h12).2.2.2.2.2
      have hst:=late_step (P:=P) (now:=now) hy
      have hvf:=fun e=>rd_fit HG.out.1 HG.out.2 h12 y hyw (over_below wr e)
      have HVF:=Lib.hid hvf
      generalize hbb:anyLate P now (K.take q)=bb at hst ⊢
      generalize fitA P y=fy at hst hvf HVF
      have HST:=Lib.hid hst
      clear hs hy hrow hyk hsy hyw h12 hst hvf hbb
      obtain⟨b1,hb1⟩:∃ b1,b1=(!aw || bb):=⟨_,rfl⟩
      rw [← hb1]
      have HB1':=Lib.hid hb1
      clear hb1
      cases b1 with
      | true =>
       go_upto_region 17 with fail
       refine wp_region_over (by kernel_rfl) (by kernel_rfl) ?_
       repeat (first | go_big_quiet_skip | (go_big_quiet_want;go_big_quiet_op;go_big_quiet_on))
       refine wpQuiet_nil ?_
       rintro w13 ⟨e,he⟩
       have hb13:=over_below wr e
       rw [← he] at hb13
       have HB13:=Lib.hid (HBk.out.trans (hb13.mono HBk.out.size))
       clear he hb13 q0 q2 qy
       go_wp2_with fail
       go_roundw
       case measure=>(simp [Go.RowKit.intOf];try omega)
       case rel=>exact⟨q+1,by rw [HST.out,← Bool.or_assoc,← HB1'.out];rfl,by go_num,by omega,HB13.out⟩
      | false =>
       go_upto_region 17 with fail
       refine wp_region_over (by kernel_rfl) (by kernel_rfl) ?_
       repeat (first | go_big_quiet_skip | (go_big_quiet_want;go_big_quiet_op;first | go_big_quiet_on | (apply Exists.intro;refine⟨fun e=>?_,?_⟩;(focus (first | (go_at_call 24;with_reducible exact calls_over (HVF.out e))));go_big_quiet_on)))
       refine wpQuiet_nil ?_
       rintro w13 ⟨e,he⟩
       have hb13:=over_below wr e
       rw [← he] at hb13
       have HB13:=Lib.hid (HBk.out.trans (hb13.mono HBk.out.size))
       clear he hb13 q0 q2 qy
       go_wp2_with fail
       go_roundw
       case measure=>(simp [Go.RowKit.intOf];try omega)
       case rel=>exact⟨q+1,by rw [HST.out,← Bool.or_assoc,← HB1'.out];rfl,by go_num,by omega,HB13.out⟩
     ·obtain rfl:q=mk:=by omega
      have htake:K.take q=K:=by rw [HKK.out.2,List.take_length]
      rw [htake,HF.out]
      have HBt:=Lib.hid (HB9.out.trans (HBk.out.mono HB9.out.size))
      clear hs htake HBk HB9 H9
      go_wp2_with fail
      go_roundw
      case measure=>(simp [Go.RowKit.intOf];try omega)
      case rel=>exact⟨j+1,by go_num,by omega,(HK.out _ HBt.out).2.2.2⟩
   ·obtain rfl:j=m:=by omega
    clear hs H4
    go_wp2_with fail
    go_ret
    exact⟨rfl,HB.out⟩
end
end Go.Proofs.YtmmeopjemkjllaaGreat
