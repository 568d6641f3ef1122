/- Lemmas of the claim. No conditions beyond those that each states. -/
import Derived.Test.YtmmeopjemkjllaaGreatPT41
set_option linter.unusedVariables false
set_option linter.unusedSimpArgs false
set_option maxRecDepth 100000
set_option maxHeartbeats 8000000
namespace Go.Proofs.YtmmeopjemkjllaaGreat
section
open Go.RowKit Go.Maps
attribute [local go_sem ↓] Go.wp_at_zero Go.wp_at_succ
attribute [local go_sem] quietR quietAtR quietUponR midAt midUpon
def RowO (v:Value)(l:List Int):Ob:=fun W S=>W.ownsRow 0 3 1 v l.length (l.map (Value.int .i64))∧∀ b,S b↔v.ownBlock=some b
theorem good_row (v:Value)(l:List Int):Good (RowO v l) :=
 ⟨fun ⟨h,hS⟩ b hb=>(h.lt b ((hS b).1 hb)).2,fun ⟨h,hS⟩ _ hk=>⟨owns_heapH h fun b hb=>hk b ((hS b).2 hb),hS⟩⟩
theorem Sx.ids {w0 W W':World} {A:Nat→Prop} {R:Ob} {l:List Int} (hR:Good R)(h:Sx w0 A W R) {e:Ending} (hi:IdsW W l e W'):∃ v,e=.returned v∧Sx w0 A W' (Star (RowO v l) R):=by
 obtain⟨v,he,ho,hb⟩:=hi
 exact⟨v,he,h.made (S:=fun b=>v.ownBlock=some b) hR (good_row v l) hb ⟨owns_baseH ho (Nat.zero_le _),fun b=>Iff.rfl⟩ fun b hb2=>(ho.lt b hb2).1⟩
theorem RowO.form {W:World} {S:Nat→Prop} {v:Value} {l:List Int} (h:RowO v l W S):∃ a cap,v=.slice a l.length cap:=owns_slice h.1
theorem RowO.cell {W:World} {S:Nat→Prop} {v:Value} {l:List Int} {i:Nat} {x:Int} (h:RowO v l W S)(hl:l.length≤1000000)(hx:l[i]?=some x):∃ b cap,v=.slice (some ⟨b,0,none⟩) l.length cap∧W.cell? ⟨b,i,none⟩=some (.int .i64 x):=by
 rcases h.1.2 with ⟨rfl,h0⟩ | ⟨g,cap,cur,rfl,h1,h2,h3,h4⟩
 ·have:=(List.getElem?_eq_some_iff.1 hx).1;omega
 ·refine⟨g,cap,rfl,?_⟩
  rw [h.1.cellAt i (by have:=(List.getElem?_eq_some_iff.1 hx).1;omega),List.getElem?_map,hx];rfl
theorem Acts.pk {W:World} {k:Nat} {P P':Pk} {φ:Ending→Prop} {f:FuncId} {args:Array Value} {prog:Program} (h:∀ mb ps,Acts φ (PkX k mb ps P) (PkX k mb ps P') f args prog W):Acts φ (PkO k P) (PkO k P') f args prog W:=fun A ⟨mb,ps,hA⟩ =>
 (h mb ps A hA).mono fun e W' ⟨h1,A',hq,hw⟩=>⟨h1,A',⟨mb,ps,hq⟩,hw⟩
theorem Acts.pkO {W:World} {k:Nat} {P P':Pk} {φ:Ending→Prop} {f:FuncId} {args:Array Value} {prog:Program} (h:∀ mb ps,Acts φ (PkX k mb ps P) (PkO k P') f args prog W):Acts φ (PkO k P) (PkO k P') f args prog W:=fun A ⟨mb,ps,hA⟩=>h mb ps A hA
def moreS (sent:Int→Int)(n:Int)(l:List Int):Int→Int:=fun j=>if j∈l then sent j+n else sent j
theorem moreS_step {sent:Int→Int} {n:Int} {l:List Int} (hn:l.Nodup) {i:Nat} {x:Int} (hx:l[i]?=some x):(fun j=>if j=x then moreS sent n (l.take i) x+n else moreS sent n (l.take i) j)=moreS sent n (l.take (i+1)):=by
 have hlt:=(List.getElem?_eq_some_iff.1 hx).1
 have hxi:=(List.getElem?_eq_some_iff.1 hx).2
 have hnot:x ∉ l.take i:=fun hm=>by
  obtain⟨k,hk,hk2⟩:=List.mem_take_iff_getElem.1 hm
  have:=(List.getElem_inj (h₀:=by omega) (h₁:=hlt) hn).1 (hk2.trans hxi.symm)
  omega
 have htk:l.take (i+1)=l.take i ++ [x]:=by rw [List.take_add_one,hx];rfl
 funext j
 unfold moreS
 rw [htk]
 by_cases e:j=x
 ·subst e
  rw [if_pos rfl,if_neg hnot,if_pos (by simp)]
 ·rw [if_neg e]
  by_cases hm:j∈l.take i
  ·rw [if_pos hm,if_pos (by simp [hm])]
  ·rw [if_neg hm,if_neg (by simp [hm,e])]
theorem gsend_any {W:World} {g p t n k:Nat} {now:Int} {P:Pk} {M:Mp} {sent:Int→Int} {wt:Int→Bool} {i:Nat} {s:Cl} {a:GAct} (hG:GInv n k P M wt sent)(hs:lookM M (i:Int)=some s)(hl:s.1.lf=true)(hw:wt (i:Int)=true)(hn:n+32 < 100000)(hk:k < 1000)(ha:WfA a) :
  Acts (fun e=>e=.returned (.tuple #[])) (GamO g p t now P M sent wt) (GamO g p t now (sentP owL reachR i (a.g.tmod 524288) a.mo (pathM M i) P) M (moreS sent (a.g.tmod 524288) (pathM M i)) (fun j=>if j=i then a.mo else wt j)) 110 #[.pointer (some ⟨g,0,none⟩),.int .i64 i,actV a] Tryz.prog W:=fun A h=>by
 have hi1:=(hG.inv.pos hs).1
 have hi2:=hG.ids _ _ hs
 have hi:i < 64:=by omega
 have hg0:=Int.tmod_nonneg 524288 ha.g.1
 have hg1:=Int.tmod_lt_of_pos a.g (show (0:Int) < 524288 by decide)
 obtain⟨gr,hgr⟩:∃ gr,gr=a.g.tmod 524288:=⟨_,rfl⟩
 have hid:(Lit.int .i64 (i:Int)).wf=true:=wf_small (by omega) (by omega)
 obtain⟨c,hc,hr,_⟩:=hG.pick hs
 have hpl:=hG.inv.path_len (i:Int)
 have hact:∀ W,Acts (fun e=>e=.returned (.tuple #[])) (PkO p P) (PkO p (sentP owL reachR i gr a.mo (pathM M i) P)) 15 #[.pointer (some ⟨p,0,none⟩),.int .i64 i,.int .u64 gr,.bool a.mo] Tryz.prog W:=fun W=>Acts.pk fun mb ps=>psent_any hG.pb hG.num (hG.upL hs) (by omega) (by rw [hgr];unfold U;omega) (by omega) hc (by rw [hr.lf,hl])
 have hs0:=(Sx.start (P:=GamO g p t now P M sent wt) h).alloc (good_gam _ _ _ _ _ _ _ _) (actC a) 94
 have H0:=Lib.hid hs0
 have HG:=Lib.hid (And.intro hG (And.intro hs (And.intro hpl (And.intro hgr (And.intro hg0 hg1)))))
 have HA:=Lib.hid hact
 clear h hs0 hG hs hpl hc hr hact hw hl
 unfold actV actC at *
 rw [← hgr]
 have hgr2:a.g.tmod 524288=gr:=hgr.symm
 clear hgr
 go_enter Tryz.func110,Tryz.ntmps110
 go_upto_region 1 with fail
 generalize hW1:W.alloc (.cells #[.int .u8 a.k,.int .i64 a.s.id,.int .i64 a.s.pa,.bool a.s.lf,.int .u64 a.s.r.1,.int .u64 a.s.r.2.1,.int .u64 a.s.r.2.2,.int .u64 a.s.s.1,.int .u64 a.s.s.2.1,.int .u64 a.s.s.2.2,.int .u64 a.s.u.1,.int .u64 a.s.u.2.1,.int .u64 a.s.u.2.2,.int .i64 a.s.pk,.int .i64 a.s.by_,.int .u64 a.af,.int .u64 a.g,.bool a.mo] 94)=W1 at H0 ⊢
 obtain⟨B,hB⟩:∃ B,B=W.heap.size:=⟨_,rfl⟩
 rw [← hB] at H0 ⊢
 clear hB hW1
 have b16:=H0.out.box.cell 16
 simp only [lTA,lCZ,lCS] at b16
 go_upto_region 2 with fail
 clear b16
 have hbx:=H0.out.box
 have hgx:=H0.out.rest.box
 have o17:=fun e=>(over_cell (w:=W1) (e:=e) (o:=17) hbx.lt).trans (hbx.cell 17)
 have o0:=fun e=>((over_cell (w:=W1) (e:=e) (o:=0) hgx.lt).trans (hgx.cell 0)).trans game_p
 simp only [lTA,lCZ,lCS] at o17
 clear hbx hgx
 refine wp_region_over_tail 8 (by kernel_rfl) (by kernel_rfl) ?_
 simp only [List.take_succ_cons,List.take_zero,List.drop_succ_cons,List.drop_zero]
 repeat (first | go_big_quiet_skip | (go_big_quiet_want;go_big_quiet_op;go_big_quiet_on))
 refine wpQuiet_nil ?_
 rintro w3 ⟨e,he⟩
 have hb3:=over_below W1 e
 rw [← he] at hb3
 have h3:=H0.out.later ((good_box _ _ _).star (good_gam _ _ _ _ _ _ _ _)) hb3
 have HD:=Lib.hid (Sx.act3 (good_box _ _ _) (good_box _ _ _) (good_pk _ _) (good_treO _ _) h3 (HA.out w3))
 clear he hb3 h3 o0 o17 H0 HA
 go_upto_region 3 with (go_at_call 15;refine HD.out.mono ?_;rintro e w4 ⟨rfl,h4⟩;have H4:=Lib.hid h4;clear h4)
 clear HD
 have b17:=H4.out.box.cell 17
 have g67:=(H4.out.rest.box.cell (67+i)).trans (game_wait hi)
 have f67:=H4.out.rest.box.frozen (67+i)
 simp only [lTA,lCZ,lCS] at b17
 go_region
 have gR:Good (Star (BoxO B 94 (actC a)) (Star (PkO p (sentP owL reachR i gr a.mo (pathM M i) P)) (TreO t M))):=(good_box _ _ _).star ((good_pk _ _).star (good_treO _ _))
 have h5:=(((H4.out.swap.set gR (u:=.bool a.mo) (i:=67+i) (cs':=gameC p t now sent fun j:Int=>if j=(i:Int) then a.mo else wt j) (game_set_wait hi)).swap).later ((good_box _ _ _).star ((good_box _ _ _).star ((good_pk _ _).star (good_treO _ _)))) ((Below.refl _ _).drew))
 obtain⟨wt',hwt⟩:∃ wt':Int→Bool,wt'=fun j:Int=>if j=(i:Int) then a.mo else wt j:=⟨_,rfl⟩
 obtain⟨L,hL⟩:∃ L,L=pathM M i:=⟨_,rfl⟩
 obtain⟨P',hP'⟩:∃ P',P'=sentP owL reachR i gr a.mo (pathM M i) P:=⟨_,rfl⟩
 rw [← hwt,← hP'] at h5
 clear b17 g67 f67 gR H4
 generalize (w4.setCell ⟨g,67+i,none⟩ (.bool a.mo)).drew=w5 at h5 ⊢
 have g1:=(h5.rest.box.cell 1).trans game_t
 obtain⟨S5,hS5⟩:=h5.rest.rest.env
 have hpath:=tro_path (i:Int) hid hS5
 rw [← hL] at hpath
 have hmem:∀ x∈L,∃ xn:Nat,x=xn∧1≤xn∧xn < 64:=fun x hx=>by
  rw [hL] at hx
  obtain⟨cx,hcx⟩:=(HG.out.1.inv.path_mem (dep M i) (Nat.le_refl _) x hx).1
  have h1:=(HG.out.1.inv.pos hcx).1
  have h2:=HG.out.1.ids _ _ hcx
  exact⟨x.toNat,by omega,by omega,by omega⟩
 have hnd:L.Nodup:=by
  rw [hL]
  exact (HG.out.1.upL HG.out.2.1).nodup HG.out.1.all.wf
 have hlen:L.length≤8:=by rw [hL];exact HG.out.2.2.1
 have hsb:∀ j:Int,0≤sent j∧sent j+gr < 9223372036854775808:=fun j=>by
  have:=HG.out.1.sent j
  have:=HG.out.2.2.2.2
  omega
 have hg0':0≤gr:=by have:=HG.out.2.2.2.2;omega
 have H5:=Lib.hid h5
 have HM:=Lib.hid (And.intro hmem (And.intro hnd (And.intro hsb hg0')))
 have HQ:=Lib.hid (And.intro hwt (And.intro hL hP'))
 clear h5 hS5 hmem hnd hsb hg0' HG hL hP' hwt hgr2
 have gR:Good (Star (BoxO B 94 (actC a)) (Star (BoxO g 49 (gameC p t now sent wt')) (Star (PkO p P') (TreO t M)))):=(good_box _ _ _).star ((good_box _ _ _).star ((good_pk _ _).star (good_treO _ _)))
 have GR:=Lib.hid gR
 clear gR
 go_wp2_with (go_at_call 29;refine hpath.mono ?_;clear hpath;rintro e w6 hi6;obtain⟨v,rfl,h6⟩:=H5.out.ids GR.out hi6;obtain⟨S6,hS6⟩:=h6.first;obtain⟨va,vc,hv⟩:=hS6.form;subst hv;have H6:=Lib.hid h6;clear h6 hS6 hi6)
 clear g1 H5
 obtain⟨m,hm⟩:∃ m,m=L.length:=⟨_,rfl⟩
 rw [← hm] at H6 hlen ⊢
 have HMM:=Lib.hid hm
 clear hm
 go_loopw [8] (fun v8 wr=>∃ j:Nat,v8=.int .i64 j∧j≤m∧Sx W A wr (Star (RowO (.slice va m vc) L) (Star (BoxO B 94 (actC a)) (Star (BoxO g 49 (gameC p t now (moreS sent gr (L.take j)) wt')) (Star (PkO p P') (TreO t M)))))) (fun v8 _=>(m - Go.RowKit.intOf v8).toNat)
 case atStart=>exact⟨0,rfl,Nat.zero_le _,by
  have:moreS sent gr (L.take 0)=sent:=by funext j;unfold moreS;simp
  rw [this];exact H6.out⟩
 case round =>
  obtain⟨j,rfl,hj,hs⟩:=hrel
  by_cases hlt:j < m
  ·obtain⟨x,hx⟩:∃ x,L[j]?=some x:=⟨_,List.getElem?_eq_getElem (by have:=HMM.out;omega)⟩
   obtain⟨xn,rfl,hx1,hx2⟩:=HM.out.1 x (List.mem_of_getElem? hx)
   obtain⟨S7,hS7⟩:=hs.first
   obtain⟨pb,cap2,hv,cx⟩:=hS7.cell (by have:=HMM.out;omega) hx
   rw [← HMM.out] at hv
   simp only [Value.slice.injEq] at hv
   obtain⟨rfl,-,rfl⟩:=hv
   have g3:=(hs.rest.rest.box.cell (3+xn)).trans (game_sent hx2)
   have f3:=hs.rest.rest.box.frozen (3+xn)
   obtain⟨sx,hsx⟩:∃ sx,sx=moreS sent gr (L.take j) xn:=⟨_,rfl⟩
   rw [← hsx] at g3
   have hsx1:0≤sx∧sx+gr < 18446744073709551616:=by
    have:=HM.out.2.2.1 xn
    have:=HM.out.2.2.2
    rw [hsx]
    unfold moreS
    split <;> omega
   have HS:=Lib.hid (And.intro hs (And.intro hx hsx))
   clear hs hS7 hx hsx H6
   go_upto_region 9 with fail
   have hwr:IntKind.u64.wrap (sx+gr)=sx+gr:=by
    have:=HM.out.2.2.2
    rw [IntKind.wrap_u64]
    omega
   go_region
   have gS:Good (Star (RowO (.slice (some ⟨pb,0,none⟩) m vc) L) (Star (BoxO B 94 (actC a)) (Star (PkO p P') (TreO t M)))):=(good_row _ _).star ((good_box _ _ _).star ((good_pk _ _).star (good_treO _ _)))
   have h8:=((HS.out.1.swap2.swap.set gS (u:=.int .u64 (sx+gr)) (i:=3+xn) (cs':=gameC p t now (moreS sent gr (L.take (j+1))) wt') (by rw [game_set_sent hx2,← moreS_step HM.out.2.1 HS.out.2.1,HS.out.2.2])).swap.swap2).later ((good_row _ _).star ((good_box _ _ _).star ((good_box _ _ _).star ((good_pk _ _).star (good_treO _ _))))) ((Below.refl _ _).drew)
   have H8:=Lib.hid h8
   clear h8 gS g3 f3 cx
   go_wp2_with fail
   go_roundw
   case measure=>(simp [Go.RowKit.intOf];try omega)
   case rel=>exact⟨j+1,by go_num,by omega,H8.out⟩
  ·obtain rfl:j=m:=by omega
   have HS:=Lib.hid hs
   clear hs H6
   go_wp2_with fail
   go_returns
   rw [HMM.out,List.take_length] at HS
   rw [← HQ.out.2.2,← HQ.out.2.1,← HQ.out.1]
   exact⟨rfl,HS.out.rest.rest.done⟩
end
section
open Go.RowKit Go.Maps
attribute [local go_sem ↓] Go.wp_at_zero Go.wp_at_succ
attribute [local go_sem] quietR quietAtR quietUponR midAt midUpon
theorem GInv.mono {n k n' k':Nat} {P:Pk} {M:Mp} {wt:Int→Bool} {sent:Int→Int} (h:GInv n k P M wt sent)(hn:n≤n')(hk:k≤k'):GInv n' k' P M wt sent :=
 ⟨h.all,h.inv,h.num.mono hn,h.len,h.ids,h.is,h.rel,fun id=>by have:=h.sent id;omega⟩
def GamE (n k g:Nat):Ob:=fun W S=>∃ p t now P M sent wt,GInv n k P M wt sent∧(0≤now∧now≤1099511627776)∧GamO g p t now P M sent wt W S
def idA (x:Int):Int:=1+(x % 18446744073709551616) % 63
theorem idA_nat (x:Int):∃ i:Nat,idA x=i∧1≤i∧i < 64:=⟨(idA x).toNat,by unfold idA;omega,by unfold idA;omega,by unfold idA;omega⟩
def actL (a:GAct):List Value:=[.int .u8 a.k,.int .i64 a.s.id,.int .i64 a.s.pa,.bool a.s.lf,.int .u64 a.s.r.1,.int .u64 a.s.r.2.1,.int .u64 a.s.r.2.2,.int .u64 a.s.s.1,.int .u64 a.s.s.2.1,.int .u64 a.s.s.2.2,.int .u64 a.s.u.1,.int .u64 a.s.u.2.1,.int .u64 a.s.u.2.2,.int .i64 a.s.pk,.int .i64 a.s.by_,.int .u64 a.af,.int .u64 a.g,.bool a.mo]
theorem act_range {W:World} {B:Nat} {a:GAct} (h:Blk W B 94 (actC a)):W.rangeAt B 0 (actL a):=fun j v hv=>by
 rw [Nat.zero_add]
 rw [h.cell j]
 have:actC a=(actL a).toArray:=rfl
 rw [this,List.getElem?_toArray]
 exact hv
theorem GInv.e {W:World} {S:Nat→Prop} {n k n' k' g p t:Nat} {now:Int} {P:Pk} {M:Mp} {wt:Int→Bool} {sent:Int→Int} (hG:GInv n k P M wt sent)(hn:n≤n')(hk:k≤k')(hnow:0≤now∧now≤1099511627776)(h:GamO g p t now P M sent wt W S):GamE n' k' g W S :=
 ⟨p,t,now,P,M,sent,wt,hG.mono hn hk,hnow,h⟩
theorem Sx.actT {w0 W:World} {A:Nat→Prop} {P1 P2 P3 P R R':Ob} {φ:Ending→Prop} {f:FuncId} {args:Array Value} {prog:Program} (hP1:Good P1)(hP2:Good P2)(hP3:Good P3)(hP:Good P)(hR:Good R)(h:Sx w0 A W (Star P1 (Star P2 (Star P3 (Star P R)))))(ha:Acts φ R R' f args prog W):Calls prog f args W fun e W'=>φ e∧Sx w0 A W' (Star P1 (Star P2 (Star P3 (Star P R')))) :=
 (Sx.act4 hP1 hP2 hP3 hR hP (h.weak fun h=>h.under fun h=>h.under fun h=>h.under Star.comm) ha).mono fun e W' ⟨h1,h2⟩=>⟨h1,h2.weak fun h=>h.under fun h=>h.under fun h=>h.under Star.comm⟩
theorem addM_no {M:Mp} {s:Sp} (h:(addM M s).1≠0):(addM M s).2=M:=by
 unfold addM at h ⊢
 split
 ·rfl
 ·rename_i h1
  rw [if_neg h1] at h
  split
  ·rfl
  ·rename_i h2
   rw [if_neg h2] at h
   split
   ·rfl
   ·rename_i h3
    rw [if_neg h3] at h
    split
    ·rfl
    ·rename_i h4
     rw [if_neg h4] at h
     exact absurd rfl h
theorem changeM_no {M:Mp} {s:Sp} (h:(changeM M s).1≠0):(changeM M s).2=M:=by
 unfold changeM at h ⊢
 cases e:lookM M s.id with
 | none=>rfl
 | some c =>
  rw [e] at h
  dsimp only at h ⊢
  split
  ·rfl
  ·rename_i h1
   rw [if_neg h1] at h
   exact absurd rfl h
section
variable {n k : Nat} {P : Pk} {M : Mp} {wt : Int → Bool} {sent : Int → Int}
theorem GInv.pkG (h:GInv n k P M wt sent)(hn:n < 100000):PkG P :=
 ⟨h.pb,fun id c hc=>(h.num.fam id c hc).famN hn,fun id c hc=>by have:=h.num.un id c hc;omega,by have:=h.len;have:=h.inv.few;omega⟩
theorem GInv.canPut (h:GInv n k P M wt sent) {s:Sp} (hw:WfSp s)(hid:s.id≤63)(hok:(addM M s).1=0):∃ p,lookM P s.pa=some p∧p.lf=false∧lookM p.fam.m s.id=none∧lookM P s.id=none∧shB s=(!noneB s.s):=by
 obtain⟨_,hn,p,hp,hl⟩:=h.put hw hid hok
 refine⟨p,hp,hl,?_,hn,?_⟩
 ·cases e:lookM p.fam.m s.id with
  | none=>rfl
  | some m =>
   obtain⟨_,h2⟩:=h.all.fams s.pa s.id (by rw [kf_of hp,e];rfl)
   unfold paP at h2
   rw [hn] at h2
   cases h2
 ·unfold shB
  rw [(may_shared (addM_ok hok).1).1,Bool.and_true]
end
end
section
open Go.RowKit Go.Maps
attribute [local go_sem ↓] Go.wp_at_zero Go.wp_at_succ
attribute [local go_sem] quietR quietAtR quietUponR midAt midUpon
theorem gplay6 {W:World} {g n k:Nat} {a:GAct} (hn:n+64 < 100000)(hk:k < 1000)(ha:WfA a)(hkk:a.k % 7=6) :
  Acts (fun e=>e=.returned (.tuple #[])) (GamE n k g) (GamE (n+32) (k+1) g) 67 #[.pointer (some ⟨g,0,none⟩),actV a] Tryz.prog W:=fun A ⟨p,t,now,P,M,sent,wt,hG,hnow,h⟩=>by
 have haf:=ha.af
 have hk0:=ha.k.1
 unfold U at haf
 have hs0:=(Sx.start (P:=GamO g p t now P M sent wt) h).alloc (good_gam _ _ _ _ _ _ _ _) (actC a) 94
 have H0:=Lib.hid hs0
 have HG:=Lib.hid (And.intro hG (And.intro hn (And.intro hk ha)))
 clear h hs0 hG hn hk ha
 unfold actV actC at *
 obtain⟨i,hi0,hi1,hi2⟩:=idA_nat a.s.id
 have hidq:wrap64 (1+wrap64 ((IntKind.u64.wrap a.s.id).tmod 63))=(i:Int):=by
  rw [← hi0]
  unfold idA
  rw [IntKind.wrap_u64,Int.tmod_eq_emod_of_nonneg (by omega)]
  unfold wrap64
  omega
 have HI:=Lib.hid hidq
 go_enter Tryz.func67,Tryz.ntmps67
 go_upto_region 1 with fail
 generalize hW1:W.alloc (.cells #[.int .u8 a.k,.int .i64 a.s.id,.int .i64 a.s.pa,.bool a.s.lf,.int .u64 a.s.r.1,.int .u64 a.s.r.2.1,.int .u64 a.s.r.2.2,.int .u64 a.s.s.1,.int .u64 a.s.s.2.1,.int .u64 a.s.s.2.2,.int .u64 a.s.u.1,.int .u64 a.s.u.2.1,.int .u64 a.s.u.2.2,.int .i64 a.s.pk,.int .i64 a.s.by_,.int .u64 a.af,.int .u64 a.g,.bool a.mo] 94)=W1 at H0 ⊢
 obtain⟨B,hB⟩:∃ B,B=W.heap.size:=⟨_,rfl⟩
 rw [← hB] at H0 ⊢
 clear hB hW1
 have b15:=H0.out.box.cell 15
 have g2:=(H0.out.rest.box.cell 2).trans game_now
 have f2:=H0.out.rest.box.frozen 2
 simp only [lTA,lCZ,lCS] at b15
 go_region
 have gR:Good (Star (BoxO B 94 (actC a)) (Star (PkO p P) (TreO t M))):=(good_box _ _ _).star ((good_pk _ _).star (good_treO _ _))
 have h2:=(((H0.out.swap.set gR (u:=.int .u64 (min (now+a.af % 64) 1099511627776)) (i:=2) (cs':=gameC p t (min (now+a.af % 64) 1099511627776) sent wt) game_set_now).swap).later ((good_box _ _ _).star (good_gam _ _ _ _ _ _ _ _)) ((Below.refl _ _).drew))
 have hnw:0≤min (now+a.af % 64) 1099511627776∧min (now+a.af % 64) 1099511627776≤1099511627776:=by omega
 generalize min (now+a.af % 64) 1099511627776=nw at h2 hnw ⊢
 have H2:=Lib.hid h2
 clear H0 b15 g2 f2 h2 gR
 generalize (W1.setCell ⟨g,2,none⟩ (.int .u64 nw)).drew=w2 at H2 ⊢
 have b1:=H2.out.box.cell 1
 have f1:=H2.out.box.frozen 1
 unfold actC at b1
 simp only [lTA,lCZ,lCS] at b1
 go_upto_region 4 with fail
 obtain⟨a',ha'⟩:∃ a':GAct,a'={ a with s:={ a.s with id:=(i:Int) } }:=⟨_,rfl⟩
 have h3:=H2.out.set (good_gam _ _ _ _ _ _ _ _) (u:=.int .i64 i) (i:=1) (cs':=actC a') (by rw [ha'];rfl)
 have H3:=Lib.hid h3
 clear h3 H2 b1 f1
 generalize w2.setCell ⟨B,1,none⟩ (.int .i64 i)=w3 at H3 ⊢
 have hid:(Lit.int .i64 (i:Int)).wf=true:=wf_small (by omega) (by omega)
 have g1:=(H3.out.rest.box.cell 1).trans game_t
 obtain⟨S3,hS3⟩:=H3.out.rest.rest.env
 have hget:=tro_get (i:Int) hid hS3
 unfold GetW spV spC at hget
 have HNW:=Lib.hid hnw
 have hwa:WfA a':=by
  rw [ha']
  have:=HG.out.2.2.2
  exact⟨this.k,⟨⟨hid,this.s.1.2⟩,this.s.2⟩,this.af,this.g⟩
 have hk7:a'.k=a.k∧a'.s.id=i:=by rw [ha'];exact⟨rfl,rfl⟩
 have HA:=Lib.hid (And.intro hwa hk7)
 clear hS3 hnw hwa hk7 ha'
 obtain⟨sg,hsg⟩:∃ sg,sg=getS M (i:Int):=⟨_,rfl⟩
 rw [← hsg] at hget
 have HSG:=Lib.hid hsg
 clear hsg
 go_upto_region 5 with (go_at_call 26;refine hget.mono ?_;clear hget;rintro e w4 ⟨rfl,hb4⟩;have H4:=Lib.hid (H3.out.later ((good_box _ _ _).star (good_gam _ _ _ _ _ _ _ _)) hb4);clear hb4)
 have h5:=H4.out.alloc ((good_box _ _ _).star (good_gam _ _ _ _ _ _ _ _)) (spC sg) 32
 obtain⟨D,hD⟩:∃ D,D=w4.heap.size:=⟨_,rfl⟩
 rw [← hD] at h5 ⊢
 have H5:=Lib.hid h5
 have hw5:w4.alloc (.cells (spC sg) 32)=w4.alloc (.cells #[.int .i64 sg.id,.int .i64 sg.pa,.bool sg.lf,.int .u64 sg.r.1,.int .u64 sg.r.2.1,.int .u64 sg.r.2.2,.int .u64 sg.s.1,.int .u64 sg.s.2.1,.int .u64 sg.s.2.2,.int .u64 sg.u.1,.int .u64 sg.u.2.1,.int .u64 sg.u.2.2,.int .i64 sg.pk,.int .i64 sg.by_] 32):=rfl
 rw [hw5] at H5
 clear h5 hw5 H3 H4 g1 hD
 generalize w4.alloc (.cells #[.int .i64 sg.id,.int .i64 sg.pa,.bool sg.lf,.int .u64 sg.r.1,.int .u64 sg.r.2.1,.int .u64 sg.r.2.2,.int .u64 sg.s.1,.int .u64 sg.s.2.1,.int .u64 sg.s.2.2,.int .u64 sg.u.1,.int .u64 sg.u.2.1,.int .u64 sg.u.2.2,.int .i64 sg.pk,.int .i64 sg.by_] 32)=w5 at H5 ⊢
 have hbx:=H5.out.rest.box
 have b0:=hbx.cell 0
 unfold actC at b0
 simp only [lTA,lCZ,lCS] at b0
 have hk0':0≤a'.k:=by rw [HA.out.2.1];exact hk0
 have hkk':a'.k % 7=6:=by rw [HA.out.2.1];exact hkk
 clear hkk hbx
 have GD:=Lib.hid (show Good (Star (BoxO D 32 (spC sg)) (Star (BoxO B 94 (actC a')) (GamO g p t nw P M sent wt))) from (good_box _ _ _).star ((good_box _ _ _).star (good_gam _ _ _ _ _ _ _ _)))
 cases hl:lookM M (i:Int) with
 | none =>
  dsimp only [Option.isSome]
  clear hl
  go_upto_region 10 with fail
  refine wp_region_over (by kernel_rfl) (by kernel_rfl) ?_
  repeat (first | go_big_quiet_skip | (go_big_quiet_want;go_big_quiet_op;go_big_quiet_on))
  refine wpQuiet_nil ?_
  rintro w6 ⟨e,he⟩
  have hb6:=over_below w5 e
  rw [← he] at hb6
  have H6:=Lib.hid (H5.out.later GD.out hb6)
  clear he hb6
  go_wp2_with fail
  go_returns
  exact⟨rfl,(H6.out.rest.rest.weak fun h=>HG.out.1.e (by omega) (by omega) HNW.out h).done⟩
 | some s =>
  dsimp only [Option.isSome]
  have hsg2:sg=s.1:=by rw [HSG.out];unfold getS;rw [hl];rfl
  have HL:=Lib.hid hl
  clear hl
  cases haw:awP P (i:Int) with
  | true =>
   obtain⟨S6,mb6,ps6,hX6⟩:=H5.out.rest.rest.rest.first
   have hvx:∀ e,PkX p mb6 ps6 P (over w5 e) S6:=fun e=>(good_pkX _ _ _ _).kept hX6 (over_below w5 e).size fun b hb=>over_heap w5 e b ((good_pkX _ _ _ _).lt hX6 b hb)
   have hv:=fun e=>pawake_any (i:Int) hid (hvx e) HG.out.1.pb
   have hgx:=H5.out.rest.rest.box
   have q0:=fun e=>((over_cell (w:=w5) (e:=e) (o:=0) hgx.lt).trans (hgx.cell 0)).trans game_p
   have q67:=fun e=>((over_cell (w:=w5) (e:=e) (o:=67+i) hgx.lt).trans (hgx.cell (67+i))).trans (game_wait hi2)
   rw [haw] at hv
   have HV:=Lib.hid hv
   clear haw hX6 hvx hv hgx
   go_upto_region 10 with fail
   refine wp_region_over (by kernel_rfl) (by kernel_rfl) ?_
   repeat (first | go_big_quiet_skip | (go_big_quiet_want;go_big_quiet_op;first | go_big_quiet_on | (apply Exists.intro;refine⟨fun e=>?_,?_⟩;(focus (go_at_call 23;with_reducible exact calls_over (HV.out e)));go_big_quiet_on)))
   refine wpQuiet_nil ?_
   rintro w6 ⟨e,he⟩
   have hb6:=over_below w5 e
   rw [← he] at hb6
   have H6:=Lib.hid (H5.out.later GD.out hb6)
   clear he hb6 HV q0 q67
   go_wp2_with fail
   go_returns
   exact⟨rfl,(H6.out.rest.rest.weak fun h=>HG.out.1.e (by omega) (by omega) HNW.out h).done⟩
  | false =>
   obtain⟨S6,mb6,ps6,hX6⟩:=H5.out.rest.rest.rest.first
   have hvx:∀ e,PkX p mb6 ps6 P (over w5 e) S6:=fun e=>(good_pkX _ _ _ _).kept hX6 (over_below w5 e).size fun b hb=>over_heap w5 e b ((good_pkX _ _ _ _).lt hX6 b hb)
   have hv:=fun e=>pawake_any (i:Int) hid (hvx e) HG.out.1.pb
   have hgx:=H5.out.rest.rest.box
   have q0:=fun e=>((over_cell (w:=w5) (e:=e) (o:=0) hgx.lt).trans (hgx.cell 0)).trans game_p
   have q67:=fun e=>((over_cell (w:=w5) (e:=e) (o:=67+i) hgx.lt).trans (hgx.cell (67+i))).trans (game_wait hi2)
   rw [haw] at hv
   have HV:=Lib.hid hv
   cases hwt:wt (i:Int) with
   | true =>
    rw [hwt] at q67
    clear haw hX6 hvx hv hgx hwt
    go_upto_region 10 with fail
    refine wp_region_over (by kernel_rfl) (by kernel_rfl) ?_
    repeat (first | go_big_quiet_skip | (go_big_quiet_want;go_big_quiet_op;first | go_big_quiet_on | (apply Exists.intro;refine⟨fun e=>?_,?_⟩;(focus (go_at_call 23;with_reducible exact calls_over (HV.out e)));go_big_quiet_on)))
    refine wpQuiet_nil ?_
    rintro w6 ⟨e,he⟩
    have hb6:=over_below w5 e
    rw [← he] at hb6
    have H6:=Lib.hid (H5.out.later GD.out hb6)
    clear he hb6 HV q0 q67
    go_wp2_with fail
    go_returns
    exact⟨rfl,(H6.out.rest.rest.weak fun h=>HG.out.1.e (by omega) (by omega) HNW.out h).done⟩
   | false =>
    rw [hwt] at q67
    have hbx:=H5.out.rest.box
    have q1:=fun e=>((over_cell (w:=w5) (e:=e) (o:=1) hgx.lt).trans (hgx.cell 1)).trans game_t
    have o1:=fun e=>(over_cell (w:=w5) (e:=e) (o:=1) hbx.lt).trans (hbx.cell 1)
    have o2:=fun e=>(over_cell (w:=w5) (e:=e) (o:=2) hbx.lt).trans (hbx.cell 2)
    have o3:=fun e=>(over_cell (w:=w5) (e:=e) (o:=3) hbx.lt).trans (hbx.cell 3)
    have o4:=fun e=>(over_cell (w:=w5) (e:=e) (o:=4) hbx.lt).trans (hbx.cell 4)
    have o5:=fun e=>(over_cell (w:=w5) (e:=e) (o:=5) hbx.lt).trans (hbx.cell 5)
    have o6:=fun e=>(over_cell (w:=w5) (e:=e) (o:=6) hbx.lt).trans (hbx.cell 6)
    have o7:=fun e=>(over_cell (w:=w5) (e:=e) (o:=7) hbx.lt).trans (hbx.cell 7)
    have o8:=fun e=>(over_cell (w:=w5) (e:=e) (o:=8) hbx.lt).trans (hbx.cell 8)
    have o9:=fun e=>(over_cell (w:=w5) (e:=e) (o:=9) hbx.lt).trans (hbx.cell 9)
    have o10:=fun e=>(over_cell (w:=w5) (e:=e) (o:=10) hbx.lt).trans (hbx.cell 10)
    have o11:=fun e=>(over_cell (w:=w5) (e:=e) (o:=11) hbx.lt).trans (hbx.cell 11)
    have o12:=fun e=>(over_cell (w:=w5) (e:=e) (o:=12) hbx.lt).trans (hbx.cell 12)
    have o13:=fun e=>(over_cell (w:=w5) (e:=e) (o:=13) hbx.lt).trans (hbx.cell 13)
    have o14:=fun e=>(over_cell (w:=w5) (e:=e) (o:=14) hbx.lt).trans (hbx.cell 14)
    unfold actC at o1 o2 o3 o4 o5 o6 o7 o8 o9 o10 o11 o12 o13 o14
    simp only [lTA,lCZ,lCS] at o1 o2 o3 o4 o5 o6 o7 o8 o9 o10 o11 o12 o13 o14
    have HQ:=Lib.hid (And.intro haw hwt)
    clear haw hX6 hvx hv hgx hbx hwt
    go_upto_region 10 with fail
    refine wp_region_over_tail 26 (by kernel_rfl) (by kernel_rfl) ?_
    simp only [List.take_succ_cons,List.take_zero,List.drop_succ_cons,List.drop_zero]
    repeat (first | go_big_quiet_skip | (go_big_quiet_want;go_big_quiet_op;first | go_big_quiet_on | (apply Exists.intro;refine⟨fun e=>?_,?_⟩;(focus (go_at_call 23;with_reducible exact calls_over (HV.out e)));go_big_quiet_on)))
    refine wpQuiet_nil ?_
    rintro w6 ⟨e,he⟩
    have hb6:=over_below w5 e
    rw [← he] at hb6
    have h6:=H5.out.later GD.out hb6
    have hd:=Sx.actT (good_box _ _ _) (good_box _ _ _) (good_box _ _ _) (good_pk _ _) (good_treO _ _) h6 (tro_change a'.s HA.out.1.s)
    unfold spV spC at hd
    have HD:=Lib.hid hd
    clear he hb6 h6 q0 q1 q67 o1 o2 o3 o4 o5 o6 o7 o8 o9 o10 o11 o12 o13 o14 hd HV
    obtain⟨cd,hcd⟩:∃ cd,cd=(changeM M a'.s).1:=⟨_,rfl⟩
    obtain⟨M',hM'⟩:∃ M',M'=(changeM M a'.s).2:=⟨_,rfl⟩
    rw [← hcd,← hM'] at HD
    have HCD:=Lib.hid (And.intro hcd hM')
    by_cases hz:cd=0
    ·subst hz
     clear hcd hM'
     go_upto_region 11 with (go_at_call 105;refine HD.out.mono ?_;clear HD;rintro e w7 ⟨rfl,h7⟩;have H7:=Lib.hid h7;clear h7)
     obtain⟨c,hc,hr,_⟩:=HG.out.1.pick HL.out
     obtain⟨pp,hp,_,hdp⟩:=HG.out.1.all.wf.par (i:Int) c hc (by omega)
     have hne:c.pa≠(i:Int):=fun e=>by rw [e] at hdp;omega
     have hid2:=HA.out.2.2
     obtain⟨hfin,hok1,_⟩:=HG.out.1.renew (s:=a'.s) HA.out.1.s (by rw [hid2];exact hc) HCD.out.1.symm (by rw [hid2];exact HQ.out.1) (by rw [hid2];exact HQ.out.2)
     have hsh:shB a'.s=!noneB a'.s.s:=by unfold shB;rw [hok1,Bool.and_true]
     have hact:∀ w,Acts (fun e=>e=.returned (.bool true)) (PkO p P) (PkO p (renewP P a'.s.id c.pa (!noneB a'.s.s) a'.s.s (limN a'.s.u))) 106 #[.pointer (some ⟨p,0,none⟩),spV a'.s] Tryz.prog w:=fun w=>Acts.pk fun mb ps=>by
      have:=prenew_any (W:=w) (k:=p) (mb:=mb) (ps:=ps) a'.s HA.out.1.s (HG.out.1.pkG (by have:=HG.out.2.1;omega)) (by rw [hid2];omega) (by rw [hid2];exact hc) hp (by rw [hid2];exact hne) (by rw [hid2];exact HQ.out.1)
      rw [hsh] at this
      exact this
     rw [hid2,← HCD.out.2] at hfin
     rw [hid2] at hact
     generalize renewP P (i:Int) c.pa (!noneB a'.s.s) a'.s.s (limN a'.s.u)=P' at hfin hact
     have HFIN:=Lib.hid hfin
     have hgx:=H7.out.rest.rest.box
     have hbx:=H7.out.rest.box
     have q0:=fun e=>((over_cell (w:=w7) (e:=e) (o:=0) hgx.lt).trans (hgx.cell 0)).trans game_p
     have o1:=fun e=>(over_cell (w:=w7) (e:=e) (o:=1) hbx.lt).trans (hbx.cell 1)
     have o2:=fun e=>(over_cell (w:=w7) (e:=e) (o:=2) hbx.lt).trans (hbx.cell 2)
     have o3:=fun e=>(over_cell (w:=w7) (e:=e) (o:=3) hbx.lt).trans (hbx.cell 3)
     have o4:=fun e=>(over_cell (w:=w7) (e:=e) (o:=4) hbx.lt).trans (hbx.cell 4)
     have o5:=fun e=>(over_cell (w:=w7) (e:=e) (o:=5) hbx.lt).trans (hbx.cell 5)
     have o6:=fun e=>(over_cell (w:=w7) (e:=e) (o:=6) hbx.lt).trans (hbx.cell 6)
     have o7:=fun e=>(over_cell (w:=w7) (e:=e) (o:=7) hbx.lt).trans (hbx.cell 7)
     have o8:=fun e=>(over_cell (w:=w7) (e:=e) (o:=8) hbx.lt).trans (hbx.cell 8)
     have o9:=fun e=>(over_cell (w:=w7) (e:=e) (o:=9) hbx.lt).trans (hbx.cell 9)
     have o10:=fun e=>(over_cell (w:=w7) (e:=e) (o:=10) hbx.lt).trans (hbx.cell 10)
     have o11:=fun e=>(over_cell (w:=w7) (e:=e) (o:=11) hbx.lt).trans (hbx.cell 11)
     have o12:=fun e=>(over_cell (w:=w7) (e:=e) (o:=12) hbx.lt).trans (hbx.cell 12)
     have o13:=fun e=>(over_cell (w:=w7) (e:=e) (o:=13) hbx.lt).trans (hbx.cell 13)
     have o14:=fun e=>(over_cell (w:=w7) (e:=e) (o:=14) hbx.lt).trans (hbx.cell 14)
     unfold actC at o1 o2 o3 o4 o5 o6 o7 o8 o9 o10 o11 o12 o13 o14
     simp only [lTA,lCZ,lCS] at o1 o2 o3 o4 o5 o6 o7 o8 o9 o10 o11 o12 o13 o14
     clear hgx hbx hfin hok1 hsh hc hr hp hdp hne hid2
     refine wp_region_over_tail 6 (by kernel_rfl) (by kernel_rfl) ?_
     simp only [List.take_succ_cons,List.take_zero,List.drop_succ_cons,List.drop_zero]
     repeat (first | go_big_quiet_skip | (go_big_quiet_want;go_big_quiet_op;go_big_quiet_on))
     refine wpQuiet_nil ?_
     rintro w8 ⟨e,he⟩
     have hb8:=over_below w7 e
     rw [← he] at hb8
     have h8:=H7.out.later ((good_box _ _ _).star ((good_box _ _ _).star ((good_box _ _ _).star ((good_pk _ _).star (good_treO _ _))))) hb8
     have hd:=Sx.act4 (good_box _ _ _) (good_box _ _ _) (good_box _ _ _) (good_pk _ _) (good_treO _ _) h8 (hact w8)
     unfold spV spC at hd
     have HD:=Lib.hid hd
     clear he hb8 h8 q0 o1 o2 o3 o4 o5 o6 o7 o8 o9 o10 o11 o12 o13 o14 hd hact H7
     go_wp2_with (go_at_call 106;refine HD.out.mono ?_;clear HD;rintro e w9 ⟨rfl,h9⟩;have g3:=(h9.rest.rest.box.cell (3+i)).trans (game_sent hi2);have f3:=h9.rest.rest.box.frozen (3+i);have H9:=Lib.hid h9;clear h9)
     go_returns
     have h10:=H9.out.rest.rest.set ((good_pk _ _).star (good_treO _ _)) (u:=.int .u64 0) (i:=3+i) (cs':=gameC p t nw (fun j:Int=>if j=(i:Int) then 0 else sent j) wt) (game_set_sent hi2)
     exact⟨rfl,(h10.weak fun h=>HFIN.out.e (by omega) (Nat.le_succ _) HNW.out h).done⟩
    ·have hdz:decide (cd=0)=false:=decide_eq_false hz
     have hMM:M'=M:=by rw [hM',changeM_no (by rw [← hcd];exact hz)]
     rw [hMM] at HD
     clear hcd hM' hMM HCD
     go_wp2_with (go_at_call 105;refine HD.out.mono ?_;clear HD;rintro e w7 ⟨rfl,h7⟩;have H7:=Lib.hid h7;clear h7)
     go_returns
     exact⟨rfl,(H7.out.rest.rest.weak fun h=>HG.out.1.e (by omega) (by omega) HNW.out h).done⟩
end
section
open Go.RowKit Go.Maps
attribute [local go_sem ↓] Go.wp_at_zero Go.wp_at_succ
attribute [local go_sem] quietR quietAtR quietUponR midAt midUpon
theorem gplay0 {W:World} {g n k:Nat} {a:GAct} (hn:n+64 < 100000)(hk:k < 1000)(ha:WfA a)(hkk:a.k % 7=0) :
  Acts (fun e=>e=.returned (.tuple #[])) (GamE n k g) (GamE (n+32) (k+1) g) 67 #[.pointer (some ⟨g,0,none⟩),actV a] Tryz.prog W:=fun A ⟨p,t,now,P,M,sent,wt,hG,hnow,h⟩=>by
 have haf:=ha.af
 have hk0:=ha.k.1
 unfold U at haf
 have hs0:=(Sx.start (P:=GamO g p t now P M sent wt) h).alloc (good_gam _ _ _ _ _ _ _ _) (actC a) 94
 have H0:=Lib.hid hs0
 have HG:=Lib.hid (And.intro hG (And.intro hn (And.intro hk ha)))
 clear h hs0 hG hn hk ha
 unfold actV actC at *
 obtain⟨i,hi0,hi1,hi2⟩:=idA_nat a.s.id
 have hidq:wrap64 (1+wrap64 ((IntKind.u64.wrap a.s.id).tmod 63))=(i:Int):=by
  rw [← hi0]
  unfold idA
  rw [IntKind.wrap_u64,Int.tmod_eq_emod_of_nonneg (by omega)]
  unfold wrap64
  omega
 have HI:=Lib.hid hidq
 go_enter Tryz.func67,Tryz.ntmps67
 go_upto_region 1 with fail
 generalize hW1:W.alloc (.cells #[.int .u8 a.k,.int .i64 a.s.id,.int .i64 a.s.pa,.bool a.s.lf,.int .u64 a.s.r.1,.int .u64 a.s.r.2.1,.int .u64 a.s.r.2.2,.int .u64 a.s.s.1,.int .u64 a.s.s.2.1,.int .u64 a.s.s.2.2,.int .u64 a.s.u.1,.int .u64 a.s.u.2.1,.int .u64 a.s.u.2.2,.int .i64 a.s.pk,.int .i64 a.s.by_,.int .u64 a.af,.int .u64 a.g,.bool a.mo] 94)=W1 at H0 ⊢
 obtain⟨B,hB⟩:∃ B,B=W.heap.size:=⟨_,rfl⟩
 rw [← hB] at H0 ⊢
 clear hB hW1
 have b15:=H0.out.box.cell 15
 have g2:=(H0.out.rest.box.cell 2).trans game_now
 have f2:=H0.out.rest.box.frozen 2
 simp only [lTA,lCZ,lCS] at b15
 go_region
 have gR:Good (Star (BoxO B 94 (actC a)) (Star (PkO p P) (TreO t M))):=(good_box _ _ _).star ((good_pk _ _).star (good_treO _ _))
 have h2:=(((H0.out.swap.set gR (u:=.int .u64 (min (now+a.af % 64) 1099511627776)) (i:=2) (cs':=gameC p t (min (now+a.af % 64) 1099511627776) sent wt) game_set_now).swap).later ((good_box _ _ _).star (good_gam _ _ _ _ _ _ _ _)) ((Below.refl _ _).drew))
 have hnw:0≤min (now+a.af % 64) 1099511627776∧min (now+a.af % 64) 1099511627776≤1099511627776:=by omega
 generalize min (now+a.af % 64) 1099511627776=nw at h2 hnw ⊢
 have H2:=Lib.hid h2
 clear H0 b15 g2 f2 h2 gR
 generalize (W1.setCell ⟨g,2,none⟩ (.int .u64 nw)).drew=w2 at H2 ⊢
 have b1:=H2.out.box.cell 1
 have f1:=H2.out.box.frozen 1
 unfold actC at b1
 simp only [lTA,lCZ,lCS] at b1
 go_upto_region 4 with fail
 obtain⟨a',ha'⟩:∃ a':GAct,a'={ a with s:={ a.s with id:=(i:Int) } }:=⟨_,rfl⟩
 have h3:=H2.out.set (good_gam _ _ _ _ _ _ _ _) (u:=.int .i64 i) (i:=1) (cs':=actC a') (by rw [ha'];rfl)
 have H3:=Lib.hid h3
 clear h3 H2 b1 f1
 generalize w2.setCell ⟨B,1,none⟩ (.int .i64 i)=w3 at H3 ⊢
 have hid:(Lit.int .i64 (i:Int)).wf=true:=wf_small (by omega) (by omega)
 have g1:=(H3.out.rest.box.cell 1).trans game_t
 obtain⟨S3,hS3⟩:=H3.out.rest.rest.env
 have hget:=tro_get (i:Int) hid hS3
 unfold GetW spV spC at hget
 have HNW:=Lib.hid hnw
 have hwa:WfA a':=by
  rw [ha']
  have:=HG.out.2.2.2
  exact⟨this.k,⟨⟨hid,this.s.1.2⟩,this.s.2⟩,this.af,this.g⟩
 have hk7:a'.k=a.k∧a'.s.id=i:=by rw [ha'];exact⟨rfl,rfl⟩
 have HA:=Lib.hid (And.intro hwa hk7)
 clear hS3 hnw hwa hk7 ha'
 obtain⟨sg,hsg⟩:∃ sg,sg=getS M (i:Int):=⟨_,rfl⟩
 rw [← hsg] at hget
 have HSG:=Lib.hid hsg
 clear hsg
 go_upto_region 5 with (go_at_call 26;refine hget.mono ?_;clear hget;rintro e w4 ⟨rfl,hb4⟩;have H4:=Lib.hid (H3.out.later ((good_box _ _ _).star (good_gam _ _ _ _ _ _ _ _)) hb4);clear hb4)
 have h5:=H4.out.alloc ((good_box _ _ _).star (good_gam _ _ _ _ _ _ _ _)) (spC sg) 32
 obtain⟨D,hD⟩:∃ D,D=w4.heap.size:=⟨_,rfl⟩
 rw [← hD] at h5 ⊢
 have H5:=Lib.hid h5
 have hw5:w4.alloc (.cells (spC sg) 32)=w4.alloc (.cells #[.int .i64 sg.id,.int .i64 sg.pa,.bool sg.lf,.int .u64 sg.r.1,.int .u64 sg.r.2.1,.int .u64 sg.r.2.2,.int .u64 sg.s.1,.int .u64 sg.s.2.1,.int .u64 sg.s.2.2,.int .u64 sg.u.1,.int .u64 sg.u.2.1,.int .u64 sg.u.2.2,.int .i64 sg.pk,.int .i64 sg.by_] 32):=rfl
 rw [hw5] at H5
 clear h5 hw5 H3 H4 g1 hD
 generalize w4.alloc (.cells #[.int .i64 sg.id,.int .i64 sg.pa,.bool sg.lf,.int .u64 sg.r.1,.int .u64 sg.r.2.1,.int .u64 sg.r.2.2,.int .u64 sg.s.1,.int .u64 sg.s.2.1,.int .u64 sg.s.2.2,.int .u64 sg.u.1,.int .u64 sg.u.2.1,.int .u64 sg.u.2.2,.int .i64 sg.pk,.int .i64 sg.by_] 32)=w5 at H5 ⊢
 have hbx:=H5.out.rest.box
 have b0:=hbx.cell 0
 unfold actC at b0
 simp only [lTA,lCZ,lCS] at b0
 have hk0':0≤a'.k:=by rw [HA.out.2.1];exact hk0
 have hkk':a'.k % 7=0:=by rw [HA.out.2.1];exact hkk
 clear hkk hbx
 have GD:=Lib.hid (show Good (Star (BoxO D 32 (spC sg)) (Star (BoxO B 94 (actC a')) (GamO g p t nw P M sent wt))) from (good_box _ _ _).star ((good_box _ _ _).star (good_gam _ _ _ _ _ _ _ _)))
 go_upto_region 14 with fail
 clear b0
 have hgx:=H5.out.rest.rest.box
 have hbx:=H5.out.rest.box
 have q1:=fun e=>((over_cell (w:=w5) (e:=e) (o:=1) hgx.lt).trans (hgx.cell 1)).trans game_t
 have o1:=fun e=>(over_cell (w:=w5) (e:=e) (o:=1) hbx.lt).trans (hbx.cell 1)
 have o2:=fun e=>(over_cell (w:=w5) (e:=e) (o:=2) hbx.lt).trans (hbx.cell 2)
 have o3:=fun e=>(over_cell (w:=w5) (e:=e) (o:=3) hbx.lt).trans (hbx.cell 3)
 have o4:=fun e=>(over_cell (w:=w5) (e:=e) (o:=4) hbx.lt).trans (hbx.cell 4)
 have o5:=fun e=>(over_cell (w:=w5) (e:=e) (o:=5) hbx.lt).trans (hbx.cell 5)
 have o6:=fun e=>(over_cell (w:=w5) (e:=e) (o:=6) hbx.lt).trans (hbx.cell 6)
 have o7:=fun e=>(over_cell (w:=w5) (e:=e) (o:=7) hbx.lt).trans (hbx.cell 7)
 have o8:=fun e=>(over_cell (w:=w5) (e:=e) (o:=8) hbx.lt).trans (hbx.cell 8)
 have o9:=fun e=>(over_cell (w:=w5) (e:=e) (o:=9) hbx.lt).trans (hbx.cell 9)
 have o10:=fun e=>(over_cell (w:=w5) (e:=e) (o:=10) hbx.lt).trans (hbx.cell 10)
 have o11:=fun e=>(over_cell (w:=w5) (e:=e) (o:=11) hbx.lt).trans (hbx.cell 11)
 have o12:=fun e=>(over_cell (w:=w5) (e:=e) (o:=12) hbx.lt).trans (hbx.cell 12)
 have o13:=fun e=>(over_cell (w:=w5) (e:=e) (o:=13) hbx.lt).trans (hbx.cell 13)
 have o14:=fun e=>(over_cell (w:=w5) (e:=e) (o:=14) hbx.lt).trans (hbx.cell 14)
 unfold actC at o1 o2 o3 o4 o5 o6 o7 o8 o9 o10 o11 o12 o13 o14
 simp only [lTA,lCZ,lCS] at o1 o2 o3 o4 o5 o6 o7 o8 o9 o10 o11 o12 o13 o14
 clear hgx hbx
 refine wp_region_over_tail 6 (by kernel_rfl) (by kernel_rfl) ?_
 simp only [List.take_succ_cons,List.take_zero,List.drop_succ_cons,List.drop_zero]
 repeat (first | go_big_quiet_skip | (go_big_quiet_want;go_big_quiet_op;go_big_quiet_on))
 refine wpQuiet_nil ?_
 rintro w6 ⟨e,he⟩
 have hb6:=over_below w5 e
 rw [← he] at hb6
 have h6:=H5.out.later GD.out hb6
 have hd:=Sx.actT (good_box _ _ _) (good_box _ _ _) (good_box _ _ _) (good_pk _ _) (good_treO _ _) h6 (tro_add a'.s HA.out.1.s)
 unfold spV spC at hd
 have HD:=Lib.hid hd
 clear he hb6 h6 q1 o1 o2 o3 o4 o5 o6 o7 o8 o9 o10 o11 o12 o13 o14 hd
 obtain⟨cd,hcd⟩:∃ cd,cd=(addM M a'.s).1:=⟨_,rfl⟩
 obtain⟨M',hM'⟩:∃ M',M'=(addM M a'.s).2:=⟨_,rfl⟩
 rw [← hcd,← hM'] at HD
 have HCD:=Lib.hid (And.intro hcd hM')
 by_cases hz:cd=0
 ·subst hz
  clear hcd hM'
  go_upto_region 15 with (go_at_call 107;refine HD.out.mono ?_;clear HD;rintro e w7 ⟨rfl,h7⟩;have H7:=Lib.hid h7;clear h7)
  obtain⟨pp,hp1,hp2,hp3,hp4,hp5⟩:=HG.out.1.canPut HA.out.1.s (by rw [HA.out.2.2];omega) HCD.out.1.symm
  have hgx:=H7.out.rest.rest.box
  have hbx:=H7.out.rest.box
  have q0:=fun e=>((over_cell (w:=w7) (e:=e) (o:=0) hgx.lt).trans (hgx.cell 0)).trans game_p
  have o1:=fun e=>(over_cell (w:=w7) (e:=e) (o:=1) hbx.lt).trans (hbx.cell 1)
  have o2:=fun e=>(over_cell (w:=w7) (e:=e) (o:=2) hbx.lt).trans (hbx.cell 2)
  have o3:=fun e=>(over_cell (w:=w7) (e:=e) (o:=3) hbx.lt).trans (hbx.cell 3)
  have o4:=fun e=>(over_cell (w:=w7) (e:=e) (o:=4) hbx.lt).trans (hbx.cell 4)
  have o5:=fun e=>(over_cell (w:=w7) (e:=e) (o:=5) hbx.lt).trans (hbx.cell 5)
  have o6:=fun e=>(over_cell (w:=w7) (e:=e) (o:=6) hbx.lt).trans (hbx.cell 6)
  have o7:=fun e=>(over_cell (w:=w7) (e:=e) (o:=7) hbx.lt).trans (hbx.cell 7)
  have o8:=fun e=>(over_cell (w:=w7) (e:=e) (o:=8) hbx.lt).trans (hbx.cell 8)
  have o9:=fun e=>(over_cell (w:=w7) (e:=e) (o:=9) hbx.lt).trans (hbx.cell 9)
  have o10:=fun e=>(over_cell (w:=w7) (e:=e) (o:=10) hbx.lt).trans (hbx.cell 10)
  have o11:=fun e=>(over_cell (w:=w7) (e:=e) (o:=11) hbx.lt).trans (hbx.cell 11)
  have o12:=fun e=>(over_cell (w:=w7) (e:=e) (o:=12) hbx.lt).trans (hbx.cell 12)
  have o13:=fun e=>(over_cell (w:=w7) (e:=e) (o:=13) hbx.lt).trans (hbx.cell 13)
  have o14:=fun e=>(over_cell (w:=w7) (e:=e) (o:=14) hbx.lt).trans (hbx.cell 14)
  unfold actC at o1 o2 o3 o4 o5 o6 o7 o8 o9 o10 o11 o12 o13 o14
  simp only [lTA,lCZ,lCS] at o1 o2 o3 o4 o5 o6 o7 o8 o9 o10 o11 o12 o13 o14
  clear hgx hbx
  refine wp_region_over_tail 6 (by kernel_rfl) (by kernel_rfl) ?_
  simp only [List.take_succ_cons,List.take_zero,List.drop_succ_cons,List.drop_zero]
  repeat (first | go_big_quiet_skip | (go_big_quiet_want;go_big_quiet_op;go_big_quiet_on))
  refine wpQuiet_nil ?_
  rintro w8 ⟨e,he⟩
  have hb8:=over_below w7 e
  rw [← he] at hb8
  have h8:=H7.out.later ((good_box _ _ _).star ((good_box _ _ _).star ((good_box _ _ _).star ((good_pk _ _).star (good_treO _ _))))) hb8
  have hd:=Sx.act4 (good_box _ _ _) (good_box _ _ _) (good_box _ _ _) (good_pk _ _) (good_treO _ _) h8 (Acts.pkO fun mb ps=>pput_any a'.s HA.out.1.s (HG.out.1.pkG (by have:=HG.out.2.1;omega)) (by rw [HA.out.2.2];omega) hp4 hp1 hp2 hp3)
  rw [hp5] at hd
  unfold spV spC at hd
  have HD:=Lib.hid hd
  clear he hb8 h8 q0 o1 o2 o3 o4 o5 o6 o7 o8 o9 o10 o11 o12 o13 o14 hd hp1 hp2 hp3 hp4 hp5 H7
  have hne:¬ 67+i=3+i:=by omega
  go_wp2_with (go_at_call 9;refine HD.out.mono ?_;clear HD;rintro e w9 ⟨rfl,h9⟩;have g3:=(h9.rest.rest.box.cell (3+i)).trans (game_sent hi2);have f3:=h9.rest.rest.box.frozen (3+i);have g67:=(h9.rest.rest.box.cell (67+i)).trans (game_wait hi2);have f67:=h9.rest.rest.box.frozen (67+i);have H9:=Lib.hid h9;clear h9)
  go_returns
  have h10:=(H9.out.rest.rest.set ((good_pk _ _).star (good_treO _ _)) (u:=.int .u64 0) (i:=3+i) (cs':=gameC p t nw (fun j:Int=>if j=(i:Int) then 0 else sent j) wt) (game_set_sent hi2)).set ((good_pk _ _).star (good_treO _ _)) (u:=.bool false) (i:=67+i) (cs':=gameC p t nw (fun j:Int=>if j=(i:Int) then 0 else sent j) fun j:Int=>if j=(i:Int) then false else wt j) (game_set_wait hi2)
  have hfin:=(HG.out.1.put HA.out.1.s (by rw [HA.out.2.2];omega) HCD.out.1.symm).1
  rw [HA.out.2.2,← HCD.out.2] at hfin
  have hid2:=HA.out.2.2
  rw [hid2] at h10
  exact⟨rfl,(h10.weak fun h=>hfin.e (by omega) (Nat.le_succ _) HNW.out h).done⟩
 ·have hdz:decide (cd=0)=false:=decide_eq_false hz
  have hMM:M'=M:=by rw [hM',addM_no (by rw [← hcd];exact hz)]
  rw [hMM] at HD
  clear hcd hM' hMM HCD
  go_wp2_with (go_at_call 107;refine HD.out.mono ?_;clear HD;rintro e w7 ⟨rfl,h7⟩;have H7:=Lib.hid h7;clear h7)
  go_returns
  exact⟨rfl,(H7.out.rest.rest.weak fun h=>HG.out.1.e (by omega) (by omega) HNW.out h).done⟩
end
section
open Go.RowKit Go.Maps
attribute [local go_sem ↓] Go.wp_at_zero Go.wp_at_succ
attribute [local go_sem] quietR quietAtR quietUponR midAt midUpon
theorem gplay1 {W:World} {g n k:Nat} {a:GAct} (hn:n+64 < 100000)(hk:k < 1000)(ha:WfA a)(hkk:a.k % 7=1) :
  Acts (fun e=>e=.returned (.tuple #[])) (GamE n k g) (GamE (n+32) (k+1) g) 67 #[.pointer (some ⟨g,0,none⟩),actV a] Tryz.prog W:=fun A ⟨p,t,now,P,M,sent,wt,hG,hnow,h⟩=>by
 have haf:=ha.af
 have hk0:=ha.k.1
 unfold U at haf
 have hs0:=(Sx.start (P:=GamO g p t now P M sent wt) h).alloc (good_gam _ _ _ _ _ _ _ _) (actC a) 94
 have H0:=Lib.hid hs0
 have HG:=Lib.hid (And.intro hG (And.intro hn (And.intro hk ha)))
 clear h hs0 hG hn hk ha
 unfold actV actC at *
 obtain⟨i,hi0,hi1,hi2⟩:=idA_nat a.s.id
 have hidq:wrap64 (1+wrap64 ((IntKind.u64.wrap a.s.id).tmod 63))=(i:Int):=by
  rw [← hi0]
  unfold idA
  rw [IntKind.wrap_u64,Int.tmod_eq_emod_of_nonneg (by omega)]
  unfold wrap64
  omega
 have HI:=Lib.hid hidq
 go_enter Tryz.func67,Tryz.ntmps67
 go_upto_region 1 with fail
 generalize hW1:W.alloc (.cells #[.int .u8 a.k,.int .i64 a.s.id,.int .i64 a.s.pa,.bool a.s.lf,.int .u64 a.s.r.1,.int .u64 a.s.r.2.1,.int .u64 a.s.r.2.2,.int .u64 a.s.s.1,.int .u64 a.s.s.2.1,.int .u64 a.s.s.2.2,.int .u64 a.s.u.1,.int .u64 a.s.u.2.1,.int .u64 a.s.u.2.2,.int .i64 a.s.pk,.int .i64 a.s.by_,.int .u64 a.af,.int .u64 a.g,.bool a.mo] 94)=W1 at H0 ⊢
 obtain⟨B,hB⟩:∃ B,B=W.heap.size:=⟨_,rfl⟩
 rw [← hB] at H0 ⊢
 clear hB hW1
 have b15:=H0.out.box.cell 15
 have g2:=(H0.out.rest.box.cell 2).trans game_now
 have f2:=H0.out.rest.box.frozen 2
 simp only [lTA,lCZ,lCS] at b15
 go_region
 have gR:Good (Star (BoxO B 94 (actC a)) (Star (PkO p P) (TreO t M))):=(good_box _ _ _).star ((good_pk _ _).star (good_treO _ _))
 have h2:=(((H0.out.swap.set gR (u:=.int .u64 (min (now+a.af % 64) 1099511627776)) (i:=2) (cs':=gameC p t (min (now+a.af % 64) 1099511627776) sent wt) game_set_now).swap).later ((good_box _ _ _).star (good_gam _ _ _ _ _ _ _ _)) ((Below.refl _ _).drew))
 have hnw:0≤min (now+a.af % 64) 1099511627776∧min (now+a.af % 64) 1099511627776≤1099511627776:=by omega
 generalize min (now+a.af % 64) 1099511627776=nw at h2 hnw ⊢
 have H2:=Lib.hid h2
 clear H0 b15 g2 f2 h2 gR
 generalize (W1.setCell ⟨g,2,none⟩ (.int .u64 nw)).drew=w2 at H2 ⊢
 have b1:=H2.out.box.cell 1
 have f1:=H2.out.box.frozen 1
 unfold actC at b1
 simp only [lTA,lCZ,lCS] at b1
 go_upto_region 4 with fail
 obtain⟨a',ha'⟩:∃ a':GAct,a'={ a with s:={ a.s with id:=(i:Int) } }:=⟨_,rfl⟩
 have h3:=H2.out.set (good_gam _ _ _ _ _ _ _ _) (u:=.int .i64 i) (i:=1) (cs':=actC a') (by rw [ha'];rfl)
 have H3:=Lib.hid h3
 clear h3 H2 b1 f1
 generalize w2.setCell ⟨B,1,none⟩ (.int .i64 i)=w3 at H3 ⊢
 have hid:(Lit.int .i64 (i:Int)).wf=true:=wf_small (by omega) (by omega)
 have g1:=(H3.out.rest.box.cell 1).trans game_t
 obtain⟨S3,hS3⟩:=H3.out.rest.rest.env
 have hget:=tro_get (i:Int) hid hS3
 unfold GetW spV spC at hget
 have HNW:=Lib.hid hnw
 have hwa:WfA a':=by
  rw [ha']
  have:=HG.out.2.2.2
  exact⟨this.k,⟨⟨hid,this.s.1.2⟩,this.s.2⟩,this.af,this.g⟩
 have hk7:a'.k=a.k∧a'.s.id=i:=by rw [ha'];exact⟨rfl,rfl⟩
 have HA:=Lib.hid (And.intro hwa hk7)
 clear hS3 hnw hwa hk7 ha'
 obtain⟨sg,hsg⟩:∃ sg,sg=getS M (i:Int):=⟨_,rfl⟩
 rw [← hsg] at hget
 have HSG:=Lib.hid hsg
 clear hsg
 go_upto_region 5 with (go_at_call 26;refine hget.mono ?_;clear hget;rintro e w4 ⟨rfl,hb4⟩;have H4:=Lib.hid (H3.out.later ((good_box _ _ _).star (good_gam _ _ _ _ _ _ _ _)) hb4);clear hb4)
 have h5:=H4.out.alloc ((good_box _ _ _).star (good_gam _ _ _ _ _ _ _ _)) (spC sg) 32
 obtain⟨D,hD⟩:∃ D,D=w4.heap.size:=⟨_,rfl⟩
 rw [← hD] at h5 ⊢
 have H5:=Lib.hid h5
 have hw5:w4.alloc (.cells (spC sg) 32)=w4.alloc (.cells #[.int .i64 sg.id,.int .i64 sg.pa,.bool sg.lf,.int .u64 sg.r.1,.int .u64 sg.r.2.1,.int .u64 sg.r.2.2,.int .u64 sg.s.1,.int .u64 sg.s.2.1,.int .u64 sg.s.2.2,.int .u64 sg.u.1,.int .u64 sg.u.2.1,.int .u64 sg.u.2.2,.int .i64 sg.pk,.int .i64 sg.by_] 32):=rfl
 rw [hw5] at H5
 clear h5 hw5 H3 H4 g1 hD
 generalize w4.alloc (.cells #[.int .i64 sg.id,.int .i64 sg.pa,.bool sg.lf,.int .u64 sg.r.1,.int .u64 sg.r.2.1,.int .u64 sg.r.2.2,.int .u64 sg.s.1,.int .u64 sg.s.2.1,.int .u64 sg.s.2.2,.int .u64 sg.u.1,.int .u64 sg.u.2.1,.int .u64 sg.u.2.2,.int .i64 sg.pk,.int .i64 sg.by_] 32)=w5 at H5 ⊢
 have hbx:=H5.out.rest.box
 have b0:=hbx.cell 0
 unfold actC at b0
 simp only [lTA,lCZ,lCS] at b0
 have hk0':0≤a'.k:=by rw [HA.out.2.1];exact hk0
 have hkk':a'.k % 7=1:=by rw [HA.out.2.1];exact hkk
 clear hkk hbx
 have GD:=Lib.hid (show Good (Star (BoxO D 32 (spC sg)) (Star (BoxO B 94 (actC a')) (GamO g p t nw P M sent wt))) from (good_box _ _ _).star ((good_box _ _ _).star (good_gam _ _ _ _ _ _ _ _)))
 cases hl:lookM M (i:Int) with
 | none =>
  dsimp only [Option.isSome]
  clear hl
  go_wp2_with fail
  go_returns
  exact⟨rfl,(H5.out.rest.rest.weak fun h=>HG.out.1.e (by omega) (by omega) HNW.out h).done⟩
 | some s =>
  dsimp only [Option.isSome]
  have hsg2:sg=s.1:=by rw [HSG.out];unfold getS;rw [hl];rfl
  have HL:=Lib.hid hl
  clear hl
  have g1:=(H5.out.rest.rest.box.cell 1).trans game_t
  obtain⟨S5,hS5⟩:=H5.out.rest.rest.rest.env
  have hund:=tro_under (i:Int) hid hS5
  obtain⟨m,hm⟩:∃ m,m=(kids M (i:Int)).length:=⟨_,rfl⟩
  clear hS5
  by_cases hk:m=0
  ·have hkids:kids M (i:Int)=[]:=List.eq_nil_of_length_eq_zero (by omega)
   have HK:=Lib.hid hkids
   rw [hkids] at hund
   clear hm hk hkids
   cases hwt:wt (i:Int) with
   | true =>
    have HWT:=Lib.hid hwt
    clear hwt
    go_wp2_with (go_at_call 22;refine hund.mono ?_;clear hund;rintro e w6 ⟨v,rfl,ho,hb6⟩;obtain⟨va,vc,rfl⟩:=owns_slice ho;have h6:=H5.out.later GD.out hb6;have g67:=(h6.rest.rest.box.cell (67+i)).trans (game_wait hi2);rw [HWT.out] at g67;have H6:=Lib.hid h6;clear h6 hb6 ho)
    go_returns
    exact⟨rfl,(H6.out.rest.rest.weak fun h=>HG.out.1.e (by omega) (by omega) HNW.out h).done⟩
   | false =>
    have HWT:=Lib.hid hwt
    clear hwt
    obtain⟨c,hc,hr,_⟩:=HG.out.1.pick HL.out
    have hG2:=HG.out.1.pkG (by have:=HG.out.2.1;omega)
    by_cases hgo:c.un≤0∧awP P (i:Int)=false
    ·obtain⟨pp,hp,_,hdp⟩:=HG.out.1.all.wf.par (i:Int) c hc (by omega)
     have hne:c.pa≠(i:Int):=fun e=>by rw [e] at hdp;omega
     have hact:∀ w,Acts (fun e=>e=.returned (.bool true)) (PkO p P) (PkO p (dropP P (i:Int) c.pa)) 108 #[.pointer (some ⟨p,0,none⟩),.int .i64 i] Tryz.prog w:=fun w=>Acts.pk fun mb ps=>pdrop_yes hG2 (by omega) hc hp hne hgo.1 hgo.2
     obtain⟨hfin,hdm⟩:=HG.out.1.drop HL.out hc HK.out hgo.2
     have HACT:=Lib.hid hact
     have HFIN:=Lib.hid (And.intro hfin hdm)
     clear hact hfin hdm hc hr hG2 hgo hp hdp hne
     generalize dropP P (i:Int) c.pa=P' at HACT HFIN
     go_upto_region 20 with (first
      | (go_at_call 22;refine hund.mono ?_;clear hund;rintro e w6 ⟨v,rfl,ho,hb6⟩;obtain⟨va,vc,rfl⟩:=owns_slice ho;have h6:=H5.out.later GD.out hb6;have g67:=(h6.rest.rest.box.cell (67+i)).trans (game_wait hi2);rw [HWT.out] at g67;have g0:=(h6.rest.rest.box.cell 0).trans game_p;have H6:=Lib.hid h6;clear h6 hb6 ho)
      | (go_at_call 108;refine (Sx.act4 (good_box _ _ _) (good_box _ _ _) (good_box _ _ _) (good_pk _ _) (good_treO _ _) H6.out (HACT.out _)).mono ?_;rintro e w7 ⟨rfl,h7⟩;have H7:=Lib.hid h7;clear h7))
     clear H6 g67 g0
     have q1:=(H7.out.rest.rest.box.cell 1).trans game_t
     have hd:=Sx.actT (good_box _ _ _) (good_box _ _ _) (good_box _ _ _) (good_pk _ _) (good_treO _ _) H7.out (tro_drop (i:Int) hid)
     rw [HFIN.out.2] at hd
     have HD:=Lib.hid hd
     clear hd
     go_wp2_with (go_at_call 109;refine HD.out.mono ?_;clear HD;rintro e w8 ⟨rfl,h8⟩;have H8:=Lib.hid h8;clear h8)
     go_returns
     exact⟨rfl,(H8.out.rest.rest.weak fun h=>HFIN.out.1.e (by omega) (by omega) HNW.out h).done⟩
    ·have hact:∀ w,Acts (fun e=>e=.returned (.bool false)) (PkO p P) (PkO p P) 108 #[.pointer (some ⟨p,0,none⟩),.int .i64 i] Tryz.prog w:=fun w=>Acts.pk fun mb ps=>pdrop_no hG2 (by omega) hc hgo
     have HACT:=Lib.hid hact
     clear hact hc hr hG2 hgo
     go_wp2_with (first
      | (go_at_call 22;refine hund.mono ?_;clear hund;rintro e w6 ⟨v,rfl,ho,hb6⟩;obtain⟨va,vc,rfl⟩:=owns_slice ho;have h6:=H5.out.later GD.out hb6;have g67:=(h6.rest.rest.box.cell (67+i)).trans (game_wait hi2);rw [HWT.out] at g67;have g0:=(h6.rest.rest.box.cell 0).trans game_p;have H6:=Lib.hid h6;clear h6 hb6 ho)
      | (go_at_call 108;refine (Sx.act4 (good_box _ _ _) (good_box _ _ _) (good_box _ _ _) (good_pk _ _) (good_treO _ _) H6.out (HACT.out _)).mono ?_;rintro e w7 ⟨rfl,h7⟩;have H7:=Lib.hid h7;clear h7))
     go_returns
     exact⟨rfl,(H7.out.rest.rest.weak fun h=>HG.out.1.e (by omega) (by omega) HNW.out h).done⟩
  ·have hdk:decide ((m:Int)=0)=false:=decide_eq_false (by omega)
   have hk2:¬ ((m:Int)=0):=by omega
   have HM:=Lib.hid hm
   clear hm hk
   go_wp2_with (go_at_call 22;refine hund.mono ?_;clear hund;rintro e w6 ⟨v,rfl,ho,hb6⟩;obtain⟨va,vc,rfl⟩:=owns_slice ho;rw [← HM.out];have H6:=Lib.hid (H5.out.later GD.out hb6);clear hb6 ho)
   go_returns
   exact⟨rfl,(H6.out.rest.rest.weak fun h=>HG.out.1.e (by omega) (by omega) HNW.out h).done⟩
end
section
open Go.RowKit Go.Maps
attribute [local go_sem ↓] Go.wp_at_zero Go.wp_at_succ
attribute [local go_sem] quietR quietAtR quietUponR midAt midUpon
theorem gplay2 {W:World} {g n k:Nat} {a:GAct} (hn:n+64 < 100000)(hk:k < 1000)(ha:WfA a)(hkk:a.k % 7=2) :
  Acts (fun e=>e=.returned (.tuple #[])) (GamE n k g) (GamE (n+32) (k+1) g) 67 #[.pointer (some ⟨g,0,none⟩),actV a] Tryz.prog W:=fun A ⟨p,t,now,P,M,sent,wt,hG,hnow,h⟩=>by
 have haf:=ha.af
 have hk0:=ha.k.1
 unfold U at haf
 have hs0:=(Sx.start (P:=GamO g p t now P M sent wt) h).alloc (good_gam _ _ _ _ _ _ _ _) (actC a) 94
 have H0:=Lib.hid hs0
 have HG:=Lib.hid (And.intro hG (And.intro hn (And.intro hk ha)))
 clear h hs0 hG hn hk ha
 unfold actV actC at *
 obtain⟨i,hi0,hi1,hi2⟩:=idA_nat a.s.id
 have hidq:wrap64 (1+wrap64 ((IntKind.u64.wrap a.s.id).tmod 63))=(i:Int):=by
  rw [← hi0]
  unfold idA
  rw [IntKind.wrap_u64,Int.tmod_eq_emod_of_nonneg (by omega)]
  unfold wrap64
  omega
 have HI:=Lib.hid hidq
 go_enter Tryz.func67,Tryz.ntmps67
 go_upto_region 1 with fail
 generalize hW1:W.alloc (.cells #[.int .u8 a.k,.int .i64 a.s.id,.int .i64 a.s.pa,.bool a.s.lf,.int .u64 a.s.r.1,.int .u64 a.s.r.2.1,.int .u64 a.s.r.2.2,.int .u64 a.s.s.1,.int .u64 a.s.s.2.1,.int .u64 a.s.s.2.2,.int .u64 a.s.u.1,.int .u64 a.s.u.2.1,.int .u64 a.s.u.2.2,.int .i64 a.s.pk,.int .i64 a.s.by_,.int .u64 a.af,.int .u64 a.g,.bool a.mo] 94)=W1 at H0 ⊢
 obtain⟨B,hB⟩:∃ B,B=W.heap.size:=⟨_,rfl⟩
 rw [← hB] at H0 ⊢
 clear hB hW1
 have b15:=H0.out.box.cell 15
 have g2:=(H0.out.rest.box.cell 2).trans game_now
 have f2:=H0.out.rest.box.frozen 2
 simp only [lTA,lCZ,lCS] at b15
 go_region
 have gR:Good (Star (BoxO B 94 (actC a)) (Star (PkO p P) (TreO t M))):=(good_box _ _ _).star ((good_pk _ _).star (good_treO _ _))
 have h2:=(((H0.out.swap.set gR (u:=.int .u64 (min (now+a.af % 64) 1099511627776)) (i:=2) (cs':=gameC p t (min (now+a.af % 64) 1099511627776) sent wt) game_set_now).swap).later ((good_box _ _ _).star (good_gam _ _ _ _ _ _ _ _)) ((Below.refl _ _).drew))
 have hnw:0≤min (now+a.af % 64) 1099511627776∧min (now+a.af % 64) 1099511627776≤1099511627776:=by omega
 generalize min (now+a.af % 64) 1099511627776=nw at h2 hnw ⊢
 have H2:=Lib.hid h2
 clear H0 b15 g2 f2 h2 gR
 generalize (W1.setCell ⟨g,2,none⟩ (.int .u64 nw)).drew=w2 at H2 ⊢
 have b1:=H2.out.box.cell 1
 have f1:=H2.out.box.frozen 1
 unfold actC at b1
 simp only [lTA,lCZ,lCS] at b1
 go_upto_region 4 with fail
 obtain⟨a',ha'⟩:∃ a':GAct,a'={ a with s:={ a.s with id:=(i:Int) } }:=⟨_,rfl⟩
 have h3:=H2.out.set (good_gam _ _ _ _ _ _ _ _) (u:=.int .i64 i) (i:=1) (cs':=actC a') (by rw [ha'];rfl)
 have H3:=Lib.hid h3
 clear h3 H2 b1 f1
 generalize w2.setCell ⟨B,1,none⟩ (.int .i64 i)=w3 at H3 ⊢
 have hid:(Lit.int .i64 (i:Int)).wf=true:=wf_small (by omega) (by omega)
 have g1:=(H3.out.rest.box.cell 1).trans game_t
 obtain⟨S3,hS3⟩:=H3.out.rest.rest.env
 have hget:=tro_get (i:Int) hid hS3
 unfold GetW spV spC at hget
 have HNW:=Lib.hid hnw
 have hwa:WfA a':=by
  rw [ha']
  have:=HG.out.2.2.2
  exact⟨this.k,⟨⟨hid,this.s.1.2⟩,this.s.2⟩,this.af,this.g⟩
 have hk7:a'.k=a.k∧a'.s.id=i:=by rw [ha'];exact⟨rfl,rfl⟩
 have HA:=Lib.hid (And.intro hwa hk7)
 clear hS3 hnw hwa hk7 ha'
 obtain⟨sg,hsg⟩:∃ sg,sg=getS M (i:Int):=⟨_,rfl⟩
 rw [← hsg] at hget
 have HSG:=Lib.hid hsg
 clear hsg
 go_upto_region 5 with (go_at_call 26;refine hget.mono ?_;clear hget;rintro e w4 ⟨rfl,hb4⟩;have H4:=Lib.hid (H3.out.later ((good_box _ _ _).star (good_gam _ _ _ _ _ _ _ _)) hb4);clear hb4)
 have h5:=H4.out.alloc ((good_box _ _ _).star (good_gam _ _ _ _ _ _ _ _)) (spC sg) 32
 obtain⟨D,hD⟩:∃ D,D=w4.heap.size:=⟨_,rfl⟩
 rw [← hD] at h5 ⊢
 have H5:=Lib.hid h5
 have hw5:w4.alloc (.cells (spC sg) 32)=w4.alloc (.cells #[.int .i64 sg.id,.int .i64 sg.pa,.bool sg.lf,.int .u64 sg.r.1,.int .u64 sg.r.2.1,.int .u64 sg.r.2.2,.int .u64 sg.s.1,.int .u64 sg.s.2.1,.int .u64 sg.s.2.2,.int .u64 sg.u.1,.int .u64 sg.u.2.1,.int .u64 sg.u.2.2,.int .i64 sg.pk,.int .i64 sg.by_] 32):=rfl
 rw [hw5] at H5
 clear h5 hw5 H3 H4 g1 hD
 generalize w4.alloc (.cells #[.int .i64 sg.id,.int .i64 sg.pa,.bool sg.lf,.int .u64 sg.r.1,.int .u64 sg.r.2.1,.int .u64 sg.r.2.2,.int .u64 sg.s.1,.int .u64 sg.s.2.1,.int .u64 sg.s.2.2,.int .u64 sg.u.1,.int .u64 sg.u.2.1,.int .u64 sg.u.2.2,.int .i64 sg.pk,.int .i64 sg.by_] 32)=w5 at H5 ⊢
 have hbx:=H5.out.rest.box
 have b0:=hbx.cell 0
 unfold actC at b0
 simp only [lTA,lCZ,lCS] at b0
 have hk0':0≤a'.k:=by rw [HA.out.2.1];exact hk0
 have hkk':a'.k % 7=2:=by rw [HA.out.2.1];exact hkk
 clear hkk hbx
 have GD:=Lib.hid (show Good (Star (BoxO D 32 (spC sg)) (Star (BoxO B 94 (actC a')) (GamO g p t nw P M sent wt))) from (good_box _ _ _).star ((good_box _ _ _).star (good_gam _ _ _ _ _ _ _ _)))
 cases hl:lookM M (i:Int) with
 | none =>
  dsimp only [Option.isSome]
  clear hl
  go_wp2_with fail
  go_returns
  exact⟨rfl,(H5.out.rest.rest.weak fun h=>HG.out.1.e (by omega) (by omega) HNW.out h).done⟩
 | some s =>
  dsimp only [Option.isSome]
  have hsg2:sg=s.1:=by rw [HSG.out];unfold getS;rw [hl];rfl
  have HL:=Lib.hid hl
  clear hl
  have d2:=H5.out.box.cell 2
  unfold spC at d2
  rw [hsg2] at d2
  simp only [lTA,lCZ,lCS] at d2
  cases hlf:s.1.lf with
  | false =>
   rw [hlf] at d2
   clear hlf
   go_wp2_with fail
   go_returns
   exact⟨rfl,(H5.out.rest.rest.weak fun h=>HG.out.1.e (by omega) (by omega) HNW.out h).done⟩
  | true =>
   rw [hlf] at d2
   have HLF:=Lib.hid hlf
   clear hlf
   go_upto_region 23 with fail
   have hgx:=H5.out.rest.rest.box
   have o0:=fun e=>((over_cell (w:=w5) (e:=e) (o:=0) hgx.lt).trans (hgx.cell 0)).trans game_p
   have o2:=fun e=>((over_cell (w:=w5) (e:=e) (o:=2) hgx.lt).trans (hgx.cell 2)).trans game_now
   clear b0 d2 hgx
   refine wp_region_over_tail 9 (by kernel_rfl) (by kernel_rfl) ?_
   simp only [List.take_succ_cons,List.take_zero,List.drop_succ_cons,List.drop_zero]
   repeat (first | go_big_quiet_skip | (go_big_quiet_want;go_big_quiet_op;go_big_quiet_on))
   refine wpQuiet_nil ?_
   rintro w6 ⟨e,he⟩
   have hb6:=over_below w5 e
   rw [← he] at hb6
   have h6:=H5.out.later GD.out hb6
   obtain⟨c,hc,hr,_⟩:=HG.out.1.pick HL.out
   have hpl:=HG.out.1.inv.path_len (i:Int)
   have HD:=Lib.hid (Sx.act4 (good_box _ _ _) (good_box _ _ _) (good_box _ _ _) (good_pk _ _) (good_treO _ _) h6 (Acts.pk fun mb ps=>pwake_any (now:=nw) HG.out.1.pb HG.out.1.num (HG.out.1.upL HL.out) (by have:=HG.out.2.1;omega) (by have:=HNW.out;unfold U;omega) (by omega) hc (by rw [hr.lf];exact HLF.out)))
   clear he hb6 h6 hc hr o0 o2 hpl
   go_wp2_with (go_at_call 11;refine HD.out.mono ?_;clear HD;rintro e w7 ⟨rfl,h7⟩;have g67:=(h7.rest.rest.box.cell (67+i)).trans (game_wait hi2);have f67:=h7.rest.rest.box.frozen (67+i);have H7:=Lib.hid h7;clear h7)
   go_returns
   have h8:=H7.out.rest.rest.set ((good_pk _ _).star (good_treO _ _)) (u:=.bool true) (i:=67+i) (cs':=gameC p t nw sent fun j:Int=>if j=(i:Int) then true else wt j) (game_set_wait hi2)
   exact⟨rfl,(h8.weak fun h=>(HG.out.1.wake HL.out HLF.out (by have:=HNW.out;unfold U;omega) (by have:=HG.out.2.1;omega)).e (Nat.le_refl _) (Nat.le_succ _) HNW.out h).done⟩
end
section
open Go.RowKit Go.Maps
attribute [local go_sem ↓] Go.wp_at_zero Go.wp_at_succ
attribute [local go_sem] quietR quietAtR quietUponR midAt midUpon
theorem gplay3 {W:World} {g n k:Nat} {a:GAct} (hn:n+64 < 100000)(hk:k < 1000)(ha:WfA a)(hkk:a.k % 7=3) :
  Acts (fun e=>e=.returned (.tuple #[])) (GamE n k g) (GamE (n+32) (k+1) g) 67 #[.pointer (some ⟨g,0,none⟩),actV a] Tryz.prog W:=fun A ⟨p,t,now,P,M,sent,wt,hG,hnow,h⟩=>by
 have haf:=ha.af
 have hk0:=ha.k.1
 unfold U at haf
 have hs0:=(Sx.start (P:=GamO g p t now P M sent wt) h).alloc (good_gam _ _ _ _ _ _ _ _) (actC a) 94
 have H0:=Lib.hid hs0
 have HG:=Lib.hid (And.intro hG (And.intro hn (And.intro hk ha)))
 clear h hs0 hG hn hk ha
 unfold actV actC at *
 obtain⟨i,hi0,hi1,hi2⟩:=idA_nat a.s.id
 have hidq:wrap64 (1+wrap64 ((IntKind.u64.wrap a.s.id).tmod 63))=(i:Int):=by
  rw [← hi0]
  unfold idA
  rw [IntKind.wrap_u64,Int.tmod_eq_emod_of_nonneg (by omega)]
  unfold wrap64
  omega
 have HI:=Lib.hid hidq
 go_enter Tryz.func67,Tryz.ntmps67
 go_upto_region 1 with fail
 generalize hW1:W.alloc (.cells #[.int .u8 a.k,.int .i64 a.s.id,.int .i64 a.s.pa,.bool a.s.lf,.int .u64 a.s.r.1,.int .u64 a.s.r.2.1,.int .u64 a.s.r.2.2,.int .u64 a.s.s.1,.int .u64 a.s.s.2.1,.int .u64 a.s.s.2.2,.int .u64 a.s.u.1,.int .u64 a.s.u.2.1,.int .u64 a.s.u.2.2,.int .i64 a.s.pk,.int .i64 a.s.by_,.int .u64 a.af,.int .u64 a.g,.bool a.mo] 94)=W1 at H0 ⊢
 obtain⟨B,hB⟩:∃ B,B=W.heap.size:=⟨_,rfl⟩
 rw [← hB] at H0 ⊢
 clear hB hW1
 have b15:=H0.out.box.cell 15
 have g2:=(H0.out.rest.box.cell 2).trans game_now
 have f2:=H0.out.rest.box.frozen 2
 simp only [lTA,lCZ,lCS] at b15
 go_region
 have gR:Good (Star (BoxO B 94 (actC a)) (Star (PkO p P) (TreO t M))):=(good_box _ _ _).star ((good_pk _ _).star (good_treO _ _))
 have h2:=(((H0.out.swap.set gR (u:=.int .u64 (min (now+a.af % 64) 1099511627776)) (i:=2) (cs':=gameC p t (min (now+a.af % 64) 1099511627776) sent wt) game_set_now).swap).later ((good_box _ _ _).star (good_gam _ _ _ _ _ _ _ _)) ((Below.refl _ _).drew))
 have hnw:0≤min (now+a.af % 64) 1099511627776∧min (now+a.af % 64) 1099511627776≤1099511627776:=by omega
 generalize min (now+a.af % 64) 1099511627776=nw at h2 hnw ⊢
 have H2:=Lib.hid h2
 clear H0 b15 g2 f2 h2 gR
 generalize (W1.setCell ⟨g,2,none⟩ (.int .u64 nw)).drew=w2 at H2 ⊢
 have b1:=H2.out.box.cell 1
 have f1:=H2.out.box.frozen 1
 unfold actC at b1
 simp only [lTA,lCZ,lCS] at b1
 go_upto_region 4 with fail
 obtain⟨a',ha'⟩:∃ a':GAct,a'={ a with s:={ a.s with id:=(i:Int) } }:=⟨_,rfl⟩
 have h3:=H2.out.set (good_gam _ _ _ _ _ _ _ _) (u:=.int .i64 i) (i:=1) (cs':=actC a') (by rw [ha'];rfl)
 have H3:=Lib.hid h3
 clear h3 H2 b1 f1
 generalize w2.setCell ⟨B,1,none⟩ (.int .i64 i)=w3 at H3 ⊢
 have hid:(Lit.int .i64 (i:Int)).wf=true:=wf_small (by omega) (by omega)
 have g1:=(H3.out.rest.box.cell 1).trans game_t
 obtain⟨S3,hS3⟩:=H3.out.rest.rest.env
 have hget:=tro_get (i:Int) hid hS3
 unfold GetW spV spC at hget
 have HNW:=Lib.hid hnw
 have hwa:WfA a':=by
  rw [ha']
  have:=HG.out.2.2.2
  exact⟨this.k,⟨⟨hid,this.s.1.2⟩,this.s.2⟩,this.af,this.g⟩
 have hk7:a'.k=a.k∧a'.s.id=i:=by rw [ha'];exact⟨rfl,rfl⟩
 have HA:=Lib.hid (And.intro hwa hk7)
 clear hS3 hnw hwa hk7 ha'
 obtain⟨sg,hsg⟩:∃ sg,sg=getS M (i:Int):=⟨_,rfl⟩
 rw [← hsg] at hget
 have HSG:=Lib.hid hsg
 clear hsg
 go_upto_region 5 with (go_at_call 26;refine hget.mono ?_;clear hget;rintro e w4 ⟨rfl,hb4⟩;have H4:=Lib.hid (H3.out.later ((good_box _ _ _).star (good_gam _ _ _ _ _ _ _ _)) hb4);clear hb4)
 have h5:=H4.out.alloc ((good_box _ _ _).star (good_gam _ _ _ _ _ _ _ _)) (spC sg) 32
 obtain⟨D,hD⟩:∃ D,D=w4.heap.size:=⟨_,rfl⟩
 rw [← hD] at h5 ⊢
 have H5:=Lib.hid h5
 have hw5:w4.alloc (.cells (spC sg) 32)=w4.alloc (.cells #[.int .i64 sg.id,.int .i64 sg.pa,.bool sg.lf,.int .u64 sg.r.1,.int .u64 sg.r.2.1,.int .u64 sg.r.2.2,.int .u64 sg.s.1,.int .u64 sg.s.2.1,.int .u64 sg.s.2.2,.int .u64 sg.u.1,.int .u64 sg.u.2.1,.int .u64 sg.u.2.2,.int .i64 sg.pk,.int .i64 sg.by_] 32):=rfl
 rw [hw5] at H5
 clear h5 hw5 H3 H4 g1 hD
 generalize w4.alloc (.cells #[.int .i64 sg.id,.int .i64 sg.pa,.bool sg.lf,.int .u64 sg.r.1,.int .u64 sg.r.2.1,.int .u64 sg.r.2.2,.int .u64 sg.s.1,.int .u64 sg.s.2.1,.int .u64 sg.s.2.2,.int .u64 sg.u.1,.int .u64 sg.u.2.1,.int .u64 sg.u.2.2,.int .i64 sg.pk,.int .i64 sg.by_] 32)=w5 at H5 ⊢
 have hbx:=H5.out.rest.box
 have b0:=hbx.cell 0
 unfold actC at b0
 simp only [lTA,lCZ,lCS] at b0
 have hk0':0≤a'.k:=by rw [HA.out.2.1];exact hk0
 have hkk':a'.k % 7=3:=by rw [HA.out.2.1];exact hkk
 clear hkk hbx
 have GD:=Lib.hid (show Good (Star (BoxO D 32 (spC sg)) (Star (BoxO B 94 (actC a')) (GamO g p t nw P M sent wt))) from (good_box _ _ _).star ((good_box _ _ _).star (good_gam _ _ _ _ _ _ _ _)))
 cases hl:lookM M (i:Int) with
 | none =>
  dsimp only [Option.isSome]
  clear hl
  go_wp2_with fail
  go_returns
  exact⟨rfl,(H5.out.rest.rest.weak fun h=>HG.out.1.e (by omega) (by omega) HNW.out h).done⟩
 | some s =>
  dsimp only [Option.isSome]
  have hsg2:sg=s.1:=by rw [HSG.out];unfold getS;rw [hl];rfl
  have HL:=Lib.hid hl
  clear hl
  have d2:=H5.out.box.cell 2
  unfold spC at d2
  rw [hsg2] at d2
  simp only [lTA,lCZ,lCS] at d2
  have g67:=(H5.out.rest.rest.box.cell (67+i)).trans (game_wait hi2)
  cases hlf:s.1.lf with
  | false =>
   rw [hlf] at d2
   clear hlf
   go_wp2_with fail
   go_returns
   exact⟨rfl,(H5.out.rest.rest.weak fun h=>HG.out.1.e (by omega) (by omega) HNW.out h).done⟩
  | true =>
   rw [hlf] at d2
   have HLF:=Lib.hid hlf
   clear hlf
   cases hwt:wt (i:Int) with
   | false =>
    rw [hwt] at g67
    clear hwt
    go_wp2_with fail
    go_returns
    exact⟨rfl,(H5.out.rest.rest.weak fun h=>HG.out.1.e (by omega) (by omega) HNW.out h).done⟩
   | true =>
    rw [hwt] at g67
    have HWT:=Lib.hid hwt
    clear hwt
    have hrg:=act_range H5.out.rest.box
    have HD:=Lib.hid (H5.out.rest.rest.act0 (gsend_any (a:=a') HG.out.1 HL.out HLF.out HWT.out (by have:=HG.out.2.1;omega) HG.out.2.2.1 HA.out.1))
    go_upto_region 27 with fail
    go_wp2_with (first
     | (refine wpList_load_mid rfl 94 _ rfl B 0 rfl (actL a') _ hrg Tryz.underlying94 rfl (by kernel_rfl) ?_)
     | (go_at_call 110;refine HD.out.mono ?_;clear HD;rintro e w7 ⟨rfl,h7⟩;have H7:=Lib.hid h7;clear h7))
    go_returns
    have hgr0:=Int.tmod_nonneg 524288 HA.out.1.g.1
    have hgr1:=Int.tmod_lt_of_pos a'.g (show (0:Int) < 524288 by decide)
    exact⟨rfl,(H7.out.weak fun h=>(HG.out.1.sends (more:=a'.mo) HL.out HLF.out HWT.out hgr0 hgr1 (by have:=HG.out.2.1;omega) HG.out.2.2.1).e (Nat.le_refl _) (Nat.le_refl _) HNW.out h).done⟩
end
section
open Go.RowKit Go.Maps
attribute [local go_sem ↓] Go.wp_at_zero Go.wp_at_succ
attribute [local go_sem] quietR quietAtR quietUponR midAt midUpon
theorem gplayN {W:World} {g n k:Nat} {a:GAct} (hn:n+64 < 100000)(hk:k < 1000)(ha:WfA a)(hkk:¬ a.k % 7=6∧¬ a.k % 7=0∧¬ a.k % 7=1∧¬ a.k % 7=2∧¬ a.k % 7=3) :
  Acts (fun e=>e=.returned (.tuple #[])) (GamE n k g) (GamE (n+32) (k+1) g) 67 #[.pointer (some ⟨g,0,none⟩),actV a] Tryz.prog W:=fun A ⟨p,t,now,P,M,sent,wt,hG,hnow,h⟩=>by
 have haf:=ha.af
 have hk0:=ha.k.1
 unfold U at haf
 have hs0:=(Sx.start (P:=GamO g p t now P M sent wt) h).alloc (good_gam _ _ _ _ _ _ _ _) (actC a) 94
 have H0:=Lib.hid hs0
 have HG:=Lib.hid (And.intro hG (And.intro hn (And.intro hk ha)))
 clear h hs0 hG hn hk ha
 unfold actV actC at *
 obtain⟨i,hi0,hi1,hi2⟩:=idA_nat a.s.id
 have hidq:wrap64 (1+wrap64 ((IntKind.u64.wrap a.s.id).tmod 63))=(i:Int):=by
  rw [← hi0]
  unfold idA
  rw [IntKind.wrap_u64,Int.tmod_eq_emod_of_nonneg (by omega)]
  unfold wrap64
  omega
 have HI:=Lib.hid hidq
 go_enter Tryz.func67,Tryz.ntmps67
 go_upto_region 1 with fail
 generalize hW1:W.alloc (.cells #[.int .u8 a.k,.int .i64 a.s.id,.int .i64 a.s.pa,.bool a.s.lf,.int .u64 a.s.r.1,.int .u64 a.s.r.2.1,.int .u64 a.s.r.2.2,.int .u64 a.s.s.1,.int .u64 a.s.s.2.1,.int .u64 a.s.s.2.2,.int .u64 a.s.u.1,.int .u64 a.s.u.2.1,.int .u64 a.s.u.2.2,.int .i64 a.s.pk,.int .i64 a.s.by_,.int .u64 a.af,.int .u64 a.g,.bool a.mo] 94)=W1 at H0 ⊢
 obtain⟨B,hB⟩:∃ B,B=W.heap.size:=⟨_,rfl⟩
 rw [← hB] at H0 ⊢
 clear hB hW1
 have b15:=H0.out.box.cell 15
 have g2:=(H0.out.rest.box.cell 2).trans game_now
 have f2:=H0.out.rest.box.frozen 2
 simp only [lTA,lCZ,lCS] at b15
 go_region
 have gR:Good (Star (BoxO B 94 (actC a)) (Star (PkO p P) (TreO t M))):=(good_box _ _ _).star ((good_pk _ _).star (good_treO _ _))
 have h2:=(((H0.out.swap.set gR (u:=.int .u64 (min (now+a.af % 64) 1099511627776)) (i:=2) (cs':=gameC p t (min (now+a.af % 64) 1099511627776) sent wt) game_set_now).swap).later ((good_box _ _ _).star (good_gam _ _ _ _ _ _ _ _)) ((Below.refl _ _).drew))
 have hnw:0≤min (now+a.af % 64) 1099511627776∧min (now+a.af % 64) 1099511627776≤1099511627776:=by omega
 generalize min (now+a.af % 64) 1099511627776=nw at h2 hnw ⊢
 have H2:=Lib.hid h2
 clear H0 b15 g2 f2 h2 gR
 generalize (W1.setCell ⟨g,2,none⟩ (.int .u64 nw)).drew=w2 at H2 ⊢
 have b1:=H2.out.box.cell 1
 have f1:=H2.out.box.frozen 1
 unfold actC at b1
 simp only [lTA,lCZ,lCS] at b1
 go_upto_region 4 with fail
 obtain⟨a',ha'⟩:∃ a':GAct,a'={ a with s:={ a.s with id:=(i:Int) } }:=⟨_,rfl⟩
 have h3:=H2.out.set (good_gam _ _ _ _ _ _ _ _) (u:=.int .i64 i) (i:=1) (cs':=actC a') (by rw [ha'];rfl)
 have H3:=Lib.hid h3
 clear h3 H2 b1 f1
 generalize w2.setCell ⟨B,1,none⟩ (.int .i64 i)=w3 at H3 ⊢
 have hid:(Lit.int .i64 (i:Int)).wf=true:=wf_small (by omega) (by omega)
 have g1:=(H3.out.rest.box.cell 1).trans game_t
 obtain⟨S3,hS3⟩:=H3.out.rest.rest.env
 have hget:=tro_get (i:Int) hid hS3
 unfold GetW spV spC at hget
 have HNW:=Lib.hid hnw
 have hwa:WfA a':=by
  rw [ha']
  have:=HG.out.2.2.2
  exact⟨this.k,⟨⟨hid,this.s.1.2⟩,this.s.2⟩,this.af,this.g⟩
 have hk7:a'.k=a.k∧a'.s.id=i:=by rw [ha'];exact⟨rfl,rfl⟩
 have HA:=Lib.hid (And.intro hwa hk7)
 clear hS3 hnw hwa hk7 ha'
 obtain⟨sg,hsg⟩:∃ sg,sg=getS M (i:Int):=⟨_,rfl⟩
 rw [← hsg] at hget
 have HSG:=Lib.hid hsg
 clear hsg
 go_upto_region 5 with (go_at_call 26;refine hget.mono ?_;clear hget;rintro e w4 ⟨rfl,hb4⟩;have H4:=Lib.hid (H3.out.later ((good_box _ _ _).star (good_gam _ _ _ _ _ _ _ _)) hb4);clear hb4)
 have h5:=H4.out.alloc ((good_box _ _ _).star (good_gam _ _ _ _ _ _ _ _)) (spC sg) 32
 obtain⟨D,hD⟩:∃ D,D=w4.heap.size:=⟨_,rfl⟩
 rw [← hD] at h5 ⊢
 have H5:=Lib.hid h5
 have hw5:w4.alloc (.cells (spC sg) 32)=w4.alloc (.cells #[.int .i64 sg.id,.int .i64 sg.pa,.bool sg.lf,.int .u64 sg.r.1,.int .u64 sg.r.2.1,.int .u64 sg.r.2.2,.int .u64 sg.s.1,.int .u64 sg.s.2.1,.int .u64 sg.s.2.2,.int .u64 sg.u.1,.int .u64 sg.u.2.1,.int .u64 sg.u.2.2,.int .i64 sg.pk,.int .i64 sg.by_] 32):=rfl
 rw [hw5] at H5
 clear h5 hw5 H3 H4 g1 hD
 generalize w4.alloc (.cells #[.int .i64 sg.id,.int .i64 sg.pa,.bool sg.lf,.int .u64 sg.r.1,.int .u64 sg.r.2.1,.int .u64 sg.r.2.2,.int .u64 sg.s.1,.int .u64 sg.s.2.1,.int .u64 sg.s.2.2,.int .u64 sg.u.1,.int .u64 sg.u.2.1,.int .u64 sg.u.2.2,.int .i64 sg.pk,.int .i64 sg.by_] 32)=w5 at H5 ⊢
 have hbx:=H5.out.rest.box
 have b0:=hbx.cell 0
 unfold actC at b0
 simp only [lTA,lCZ,lCS] at b0
 have hk0':0≤a'.k:=by rw [HA.out.2.1];exact hk0
 have hkk':¬ a'.k % 7=6∧¬ a'.k % 7=0∧¬ a'.k % 7=1∧¬ a'.k % 7=2∧¬ a'.k % 7=3:=by rw [HA.out.2.1];exact hkk
 clear hkk hbx
 have GD:=Lib.hid (show Good (Star (BoxO D 32 (spC sg)) (Star (BoxO B 94 (actC a')) (GamO g p t nw P M sent wt))) from (good_box _ _ _).star ((good_box _ _ _).star (good_gam _ _ _ _ _ _ _ _)))
 obtain⟨n6,n0,n1,n2,n3⟩:=hkk'
 have d6:decide (a'.k % 7=6)=false:=decide_eq_false n6
 have d0:decide (a'.k % 7=0)=false:=decide_eq_false n0
 have d1:decide (a'.k % 7=1)=false:=decide_eq_false n1
 have d2:decide (a'.k % 7=2)=false:=decide_eq_false n2
 have d3:decide (a'.k % 7=3)=false:=decide_eq_false n3
 obtain⟨S6,mb6,ps6,hX6⟩:=H5.out.rest.rest.rest.first
 have hvx:∀ e,PkX p mb6 ps6 P (over w5 e) S6:=fun e=>(good_pkX _ _ _ _).kept hX6 (over_below w5 e).size fun b hb=>over_heap w5 e b ((good_pkX _ _ _ _).lt hX6 b hb)
 have hgx:=H5.out.rest.rest.box
 have q0:=fun e=>((over_cell (w:=w5) (e:=e) (o:=0) hgx.lt).trans (hgx.cell 0)).trans game_p
 have q2:=fun e=>((over_cell (w:=w5) (e:=e) (o:=2) hgx.lt).trans (hgx.cell 2)).trans game_now
 clear hX6 hgx
 rcases HG.out.1.all.toPInv.next (D:=8) (fun id c _=>HG.out.1.depth id) nw with ⟨j,m,l,hd,hu,hx,hlf⟩ | ⟨hd,_⟩
 ·have hv:=fun e=>pnext_any (hvx e) HG.out.1.pb hd
  unfold OptW at hv
  dsimp only [Option.getD,Option.isSome] at hv
  have hj0:0 < j∧awP P j=true:=by
   cases hu with
   | root =>
    obtain⟨r,hr,hrl⟩:=HG.out.1.all.wf.root
    rw [lfP_of hr,hrl] at hlf
    cases hlf
   | step h1 h2 h3=>exact⟨h1,(hx _ (.head _)).aw⟩
  obtain⟨cj,hcj⟩:=awP_look hj0.2
  obtain⟨sj,hsj,hrj,_⟩:=HG.out.1.tree (by omega) hcj
  have hlj:sj.1.lf=true:=by rw [← hrj.lf,← lfP_of hcj];exact hlf
  have hwj:wt j=true:=by
   have:=HG.out.1.all.awk.leaf j hj0.1 (by rw [hcj];rfl) hlf
   rw [hj0.2] at this
   simp only [Bool.true_eq,Bool.and_eq_true] at this
   exact this.2
  have hj63:=HG.out.1.ids _ _ hsj
  obtain⟨i2,rfl⟩:∃ i2:Nat,j=i2:=⟨j.toNat,by omega⟩
  have hj1:0 < i2:=by omega
  have hj2:i2 < 64:=by omega
  have hj3:(i2:Int) < 64:=by omega
  have hj4:(0:Int) < (i2:Int):=by omega
  have HJ:=Lib.hid (And.intro hsj (And.intro hlj hwj))
  have HV:=Lib.hid hv
  clear hv hvx hd hu hx hlf hj0 hcj hsj hrj hlj hwj hj63
  go_upto_region 6 with fail
  refine wp_region_over (by kernel_rfl) (by kernel_rfl) ?_
  repeat (first | go_big_quiet_skip | (go_big_quiet_want;go_big_quiet_op;first | go_big_quiet_on | (apply Exists.intro;refine⟨fun e=>?_,?_⟩;(focus (go_at_call 13;with_reducible exact calls_over (HV.out e)));go_big_quiet_on)))
  refine wpQuiet_nil ?_
  rintro w6 ⟨e,he⟩
  have hb6:=over_below w5 e
  rw [← he] at hb6
  have h6:=H5.out.later GD.out hb6
  have hrg:=act_range h6.rest.box
  have HD:=Lib.hid (h6.rest.rest.act0 (gsend_any (a:=a') HG.out.1 HJ.out.1 HJ.out.2.1 HJ.out.2.2 (by have:=HG.out.2.1;omega) HG.out.2.2.1 HA.out.1))
  clear he hb6 h6 q0 q2 HV b0
  go_upto_region 8 with fail
  go_wp2_with (first
   | (refine wpList_load_mid rfl 94 _ rfl B 0 rfl (actL a') _ hrg Tryz.underlying94 rfl (by kernel_rfl) ?_)
   | (go_at_call 110;refine HD.out.mono ?_;clear HD;rintro e w7 ⟨rfl,h7⟩;have H7:=Lib.hid h7;clear h7))
  go_returns
  have hgr0:=Int.tmod_nonneg 524288 HA.out.1.g.1
  have hgr1:=Int.tmod_lt_of_pos a'.g (show (0:Int) < 524288 by decide)
  exact⟨rfl,(H7.out.weak fun h=>(HG.out.1.sends (more:=a'.mo) HJ.out.1 HJ.out.2.1 HJ.out.2.2 hgr0 hgr1 (by have:=HG.out.2.1;omega) HG.out.2.2.1).e (Nat.le_refl _) (Nat.le_refl _) HNW.out h).done⟩
 ·have hv:=fun e=>pnext_any (hvx e) HG.out.1.pb hd
  unfold OptW at hv
  dsimp only [Option.getD,Option.isSome] at hv
  have HV:=Lib.hid hv
  clear hv hvx hd
  go_upto_region 6 with fail
  refine wp_region_over (by kernel_rfl) (by kernel_rfl) ?_
  repeat (first | go_big_quiet_skip | (go_big_quiet_want;go_big_quiet_op;first | go_big_quiet_on | (apply Exists.intro;refine⟨fun e=>?_,?_⟩;(focus (go_at_call 13;with_reducible exact calls_over (HV.out e)));go_big_quiet_on)))
  refine wpQuiet_nil ?_
  rintro w6 ⟨e,he⟩
  have hb6:=over_below w5 e
  rw [← he] at hb6
  have H6:=Lib.hid (H5.out.later GD.out hb6)
  clear he hb6 HV q0 q2 b0
  go_wp2_with fail
  go_returns
  exact⟨rfl,(H6.out.rest.rest.weak fun h=>HG.out.1.e (by omega) (by omega) HNW.out h).done⟩
end
section
open Go.RowKit Go.Maps
open Go.ChangeShapes Go.WideShapes Go.Deep
attribute [local go_sem ↓] Go.wp_at_zero Go.wp_at_succ
attribute [local go_sem] quietR quietAtR quietUponR midAt midUpon
theorem gplay_all {W:World} {g n k:Nat} {a:GAct} (hn:n+64 < 100000)(hk:k < 1000)(ha:WfA a) :
  Acts (fun e=>e=.returned (.tuple #[])) (GamE n k g) (GamE (n+32) (k+1) g) 67 #[.pointer (some ⟨g,0,none⟩),actV a] Tryz.prog W:=by
 by_cases h6:a.k % 7=6
 ·exact gplay6 hn hk ha h6
 by_cases h0:a.k % 7=0
 ·exact gplay0 hn hk ha h0
 by_cases h1:a.k % 7=1
 ·exact gplay1 hn hk ha h1
 by_cases h2:a.k % 7=2
 ·exact gplay2 hn hk ha h2
 by_cases h3:a.k % 7=3
 ·exact gplay3 hn hk ha h3
 exact gplayN hn hk ha ⟨h6,h0,h1,h2,h3⟩
theorem look_pk0 {id:Int} {c:Cls} (h:lookM pk0 id=some c):id=0∧c=⟨0,false,false,0,none,fam0,[],0⟩:=by
 unfold pk0 lookM at h
 by_cases e:(0:Int)=id
 ·rw [if_pos e] at h
  exact⟨e.symm,(Option.some.inj h).symm⟩
 ·rw [if_neg e] at h
  cases h
theorem ginv_0:GInv 0 0 pk0 [] (fun _=>false) (fun _=>0):=by
 have hpos:∀ id c,0 < id→¬ lookM pk0 id=some c:=fun id c h0 h=>by have:=(look_pk0 h).1;omega
 refine⟨⟨⟨⟨by simp [pk0,Rising],⟨_,rfl,rfl⟩,fun id c hc h0=>absurd (look_pk0 hc).1 h0,fun id c hc=>by rw [(look_pk0 hc).1];exact Int.le_refl _,fun id c hc=>by rw [(look_pk0 hc).2];exact InvE.nil',fun id c e hc he=>by rw [(look_pk0 hc).2] at he;cases he⟩,fun id c p h0 _ hc=>absurd hc (hpos id c h0),⟨fun id h0 hs=>?_,fun id h0 hs=>?_,fun id h0 hs=>?_,fun id h0 hs=>?_⟩⟩,fun q j hk=>?_⟩,inv_nil,⟨fun id c hc=>?_,fun id c hc=>?_,fun id c x hc hx=>?_,fun id c hc=>?_,fun id c hc=>?_⟩,by simp [pk0],fun id c h=>(by cases h),fun id h0=>?_,fun id c s h0 hc=>absurd (look_pk0 hc).1 h0,fun id=>by omega⟩
 ·obtain⟨c,hc⟩:=Option.isSome_iff_exists.1 hs;exact absurd hc (hpos id c h0)
 ·obtain⟨c,hc⟩:=Option.isSome_iff_exists.1 hs;exact absurd hc (hpos id c h0)
 ·obtain⟨c,hc⟩:=Option.isSome_iff_exists.1 hs;exact absurd hc (hpos id c h0)
 ·obtain⟨c,hc⟩:=Option.isSome_iff_exists.1 hs;exact absurd hc (hpos id c h0)
 ·unfold kf famP at hk
  cases hq:lookM pk0 q with
  | none=>rw [hq] at hk;cases hk
  | some c=>rw [hq,(look_pk0 hq).2] at hk;cases hk
 ·rw [(look_pk0 hc).2];dsimp only;omega
 ·rw [(look_pk0 hc).2];exact Nat.zero_le _
 ·rw [(look_pk0 hc).2] at hx;cases hx
 ·rw [(look_pk0 hc).2];exact famZ_0
 ·rw [(look_pk0 hc).2];dsimp only;omega
 ·cases hc:lookM pk0 id with
  | none=>rfl
  | some c=>exact absurd (look_pk0 hc).1 h0
def GActsAt (w:World)(a:Option Addr)(len:Nat)(z:List GAct):Prop :=
 z.length=len∧(∀ q∈z,WfA q)∧(len=0∨∃ b off,a=some ⟨b,off,none⟩∧b < w.heap.size∧∀ i q,z[i]?=some q→∀ j v,(actL q)[j]?=some v→w.cell? ⟨b,off+i*18+j,none⟩=some v)
theorem GActsAt.below {w w':World} {a:Option Addr} {len:Nat} {z:List GAct} (h:GActsAt w a len z)(hb:Below w.heap.size w w'):GActsAt w' a len z:=by
 obtain⟨h1,h2,h3⟩:=h
 refine⟨h1,h2,?_⟩
 rcases h3 with h3 | ⟨b,off,e,hl,hc⟩
 ·exact .inl h3
 ·exact .inr ⟨b,off,e,Nat.lt_of_lt_of_le hl hb.size,fun i q hq j v hv=>(hb.cell (p:=⟨b,_,none⟩) hl).trans (hc i q hq j v hv)⟩
theorem gu8_wf {n:Int} (h:(Lit.int .u8 n).wf=true):0≤n∧n≤255:=by
 simp [Lit.wf,IntKind.min,IntKind.max,IntKind.signed,IntKind.bits] at h
 exact⟨h.1,by omega⟩
theorem gu64_U {n:Int} (h:(Lit.int .u64 n).wf=true):U n:=by
 simp [Lit.wf,IntKind.min,IntKind.max,IntKind.signed,IntKind.bits] at h
 unfold U
 omega
theorem grow_of {row:List Value} (f0:KindsFit [some .u8,some .i64,some .i64,none,some .u64,some .u64,some .u64,some .u64,some .u64,some .u64,some .u64,some .u64,some .u64,some .i64,some .i64,some .u64,some .u64,none] row):∃ q:GAct,row=actL q∧WfA q:=by
 obtain⟨x0,r0,rfl,w0,f1⟩:=kinds_cons f0
 obtain⟨x1,r1,rfl,w1,f2⟩:=kinds_cons f1
 obtain⟨x2,r2,rfl,w2,f3⟩:=kinds_cons f2
 obtain⟨x3,r3,rfl,f4⟩:=kinds_bool f3
 obtain⟨x4,r4,rfl,w4,f5⟩:=kinds_cons f4
 obtain⟨x5,r5,rfl,w5,f6⟩:=kinds_cons f5
 obtain⟨x6,r6,rfl,w6,f7⟩:=kinds_cons f6
 obtain⟨x7,r7,rfl,w7,f8⟩:=kinds_cons f7
 obtain⟨x8,r8,rfl,w8,f9⟩:=kinds_cons f8
 obtain⟨x9,r9,rfl,w9,f10⟩:=kinds_cons f9
 obtain⟨x10,r10,rfl,w10,f11⟩:=kinds_cons f10
 obtain⟨x11,r11,rfl,w11,f12⟩:=kinds_cons f11
 obtain⟨x12,r12,rfl,w12,f13⟩:=kinds_cons f12
 obtain⟨x13,r13,rfl,w13,f14⟩:=kinds_cons f13
 obtain⟨x14,r14,rfl,w14,f15⟩:=kinds_cons f14
 obtain⟨x15,r15,rfl,w15,f16⟩:=kinds_cons f15
 obtain⟨x16,r16,rfl,w16,f17⟩:=kinds_cons f16
 obtain⟨x17,r17,rfl,f18⟩:=kinds_bool f17
 obtain rfl:=kinds_nil f18
 exact⟨⟨x0,⟨x1,x2,x3,(x4,x5,x6),(x7,x8,x9),(x10,x11,x12),x13,x14⟩,x15,x16,x17⟩,rfl,gu8_wf w0,⟨⟨w1,w2,w13,w14⟩,⟨gu64_U w4,gu64_U w5,gu64_U w6⟩,⟨gu64_U w7,gu64_U w8,gu64_U w9⟩,⟨gu64_U w10,gu64_U w11,gu64_U w12⟩⟩,gu64_U w15,gu64_U w16⟩
instance:Inhabited GAct:=⟨⟨0,⟨0,0,false,(0,0,0),(0,0,0),(0,0,0),0,0⟩,0,0,false⟩⟩
theorem gacts_of {w:World} {a:Option Addr} {len cap:Nat} {z:List (List Value)} (h:IsRows [some .u8,some .i64,some .i64,none,some .u64,some .u64,some .u64,some .u64,some .u64,some .u64,some .u64,some .u64,some .u64,some .i64,some .i64,some .u64,some .u64,none] w a len cap z) :
  len≤9223372036854775807∧∃ l:List GAct,GActsAt w a len l:=by
 obtain⟨h1,h2,h3,h4,h5⟩:=h
 have h2':cap≤9223372036854775807:=by unfold maxLen at h2;exact h2
 refine⟨Nat.le_trans h1 h2',?_⟩
 obtain⟨l,hl,hr⟩:=list_of (fun i (q:GAct)=>z[i]?=some (actL q)∧WfA q) len (fun i hi=>by
  obtain⟨q,e,hf⟩:=grow_of (h4 _ (List.getElem_mem (l:=z) (n:=i) (by omega)))
  exact⟨q,by rw [List.getElem?_eq_getElem (by omega),e],hf⟩)
 refine⟨l,hl,fun q hq=>?_,?_⟩
 ·obtain⟨i,hi,rfl⟩:=List.mem_iff_getElem.1 hq
  exact (hr i _ (List.getElem?_eq_getElem hi)).2
 ·rcases h5 with h5 | ⟨b,off,e,hb,hc⟩
  ·exact .inl h5
  ·exact .inr ⟨b,off,e,hb,fun i q hq j v hv=>by rw [Nat.add_assoc];exact hc i _ (hr i q hq).1 j v hv⟩
theorem Sx.newO {w w':World} {P:Ob} (h:Sx w (fun _=>False) w' P):Below w.heap.size w w'∧∃ S,P w' S∧∀ b,S b→w.heap.size≤b:=by
 obtain⟨S,hs,hw⟩:=h
 exact⟨⟨hw.fr.os,hw.fr.tape,hw.fr.output,hw.fr.size,fun b hb=>hw.fr.block b hb fun h=>h⟩,S,hs,fun b hb=>(hw.own b hb).elim (fun h=>h.elim) id⟩
theorem gplayed_any (a0:Option Addr)(len cap:Nat)(z:List GAct)(w:World)(hl:len≤120)(hz:GActsAt w a0 len z) :
  Calls Tryz.prog 20 #[.slice a0 len cap] w (NewO w fun g=>GamE (32*len) len g):=by
 have HZ:=Lib.hid hz
 clear hz
 have h0:Sx w (fun _=>False) w Emp:=Sx.start (P:=Emp) (fun b h=>h)
 have H0:=Lib.hid h0
 clear h0
 go_enter Tryz.func20,Tryz.ntmps20
 go_wp2_with (first
  | (go_at_call 7;refine (pnew_any _).mono ?_;rintro e w2 hw2;obtain⟨p,rfl,h2⟩:=H0.out.new good_emp (fun q=>good_pk q _) hw2;have H2:=Lib.hid h2;clear h2 hw2)
  | (go_at_call 66;refine (tro_new _).mono ?_;rintro e w3 hw3;obtain⟨t,rfl,h3⟩:=H2.out.new ((good_pk _ _).star good_emp) (fun q=>good_treO q _) hw3;have H3:=Lib.hid h3;clear h3 hw3))
 have hcs:(Tryz.zeroCells49.setIfInBounds 0 (Value.pointer (some ⟨p,0,none⟩))).setIfInBounds 1 (Value.pointer (some ⟨t,0,none⟩))=gameC p t 0 (fun _=>0) (fun _=>false):=by kernel_rfl
 have h4:=H3.out.alloc ((good_treO _ _).star ((good_pk _ _).star good_emp)) (gameC p t 0 (fun _=>0) (fun _=>false)) 49
 have h5:Sx w (fun _=>False) (w3.alloc (.cells (gameC p t 0 (fun _=>0) (fun _=>false)) 49)) (GamO w3.heap.size p t 0 pk0 [] (fun _=>0) (fun _=>false)) :=
  ((h4.weak fun h=>Star.swap (h.under fun h=>Star.swap (h.under Star.comm))).rest).weak fun h=>h.under Star.comm
 rw [hcs]
 clear hcs h4
 generalize w3.alloc (.cells (gameC p t 0 (fun _=>0) (fun _=>false)) 49)=w4 at h5 ⊢
 generalize w3.heap.size=G at h5 ⊢
 have H5:=Lib.hid h5
 clear h5 H2 H3 H0
 go_loopw [4] (fun v4 wr=>∃ j:Nat,v4=.int .i64 j∧j≤len∧Sx w (fun _=>False) wr (GamE (32*j) j G)) (fun v4 _=>(len - Go.RowKit.intOf v4).toNat)
 case atStart=>exact⟨0,rfl,Nat.zero_le _,H5.out.weak fun h=>ginv_0.e (Nat.le_refl _) (Nat.le_refl _) (by omega) h⟩
 case round =>
  obtain⟨j,rfl,hj,hs⟩:=hrel
  by_cases hlt:j < len
  ·obtain⟨hzl,hzu,hzc⟩:=HZ.out.below hs.newO.1
   obtain⟨b,off,rfl,hbl,hcl⟩:=hzc.resolve_left (by omega)
   obtain⟨q,hq⟩:∃ q,z[j]?=some q:=⟨_,List.getElem?_eq_getElem (by omega)⟩
   have hrg:wr.rangeAt b (off+j*18) (actL q):=fun jj v hv=>hcl j q hq jj v hv
   have HS:=Lib.hid (hs.act0 (gplay_all (by omega) (by omega) (hzu q (List.mem_of_getElem? hq))))
   clear hs hzu hzc hcl hq hzl
   go_wp2_with (first
    | (refine wpList_load_mid rfl 94 _ rfl b (off+j*18) rfl (actL q) _ hrg Tryz.underlying94 rfl (by kernel_rfl) ?_)
    | (go_at_call 67;refine HS.out.mono ?_;clear HS;rintro e w7 ⟨rfl,h7⟩;have H7:=Lib.hid h7;clear h7))
   go_roundw
   case measure=>(simp [Go.RowKit.intOf];try omega)
   case rel=>exact⟨j+1,by go_num,by omega,by have:=H7.out;rw [show 32*(j+1)=32*j+32 by omega];exact this⟩
  ·obtain rfl:j=len:=by omega
   have HS:=Lib.hid hs
   clear hs
   go_wp2_with fail
   go_ret
   exact⟨G,rfl,HS.out.newO⟩
end
section
open Go.RowKit Go.Maps
def cE:Int × Int × Int:=(0,0,256)
def rE:Rn:=⟨0,0,256,0,[(0,0)]⟩
theorem reachE {y n:Int} (h0:0 < n)(h1:n < 100)(hy:y≤vA 0 0 256 [(0,0)] (max n 0))(hy2:vA 0 0 256 [(0,0)] (max (n - 1) 0) < y):reachR rE y=n:=by
 have hb:Back (fun t=>vA 0 0 256 [(0,0)] (max t 0)) 0 y n:=.inr (.inr (.inr ⟨by omega,h0,hy,hy2⟩))
 have hm:=vA_max_mono (F:=0) (L:=0) (R:=256) (x:=0) (A:=[(0,0)]) ⟨by omega,by omega,by omega,by omega,by omega,by omega,fun _=>rfl⟩ (fun a ha=>by rw [List.mem_singleton.1 ha];exact⟨Int.le_refl _,Int.le_refl _⟩)
 have:=hb.ans hm
 unfold reachR qR rE
 exact this.symm
theorem reachE4:reachR rE 1024=4:=reachE (by decide) (by decide) (by decide) (by decide)
theorem reachE8:reachR rE 2048=8:=reachE (by decide) (by decide) (by decide) (by decide)
theorem reachE12:reachR rE 3072=12:=reachE (by decide) (by decide) (by decide) (by decide)
def rcE (r:Rn)(y:Int):Int:=y / 256
theorem gain_congr {rc rc':Rn→Int→Int} {id n:Int} {f:Fam} (h:∀ m,lookM f.m id=some m→rc m.rn (m.tot+min n (capC - m.tot))=rc' m.rn (m.tot+min n (capC - m.tot))):gainF rc id n f=gainF rc' id n f:=by
 unfold gainF
 cases hm:lookM f.m id with
 | none=>rfl
 | some m =>
  dsimp only
  rw [h m hm]
theorem sent1_congr {rc rc':Rn→Int→Int} {id n:Int} {P:Pk} (h:∀ m,memP P id=some m→rc m.rn (m.tot+min n (capC - m.tot))=rc' m.rn (m.tot+min n (capC - m.tot))):sent1 rc n P id=sent1 rc' n P id:=by
 unfold sent1
 have hm:memP (updP P id fun c=>{ c with tot:=c.tot+min n (capC - c.tot) }) id=memP P id:=memP_upd (by intro c;rfl) (by intro c;rfl) id
 generalize (updP P id fun c=>{ c with tot:=c.tot+min n (capC - c.tot) })=Q at hm
 unfold updF
 cases hq:paP Q id with
 | none=>rfl
 | some q =>
  dsimp only
  unfold updP
  cases hc:lookM Q q with
  | none=>rfl
  | some p =>
   dsimp only
   rw [gain_congr fun m hl=>h m (by rw [← hm];unfold memP famP;rw [hq];simp only [Option.bind_some,hc,Option.map_some];exact hl)]
theorem sentP_congr {ow:Option Rn→Int→Int} {rc rc':Rn→Int→Int} {id n:Int} {more:Bool} {P:Pk} (h:∀ m,memP P id=some m→rc m.rn (m.tot+min n (capC - m.tot))=rc' m.rn (m.tot+min n (capC - m.tot))):sentP ow rc id n more [id] P=sentP ow rc' id n more [id] P:=by
 unfold sentP
 simp only [List.foldl_cons,List.foldl_nil]
 rw [sent1_congr h]
def exQ1:Pk:=putP pk0 1 0 true true cE none
def exQ2:Pk:=putP exQ1 2 0 true true cE none
noncomputable def exQ3:Pk:=wakeP owL 0 2 [2] exQ2
noncomputable def exQ4:Pk:=wakeP owL 0 1 [1] exQ3
def exI (i:Nat):Int:=1+(i % 2:Nat)
noncomputable def exS:Nat→Pk
 | 0=>exQ4
 | i+1=>sentP owL rcE (exI i) 1024 (decide (i < 5)) [exI i] (exS i)
theorem mem_is {P:Pk} {id:Int} {m:Mem} (h:memP P id=some m) {rc rc':Rn→Int→Int} {n:Int} (hr:rc m.rn (m.tot+min n (capC - m.tot))=rc' m.rn (m.tot+min n (capC - m.tot))):∀ k,memP P id=some k→rc k.rn (k.tot+min n (capC - k.tot))=rc' k.rn (k.tot+min n (capC - k.tot)):=fun k hk=>by
 rw [h] at hk
 cases hk
 exact hr
theorem ex_step:∀ i,i < 6→sentP owL reachR (exI i) 1024 (decide (i < 5)) [exI i] (exS i)=exS (i+1)
 | 0,_=>sentP_congr (mem_is (m:=⟨0,0,rE,true⟩) (by kernel_rfl) reachE4)
 | 1,_=>sentP_congr (mem_is (m:=⟨0,0,rE,true⟩) (by kernel_rfl) reachE4)
 | 2,_=>sentP_congr (mem_is (m:=⟨1024,4,rE,true⟩) (by kernel_rfl) reachE8)
 | 3,_=>sentP_congr (mem_is (m:=⟨1024,4,rE,true⟩) (by kernel_rfl) reachE8)
 | 4,_=>sentP_congr (mem_is (m:=⟨2048,8,rE,true⟩) (by kernel_rfl) reachE12)
 | 5,_=>sentP_congr (mem_is (m:=⟨2048,8,rE,true⟩) (by kernel_rfl) reachE12)
 | i+6,h=>absurd h (by omega)
theorem ex_desc {P:Pk} {c cj:Cls} {j:Int} (h1:lookM P 0=some c)(h2:c.lf=false)(h3:withinV c.tr 9=some j)(h4:lookM P j=some cj)(h5:cj.lf=true):Desc P 9 0 (some j) 1:=.go h1 h2 h3 (.leaf h4 h5)
theorem exN:∀ i,i < 7→∃ n,Desc (exS i) 9 0 (some (exI i)) n
 | 0,_=>⟨1,ex_desc (c:=(lookM (exS 0) 0).get (by kernel_rfl)) (cj:=(lookM (exS 0) 1).get (by kernel_rfl)) (by kernel_rfl) (by kernel_rfl) (by kernel_rfl) (by kernel_rfl) (by kernel_rfl)⟩
 | 1,_=>⟨1,ex_desc (c:=(lookM (exS 1) 0).get (by kernel_rfl)) (cj:=(lookM (exS 1) 2).get (by kernel_rfl)) (by kernel_rfl) (by kernel_rfl) (by kernel_rfl) (by kernel_rfl) (by kernel_rfl)⟩
 | 2,_=>⟨1,ex_desc (c:=(lookM (exS 2) 0).get (by kernel_rfl)) (cj:=(lookM (exS 2) 1).get (by kernel_rfl)) (by kernel_rfl) (by kernel_rfl) (by kernel_rfl) (by kernel_rfl) (by kernel_rfl)⟩
 | 3,_=>⟨1,ex_desc (c:=(lookM (exS 3) 0).get (by kernel_rfl)) (cj:=(lookM (exS 3) 2).get (by kernel_rfl)) (by kernel_rfl) (by kernel_rfl) (by kernel_rfl) (by kernel_rfl) (by kernel_rfl)⟩
 | 4,_=>⟨1,ex_desc (c:=(lookM (exS 4) 0).get (by kernel_rfl)) (cj:=(lookM (exS 4) 1).get (by kernel_rfl)) (by kernel_rfl) (by kernel_rfl) (by kernel_rfl) (by kernel_rfl) (by kernel_rfl)⟩
 | 5,_=>⟨1,ex_desc (c:=(lookM (exS 5) 0).get (by kernel_rfl)) (cj:=(lookM (exS 5) 2).get (by kernel_rfl)) (by kernel_rfl) (by kernel_rfl) (by kernel_rfl) (by kernel_rfl) (by kernel_rfl)⟩
 | 6,_=>⟨1,ex_desc (c:=(lookM (exS 6) 0).get (by kernel_rfl)) (cj:=(lookM (exS 6) 1).get (by kernel_rfl)) (by kernel_rfl) (by kernel_rfl) (by kernel_rfl) (by kernel_rfl) (by kernel_rfl)⟩
 | i+7,h=>absurd h (by omega)
theorem ex_end:awP (exS 6) 2=false∧vP (exS 6) 1=12∧totP (exS 6) 2=3072∧tickP (exS 6)=0:=⟨by kernel_rfl,by kernel_rfl,by kernel_rfl,by kernel_rfl⟩
end
end Go.Proofs.YtmmeopjemkjllaaGreat
