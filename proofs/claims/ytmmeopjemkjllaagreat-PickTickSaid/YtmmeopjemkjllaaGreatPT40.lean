/- Lemmas of the claim. No conditions beyond those that each states. -/
import Derived.Test.YtmmeopjemkjllaaGreatPT39
set_option linter.unusedVariables false
set_option linter.unusedSimpArgs false
set_option maxRecDepth 100000
set_option maxHeartbeats 8000000
namespace Go.Proofs.YtmmeopjemkjllaaGreat
section
open Go.RowKit Go.Maps
attribute [local go_sem ↓] Go.wp_at_zero Go.wp_at_succ
attribute [local go_sem] quietR quietAtR quietUponR midAt midUpon
theorem pk_cut {w0 W W':World} {A:Nat→Prop} {k mb:Nat} {ps:Int→Nat} {P:Pk} {id:Int} {c:Cls} (hc:lookM P id=some c)
  (h:Sx w0 A W (PkX k mb ps P))(hm:MapI Tryz.prog 3 W' mb (delM (ptV ps P) id))(ht:W.mapTurned W' mb):Sx w0 A W' (PkX k mb ps (delM P id)):=by
 have h0:Sx w0 A W (Star (MapO mb (ptV ps P)) (Star (BoxO k 68 #[.map (some mb)]) (StarL (fun q=>ClsO (ps q.1) q.2) P))):=h.swap
 have hR:Rising P:=by
  obtain⟨S,hs⟩:=h0.first
  exact rising_pt.1 (hs.1.rising (int_keyed Tryz.underlying3))
 have h1:=h0.turn ((good_box _ _ _).star (good_starL (fun q=>good_cls _ _) _)) hm ht
 rw [← del_pt] at h1
 have h2:=h1.weak fun h=>h.under fun h=>h.under fun h=>(starL_look hR hc).1 h
 exact h2.swap2.swap.rest.swap
theorem pdrop_no {W:World} {k mb:Nat} {ps:Int→Nat} {P:Pk} {id:Int} {c:Cls} (hG:PkG P)(h1:1≤id)(hc:lookM P id=some c)(hno:¬ (c.un≤0∧awP P id=false)) :
  Acts (fun e=>e=.returned (.bool false)) (PkX k mb ps P) (PkX k mb ps P) 108 #[.pointer (some ⟨k,0,none⟩),.int .i64 id] Tryz.prog W:=fun A h=>by
 have hid:=wf_small (hG.ids _ _ hc).1 (hG.ids _ _ hc).2
 have ha:=pat_any id hid h
 have haw:=pawake_any id hid h hG.toPkB
 unfold cpV at ha
 rw [hc] at ha
 dsimp only at ha
 obtain⟨l,f,q,hr⟩:=h.cls hc
 have c7:=hr.blk.cell 7
 unfold clsC at c7
 simp only [lTA,lCZ,lCS] at c7
 have hs:=Sx.start (P:=PkX k mb ps P) h
 have H:=Lib.hid hs
 have hdone:∀ w',Below W.heap.size W w'→∃ A',PkX k mb ps P w' A'∧Went W w' A A':=fun w' hb=>(H.out.later (good_pkX _ _ _ _) hb).done
 have HD:=Lib.hid hdone
 clear h hs hr hdone hc
 by_cases hu:0 < c.un
 ·have hd:decide (0 < c.un)=true:=decide_eq_true hu
  clear haw hno
  go_enter Tryz.func108,Tryz.ntmps108
  go_wp2_with (go_at_call 34;refine ha.mono ?_;rintro e w1 ⟨rfl,rfl⟩)
  go_returns
  exact⟨rfl,HD.out _ (Below.refl _ _)⟩
 ·have hd:decide (0 < c.un)=false:=decide_eq_false hu
  have haw2:awP P id=true:=by
   cases e:awP P id with
   | true=>rfl
   | false=>exact absurd ⟨by omega,e⟩ hno
  rw [haw2] at haw
  clear hno haw2
  go_enter Tryz.func108,Tryz.ntmps108
  go_wp2_with (first
   | (go_at_call 34;refine ha.mono ?_;rintro e w1 ⟨rfl,rfl⟩)
   | (go_at_call 23;refine haw.mono ?_;rintro e w2 ⟨rfl,hb2⟩))
  go_returns
  exact⟨rfl,HD.out _ hb2⟩
theorem pdrop_yes {W:World} {k mb:Nat} {ps:Int→Nat} {P:Pk} {id:Int} {c p:Cls} (hG:PkG P)(h1:1≤id)(hc:lookM P id=some c)(hp:lookM P c.pa=some p)(hne:c.pa≠id)(hu:c.un≤0)(haw2:awP P id=false) :
  Acts (fun e=>e=.returned (.bool true)) (PkX k mb ps P) (PkX k mb ps (dropP P id c.pa)) 108 #[.pointer (some ⟨k,0,none⟩),.int .i64 id] Tryz.prog W:=fun A h=>by
 have hid:=wf_small (hG.ids _ _ hc).1 (hG.ids _ _ hc).2
 have hid2:=wf_small (hG.ids _ _ hp).1 (hG.ids _ _ hp).2
 have ha:=pat_any id hid h
 have haw:=pawake_any id hid h hG.toPkB
 rw [haw2] at haw
 unfold cpV at ha
 rw [hc] at ha
 dsimp only at ha
 obtain⟨l,f,q,hr⟩:=h.cls hc
 have c7:=hr.blk.cell 7
 unfold clsC at c7
 simp only [lTA,lCZ,lCS] at c7
 have hd:decide (0 < c.un)=false:=decide_eq_false (by omega)
 have hun:=hG.un _ _ hp
 have H:=Lib.hid (Sx.start (P:=PkX k mb ps P) h)
 have HC:=Lib.hid (And.intro hc (And.intro hp (And.intro hG (And.intro hid hid2))))
 have HNE:=Lib.hid hne
 clear h hr hc hp hG hne haw2 hid2
 go_enter Tryz.func108,Tryz.ntmps108
 go_upto_region 4 with (first
  | (go_at_call 34;refine ha.mono ?_;rintro e w1 ⟨rfl,rfl⟩)
  | (go_at_call 23;refine haw.mono ?_;rintro e w2 ⟨rfl,hb2⟩;have H2:=Lib.hid (H.out.later (good_pkX _ _ _ _) hb2);clear hb2))
 clear c7 ha haw H
 obtain⟨S3,hS3,hw3⟩:=H2.out
 obtain⟨l9,f9,q9,hr9⟩:=hS3.cls HC.out.1
 have ho:∀ e,PkX k mb ps P (over w2 e) S3:=fun e=>(good_pkX _ _ _ _).kept hS3 (over_below w2 e).size fun b hb=>over_heap w2 e b ((good_pkX _ _ _ _).lt hS3 b hb)
 have hlk:∀ e,(Instr.lookup 66 (.map (some mb)) (.int .i64 c.pa) false).run Tryz.prog (over w2 e)=.ok (.pointer (some ⟨ps c.pa,0,none⟩)) (over w2 e):=fun e=>by
  have:=(ho e).look HC.out.2.2.2.2
  rw [HC.out.2.1] at this
  exact this
 have o2:=fun e=>(over_cell (w:=w2) (e:=e) (o:=0) hS3.box.lt).trans (hS3.box.cell 0)
 have o3:=fun e=>(over_cell (w:=w2) (e:=e) (o:=0) hr9.blk.lt).trans (hr9.blk.cell 0)
 unfold clsC at o3
 simp only [lTA,lCZ,lCS] at o2 o3
 clear hS3 hw3 hr9 ho
 refine wp_region_over (by kernel_rfl) (by kernel_rfl) ?_
 repeat (first | go_big_quiet_skip | (go_big_quiet_want;go_big_quiet_op;go_big_quiet_on))
 refine wpQuiet_nil ?_
 rintro w3 ⟨e,he⟩
 have hb3:=over_below w2 e
 rw [← he] at hb3
 obtain⟨lp,fp,qp,hf⟩:=(H2.out.later (good_pkX _ _ _ _) hb3).pfocus HC.out.2.1
 have c5:=hf.box.cell 5
 unfold clsC at c5
 simp only [lTA,lCZ,lCS] at c5
 have HD:=Lib.hid (Sx.act3 (good_box _ _ _) (good_limX _ _) (good_fam _ _) good_focC3 hf (fo_drop id HC.out.2.2.2.1))
 clear he hb3 hf o2 o3 hlk H2
 go_upto_region 7 with (go_at_call 130;refine HD.out.mono ?_;rintro e w4 ⟨⟨b,rfl⟩,h4⟩;have c7:=h4.box.cell 7;have f7:=h4.box.frozen 7;unfold clsC at c7;simp only [lTA,lCZ,lCS] at c7;have H4:=Lib.hid h4;clear h4)
 have h5:=H4.out.set good_focC1 (u:=.int .i64 (p.un - 1)) (i:=7) (cs':=clsC { p with fam:=outF id p.fam,un:=p.un - 1 } lp fp qp) rfl
 have h6:=Sx.punfocus (c':={ p with fam:=outF id p.fam,un:=p.un - 1 }) h5 HC.out.2.1
 obtain⟨P1,hP1⟩:∃ P1,P1=putM P c.pa { p with fam:=outF id p.fam,un:=p.un - 1 }:=⟨_,rfl⟩
 rw [← hP1] at h6
 have hc1:lookM P1 id=some c:=by rw [hP1,look_put_other _ (fun e=>HNE.out e.symm)];exact HC.out.1
 obtain⟨S6,hS6,hw6⟩:=h6
 have k6:=hS6.box.cell 0
 simp only [lTA,lCZ,lCS] at k6
 obtain⟨W7,hr7,hm7,ht7⟩:=hS6.map.drop (k:=id) (E:=58) (T:=66) Tryz.underlying3 Tryz.underlying66 HC.out.2.2.2.1 0
 have h7:=pk_cut hc1 ⟨S6,hS6,hw6⟩ hm7 ht7
 have hfin:dropP P id c.pa=delM P1 id:=by
  unfold dropP
  rw [hP1]
  unfold updP
  rw [HC.out.2.1]
 have H7:=Lib.hid h7
 clear h5 H4 HD c7 f7 c5 hS6 hw6 hm7 ht7 h7 hP1
 go_wp2_with fail
 go_returns
 rw [hfin]
 exact⟨rfl,H7.out.done⟩
end
section
open Go.RowKit Go.Maps
attribute [local go_sem ↓] Go.wp_at_zero Go.wp_at_succ
attribute [local go_sem] quietR quietAtR quietUponR midAt midUpon
theorem rise_ext {α:Type}:∀ {A B:List (Int × α)},Rising A→Rising B→(∀ j,lookM A j=lookM B j)→A=B
 | [],[],_,_,_=>rfl
 | [],q :: B,_,_,h=>by
  have:=h q.1
  rw [show lookM (q :: B) q.1=some q.2 by simp [lookM]] at this
  cases this
 | p :: A,[],_,_,h=>by
  have:=h p.1
  rw [show lookM (p :: A) p.1=some p.2 by simp [lookM]] at this
  cases this
 | p :: A,q :: B,ha,hb,h=>by
  have ha1:=(List.pairwise_cons.1 ha).1
  have hb1:=(List.pairwise_cons.1 hb).1
  have e:p.1=q.1:=by
   have h1:=h p.1
   rw [show lookM (p :: A) p.1=some p.2 by simp [lookM]] at h1
   have h2:=h q.1
   rw [show lookM (q :: B) q.1=some q.2 by simp [lookM]] at h2
   rcases List.mem_cons.1 (mem_of_look h1.symm) with e | hm
   ·rw [← e]
   ·rcases List.mem_cons.1 (mem_of_look h2) with e | hm2
    ·rw [← e]
    ·have:=hb1 _ hm;have:=ha1 _ hm2;dsimp only at *;omega
  have h1:=h p.1
  rw [show lookM (p :: A) p.1=some p.2 by simp [lookM],e,show lookM (q :: B) q.1=some q.2 by simp [lookM]] at h1
  have e2:p=q:=Prod.ext e (Option.some.inj h1)
  subst e2
  refine congrArg (p :: ·) (rise_ext (List.pairwise_cons.1 ha).2 (List.pairwise_cons.1 hb).2 fun j=>?_)
  by_cases hj:p.1=j
  ·subst hj
   rw [look_none.2 fun x hx=>by have:=ha1 x hx;omega,look_none.2 fun x hx=>by have:=hb1 x hx;omega]
  ·have:=h j
   rwa [show lookM (p :: A) j=lookM A j by simp [lookM,hj],show lookM (p :: B) j=lookM B j by simp [lookM,hj]] at this
def ZO (k mb:Nat)(ps:Int→Nat)(P:Pk)(pa id:Int)(l:Option Nat)(f q:Nat)(cs:Array Value)(lim:Option Rn)(fam:Fam)(tr:List En):Ob :=
 Star (BoxO (ps pa) 65 cs) (Star (LimX l lim) (Star (FamO f fam) (Star (TrO q tr) (Star (BoxO k 68 #[.map (some mb)]) (Star (MapO mb (ptV ps P)) (StarL (fun q=>ClsO (ps q.1) q.2) (delM (delM P pa) id)))))))
section
variable {W : World} {S : Nat → Prop} {k mb f q : Nat} {ps : Int → Nat} {P : Pk} {pa id : Int} {l : Option Nat} {c c' : Cls} {cs : Array Value} {lim : Option Rn} {fam : Fam} {tr : List En}
theorem good_zo:Good (ZO k mb ps P pa id l f q cs lim fam tr):=(good_box _ _ _).star ((good_limX _ _).star ((good_fam _ _).star ((good_tr _ _).star ((good_box _ _ _).star ((good_map _ _).star (good_starL (fun q=>good_cls _ _) _))))))
theorem foc_split (hR:Rising P)(hc:lookM P id=some c)(hne:id≠pa)(h:FocC k mb ps P pa l f q cs lim fam tr W S):Star (ClsO (ps id) c) (ZO k mb ps P pa id l f q cs lim fam tr) W S :=
 Star.swap (Star.under h fun h=>Star.swap (Star.under h fun h=>Star.swap (Star.under h fun h=>Star.swap (Star.under h fun h=>Star.swap (Star.under h fun h=>Star.swap (Star.under h fun h=>(starL_look (rising_del hR pa) (by rw [look_del_other hne];exact hc)).1 h))))))
theorem foc_join (hR:Rising P)(hc:lookM P id=some c)(hne:id≠pa)(h:Star (ClsO (ps id) c) (ZO k mb ps P pa id l f q cs lim fam tr) W S):FocC k mb ps P pa l f q cs lim fam tr W S :=
 Star.under (Star.swap h) fun h=>Star.under (Star.swap h) fun h=>Star.under (Star.swap h) fun h=>Star.under (Star.swap h) fun h=>Star.under (Star.swap h) fun h=>Star.under (Star.swap h) fun h=>(starL_look (rising_del hR pa) (by rw [look_del_other hne];exact hc)).2 h
theorem del_putS {α:Type} {M:List (Int × α)} (hR:Rising M)(k:Int)(v:α):delM (putM M k v) k=delM M k :=
 rise_ext (rising_del (rising_put _ _ hR) _) (rising_del hR _) fun j=>by
  by_cases e:j=k
  ·subst e;rw [look_del_same,look_del_same]
  ·rw [look_del_other e,look_del_other e,look_put_other _ e]
theorem del_comm {α:Type} {M:List (Int × α)} (hR:Rising M)(a b:Int):delM (delM M a) b=delM (delM M b) a :=
 rise_ext (rising_del (rising_del hR _) _) (rising_del (rising_del hR _) _) fun j=>by
  by_cases e:j=b
  ·subst e
   rw [look_del_same]
   by_cases e2:j=a
   ·subst e2;rw [look_del_same]
   ·rw [look_del_other e2,look_del_same]
  ·rw [look_del_other e]
   by_cases e2:j=a
   ·subst e2;rw [look_del_same,look_del_same]
   ·rw [look_del_other e2,look_del_other e2,look_del_other e]
theorem zo_put (hR:Rising P)(hc:lookM P id=some c):ZO k mb ps (putM P id c') pa id l f q cs lim fam tr=ZO k mb ps P pa id l f q cs lim fam tr:=by
 unfold ZO
 have e1:ptV ps (putM P id c')=ptV ps P:=by
  rw [put_pt (ps:=ps) hR fun _ _ _=>rfl]
  exact put_look (rising_pt.2 hR) (by rw [look_pt,hc];rfl)
 have e2:delM (delM (putM P id c') pa) id=delM (delM P pa) id:=by
  rw [del_comm (rising_put _ _ hR),del_putS hR,del_comm hR]
 rw [e1,e2]
end
theorem cls_open {w0 W:World} {A:Nat→Prop} {p:Nat} {c:Cls} {R:Ob} (h:Sx w0 A W (Star (ClsO p c) R)):∃ l f q,Sx w0 A W (Star (BoxO p 65 (clsC c l f q)) (Star (LimX l c.lim) (Star (FamO f c.fam) (Star (TrO q c.tr) R)))):=by
 obtain⟨S,⟨A1,B,hS,hd,⟨l,f,q,hp⟩,hq⟩,hw⟩:=h
 have h3:Star (ClsX p (clsC c l f q) l f q c.lim c.fam c.tr) R W S:=⟨A1,B,hS,hd,hp,hq⟩
 exact⟨l,f,q,S,(Star.assoc h3).under fun h=>(Star.assoc h).under Star.assoc,hw⟩
theorem cls_close {w0 W:World} {A:Nat→Prop} {p f q:Nat} {l:Option Nat} {c:Cls} {R:Ob} (h:Sx w0 A W (Star (BoxO p 65 (clsC c l f q)) (Star (LimX l c.lim) (Star (FamO f c.fam) (Star (TrO q c.tr) R))))):Sx w0 A W (Star (ClsO p c) R) :=
 h.weak fun h=>(Star.unassoc (Star.under h fun h=>Star.unassoc (h.under Star.unassoc))).over fun h=>⟨l,f,q,h⟩
theorem sp_cells {W:World} {B:Nat} {s:Sp} (h:Blk W B 32 (spC s)):W.cell? ⟨B,0,none⟩=some (.int .i64 s.id)∧W.cell? ⟨B,1,none⟩=some (.int .i64 s.pa)∧W.cell? ⟨B,2,none⟩=some (.bool s.lf)∧W.cell? ⟨B,3,none⟩=some (.int .u64 s.r.1)∧W.cell? ⟨B,4,none⟩=some (.int .u64 s.r.2.1)∧W.cell? ⟨B,5,none⟩=some (.int .u64 s.r.2.2)∧W.cell? ⟨B,6,none⟩=some (.int .u64 s.s.1)∧W.cell? ⟨B,7,none⟩=some (.int .u64 s.s.2.1)∧W.cell? ⟨B,8,none⟩=some (.int .u64 s.s.2.2)∧W.cell? ⟨B,9,none⟩=some (.int .u64 s.u.1)∧W.cell? ⟨B,10,none⟩=some (.int .u64 s.u.2.1)∧W.cell? ⟨B,11,none⟩=some (.int .u64 s.u.2.2)∧W.cell? ⟨B,12,none⟩=some (.int .i64 s.pk)∧W.cell? ⟨B,13,none⟩=some (.int .i64 s.by_) :=
 ⟨h.cell 0,h.cell 1,h.cell 2,h.cell 3,h.cell 4,h.cell 5,h.cell 6,h.cell 7,h.cell 8,h.cell 9,h.cell 10,h.cell 11,h.cell 12,h.cell 13⟩
theorem sp_set {W:World} {B b i:Nat} {s:Sp} {u:Value} (hne:¬ b=B)(h:W.cell? ⟨B,0,none⟩=some (.int .i64 s.id)∧W.cell? ⟨B,1,none⟩=some (.int .i64 s.pa)∧W.cell? ⟨B,2,none⟩=some (.bool s.lf)∧W.cell? ⟨B,3,none⟩=some (.int .u64 s.r.1)∧W.cell? ⟨B,4,none⟩=some (.int .u64 s.r.2.1)∧W.cell? ⟨B,5,none⟩=some (.int .u64 s.r.2.2)∧W.cell? ⟨B,6,none⟩=some (.int .u64 s.s.1)∧W.cell? ⟨B,7,none⟩=some (.int .u64 s.s.2.1)∧W.cell? ⟨B,8,none⟩=some (.int .u64 s.s.2.2)∧W.cell? ⟨B,9,none⟩=some (.int .u64 s.u.1)∧W.cell? ⟨B,10,none⟩=some (.int .u64 s.u.2.1)∧W.cell? ⟨B,11,none⟩=some (.int .u64 s.u.2.2)∧W.cell? ⟨B,12,none⟩=some (.int .i64 s.pk)∧W.cell? ⟨B,13,none⟩=some (.int .i64 s.by_)):(W.setCell ⟨b,i,none⟩ u).cell? ⟨B,0,none⟩=some (.int .i64 s.id)∧(W.setCell ⟨b,i,none⟩ u).cell? ⟨B,1,none⟩=some (.int .i64 s.pa)∧(W.setCell ⟨b,i,none⟩ u).cell? ⟨B,2,none⟩=some (.bool s.lf)∧(W.setCell ⟨b,i,none⟩ u).cell? ⟨B,3,none⟩=some (.int .u64 s.r.1)∧(W.setCell ⟨b,i,none⟩ u).cell? ⟨B,4,none⟩=some (.int .u64 s.r.2.1)∧(W.setCell ⟨b,i,none⟩ u).cell? ⟨B,5,none⟩=some (.int .u64 s.r.2.2)∧(W.setCell ⟨b,i,none⟩ u).cell? ⟨B,6,none⟩=some (.int .u64 s.s.1)∧(W.setCell ⟨b,i,none⟩ u).cell? ⟨B,7,none⟩=some (.int .u64 s.s.2.1)∧(W.setCell ⟨b,i,none⟩ u).cell? ⟨B,8,none⟩=some (.int .u64 s.s.2.2)∧(W.setCell ⟨b,i,none⟩ u).cell? ⟨B,9,none⟩=some (.int .u64 s.u.1)∧(W.setCell ⟨b,i,none⟩ u).cell? ⟨B,10,none⟩=some (.int .u64 s.u.2.1)∧(W.setCell ⟨b,i,none⟩ u).cell? ⟨B,11,none⟩=some (.int .u64 s.u.2.2)∧(W.setCell ⟨b,i,none⟩ u).cell? ⟨B,12,none⟩=some (.int .i64 s.pk)∧(W.setCell ⟨b,i,none⟩ u).cell? ⟨B,13,none⟩=some (.int .i64 s.by_):=by
 have key:∀ j,(W.setCell ⟨b,i,none⟩ u).cell? ⟨B,j,none⟩=W.cell? ⟨B,j,none⟩:=fun j=>World.cell?_of_block (w:=W) (w':=W.setCell ⟨b,i,none⟩ u) (a:=⟨B,j,none⟩) (Below.heap_setCell W ⟨b,i,none⟩ u B fun e=>hne e.symm)
 simp only [key]
 exact h
theorem prenew_any {W:World} {k mb:Nat} {ps:Int→Nat} {P:Pk} (s:Sp) {c p:Cls} (hw:WfSp s)(hG:PkG P)(h1:1≤s.id)(hc:lookM P s.id=some c)(hp:lookM P c.pa=some p)(hne:c.pa≠s.id)(haw2:awP P s.id=false) :
  Acts (fun e=>e=.returned (.bool true)) (PkX k mb ps P) (PkX k mb ps (renewP P s.id c.pa (shB s) s.s (limN s.u))) 106 #[.pointer (some ⟨k,0,none⟩),spV s] Tryz.prog W:=fun A h=>by
 have hid:(Lit.int .i64 s.id).wf=true:=hw.1.1
 have hid2:=wf_small (hG.ids _ _ hp).1 (hG.ids _ _ hp).2
 have hs0:=(Sx.start (P:=PkX k mb ps P) h).alloc (good_pkX _ _ _ _) (spC s) 32
 have hRis:=h.rising
 have H0:=Lib.hid hs0
 have HC:=Lib.hid (And.intro hc (And.intro hp (And.intro hG (And.intro hid (And.intro hid2 (And.intro hw hRis))))))
 have HNE:=Lib.hid hne
 have hshw:=fun W=>shares_any s W hw
 obtain⟨sb,hsb⟩:∃ sb,shB s=sb:=⟨_,rfl⟩
 simp only [hsb] at hshw ⊢
 have HSB:=Lib.hid hsb
 clear hsb
 have hlim:=fun W=>lim_newO s.u W hw.2.2.2.1.1 hw.2.2.2.2.1.1 hw.2.2.2.2.2.1
 unfold spV at *
 clear h hs0 hw hne hRis
 unfold spC at hshw H0 ⊢
 go_enter Tryz.func106,Tryz.ntmps106
 go_upto_region 1 with fail
 generalize hW1:W.alloc (.cells #[.int .i64 s.id,.int .i64 s.pa,.bool s.lf,.int .u64 s.r.1,.int .u64 s.r.2.1,.int .u64 s.r.2.2,.int .u64 s.s.1,.int .u64 s.s.2.1,.int .u64 s.s.2.2,.int .u64 s.u.1,.int .u64 s.u.2.1,.int .u64 s.u.2.2,.int .i64 s.pk,.int .i64 s.by_] 32)=W1 at H0 ⊢
 obtain⟨B,hB⟩:∃ B,B=W.heap.size:=⟨_,rfl⟩
 rw [← hB] at H0 ⊢
 clear hB hW1
 have hbx:=sp_cells (s:=s) H0.out.box
 obtain⟨b0,b1,b2,b3,b4,b5,b6,b7,b8,b9,b10,b11,b12,b13⟩:=hbx
 obtain⟨S1,hS1⟩:=H0.out.env
 have ha1:=pat_any s.id hid hS1
 have haw:=pawake_any s.id hid hS1 hG.toPkB
 rw [haw2] at haw
 unfold cpV at ha1
 rw [hc] at ha1
 dsimp only at ha1
 clear hS1 hc hp hG haw2 hid2
 go_upto_region 4 with (first
  | (go_at_call 34;refine ha1.mono ?_;rintro e w1 ⟨rfl,rfl⟩)
  | (go_at_call 23;refine haw.mono ?_;rintro e w2 ⟨rfl,hb2⟩;have H2:=Lib.hid (H0.out.later ((good_box _ _ _).star (good_pkX _ _ _ _)) hb2);clear hb2))
 clear b0 b1 b2 b3 b4 b5 b6 b7 b8 b9 b10 b11 b12 b13 ha1 haw H0
 obtain⟨S3,hS3⟩:=H2.out.env
 obtain⟨lp,fp,qp,hf⟩:=H2.out.focE HC.out.2.1
 obtain⟨l9,f9,q9,hr9⟩:=hS3.cls HC.out.1
 have ho:∀ e,PkX k mb ps P (over w2 e) S3:=fun e=>(good_pkX _ _ _ _).kept hS3 (over_below w2 e).size fun b hb=>over_heap w2 e b ((good_pkX _ _ _ _).lt hS3 b hb)
 have hlk:∀ e,(Instr.lookup 66 (.map (some mb)) (.int .i64 c.pa) false).run Tryz.prog (over w2 e)=.ok (.pointer (some ⟨ps c.pa,0,none⟩)) (over w2 e):=fun e=>by
  have:=(ho e).look HC.out.2.2.2.2.1
  rw [HC.out.2.1] at this
  exact this
 have hpb:=hf.rest.box
 have o2:=fun e=>(over_cell (w:=w2) (e:=e) (o:=0) hS3.box.lt).trans (hS3.box.cell 0)
 have o3:=fun e=>(over_cell (w:=w2) (e:=e) (o:=0) hr9.blk.lt).trans (hr9.blk.cell 0)
 have o4:=fun e=>(over_cell (w:=w2) (e:=e) (o:=5) hpb.lt).trans (hpb.cell 5)
 unfold clsC at o3 o4
 simp only [lTA,lCZ,lCS] at o2 o3 o4
 have HF:=Lib.hid hf
 clear hS3 hr9 ho hpb hf H2
 refine wp_region_over (by kernel_rfl) (by kernel_rfl) ?_
 repeat (first | go_big_quiet_skip | (go_big_quiet_want;go_big_quiet_op;go_big_quiet_on))
 refine wpQuiet_nil ?_
 rintro w3 ⟨e,he⟩
 have hb3:=over_below w2 e
 rw [← he] at hb3
 have hf3:=HF.out.later ((good_box _ _ _).star good_focC) hb3
 have b0:=hf3.box.cell 0
 simp only [lTA,lCZ,lCS] at b0
 have HD:=Lib.hid (Sx.act4 (good_box _ _ _) (good_box _ _ _) (good_limX _ _) (good_fam _ _) good_focC3 hf3 (fo_drop s.id HC.out.2.2.2.1))
 clear he hb3 hf3 o2 o3 o4 hlk HF
 go_upto_region 6 with (go_at_call 130;refine HD.out.mono ?_;rintro e w4 ⟨⟨b,rfl⟩,h4⟩;have H4:=Lib.hid h4;clear h4)
 clear b0 HD
 obtain⟨l2,f2,q2,h5⟩:=cls_open (H4.out.weak fun h=>Star.swap (h.under fun h=>foc_split HC.out.2.2.2.2.2.2 HC.out.1 (fun e=>HNE.out e.symm) h))
 have s4:=sp_cells (s:=s) h5.rest.rest.rest.rest.box
 have H5:=Lib.hid h5
 clear h5 H4
 have g5:Good (Star (BoxO (ps s.id) 65 (clsC c l2 f2 q2)) (Star (LimX l2 c.lim) (Star (FamO f2 c.fam) (Star (TrO q2 c.tr) (Star (BoxO B 32 (spC s)) (ZO k mb ps P c.pa s.id lp fp qp (clsC p lp fp qp) p.lim (outF s.id p.fam) p.tr)))))):=(good_box _ _ _).star ((good_limX _ _).star ((good_fam _ _).star ((good_tr _ _).star ((good_box _ _ _).star good_zo))))
 have G5:=Lib.hid g5
 have hbne:¬ ps s.id=B:=fun e=>by
  have h1:=H5.out.box
  have h2:=H5.out.rest.rest.rest.rest.box
  rw [e] at h1
  have:=h1.symm.trans h2
  simp only [Option.some.injEq,Obj.cells.injEq] at this
  exact absurd this.2.1 (by decide)
 have hbne2:¬ B=ps s.id:=fun e=>hbne e.symm
 clear g5
 go_region_held3 (fun W'=>W'.cell? ⟨B,0,none⟩=some (.int .i64 s.id)∧W'.cell? ⟨B,1,none⟩=some (.int .i64 s.pa)∧W'.cell? ⟨B,2,none⟩=some (.bool s.lf)∧W'.cell? ⟨B,3,none⟩=some (.int .u64 s.r.1)∧W'.cell? ⟨B,4,none⟩=some (.int .u64 s.r.2.1)∧W'.cell? ⟨B,5,none⟩=some (.int .u64 s.r.2.2)∧W'.cell? ⟨B,6,none⟩=some (.int .u64 s.s.1)∧W'.cell? ⟨B,7,none⟩=some (.int .u64 s.s.2.1)∧W'.cell? ⟨B,8,none⟩=some (.int .u64 s.s.2.2)∧W'.cell? ⟨B,9,none⟩=some (.int .u64 s.u.1)∧W'.cell? ⟨B,10,none⟩=some (.int .u64 s.u.2.1)∧W'.cell? ⟨B,11,none⟩=some (.int .u64 s.u.2.2)∧W'.cell? ⟨B,12,none⟩=some (.int .i64 s.pk)∧W'.cell? ⟨B,13,none⟩=some (.int .i64 s.by_)) (first | exact s4 | exact s6 | exact s7 | exact sp_set hbne s7 | exact sp_set hbne (sp_set hbne s7) | exact sp_set hbne (sp_set hbne (sp_set hbne s7))) (first
  | (go_at_call 35;refine (hshw _).mono ?_;rintro e w6 ⟨rfl,hb6⟩;have h6:=(H5.out.later G5.out (by first | exact Below.refl _ _ | exact⟨rfl,rfl,rfl,Nat.le_refl _,fun _ _=>rfl⟩)).later G5.out hb6;have s6:=sp_cells (s:=s) h6.rest.rest.rest.rest.box;have H6:=Lib.hid h6;clear h6 hb6)
  | (go_at_call 36;refine (hlim _).mono ?_;rintro e w7 hw7;obtain⟨l,rfl,h7⟩:=(H6.out.later G5.out (by first | exact Below.refl _ _ | exact⟨rfl,rfl,rfl,Nat.le_refl _,fun _ _=>rfl⟩)).new G5.out (fun q=>good_lim q _) hw7;have s7:=sp_cells (s:=s) h7.rest.rest.rest.rest.rest.box;have c2:=h7.rest.box.cell 2;have c3:=h7.rest.box.cell 3;have c4:=h7.rest.box.cell 4;have n2:=h7.rest.box.frozen 2;have n3:=h7.rest.box.frozen 3;have n4:=h7.rest.box.frozen 4;unfold clsC at c2 c3 c4;simp only [lTA,lCZ,lCS] at c2 c3 c4;have H7:=Lib.hid h7;clear h7 hw7))
 clear hlim hshw s4 s6 s7 c2 c3 c4 n2 n3 n4 H5 H6 hbne hbne2
 obtain⟨c',hc'⟩:∃ c':Cls,c'={ c with sh:=sb,tot:=0,lim:=limN s.u }:=⟨_,rfl⟩
 have gR:Good (Star (LimO l (limN s.u)) (Star (LimX l2 c.lim) (Star (FamO f2 c.fam) (Star (TrO q2 c.tr) (Star (BoxO B 32 (spC s)) (ZO k mb ps P c.pa s.id lp fp qp (clsC p lp fp qp) p.lim (outF s.id p.fam) p.tr)))))):=(good_lim _ _).star ((good_limX _ _).star ((good_fam _ _).star ((good_tr _ _).star ((good_box _ _ _).star good_zo))))
 have h9:=((H7.out.swap.set gR (u:=.bool sb) (i:=2) (cs':=clsC { c with sh:=sb } l2 f2 q2) rfl).set gR (u:=.int .u64 0) (i:=3) (cs':=clsC { c with sh:=sb,tot:=0 } l2 f2 q2) rfl).set gR (u:=.pointer (some ⟨l,0,none⟩)) (i:=4) (cs':=clsC c' (some l) f2 q2) (by rw [hc'];rfl)
 clear gR H7 G5
 generalize ((w7.setCell ⟨ps s.id,2,none⟩ (.bool sb)).setCell ⟨ps s.id,3,none⟩ (.int .u64 0)).setCell ⟨ps s.id,4,none⟩ (.pointer (some ⟨l,0,none⟩))=w8 at h9 ⊢
 have c2:=h9.box.cell 2
 unfold clsC at c2
 rw [show c'.sh=sb by rw [hc']] at c2
 simp only [lTA,lCZ,lCS] at c2
 have h10:Sx W A w8 (Star (BoxO (ps s.id) 65 (clsC c' (some l) f2 q2)) (Star (LimX (some l) c'.lim) (Star (FamO f2 c'.fam) (Star (TrO q2 c'.tr) (Star (BoxO B 32 (spC s)) (ZO k mb ps P c.pa s.id lp fp qp (clsC p lp fp qp) p.lim (outF s.id p.fam) p.tr)))))):=by
  rw [hc'] at h9 ⊢
  exact h9.swap2.swap.rest
 have h11:=(cls_close h10).swap
 obtain⟨P1,hP1⟩:∃ P1,P1=putM P s.id c':=⟨_,rfl⟩
 have hR:=HC.out.2.2.2.2.2.2
 have hR1:Rising P1:=by rw [hP1];exact rising_put _ _ hR
 have hc1:lookM P1 s.id=some c':=by rw [hP1];exact look_put_same _ _ _
 have hp1:lookM P1 c.pa=some p:=by rw [hP1,look_put_other _ HNE.out];exact HC.out.2.1
 rw [← zo_put (c':=c') hR HC.out.1,← hP1] at h11
 have h12:=h11.weak fun h=>h.under fun h=>foc_join hR1 hc1 (fun e=>HNE.out e.symm) h
 have hfin:∀ F,(F=if sb=true then addF s.id s.s (outF s.id p.fam) else outF s.id p.fam)→putM P1 c.pa { p with fam:=F }=renewP P s.id c.pa sb s.s (limN s.u):=fun F hF=>by
  refine rise_ext (rising_put _ _ hR1) (rising_upd (rising_upd hR _ _) _ _) fun j=>?_
  rw [renew_look HC.out.1 HC.out.2.1 HNE.out]
  by_cases e:j=s.id
  ·rw [if_pos e,e,look_put_other _ (fun e=>HNE.out e.symm),hc1,hc']
  ·rw [if_neg e]
   by_cases e2:j=c.pa
   ·rw [if_pos e2,e2,look_put_same,hF]
   ·rw [if_neg e2,look_put_other _ e2,hP1,look_put_other _ e]
 have HP:=Lib.hid (And.intro hp1 hfin)
 have H12:=Lib.hid h12
 clear h9 h10 h11 h12 hc' hP1 hR hR1 hc1 hp1 hfin
 cases sb with
 | false =>
  go_wp2_with fail
  go_returns
  have h13:=Sx.unfocE (c':={ p with fam:=outF s.id p.fam }) H12.out HP.out.1
  rw [HP.out.2 (outF s.id p.fam) rfl] at h13
  exact⟨rfl,h13.rest.done⟩
 | true =>
  have b0:=H12.out.box.cell 0;have b6:=H12.out.box.cell 6;have b7:=H12.out.box.cell 7;have b8:=H12.out.box.cell 8
  unfold spC at b0 b6 b7 b8
  simp only [lTA,lCZ,lCS] at b0 b6 b7 b8
  have hsb:=HSB.out
  unfold shB okC at hsb
  simp only [Bool.and_eq_true] at hsb
  have hw:=HC.out.2.2.2.2.2.1
  have HD:=Lib.hid (Sx.act4 (good_box _ _ _) (good_box _ _ _) (good_limX _ _) (good_fam _ _) good_focC3 H12.out (fo_add s.id s.s HC.out.2.2.2.1 (look_del_same _ _) hw.2.2.1.1.1 hw.2.2.1.2.1.1 hw.2.2.1.2.2.1 hsb.2 (Nat.lt_of_le_of_lt (del_length _ _) (HC.out.2.2.1.fam _ _ HC.out.2.1).len)))
  clear hsb hw H12
  go_wp2_with (go_at_call 37;refine HD.out.mono ?_;rintro e w9 ⟨rfl,h9⟩;have H9:=Lib.hid h9;clear h9)
  go_returns
  have h13:=Sx.unfocE (c':={ p with fam:=addF s.id s.s (outF s.id p.fam) }) H9.out HP.out.1
  rw [HP.out.2 (addF s.id s.s (outF s.id p.fam)) rfl] at h13
  exact⟨rfl,h13.rest.done⟩
end
section
open Go.RowKit Go.Maps
attribute [local go_sem ↓] Go.wp_at_zero Go.wp_at_succ
attribute [local go_sem] quietR quietAtR quietUponR midAt midUpon
def RowO (v:Value)(l:List Int):Ob:=fun W S=>W.ownsRow 0 3 1 v l.length (l.map (Value.int .i64))∧∀ b,S b↔v.ownBlock=some b
theorem good_row (v:Value)(l:List Int):Good (RowO v l) :=
 ⟨fun ⟨h,hS⟩ b hb=>(h.lt b ((hS b).1 hb)).2,fun ⟨h,hS⟩ _ hk=>⟨owns_heapH h fun b hb=>hk b ((hS b).2 hb),hS⟩⟩
theorem Sx.ids {w0 W W':World} {A:Nat→Prop} {R:Ob} {l:List Int} (hR:Good R)(h:Sx w0 A W R) {e:Ending} (hi:IdsW W l e W'):∃ v,e=.returned v∧Sx w0 A W' (Star (RowO v l) R):=by
 obtain⟨v,he,ho,hb⟩:=hi
 exact⟨v,he,h.made (S:=fun b=>v.ownBlock=some b) hR (good_row v l) hb ⟨owns_baseH ho (Nat.zero_le _),fun b=>Iff.rfl⟩ fun b hb2=>(ho.lt b hb2).1⟩
theorem RowO.form {W:World} {S:Nat→Prop} {v:Value} {l:List Int} (h:RowO v l W S):∃ a cap,v=.slice a l.length cap:=owns_slice h.1
theorem RowO.cell {W:World} {S:Nat→Prop} {v:Value} {l:List Int} {i:Nat} {x:Int} (h:RowO v l W S)(hl:l.length≤1000000)(hx:l[i]?=some x):∃ b cap,v=.slice (some ⟨b,0,none⟩) l.length cap∧W.cell? ⟨b,i,none⟩=some (.int .i64 x):=by
 rcases h.1.2 with ⟨rfl,h0⟩ | ⟨g,cap,cur,rfl,h1,h2,h3,h4⟩
 ·have:=(List.getElem?_eq_some_iff.1 hx).1;omega
 ·refine⟨g,cap,rfl,?_⟩
  rw [h.1.cellAt i (by have:=(List.getElem?_eq_some_iff.1 hx).1;omega),List.getElem?_map,hx];rfl
theorem Acts.pk {W:World} {k:Nat} {P P':Pk} {φ:Ending→Prop} {f:FuncId} {args:Array Value} {prog:Program} (h:∀ mb ps,Acts φ (PkX k mb ps P) (PkX k mb ps P') f args prog W):Acts φ (PkO k P) (PkO k P') f args prog W:=fun A ⟨mb,ps,hA⟩ =>
 (h mb ps A hA).mono fun e W' ⟨h1,A',hq,hw⟩=>⟨h1,A',⟨mb,ps,hq⟩,hw⟩
theorem Acts.pkO {W:World} {k:Nat} {P P':Pk} {φ:Ending→Prop} {f:FuncId} {args:Array Value} {prog:Program} (h:∀ mb ps,Acts φ (PkX k mb ps P) (PkO k P') f args prog W):Acts φ (PkO k P) (PkO k P') f args prog W:=fun A ⟨mb,ps,hA⟩=>h mb ps A hA
def moreS (sent:Int→Int)(n:Int)(l:List Int):Int→Int:=fun j=>if j∈l then sent j+n else sent j
theorem moreS_step {sent:Int→Int} {n:Int} {l:List Int} (hn:l.Nodup) {i:Nat} {x:Int} (hx:l[i]?=some x):(fun j=>if j=x then moreS sent n (l.take i) x+n else moreS sent n (l.take i) j)=moreS sent n (l.take (i+1)):=by
 have hlt:=(List.getElem?_eq_some_iff.1 hx).1
 have hxi:=(List.getElem?_eq_some_iff.1 hx).2
 have hnot:x ∉ l.take i:=fun hm=>by
  obtain⟨k,hk,hk2⟩:=List.mem_take_iff_getElem.1 hm
  have:=(List.getElem_inj (h₀:=by omega) (h₁:=hlt) hn).1 (hk2.trans hxi.symm)
  omega
 have htk:l.take (i+1)=l.take i ++ [x]:=by rw [List.take_add_one,hx];rfl
 funext j
 unfold moreS
 rw [htk]
 by_cases e:j=x
 ·subst e
  rw [if_pos rfl,if_neg hnot,if_pos (by simp)]
 ·rw [if_neg e]
  by_cases hm:j∈l.take i
  ·rw [if_pos hm,if_pos (by simp [hm])]
  ·rw [if_neg hm,if_neg (by simp [hm,e])]
theorem gsend_any {W:World} {g p t n k:Nat} {now:Int} {P:Pk} {M:Mp} {sent:Int→Int} {wt:Int→Bool} {i:Nat} {s:Cl} {a:GAct} (hG:GInv n k P M wt sent)(hs:lookM M (i:Int)=some s)(hl:s.1.lf=true)(hw:wt (i:Int)=true)(hn:n+32 < 100000)(hk:k < 1000)(ha:WfA a) :
  Acts (fun e=>e=.returned (.tuple #[])) (GamO g p t now P M sent wt) (GamO g p t now (sentP owL reachR i (a.g.tmod 524288) a.mo (pathM M i) P) M (moreS sent (a.g.tmod 524288) (pathM M i)) (fun j=>if j=i then a.mo else wt j)) 110 #[.pointer (some ⟨g,0,none⟩),.int .i64 i,actV a] Tryz.prog W:=fun A h=>by
 have hi1:=(hG.inv.pos hs).1
 have hi2:=hG.ids _ _ hs
 have hi:i < 64:=by omega
 have hg0:=Int.tmod_nonneg 524288 ha.g.1
 have hg1:=Int.tmod_lt_of_pos a.g (show (0:Int) < 524288 by decide)
 obtain⟨gr,hgr⟩:∃ gr,gr=a.g.tmod 524288:=⟨_,rfl⟩
 have hid:(Lit.int .i64 (i:Int)).wf=true:=wf_small (by omega) (by omega)
 obtain⟨c,hc,hr,_⟩:=hG.pick hs
 have hpl:=hG.inv.path_len (i:Int)
 have hact:∀ W,Acts (fun e=>e=.returned (.tuple #[])) (PkO p P) (PkO p (sentP owL reachR i gr a.mo (pathM M i) P)) 15 #[.pointer (some ⟨p,0,none⟩),.int .i64 i,.int .u64 gr,.bool a.mo] Tryz.prog W:=fun W=>Acts.pk fun mb ps=>psent_any hG.pb hG.num (hG.upL hs) (by omega) (by rw [hgr];unfold U;omega) (by omega) hc (by rw [hr.lf,hl])
 have hs0:=(Sx.start (P:=GamO g p t now P M sent wt) h).alloc (good_gam _ _ _ _ _ _ _ _) (actC a) 94
 have H0:=Lib.hid hs0
 have HG:=Lib.hid (And.intro hG (And.intro hs (And.intro hpl (And.intro hgr (And.intro hg0 hg1)))))
 have HA:=Lib.hid hact
 clear h hs0 hG hs hpl hc hr hact hw hl
 unfold actV actC at *
 rw [← hgr]
 have hgr2:a.g.tmod 524288=gr:=hgr.symm
 clear hgr
 go_enter Tryz.func110,Tryz.ntmps110
 go_upto_region 1 with fail
 generalize hW1:W.alloc (.cells #[.int .u8 a.k,.int .i64 a.s.id,.int .i64 a.s.pa,.bool a.s.lf,.int .u64 a.s.r.1,.int .u64 a.s.r.2.1,.int .u64 a.s.r.2.2,.int .u64 a.s.s.1,.int .u64 a.s.s.2.1,.int .u64 a.s.s.2.2,.int .u64 a.s.u.1,.int .u64 a.s.u.2.1,.int .u64 a.s.u.2.2,.int .i64 a.s.pk,.int .i64 a.s.by_,.int .u64 a.af,.int .u64 a.g,.bool a.mo] 94)=W1 at H0 ⊢
 obtain⟨B,hB⟩:∃ B,B=W.heap.size:=⟨_,rfl⟩
 rw [← hB] at H0 ⊢
 clear hB hW1
 have b16:=H0.out.box.cell 16
 simp only [lTA,lCZ,lCS] at b16
 go_upto_region 2 with fail
 clear b16
 have hbx:=H0.out.box
 have hgx:=H0.out.rest.box
 have o17:=fun e=>(over_cell (w:=W1) (e:=e) (o:=17) hbx.lt).trans (hbx.cell 17)
 have o0:=fun e=>((over_cell (w:=W1) (e:=e) (o:=0) hgx.lt).trans (hgx.cell 0)).trans game_p
 simp only [lTA,lCZ,lCS] at o17
 clear hbx hgx
 refine wp_region_over_tail 8 (by kernel_rfl) (by kernel_rfl) ?_
 simp only [List.take_succ_cons,List.take_zero,List.drop_succ_cons,List.drop_zero]
 repeat (first | go_big_quiet_skip | (go_big_quiet_want;go_big_quiet_op;go_big_quiet_on))
 refine wpQuiet_nil ?_
 rintro w3 ⟨e,he⟩
 have hb3:=over_below W1 e
 rw [← he] at hb3
 have h3:=H0.out.later ((good_box _ _ _).star (good_gam _ _ _ _ _ _ _ _)) hb3
 have HD:=Lib.hid (Sx.act3 (good_box _ _ _) (good_box _ _ _) (good_pk _ _) (good_treO _ _) h3 (HA.out w3))
 clear he hb3 h3 o0 o17 H0 HA
 go_upto_region 3 with (go_at_call 15;refine HD.out.mono ?_;rintro e w4 ⟨rfl,h4⟩;have H4:=Lib.hid h4;clear h4)
 clear HD
 have b17:=H4.out.box.cell 17
 have g67:=(H4.out.rest.box.cell (67+i)).trans (game_wait hi)
 have f67:=H4.out.rest.box.frozen (67+i)
 simp only [lTA,lCZ,lCS] at b17
 go_region
 have gR:Good (Star (BoxO B 94 (actC a)) (Star (PkO p (sentP owL reachR i gr a.mo (pathM M i) P)) (TreO t M))):=(good_box _ _ _).star ((good_pk _ _).star (good_treO _ _))
 have h5:=(((H4.out.swap.set gR (u:=.bool a.mo) (i:=67+i) (cs':=gameC p t now sent fun j:Int=>if j=(i:Int) then a.mo else wt j) (game_set_wait hi)).swap).later ((good_box _ _ _).star ((good_box _ _ _).star ((good_pk _ _).star (good_treO _ _)))) ((Below.refl _ _).drew))
 obtain⟨wt',hwt⟩:∃ wt':Int→Bool,wt'=fun j:Int=>if j=(i:Int) then a.mo else wt j:=⟨_,rfl⟩
 obtain⟨L,hL⟩:∃ L,L=pathM M i:=⟨_,rfl⟩
 obtain⟨P',hP'⟩:∃ P',P'=sentP owL reachR i gr a.mo (pathM M i) P:=⟨_,rfl⟩
 rw [← hwt,← hP'] at h5
 clear b17 g67 f67 gR H4
 generalize (w4.setCell ⟨g,67+i,none⟩ (.bool a.mo)).drew=w5 at h5 ⊢
 have g1:=(h5.rest.box.cell 1).trans game_t
 obtain⟨S5,hS5⟩:=h5.rest.rest.env
 have hpath:=tro_path (i:Int) hid hS5
 rw [← hL] at hpath
 have hmem:∀ x∈L,∃ xn:Nat,x=xn∧1≤xn∧xn < 64:=fun x hx=>by
  rw [hL] at hx
  obtain⟨cx,hcx⟩:=(HG.out.1.inv.path_mem (dep M i) (Nat.le_refl _) x hx).1
  have h1:=(HG.out.1.inv.pos hcx).1
  have h2:=HG.out.1.ids _ _ hcx
  exact⟨x.toNat,by omega,by omega,by omega⟩
 have hnd:L.Nodup:=by
  rw [hL]
  exact (HG.out.1.upL HG.out.2.1).nodup HG.out.1.all.wf
 have hlen:L.length≤8:=by rw [hL];exact HG.out.2.2.1
 have hsb:∀ j:Int,0≤sent j∧sent j+gr < 9223372036854775808:=fun j=>by
  have:=HG.out.1.sent j
  have:=HG.out.2.2.2.2
  omega
 have hg0':0≤gr:=by have:=HG.out.2.2.2.2;omega
 have H5:=Lib.hid h5
 have HM:=Lib.hid (And.intro hmem (And.intro hnd (And.intro hsb hg0')))
 have HQ:=Lib.hid (And.intro hwt (And.intro hL hP'))
 clear h5 hS5 hmem hnd hsb hg0' HG hL hP' hwt hgr2
 have gR:Good (Star (BoxO B 94 (actC a)) (Star (BoxO g 49 (gameC p t now sent wt')) (Star (PkO p P') (TreO t M)))):=(good_box _ _ _).star ((good_box _ _ _).star ((good_pk _ _).star (good_treO _ _)))
 have GR:=Lib.hid gR
 clear gR
 go_wp2_with (go_at_call 29;refine hpath.mono ?_;clear hpath;rintro e w6 hi6;obtain⟨v,rfl,h6⟩:=H5.out.ids GR.out hi6;obtain⟨S6,hS6⟩:=h6.first;obtain⟨va,vc,hv⟩:=hS6.form;subst hv;have H6:=Lib.hid h6;clear h6 hS6 hi6)
 clear g1 H5
 obtain⟨m,hm⟩:∃ m,m=L.length:=⟨_,rfl⟩
 rw [← hm] at H6 hlen ⊢
 have HMM:=Lib.hid hm
 clear hm
 go_loopw [8] (fun v8 wr=>∃ j:Nat,v8=.int .i64 j∧j≤m∧Sx W A wr (Star (RowO (.slice va m vc) L) (Star (BoxO B 94 (actC a)) (Star (BoxO g 49 (gameC p t now (moreS sent gr (L.take j)) wt')) (Star (PkO p P') (TreO t M)))))) (fun v8 _=>(m - Go.RowKit.intOf v8).toNat)
 case atStart=>exact⟨0,rfl,Nat.zero_le _,by
  have:moreS sent gr (L.take 0)=sent:=by funext j;unfold moreS;simp
  rw [this];exact H6.out⟩
 case round =>
  obtain⟨j,rfl,hj,hs⟩:=hrel
  by_cases hlt:j < m
  ·obtain⟨x,hx⟩:∃ x,L[j]?=some x:=⟨_,List.getElem?_eq_getElem (by have:=HMM.out;omega)⟩
   obtain⟨xn,rfl,hx1,hx2⟩:=HM.out.1 x (List.mem_of_getElem? hx)
   obtain⟨S7,hS7⟩:=hs.first
   obtain⟨pb,cap2,hv,cx⟩:=hS7.cell (by have:=HMM.out;omega) hx
   rw [← HMM.out] at hv
   simp only [Value.slice.injEq] at hv
   obtain⟨rfl,-,rfl⟩:=hv
   have g3:=(hs.rest.rest.box.cell (3+xn)).trans (game_sent hx2)
   have f3:=hs.rest.rest.box.frozen (3+xn)
   obtain⟨sx,hsx⟩:∃ sx,sx=moreS sent gr (L.take j) xn:=⟨_,rfl⟩
   rw [← hsx] at g3
   have hsx1:0≤sx∧sx+gr < 18446744073709551616:=by
    have:=HM.out.2.2.1 xn
    have:=HM.out.2.2.2
    rw [hsx]
    unfold moreS
    split <;> omega
   have HS:=Lib.hid (And.intro hs (And.intro hx hsx))
   clear hs hS7 hx hsx H6
   go_upto_region 9 with fail
   have hwr:IntKind.u64.wrap (sx+gr)=sx+gr:=by
    have:=HM.out.2.2.2
    rw [IntKind.wrap_u64]
    omega
   go_region
   have gS:Good (Star (RowO (.slice (some ⟨pb,0,none⟩) m vc) L) (Star (BoxO B 94 (actC a)) (Star (PkO p P') (TreO t M)))):=(good_row _ _).star ((good_box _ _ _).star ((good_pk _ _).star (good_treO _ _)))
   have h8:=((HS.out.1.swap2.swap.set gS (u:=.int .u64 (sx+gr)) (i:=3+xn) (cs':=gameC p t now (moreS sent gr (L.take (j+1))) wt') (by rw [game_set_sent hx2,← moreS_step HM.out.2.1 HS.out.2.1,HS.out.2.2])).swap.swap2).later ((good_row _ _).star ((good_box _ _ _).star ((good_box _ _ _).star ((good_pk _ _).star (good_treO _ _))))) ((Below.refl _ _).drew)
   have H8:=Lib.hid h8
   clear h8 gS g3 f3 cx
   go_wp2_with fail
   go_roundw
   case measure=>(simp [Go.RowKit.intOf];try omega)
   case rel=>exact⟨j+1,by go_num,by omega,H8.out⟩
  ·obtain rfl:j=m:=by omega
   have HS:=Lib.hid hs
   clear hs H6
   go_wp2_with fail
   go_returns
   rw [HMM.out,List.take_length] at HS
   rw [← HQ.out.2.2,← HQ.out.2.1,← HQ.out.1]
   exact⟨rfl,HS.out.rest.rest.done⟩
end
section
open Go.RowKit Go.Maps
attribute [local go_sem ↓] Go.wp_at_zero Go.wp_at_succ
attribute [local go_sem] quietR quietAtR quietUponR midAt midUpon
theorem GInv.mono {n k n' k':Nat} {P:Pk} {M:Mp} {wt:Int→Bool} {sent:Int→Int} (h:GInv n k P M wt sent)(hn:n≤n')(hk:k≤k'):GInv n' k' P M wt sent :=
 ⟨h.all,h.inv,h.num.mono hn,h.len,h.ids,h.is,h.rel,fun id=>by have:=h.sent id;omega⟩
def GamE (n k g:Nat):Ob:=fun W S=>∃ p t now P M sent wt,GInv n k P M wt sent∧(0≤now∧now≤1099511627776)∧GamO g p t now P M sent wt W S
def idA (x:Int):Int:=1+(x % 18446744073709551616) % 63
theorem idA_nat (x:Int):∃ i:Nat,idA x=i∧1≤i∧i < 64:=⟨(idA x).toNat,by unfold idA;omega,by unfold idA;omega,by unfold idA;omega⟩
def actL (a:GAct):List Value:=[.int .u8 a.k,.int .i64 a.s.id,.int .i64 a.s.pa,.bool a.s.lf,.int .u64 a.s.r.1,.int .u64 a.s.r.2.1,.int .u64 a.s.r.2.2,.int .u64 a.s.s.1,.int .u64 a.s.s.2.1,.int .u64 a.s.s.2.2,.int .u64 a.s.u.1,.int .u64 a.s.u.2.1,.int .u64 a.s.u.2.2,.int .i64 a.s.pk,.int .i64 a.s.by_,.int .u64 a.af,.int .u64 a.g,.bool a.mo]
theorem act_range {W:World} {B:Nat} {a:GAct} (h:Blk W B 94 (actC a)):W.rangeAt B 0 (actL a):=fun j v hv=>by
 rw [Nat.zero_add]
 rw [h.cell j]
 have:actC a=(actL a).toArray:=rfl
 rw [this,List.getElem?_toArray]
 exact hv
theorem GInv.e {W:World} {S:Nat→Prop} {n k n' k' g p t:Nat} {now:Int} {P:Pk} {M:Mp} {wt:Int→Bool} {sent:Int→Int} (hG:GInv n k P M wt sent)(hn:n≤n')(hk:k≤k')(hnow:0≤now∧now≤1099511627776)(h:GamO g p t now P M sent wt W S):GamE n' k' g W S :=
 ⟨p,t,now,P,M,sent,wt,hG.mono hn hk,hnow,h⟩
theorem Sx.actT {w0 W:World} {A:Nat→Prop} {P1 P2 P3 P R R':Ob} {φ:Ending→Prop} {f:FuncId} {args:Array Value} {prog:Program} (hP1:Good P1)(hP2:Good P2)(hP3:Good P3)(hP:Good P)(hR:Good R)(h:Sx w0 A W (Star P1 (Star P2 (Star P3 (Star P R)))))(ha:Acts φ R R' f args prog W):Calls prog f args W fun e W'=>φ e∧Sx w0 A W' (Star P1 (Star P2 (Star P3 (Star P R')))) :=
 (Sx.act4 hP1 hP2 hP3 hR hP (h.weak fun h=>h.under fun h=>h.under fun h=>h.under Star.comm) ha).mono fun e W' ⟨h1,h2⟩=>⟨h1,h2.weak fun h=>h.under fun h=>h.under fun h=>h.under Star.comm⟩
theorem addM_no {M:Mp} {s:Sp} (h:(addM M s).1≠0):(addM M s).2=M:=by
 unfold addM at h ⊢
 split
 ·rfl
 ·rename_i h1
  rw [if_neg h1] at h
  split
  ·rfl
  ·rename_i h2
   rw [if_neg h2] at h
   split
   ·rfl
   ·rename_i h3
    rw [if_neg h3] at h
    split
    ·rfl
    ·rename_i h4
     rw [if_neg h4] at h
     exact absurd rfl h
theorem changeM_no {M:Mp} {s:Sp} (h:(changeM M s).1≠0):(changeM M s).2=M:=by
 unfold changeM at h ⊢
 cases e:lookM M s.id with
 | none=>rfl
 | some c =>
  rw [e] at h
  dsimp only at h ⊢
  split
  ·rfl
  ·rename_i h1
   rw [if_neg h1] at h
   exact absurd rfl h
section
variable {n k : Nat} {P : Pk} {M : Mp} {wt : Int → Bool} {sent : Int → Int}
theorem GInv.pkG (h:GInv n k P M wt sent)(hn:n < 100000):PkG P :=
 ⟨h.pb,fun id c hc=>(h.num.fam id c hc).famN hn,fun id c hc=>by have:=h.num.un id c hc;omega,by have:=h.len;have:=h.inv.few;omega⟩
theorem GInv.canPut (h:GInv n k P M wt sent) {s:Sp} (hw:WfSp s)(hid:s.id≤63)(hok:(addM M s).1=0):∃ p,lookM P s.pa=some p∧p.lf=false∧lookM p.fam.m s.id=none∧lookM P s.id=none∧shB s=(!noneB s.s):=by
 obtain⟨_,hn,p,hp,hl⟩:=h.put hw hid hok
 refine⟨p,hp,hl,?_,hn,?_⟩
 ·cases e:lookM p.fam.m s.id with
  | none=>rfl
  | some m =>
   obtain⟨_,h2⟩:=h.all.fams s.pa s.id (by rw [kf_of hp,e];rfl)
   unfold paP at h2
   rw [hn] at h2
   cases h2
 ·unfold shB
  rw [(may_shared (addM_ok hok).1).1,Bool.and_true]
end
end
section
open Go.RowKit Go.Maps
attribute [local go_sem ↓] Go.wp_at_zero Go.wp_at_succ
attribute [local go_sem] quietR quietAtR quietUponR midAt midUpon
theorem gplay6 {W:World} {g n k:Nat} {a:GAct} (hn:n+64 < 100000)(hk:k < 1000)(ha:WfA a)(hkk:a.k % 7=6) :
  Acts (fun e=>e=.returned (.tuple #[])) (GamE n k g) (GamE (n+32) (k+1) g) 67 #[.pointer (some ⟨g,0,none⟩),actV a] Tryz.prog W:=fun A ⟨p,t,now,P,M,sent,wt,hG,hnow,h⟩=>by
 have haf:=ha.af
 have hk0:=ha.k.1
 unfold U at haf
 have hs0:=(Sx.start (P:=GamO g p t now P M sent wt) h).alloc (good_gam _ _ _ _ _ _ _ _) (actC a) 94
 have H0:=Lib.hid hs0
 have HG:=Lib.hid (And.intro hG (And.intro hn (And.intro hk ha)))
 clear h hs0 hG hn hk ha
 unfold actV actC at *
 obtain⟨i,hi0,hi1,hi2⟩:=idA_nat a.s.id
 have hidq:wrap64 (1+wrap64 ((IntKind.u64.wrap a.s.id).tmod 63))=(i:Int):=by
  rw [← hi0]
  unfold idA
  rw [IntKind.wrap_u64,Int.tmod_eq_emod_of_nonneg (by omega)]
  unfold wrap64
  omega
 have HI:=Lib.hid hidq
 go_enter Tryz.func67,Tryz.ntmps67
 go_upto_region 1 with fail
 generalize hW1:W.alloc (.cells #[.int .u8 a.k,.int .i64 a.s.id,.int .i64 a.s.pa,.bool a.s.lf,.int .u64 a.s.r.1,.int .u64 a.s.r.2.1,.int .u64 a.s.r.2.2,.int .u64 a.s.s.1,.int .u64 a.s.s.2.1,.int .u64 a.s.s.2.2,.int .u64 a.s.u.1,.int .u64 a.s.u.2.1,.int .u64 a.s.u.2.2,.int .i64 a.s.pk,.int .i64 a.s.by_,.int .u64 a.af,.int .u64 a.g,.bool a.mo] 94)=W1 at H0 ⊢
 obtain⟨B,hB⟩:∃ B,B=W.heap.size:=⟨_,rfl⟩
 rw [← hB] at H0 ⊢
 clear hB hW1
 have b15:=H0.out.box.cell 15
 have g2:=(H0.out.rest.box.cell 2).trans game_now
 have f2:=H0.out.rest.box.frozen 2
 simp only [lTA,lCZ,lCS] at b15
 go_region
 have gR:Good (Star (BoxO B 94 (actC a)) (Star (PkO p P) (TreO t M))):=(good_box _ _ _).star ((good_pk _ _).star (good_treO _ _))
 have h2:=(((H0.out.swap.set gR (u:=.int .u64 (min (now+a.af % 64) 1099511627776)) (i:=2) (cs':=gameC p t (min (now+a.af % 64) 1099511627776) sent wt) game_set_now).swap).later ((good_box _ _ _).star (good_gam _ _ _ _ _ _ _ _)) ((Below.refl _ _).drew))
 have hnw:0≤min (now+a.af % 64) 1099511627776∧min (now+a.af % 64) 1099511627776≤1099511627776:=by omega
 generalize min (now+a.af % 64) 1099511627776=nw at h2 hnw ⊢
 have H2:=Lib.hid h2
 clear H0 b15 g2 f2 h2 gR
 generalize (W1.setCell ⟨g,2,none⟩ (.int .u64 nw)).drew=w2 at H2 ⊢
 have b1:=H2.out.box.cell 1
 have f1:=H2.out.box.frozen 1
 unfold actC at b1
 simp only [lTA,lCZ,lCS] at b1
 go_upto_region 4 with fail
 obtain⟨a',ha'⟩:∃ a':GAct,a'={ a with s:={ a.s with id:=(i:Int) } }:=⟨_,rfl⟩
 have h3:=H2.out.set (good_gam _ _ _ _ _ _ _ _) (u:=.int .i64 i) (i:=1) (cs':=actC a') (by rw [ha'];rfl)
 have H3:=Lib.hid h3
 clear h3 H2 b1 f1
 generalize w2.setCell ⟨B,1,none⟩ (.int .i64 i)=w3 at H3 ⊢
 have hid:(Lit.int .i64 (i:Int)).wf=true:=wf_small (by omega) (by omega)
 have g1:=(H3.out.rest.box.cell 1).trans game_t
 obtain⟨S3,hS3⟩:=H3.out.rest.rest.env
 have hget:=tro_get (i:Int) hid hS3
 unfold GetW spV spC at hget
 have HNW:=Lib.hid hnw
 have hwa:WfA a':=by
  rw [ha']
  have:=HG.out.2.2.2
  exact⟨this.k,⟨⟨hid,this.s.1.2⟩,this.s.2⟩,this.af,this.g⟩
 have hk7:a'.k=a.k∧a'.s.id=i:=by rw [ha'];exact⟨rfl,rfl⟩
 have HA:=Lib.hid (And.intro hwa hk7)
 clear hS3 hnw hwa hk7 ha'
 obtain⟨sg,hsg⟩:∃ sg,sg=getS M (i:Int):=⟨_,rfl⟩
 rw [← hsg] at hget
 have HSG:=Lib.hid hsg
 clear hsg
 go_upto_region 5 with (go_at_call 26;refine hget.mono ?_;clear hget;rintro e w4 ⟨rfl,hb4⟩;have H4:=Lib.hid (H3.out.later ((good_box _ _ _).star (good_gam _ _ _ _ _ _ _ _)) hb4);clear hb4)
 have h5:=H4.out.alloc ((good_box _ _ _).star (good_gam _ _ _ _ _ _ _ _)) (spC sg) 32
 obtain⟨D,hD⟩:∃ D,D=w4.heap.size:=⟨_,rfl⟩
 rw [← hD] at h5 ⊢
 have H5:=Lib.hid h5
 have hw5:w4.alloc (.cells (spC sg) 32)=w4.alloc (.cells #[.int .i64 sg.id,.int .i64 sg.pa,.bool sg.lf,.int .u64 sg.r.1,.int .u64 sg.r.2.1,.int .u64 sg.r.2.2,.int .u64 sg.s.1,.int .u64 sg.s.2.1,.int .u64 sg.s.2.2,.int .u64 sg.u.1,.int .u64 sg.u.2.1,.int .u64 sg.u.2.2,.int .i64 sg.pk,.int .i64 sg.by_] 32):=rfl
 rw [hw5] at H5
 clear h5 hw5 H3 H4 g1 hD
 generalize w4.alloc (.cells #[.int .i64 sg.id,.int .i64 sg.pa,.bool sg.lf,.int .u64 sg.r.1,.int .u64 sg.r.2.1,.int .u64 sg.r.2.2,.int .u64 sg.s.1,.int .u64 sg.s.2.1,.int .u64 sg.s.2.2,.int .u64 sg.u.1,.int .u64 sg.u.2.1,.int .u64 sg.u.2.2,.int .i64 sg.pk,.int .i64 sg.by_] 32)=w5 at H5 ⊢
 have hbx:=H5.out.rest.box
 have b0:=hbx.cell 0
 unfold actC at b0
 simp only [lTA,lCZ,lCS] at b0
 have hk0':0≤a'.k:=by rw [HA.out.2.1];exact hk0
 have hkk':a'.k % 7=6:=by rw [HA.out.2.1];exact hkk
 clear hkk hbx
 have GD:=Lib.hid (show Good (Star (BoxO D 32 (spC sg)) (Star (BoxO B 94 (actC a')) (GamO g p t nw P M sent wt))) from (good_box _ _ _).star ((good_box _ _ _).star (good_gam _ _ _ _ _ _ _ _)))
 cases hl:lookM M (i:Int) with
 | none =>
  dsimp only [Option.isSome]
  clear hl
  go_upto_region 10 with fail
  refine wp_region_over (by kernel_rfl) (by kernel_rfl) ?_
  repeat (first | go_big_quiet_skip | (go_big_quiet_want;go_big_quiet_op;go_big_quiet_on))
  refine wpQuiet_nil ?_
  rintro w6 ⟨e,he⟩
  have hb6:=over_below w5 e
  rw [← he] at hb6
  have H6:=Lib.hid (H5.out.later GD.out hb6)
  clear he hb6
  go_wp2_with fail
  go_returns
  exact⟨rfl,(H6.out.rest.rest.weak fun h=>HG.out.1.e (by omega) (by omega) HNW.out h).done⟩
 | some s =>
  dsimp only [Option.isSome]
  have hsg2:sg=s.1:=by rw [HSG.out];unfold getS;rw [hl];rfl
  have HL:=Lib.hid hl
  clear hl
  cases haw:awP P (i:Int) with
  | true =>
   obtain⟨S6,mb6,ps6,hX6⟩:=H5.out.rest.rest.rest.first
   have hvx:∀ e,PkX p mb6 ps6 P (over w5 e) S6:=fun e=>(good_pkX _ _ _ _).kept hX6 (over_below w5 e).size fun b hb=>over_heap w5 e b ((good_pkX _ _ _ _).lt hX6 b hb)
   have hv:=fun e=>pawake_any (i:Int) hid (hvx e) HG.out.1.pb
   have hgx:=H5.out.rest.rest.box
   have q0:=fun e=>((over_cell (w:=w5) (e:=e) (o:=0) hgx.lt).trans (hgx.cell 0)).trans game_p
   have q67:=fun e=>((over_cell (w:=w5) (e:=e) (o:=67+i) hgx.lt).trans (hgx.cell (67+i))).trans (game_wait hi2)
   rw [haw] at hv
   have HV:=Lib.hid hv
   clear haw hX6 hvx hv hgx
   go_upto_region 10 with fail
   refine wp_region_over (by kernel_rfl) (by kernel_rfl) ?_
   repeat (first | go_big_quiet_skip | (go_big_quiet_want;go_big_quiet_op;first | go_big_quiet_on | (apply Exists.intro;refine⟨fun e=>?_,?_⟩;(focus (go_at_call 23;with_reducible exact calls_over (HV.out e)));go_big_quiet_on)))
   refine wpQuiet_nil ?_
   rintro w6 ⟨e,he⟩
   have hb6:=over_below w5 e
   rw [← he] at hb6
   have H6:=Lib.hid (H5.out.later GD.out hb6)
   clear he hb6 HV q0 q67
   go_wp2_with fail
   go_returns
   exact⟨rfl,(H6.out.rest.rest.weak fun h=>HG.out.1.e (by omega) (by omega) HNW.out h).done⟩
  | false =>
   obtain⟨S6,mb6,ps6,hX6⟩:=H5.out.rest.rest.rest.first
   have hvx:∀ e,PkX p mb6 ps6 P (over w5 e) S6:=fun e=>(good_pkX _ _ _ _).kept hX6 (over_below w5 e).size fun b hb=>over_heap w5 e b ((good_pkX _ _ _ _).lt hX6 b hb)
   have hv:=fun e=>pawake_any (i:Int) hid (hvx e) HG.out.1.pb
   have hgx:=H5.out.rest.rest.box
   have q0:=fun e=>((over_cell (w:=w5) (e:=e) (o:=0) hgx.lt).trans (hgx.cell 0)).trans game_p
   have q67:=fun e=>((over_cell (w:=w5) (e:=e) (o:=67+i) hgx.lt).trans (hgx.cell (67+i))).trans (game_wait hi2)
   rw [haw] at hv
   have HV:=Lib.hid hv
   cases hwt:wt (i:Int) with
   | true =>
    rw [hwt] at q67
    clear haw hX6 hvx hv hgx hwt
    go_upto_region 10 with fail
    refine wp_region_over (by kernel_rfl) (by kernel_rfl) ?_
    repeat (first | go_big_quiet_skip | (go_big_quiet_want;go_big_quiet_op;first | go_big_quiet_on | (apply Exists.intro;refine⟨fun e=>?_,?_⟩;(focus (go_at_call 23;with_reducible exact calls_over (HV.out e)));go_big_quiet_on)))
    refine wpQuiet_nil ?_
    rintro w6 ⟨e,he⟩
    have hb6:=over_below w5 e
    rw [← he] at hb6
    have H6:=Lib.hid (H5.out.later GD.out hb6)
    clear he hb6 HV q0 q67
    go_wp2_with fail
    go_returns
    exact⟨rfl,(H6.out.rest.rest.weak fun h=>HG.out.1.e (by omega) (by omega) HNW.out h).done⟩
   | false =>
    rw [hwt] at q67
    have hbx:=H5.out.rest.box
    have q1:=fun e=>((over_cell (w:=w5) (e:=e) (o:=1) hgx.lt).trans (hgx.cell 1)).trans game_t
    have o1:=fun e=>(over_cell (w:=w5) (e:=e) (o:=1) hbx.lt).trans (hbx.cell 1)
    have o2:=fun e=>(over_cell (w:=w5) (e:=e) (o:=2) hbx.lt).trans (hbx.cell 2)
    have o3:=fun e=>(over_cell (w:=w5) (e:=e) (o:=3) hbx.lt).trans (hbx.cell 3)
    have o4:=fun e=>(over_cell (w:=w5) (e:=e) (o:=4) hbx.lt).trans (hbx.cell 4)
    have o5:=fun e=>(over_cell (w:=w5) (e:=e) (o:=5) hbx.lt).trans (hbx.cell 5)
    have o6:=fun e=>(over_cell (w:=w5) (e:=e) (o:=6) hbx.lt).trans (hbx.cell 6)
    have o7:=fun e=>(over_cell (w:=w5) (e:=e) (o:=7) hbx.lt).trans (hbx.cell 7)
    have o8:=fun e=>(over_cell (w:=w5) (e:=e) (o:=8) hbx.lt).trans (hbx.cell 8)
    have o9:=fun e=>(over_cell (w:=w5) (e:=e) (o:=9) hbx.lt).trans (hbx.cell 9)
    have o10:=fun e=>(over_cell (w:=w5) (e:=e) (o:=10) hbx.lt).trans (hbx.cell 10)
    have o11:=fun e=>(over_cell (w:=w5) (e:=e) (o:=11) hbx.lt).trans (hbx.cell 11)
    have o12:=fun e=>(over_cell (w:=w5) (e:=e) (o:=12) hbx.lt).trans (hbx.cell 12)
    have o13:=fun e=>(over_cell (w:=w5) (e:=e) (o:=13) hbx.lt).trans (hbx.cell 13)
    have o14:=fun e=>(over_cell (w:=w5) (e:=e) (o:=14) hbx.lt).trans (hbx.cell 14)
    unfold actC at o1 o2 o3 o4 o5 o6 o7 o8 o9 o10 o11 o12 o13 o14
    simp only [lTA,lCZ,lCS] at o1 o2 o3 o4 o5 o6 o7 o8 o9 o10 o11 o12 o13 o14
    have HQ:=Lib.hid (And.intro haw hwt)
    clear haw hX6 hvx hv hgx hbx hwt
    go_upto_region 10 with fail
    refine wp_region_over_tail 26 (by kernel_rfl) (by kernel_rfl) ?_
    simp only [List.take_succ_cons,List.take_zero,List.drop_succ_cons,List.drop_zero]
    repeat (first | go_big_quiet_skip | (go_big_quiet_want;go_big_quiet_op;first | go_big_quiet_on | (apply Exists.intro;refine⟨fun e=>?_,?_⟩;(focus (go_at_call 23;with_reducible exact calls_over (HV.out e)));go_big_quiet_on)))
    refine wpQuiet_nil ?_
    rintro w6 ⟨e,he⟩
    have hb6:=over_below w5 e
    rw [← he] at hb6
    have h6:=H5.out.later GD.out hb6
    have hd:=Sx.actT (good_box _ _ _) (good_box _ _ _) (good_box _ _ _) (good_pk _ _) (good_treO _ _) h6 (tro_change a'.s HA.out.1.s)
    unfold spV spC at hd
    have HD:=Lib.hid hd
    clear he hb6 h6 q0 q1 q67 o1 o2 o3 o4 o5 o6 o7 o8 o9 o10 o11 o12 o13 o14 hd HV
    obtain⟨cd,hcd⟩:∃ cd,cd=(changeM M a'.s).1:=⟨_,rfl⟩
    obtain⟨M',hM'⟩:∃ M',M'=(changeM M a'.s).2:=⟨_,rfl⟩
    rw [← hcd,← hM'] at HD
    have HCD:=Lib.hid (And.intro hcd hM')
    by_cases hz:cd=0
    ·subst hz
     clear hcd hM'
     go_upto_region 11 with (go_at_call 105;refine HD.out.mono ?_;clear HD;rintro e w7 ⟨rfl,h7⟩;have H7:=Lib.hid h7;clear h7)
     obtain⟨c,hc,hr,_⟩:=HG.out.1.pick HL.out
     obtain⟨pp,hp,_,hdp⟩:=HG.out.1.all.wf.par (i:Int) c hc (by omega)
     have hne:c.pa≠(i:Int):=fun e=>by rw [e] at hdp;omega
     have hid2:=HA.out.2.2
     obtain⟨hfin,hok1,_⟩:=HG.out.1.renew (s:=a'.s) HA.out.1.s (by rw [hid2];exact hc) HCD.out.1.symm (by rw [hid2];exact HQ.out.1) (by rw [hid2];exact HQ.out.2)
     have hsh:shB a'.s=!noneB a'.s.s:=by unfold shB;rw [hok1,Bool.and_true]
     have hact:∀ w,Acts (fun e=>e=.returned (.bool true)) (PkO p P) (PkO p (renewP P a'.s.id c.pa (!noneB a'.s.s) a'.s.s (limN a'.s.u))) 106 #[.pointer (some ⟨p,0,none⟩),spV a'.s] Tryz.prog w:=fun w=>Acts.pk fun mb ps=>by
      have:=prenew_any (W:=w) (k:=p) (mb:=mb) (ps:=ps) a'.s HA.out.1.s (HG.out.1.pkG (by have:=HG.out.2.1;omega)) (by rw [hid2];omega) (by rw [hid2];exact hc) hp (by rw [hid2];exact hne) (by rw [hid2];exact HQ.out.1)
      rw [hsh] at this
      exact this
     rw [hid2,← HCD.out.2] at hfin
     rw [hid2] at hact
     generalize renewP P (i:Int) c.pa (!noneB a'.s.s) a'.s.s (limN a'.s.u)=P' at hfin hact
     have HFIN:=Lib.hid hfin
     have hgx:=H7.out.rest.rest.box
     have hbx:=H7.out.rest.box
     have q0:=fun e=>((over_cell (w:=w7) (e:=e) (o:=0) hgx.lt).trans (hgx.cell 0)).trans game_p
     have o1:=fun e=>(over_cell (w:=w7) (e:=e) (o:=1) hbx.lt).trans (hbx.cell 1)
     have o2:=fun e=>(over_cell (w:=w7) (e:=e) (o:=2) hbx.lt).trans (hbx.cell 2)
     have o3:=fun e=>(over_cell (w:=w7) (e:=e) (o:=3) hbx.lt).trans (hbx.cell 3)
     have o4:=fun e=>(over_cell (w:=w7) (e:=e) (o:=4) hbx.lt).trans (hbx.cell 4)
     have o5:=fun e=>(over_cell (w:=w7) (e:=e) (o:=5) hbx.lt).trans (hbx.cell 5)
     have o6:=fun e=>(over_cell (w:=w7) (e:=e) (o:=6) hbx.lt).trans (hbx.cell 6)
     have o7:=fun e=>(over_cell (w:=w7) (e:=e) (o:=7) hbx.lt).trans (hbx.cell 7)
     have o8:=fun e=>(over_cell (w:=w7) (e:=e) (o:=8) hbx.lt).trans (hbx.cell 8)
     have o9:=fun e=>(over_cell (w:=w7) (e:=e) (o:=9) hbx.lt).trans (hbx.cell 9)
     have o10:=fun e=>(over_cell (w:=w7) (e:=e) (o:=10) hbx.lt).trans (hbx.cell 10)
     have o11:=fun e=>(over_cell (w:=w7) (e:=e) (o:=11) hbx.lt).trans (hbx.cell 11)
     have o12:=fun e=>(over_cell (w:=w7) (e:=e) (o:=12) hbx.lt).trans (hbx.cell 12)
     have o13:=fun e=>(over_cell (w:=w7) (e:=e) (o:=13) hbx.lt).trans (hbx.cell 13)
     have o14:=fun e=>(over_cell (w:=w7) (e:=e) (o:=14) hbx.lt).trans (hbx.cell 14)
     unfold actC at o1 o2 o3 o4 o5 o6 o7 o8 o9 o10 o11 o12 o13 o14
     simp only [lTA,lCZ,lCS] at o1 o2 o3 o4 o5 o6 o7 o8 o9 o10 o11 o12 o13 o14
     clear hgx hbx hfin hok1 hsh hc hr hp hdp hne hid2
     refine wp_region_over_tail 6 (by kernel_rfl) (by kernel_rfl) ?_
     simp only [List.take_succ_cons,List.take_zero,List.drop_succ_cons,List.drop_zero]
     repeat (first | go_big_quiet_skip | (go_big_quiet_want;go_big_quiet_op;go_big_quiet_on))
     refine wpQuiet_nil ?_
     rintro w8 ⟨e,he⟩
     have hb8:=over_below w7 e
     rw [← he] at hb8
     have h8:=H7.out.later ((good_box _ _ _).star ((good_box _ _ _).star ((good_box _ _ _).star ((good_pk _ _).star (good_treO _ _))))) hb8
     have hd:=Sx.act4 (good_box _ _ _) (good_box _ _ _) (good_box _ _ _) (good_pk _ _) (good_treO _ _) h8 (hact w8)
     unfold spV spC at hd
     have HD:=Lib.hid hd
     clear he hb8 h8 q0 o1 o2 o3 o4 o5 o6 o7 o8 o9 o10 o11 o12 o13 o14 hd hact H7
     go_wp2_with (go_at_call 106;refine HD.out.mono ?_;clear HD;rintro e w9 ⟨rfl,h9⟩;have g3:=(h9.rest.rest.box.cell (3+i)).trans (game_sent hi2);have f3:=h9.rest.rest.box.frozen (3+i);have H9:=Lib.hid h9;clear h9)
     go_returns
     have h10:=H9.out.rest.rest.set ((good_pk _ _).star (good_treO _ _)) (u:=.int .u64 0) (i:=3+i) (cs':=gameC p t nw (fun j:Int=>if j=(i:Int) then 0 else sent j) wt) (game_set_sent hi2)
     exact⟨rfl,(h10.weak fun h=>HFIN.out.e (by omega) (Nat.le_succ _) HNW.out h).done⟩
    ·have hdz:decide (cd=0)=false:=decide_eq_false hz
     have hMM:M'=M:=by rw [hM',changeM_no (by rw [← hcd];exact hz)]
     rw [hMM] at HD
     clear hcd hM' hMM HCD
     go_wp2_with (go_at_call 105;refine HD.out.mono ?_;clear HD;rintro e w7 ⟨rfl,h7⟩;have H7:=Lib.hid h7;clear h7)
     go_returns
     exact⟨rfl,(H7.out.rest.rest.weak fun h=>HG.out.1.e (by omega) (by omega) HNW.out h).done⟩
end
end Go.Proofs.YtmmeopjemkjllaaGreat
