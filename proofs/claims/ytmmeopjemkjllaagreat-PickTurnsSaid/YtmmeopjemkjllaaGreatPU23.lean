/- Lemmas of the claim. No conditions beyond those that each states. -/
import Derived.Test.YtmmeopjemkjllaaGreatPU19
import Derived.Deep.AppendLies
import Derived.Deep.RegionHeld3
import Derived.Deep.DrawnRows
import Derived.Test.YtmmeopjemkjllaaGreatPU20
set_option linter.unusedVariables false
set_option linter.unusedSimpArgs false
set_option maxRecDepth 100000
set_option maxHeartbeats 8000000
namespace Go.Proofs.YtmmeopjemkjllaaGreat
section
open Go.RowKit
attribute [local go_sem ↓] Go.wp_at_zero Go.wp_at_succ
attribute [local go_sem] quietR quietAtR quietUponR midAt midUpon
def S0 (w W:World)(g:Nat)(F L R n X:Int)(v:Value)(K:List (Int × Int)):Prop :=
 Blk W g 216 #[.int .u64 F,.int .u64 L,.int .u64 R,.bool true,.int .i64 (n+1),.int .u64 X,v]∧RowK W (g+1) v K∧w.grownBy W (some g)
def S1 (W W':World)(X Y:Int)(K:List (Int × Int))(s50 s51 s52:Value):Prop :=
 ∃ b cp,s50=.slice (some ⟨b,0,none⟩) (K.length+1) cp∧s51=.int .i64 ((K.length+1:Nat):Int)∧s52=.int .i64 0∧RowK W' W.heap.size s50 (K ++ [(X,Y)])∧Below W.heap.size W W'
theorem RowK.low {w:World} {b b':Nat} {v:Value} {K:List (Int × Int)} (h:RowK w b v K)(hb:b'≤b):RowK w b' v K:=by
 obtain⟨h1,h2 | ⟨g,cp,cur,h2,h3,h4⟩⟩:=h
 ·exact⟨h1,.inl h2⟩
 ·exact⟨h1,.inr ⟨g,cp,cur,h2,by omega,h4⟩⟩
theorem RowK.shape {w:World} {base:Nat} {v:Value} {K:List (Int × Int)} (h:RowK w base v K):∃ a c,v=.slice a K.length c:=by
 obtain⟨h1,⟨h2,h0⟩ | ⟨g,cp,cur,h2,h3,h4⟩⟩:=h
 ·exact⟨none,0,by rw [h2,h0]⟩
 ·exact⟨_,_,h2⟩
theorem fold_mem {F L R s:Int}:∀ (l out:List (Int × Int)),∀ q∈l.foldl (push1 F L R s) out,q∈out∨q∈l
 | [],out,q,h=>.inl h
 | k :: l,out,q,h=>by
  rcases fold_mem l _ q h with h | h
  ·rcases push1_mem h with h | rfl
   ·exact .inl h
   ·exact .inr (by simp)
  ·exact .inr (by simp [h])
theorem push1_len {F L R s:Int} (out:List (Int × Int))(k:Int × Int):(push1 F L R s out k).length≤out.length+1:=by
 obtain⟨m,hm,he,_,_⟩:=popN_spec (fun o=>decide (hasK F L R k s≤hasK F L R o s)) out out.length
 have hl:(out.take m).length≤out.length:=by simp;omega
 unfold push1
 simp only [he]
 split
 ·split
  ·omega
  ·rw [List.length_append];simp only [List.length_singleton];omega
 ·rw [List.length_append];simp only [List.length_singleton];omega
theorem fold_len {F L R s:Int}:∀ (l out:List (Int × Int)),(l.foldl (push1 F L R s) out).length≤out.length+l.length
 | [],out=>by simp
 | k :: l,out=>by
  have h1:=fold_len (F:=F) (L:=L) (R:=R) (s:=s) l (push1 F L R s out k)
  have h2:=push1_len (F:=F) (L:=L) (R:=R) (s:=s) out k
  simp only [List.foldl_cons,List.length_cons];omega
theorem fold_next {F L R s:Int} {M:List (Int × Int)} {j:Nat} {p:Int × Int} (h:M[j]?=some p):(M.take (j+1)).foldl (push1 F L R s) []=push1 F L R s ((M.take j).foldl (push1 F L R s) []) p:=by
 rw [List.take_add_one,h]
 simp [List.foldl_append]
theorem hask_any (g:Nat)(F L R x y s:Int)(w:World)(h:MayC F L R)(hx:0≤x)(hxs:x≤s)(hs:U s)(hy:U y)(hg:g < w.heap.size)
  (c0:w.cell? ⟨g,0,none⟩=some (.int .u64 F)) (c1:w.cell? ⟨g,1,none⟩=some (.int .u64 L)) (c2:w.cell? ⟨g,2,none⟩=some (.int .u64 R)) :
  Calls Tryz.prog 277 #[.pointer (some ⟨g,0,none⟩),.agg #[.int .u64 x,.int .u64 y],.int .u64 s] w fun e w' =>
   e=.returned (.agg #[.int .u64 (hiW (hasK F L R (x,y) s)),.int .u64 (loW (hasK F L R (x,y) s))])∧Below w.heap.size w w':=by
 have hf:U F:=⟨h.f0,by have:=h.f1;omega⟩
 have hr:U R:=⟨h.r0,by have:=h.r1;omega⟩
 have hl:U L:=⟨h.l0,by have:=h.l1;omega⟩
 have e:hasK F L R (x,y) s=F*min (s - x) L+R*(s - x - min (s - x) L)+y:=by unfold hasK W;simp only;omega
 rw [e]
 exact has_any g F L R x y s _ w hf h.f1 hr h.r1 hl hx hxs hs hy rfl hg c0 c1 c2
theorem linek_any (g:Nat)(F L R x y s:Int)(w:World)(h:MayC F L R)(hx:0≤x)(hxs:x≤s)(hs:U s)(hy:U y)(hg:g < w.heap.size)
  (c2:w.cell? ⟨g,2,none⟩=some (.int .u64 R)) :
  Calls Tryz.prog 278 #[.pointer (some ⟨g,0,none⟩),.agg #[.int .u64 x,.int .u64 y],.int .u64 s] w fun e w' =>
   e=.returned (.agg #[.int .u64 (hiW (lineK R (x,y) s)),.int .u64 (loW (lineK R (x,y) s))])∧Below w.heap.size w w':=by
 have hr:U R:=⟨h.r0,by have:=h.r1;omega⟩
 have e:lineK R (x,y) s=R*(s - x)+y:=by unfold lineK;simp only;omega
 rw [e]
 exact line_any g F L R x y s w hr h.r1 hx hxs hs hy hg c2
theorem cmpk_any (x y c:Int)(w:World)(h:cmpI x y=c) :
  Calls Tryz.prog 193 #[.agg #[.int .u64 (hiW x),.int .u64 (loW x)],.agg #[.int .u64 (hiW y),.int .u64 (loW y)]] w fun e w'=>e=.returned (.int .i64 c)∧Below w.heap.size w w':=by
 have:=cmp_any (hiW x) (loW x) (hiW y) (loW y) w (U_lo x) (U_lo y)
 rw [num_words,num_words,h] at this
 exact this
theorem World.grownBy_setCell (w:World)(p:Addr)(u:Value):w.grownBy (w.setCell p u) (some p.block) :=
 ⟨rfl,rfl,rfl,by simp [World.setCell],fun k hk hne=>Below.heap_setCell w p u k (by simpa using hne)⟩
theorem popN_pop {v:Int × Int→Bool} {l:List (Int × Int)} {m:Nat} {q:Int × Int} (hq:l[m]?=some q)(hv:v q=true):popN v l (m+1)=popN v l m:=by
 rw [popN,hq];simp [hv]
theorem popN_stay {v:Int × Int→Bool} {l:List (Int × Int)} {m:Nat} {q:Int × Int} (hq:l[m]?=some q)(hv:v q=false):popN v l (m+1)=l.take (m+1):=by
 rw [popN,hq];simp [hv]
theorem last_take {l:List (Int × Int)} {m:Nat} {q:Int × Int} (hq:l[m]?=some q):(l.take (m+1)).getLast?=some q:=by
 rw [List.take_add_one,hq];simp
theorem push1_none {F L R s:Int} {out:List (Int × Int)} {k:Int × Int} (hp:popN (fun o=>decide (hasK F L R k s≤hasK F L R o s)) out 0=popN (fun o=>decide (hasK F L R k s≤hasK F L R o s)) out out.length):push1 F L R s out k=[k]:=by
 unfold push1
 rw [← hp]
 simp [popN]
theorem push1_top {F L R s:Int} {out:List (Int × Int)} {k q:Int × Int} {m:Nat} (hq:out[m]?=some q)(hp:popN (fun o=>decide (hasK F L R k s≤hasK F L R o s)) out (m+1)=popN (fun o=>decide (hasK F L R k s≤hasK F L R o s)) out out.length)
  (hv:hasK F L R q s < hasK F L R k s):push1 F L R s out k=if lineK R q s≤lineK R k s then out.take (m+1) else out.take (m+1) ++ [k]:=by
 unfold push1
 rw [← hp,popN_stay hq (by simp;omega)]
 simp only [last_take hq]
def NewRow (w w':World)(g:Nat):Prop:=∀ v b,w'.cell? ⟨g,6,none⟩=some v→v.ownBlock=some b→w.heap.size≤b
theorem sstart_own (g:Nat)(F L R n x y t X Y:Int)(K:List (Int × Int))(w:World)(hX:X=max (min t 9223372036854775808) x)(hY:Y=min y 4611686018427387904)(hx:U x)(ht:U t)(hy:U y)(hn0:0≤n)(hn:n≤1000000)(hbig:K.length≤900000)
  (hC:SagC F L R) (hK:∀ k∈K,0≤k.1∧k.1≤x∧U k.2) (hs:SagAt w g F L R n x K) :
  Calls Tryz.prog 271 #[.pointer (some ⟨g,0,none⟩),.int .u64 t,.int .u64 y] w fun e w' =>
   e=.returned (.tuple #[])∧SagAt w' g F L R (n+1) X (startK F L R X K (X,Y))∧w.grownBy w' (some g)∧NewRow w w' g:=by
 obtain⟨v,hb,hrow⟩:=hs
 have hg:=hb.lt
 have c3:=hb.cell 3;have c4:=hb.cell 4;have c5:=hb.cell 5
 have z5:=hb.frozen 5;have z4:=hb.frozen 4
 have hUX:U X:=by unfold U at *;omega
 have hUY:U Y:=by unfold U at *;omega
 have H0:Hid (∀ W,W=(w.setCell ⟨g,5,none⟩ (.int .u64 X)).setCell ⟨g,4,none⟩ (.int .i64 (n+1))→S0 w W g F L R n X v K):=by
  refine Lib.hid fun W hW=>?_
  subst hW
  have h1:=World.grownBy_setCell w ⟨g,5,none⟩ (.int .u64 X)
  have h2:=World.grownBy_setCell (w.setCell ⟨g,5,none⟩ (.int .u64 X)) ⟨g,4,none⟩ (.int .i64 (n+1))
  have hne:v.ownBlock=none∨v.ownBlock≠some g:=by
   rcases hv:v.ownBlock with _ | k
   ·exact .inl rfl
   ·refine .inr fun he=>?_
    have:=(hrow.lt k hv).1
    injection he with he
    omega
  refine⟨?_,(hrow.kept h1 hne).kept h2 hne,⟨h2.os.trans h1.os,h2.tape.trans h1.tape,h2.output.trans h1.output,Nat.le_trans h1.size h2.size,fun k hk hk2=>(h2.block k (Nat.lt_of_lt_of_le hk h1.size) hk2).trans (h1.block k hk hk2)⟩⟩
  have h3:=(hb.set_ 5 (.int .u64 X)).set_ 4 (.int .i64 (n+1))
  simpa using h3
 have HM:=Lib.hid (show ∀ k∈K ++ [(X,Y)],0≤k.1∧k.1≤X∧U k.2 from fun k hk=>by
  rcases List.mem_append.1 hk with h | h
  ·have:=hK k h;exact⟨this.1,by omega,this.2.2⟩
  ·obtain rfl:k=(X,Y):=by simpa using h
   exact⟨hUX.1,Int.le_refl _,hUY⟩)
 clear hK
 have HX:=Lib.hid hX;have HY:=Lib.hid hY
 clear hb hrow hX hY
 simp only [lTA,lCZ,lCS] at c3 c4 c5
 go_enter Tryz.func271,Tryz.ntmps271
 go_step3
 go_upto_region 1 with fail
 go_cut [20] (fun _ wx=>wx=w.setCell ⟨g,5,none⟩ (.int .u64 X))
 case first =>
  go_wp2
  all_goals (go_meet;have h:=HX.out;congr 1;exact val_int (by omega))
 case rest =>
  subst hcut
  go_upto_region 4 with fail
  refine wp_gen (fun W=>S0 w W g F L R n X v K) (H0.out _ rfl) ?_
  clear H0
  intro W hS
  obtain⟨hB,hR,hgr⟩:=hS
  have hgW:=hB.lt
  have d4:=hB.cell 6;have d3:=hB.cell 5
  simp only [lTA,lCZ,lCS] at d4 d3
  have HB:=Lib.hid hB;have HR:=Lib.hid hR;have HG:=Lib.hid hgr
  clear hB hR hgr c3 c4 c5 z4 z5
  go_step3
  go_upto_region 4 with fail
  go_cut [50,51,52] (fun s50 s51 s52 wx=>S1 W wx X Y K s50 s51 s52)
  case first =>
   have hRW:=HR.out
   have dd4:=fun e=>(over_cell (w:=W) (e:=e) (o:=6) hgW).trans d4
   have dd3:=fun e=>(over_cell (w:=W) (e:=e) (o:=5) hgW).trans d3
   refine wp_region_mid (w:=W) 13 2 [4,12] [(52,.int .i64 0)] [(4,fun u W'=>RowK W' W.heap.size u K),(12,fun u W'=>∃ b,u=.slice (some ⟨b,0,none⟩) 1 1∧W.heap.size≤b∧Blk W' b 315 #[.int .u64 X,.int .u64 Y])] rfl (by kernel_rfl) (by kernel_rfl) (by kernel_rfl) (by kernel_rfl) (fun _ _ _ _ _ h=>h) ⟨?st1,?st2,trivial⟩ ?_
   case st1=>exact fun v W1 W2 h hb=>h.below hb
   case st2=>exact fun v W1 W2 ⟨b,h1,h2,h3⟩ hb=>⟨b,h1,h2,h3.below hb h3.lt⟩
   intro L hL
   have HL:=Lib.hid hL
   clear hL
   simp only [List.take_succ_cons,List.take_zero,putL]
   repeat (first | refine wpHead_skip (by decide) ?_ | (refine wpHead_step (by decide) (fun K hK=>?_);go_simp;first | (refine hK _ ?_;clear hK K) | (apply Exists.intro;refine⟨fun _=>?_,hK _ ?_⟩;(fail);clear hK K)))
   refine wpHead_nil (HL.out _ ⟨?_,?_,trivial⟩ ?_)
   ·intro vs W1 hb1 hf
    clear hf HL
    change midAt _ _ (Act.put (Act.put _ (some 41) (vs 4)) (some 49) (vs 12)) _ _
    go_simp
    exact (clone_starts v (g+1) K W1 (hRW.below hb1) (by omega)).mono fun e W2 ⟨v',he,hr,hb⟩=>⟨v',he,hb,hr.low hb1.size⟩
   ·intro vs W1 hb1 hf
    clear hf HL
    change midAt _ _ (Act.put (Act.put _ (some 41) (vs 4)) (some 49) (vs 12)) _ _
    go_simp
    refine⟨(Below.refl _ _).alloc (Nat.le_refl _) _,hb1.size,?_⟩
    have hYv:=HY.out
    rw [show (if 4611686018427387904 < y then (4611686018427387904:Int) else y)=Y by omega]
    exact Blk.new _ _ _
   ·intro vs W1 hb1 hf
    obtain⟨hf1,⟨b1,hf2,hbb,hf3⟩,hff⟩:=hf
    clear hff
    clear HL
    change wpList _ _ _ _ (Act.put (Act.put _ (some 41) (vs 4)) (some 49) (vs 12)) _
    generalize vs 4=v1 at *
    rw [hf2]
    clear hf2
    simp only [List.drop_succ_cons,List.drop_zero,List.take_succ_cons,List.take_zero]
    obtain⟨i0,hi0,hz0,hz1,hz2⟩:=info_parts info_start
    have H3:=Lib.hid hf3
    clear hf3
    go_wp2_with (at_builtin;refine wpList_append_lies _ rfl _ _ 214 rfl W.heap.size 315 i0 (.agg #[.int .u64 0,.int .u64 0]) 2 16 Tryz.underlying214 hi0 hz0 hz1 hz2 rfl (by decide) v1 K.length (cellsOf K) rfl hf1 ⟨b1,0,none⟩ 1 1 [.int .u64 X,.int .u64 Y] rfl rfl (World.news_of_block H3.out) (by simp [Value.oneCell']) (by decide) (by unfold maxLen;omega) (by omega) hb1.size _ rfl ?_;intro b2 cp2 W2 hown2 hgr2 hat2 hlt2)
    all_goals
     go_meet
     refine⟨b2,cp2,rfl,by go_num,rfl,?_,hb1.grown hgr2 hb1.size fun k hk=>(hf1.lt k hk).1⟩
     rw [RowK,cellsOf_append,List.length_append]
     exact hown2
  case rest =>
   obtain⟨b,cp,rfl,rfl,rfl,hL,hbL⟩:=hcut
   obtain⟨b',cp',hv',hbb,hbw,hcap,hcells⟩:=hL.open_ (by simp)
   obtain⟨rfl,rfl⟩:b=b'∧cp=cp':=by injection hv' with h1 h2 h3;injection h1 with h1;injection h1 with h1;exact⟨h1,h3⟩
   clear hv' d3 d4
   have HL:=Lib.hid hL;have HC:=Lib.hid hcells
   clear hL hcells
   go_wp2
   go_loopw [6,52] (fun o i Wr=>∃ j:Nat,j≤K.length+1∧i=.int .i64 j∧RowK Wr wc.heap.size o (((K ++ [(X,Y)]).take j).foldl (push1 F L R X) [])∧Below wc.heap.size wc Wr) (fun _ i _=>K.length+1 - (Go.RowKit.intOf i).toNat)
   case atStart=>exact⟨0,by omega,rfl,World.ownsRow_nil _ _ _ _,Below.refl _ _⟩
   case round =>
    obtain⟨j,hj,rfl,hrow,hbr⟩:=hrel
    obtain⟨wo,hwo⟩:∃ wo:World,wo=wr:=⟨_,rfl⟩
    subst hwo
    by_cases hlt:j < K.length+1
    ·obtain⟨⟨px,py⟩,hp⟩:∃ p,(K ++ [(X,Y)])[j]?=some p:=⟨_,List.getElem?_eq_getElem (by simp;omega)⟩
     have hpm:=HM.out _ (List.mem_of_getElem? hp)
     have hout:=fold_mem (F:=F) (L:=L) (R:=R) (s:=X) ((K ++ [(X,Y)]).take j) []
     have hlen:=fold_len (F:=F) (L:=L) (R:=R) (s:=X) ((K ++ [(X,Y)]).take j) []
     have hnext:=fold_next (F:=F) (L:=L) (R:=R) (s:=X) hp
     generalize ((K ++ [(X,Y)]).take j).foldl (push1 F L R X) []=out at hrow hout hlen hnext
     have hlen2:out.length≤1000000:=by simp at hlen;omega
     have hom:∀ q∈out,0≤q.1∧q.1≤X∧U q.2:=fun q hq=>HM.out q (by rcases hout q hq with h | h;simp at h;exact List.mem_of_mem_take h)
     obtain⟨e0,e1⟩:=HC.out j _ hp
     have f0:=(hbr.cell (p:=⟨b,j*2,none⟩) hbw).trans e0
     have f1:=(hbr.cell (p:=⟨b,j*2+1,none⟩) hbw).trans e1
     clear e0 e1
     obtain⟨oa,oc,rfl⟩:=hrow.shape
     have HW:=Lib.hid hrow
     have HN:=Lib.hid hnext;have HO:=Lib.hid hom
     clear hrow hnext hom hout hlen hp
     go_wp2
     have nb:=Blk.new wo 315 #[.int .u64 px,.int .u64 py]
     have hal:=(Below.refl wo.heap.size wo).alloc (Nat.le_refl _) (.cells #[.int .u64 px,.int .u64 py] 315)
     generalize hW1:wo.alloc (.cells #[.int .u64 px,.int .u64 py] 315)=W1 at *
     have NB:=Lib.hid nb
     clear hW1 nb f0 f1
     go_loopw [6,9] (fun o nn Wr=>∃ (m:Nat) (a:Option Addr) (c:Nat),m≤out.length∧nn=.int .i64 m∧o=.slice a m c∧RowK Wr wc.heap.size o (out.take m)∧popN (fun o=>decide (hasK F L R (px,py) X≤hasK F L R o X)) out m=popN (fun o=>decide (hasK F L R (px,py) X≤hasK F L R o X)) out out.length∧Below W1.heap.size W1 Wr) (fun _ nn _=>(Go.RowKit.intOf nn).toNat)
     case atStart=>exact⟨out.length,oa,oc,Nat.le_refl _,rfl,rfl,by rw [List.take_length];exact HW.out.below hal,rfl,Below.refl _ _⟩
     case round =>
      obtain⟨m,a,c,hm,rfl,rfl,hrow2,hpop,hb2⟩:=hrel
      have hB2:=(((HB.out.below hbL hgW).below hbr (HB.out.below hbL hgW).lt).below hal ((HB.out.below hbL hgW).below hbr (HB.out.below hbL hgW).lt).lt)
      have hB3:=hB2.below hb2 hB2.lt
      have hP:=NB.out.below hb2 NB.out.lt
      have og0:=fun e=>(over_cell (w:=wr) (e:=e) (o:=0) hB3.lt).trans (hB3.cell 0)
      have og1:=fun e=>(over_cell (w:=wr) (e:=e) (o:=1) hB3.lt).trans (hB3.cell 1)
      have og2:=fun e=>(over_cell (w:=wr) (e:=e) (o:=2) hB3.lt).trans (hB3.cell 2)
      have og5:=fun e=>(over_cell (w:=wr) (e:=e) (o:=5) hB3.lt).trans (hB3.cell 5)
      have op0:=fun e=>(over_cell (w:=wr) (e:=e) (o:=0) hP.lt).trans (hP.cell 0)
      have op1:=fun e=>(over_cell (w:=wr) (e:=e) (o:=1) hP.lt).trans (hP.cell 1)
      have ogl:=fun e=>Nat.lt_of_lt_of_le hB3.lt (over_below wr e).size
      simp only [lTA,lCZ,lCS] at og0 og1 og2 og5 op0 op1
      have OG:=Lib.hid (fun e=>And.intro (og0 e) (And.intro (og1 e) (And.intro (og2 e) (ogl e))))
      clear og0 og1 og2 ogl
      have HP:=Lib.hid hpop;have HR2:=Lib.hid hrow2;have HB3:=Lib.hid hB3;have HPB:=Lib.hid hP
      clear hpop hrow2 hB2 hB3 hP
      by_cases h0:m=0
      ·subst h0
       have hg0:decide ((0:Int) > 0)=false:=by decide
       go_wp2
       refine wp_region_over (by kernel_rfl) (by kernel_rfl) ?_
       repeat (first | go_big_quiet_skip | (go_big_quiet_want;go_big_quiet_op;go_big_quiet_on))
       refine wpQuiet_nil ?_
       rintro W2 ⟨e,he⟩
       have hb22:=over_below wr e
       rw [← he] at hb22
       clear he og5 op0 op1
       go_wp2
       refine wp_region_over (by kernel_rfl) (by kernel_rfl) ?_
       repeat (first | go_big_quiet_skip | (go_big_quiet_want;go_big_quiet_op;go_big_quiet_on))
       refine wpQuiet_nil ?_
       rintro W3 ⟨e,he⟩
       have hb33:=over_below W2 e
       rw [← he] at hb33
       clear he
       have hP5:=(HPB.out.below hb22 HPB.out.lt).below hb33 (HPB.out.below hb22 HPB.out.lt).lt
       have p0:=hP5.cell 0;have p1:=hP5.cell 1
       have hlW:wo.heap.size < W3.heap.size:=hP5.lt
       simp only [lTA,lCZ,lCS] at p0 p1
       have hnew:=HN.out
       rw [push1_none HP.out] at hnew
       have HNew:=Lib.hid hnew
       have hr6:W3.ownsRow wc.heap.size 315 2 (.slice a 0 c) 0 (cellsOf []):=(HR2.out.below hb22).below hb33
       have hbW2:Below wc.heap.size wc W2:=((hbr.trans (hal.mono hbr.size)).trans (hb2.mono (Nat.le_trans hbr.size hal.size))).trans (hb22.mono (Nat.le_trans hbr.size (Nat.le_trans hal.size hb2.size)))
       have hbW3:Below wc.heap.size wc W3:=hbW2.trans (hb33.mono hbW2.size)
       have HR6:=Lib.hid hr6
       clear hnew hP5 hr6
       obtain⟨i0,hi0,hz0,hz1,hz2⟩:=info_parts info_start
       go_wp2_with (at_builtin;refine wpList_append_lies _ rfl _ _ 214 rfl wc.heap.size 315 i0 (.agg #[.int .u64 0,.int .u64 0]) 2 16 Tryz.underlying214 hi0 hz0 hz1 hz2 rfl (by decide) _ 0 (cellsOf ([])) rfl (HR6.out.alloc _) ⟨W3.heap.size,0,none⟩ 1 1 [.int .u64 px,.int .u64 py] rfl rfl (World.news_of_block (heap_alloc_new W3 _)) (by simp [Value.oneCell']) (by decide) (by unfold maxLen;omega) (by omega) (Nat.le_trans hbW3.size (by simp)) _ rfl ?_;intro b4 cp4 W4 hown4 hgr4 hat4 hlt4)
       have hlast:RowK W4 wc.heap.size (.slice (some ⟨b4,0,none⟩) (0+1) cp4) [(px,py)]:=hown4
       have hbW4:Below wc.heap.size wc W4:=(hbW3.alloc hbW3.size _).grown hgr4 (by simp;have:=hbW3.size;omega) (fun k hk=>(HR6.out.lt k hk).1)
       go_roundw
       case rel=>(repeat apply Exists.intro);exact⟨⟨j+1,by omega,by go_num,by rw [HNew.out];exact hlast,hbW4⟩,rfl⟩
       case measure=>simp [Go.RowKit.intOf];omega
      ·obtain⟨m,rfl⟩:∃ m',m=m'+1:=⟨m - 1,by omega⟩
       clear h0
       obtain⟨⟨qx,qy⟩,hq⟩:∃ q,out[m]?=some q:=⟨_,List.getElem?_eq_getElem (by omega)⟩
       have hqm:=HO.out _ (List.mem_of_getElem? hq)
       have hqt:(out.take (m+1))[m]?=some (qx,qy):=by rw [List.getElem?_take_of_lt (by omega)];exact hq
       obtain⟨b3,cp3,hv3,hbb3,hbw3,hcap3,hcells3⟩:=HR2.out.open_ (by intro h;rw [h] at hqt;simp at hqt)
       obtain⟨rfl,rfl⟩:a=some ⟨b3,0,none⟩∧c=cp3:=by injection hv3 with h1 h2 h3;exact⟨h1,h3⟩
       obtain⟨e0,e1⟩:=hcells3 m _ hqt
       have oq0:=fun e=>(over_cell (w:=wr) (e:=e) (o:=m*2) hbw3).trans e0
       have oq1:=fun e=>(over_cell (w:=wr) (e:=e) (o:=m*2+1) hbw3).trans e1
       have HQ:=Lib.hid hq
       have hmc:(m:Int)≤(c:Int):=by have:=hcap3;rw [List.length_take] at this;omega
       have hne:out.take (m+1)≠[]:=by intro h;rw [h] at hqt;simp at hqt
       have HNE:=Lib.hid hne
       clear hne
       clear hv3 hcells3 hq hqt e0 e1
       rw [Int.natCast_succ]
       have hm0:(0:Int)≤(m:Int):=Int.natCast_nonneg _
       have hm1:(m:Int) < (m:Int)+1:=by omega
       have hm2:(0:Int) < (m:Int)+1:=by omega
       have tst:∃ c1,cmpI (hasK F L R (qx,qy) X) (hasK F L R (px,py) X)=c1∧((hasK F L R (px,py) X≤hasK F L R (qx,qy) X∧0≤c1)∨(hasK F L R (qx,qy) X < hasK F L R (px,py) X∧decide (0≤c1)=false)):=by
        refine⟨_,rfl,?_⟩
        by_cases h:hasK F L R (qx,qy) X < hasK F L R (px,py) X
        ·exact .inr ⟨h,by rw [cmpI_lt h];decide⟩
        ·exact .inl ⟨by omega,by unfold cmpI;rw [if_neg h];split <;> omega⟩
       obtain⟨c1,hc1,htst⟩:=tst
       have HC1:=Lib.hid hc1
       clear hc1
       rcases htst with ⟨hle,hcc⟩ | ⟨hle,hcc⟩
       ·go_wp2
        refine wp_region_over (by kernel_rfl) (by kernel_rfl) ?_
        repeat (first | go_big_quiet_skip | (go_big_quiet_want;go_big_quiet_op;first | go_big_quiet_on | (apply Exists.intro;refine⟨fun e=>?_,?_⟩;(focus (first | (go_at_call_of 277 (Value.agg #[.int .u64 qx,.int .u64 qy]);exact calls_over (hask_any g F L R qx qy X _ hC.may hqm.1 hqm.2.1 hUX hqm.2.2 (OG.out e).2.2.2 (OG.out e).1 (OG.out e).2.1 (OG.out e).2.2.1)) | (go_at_call_of 277 (Value.agg #[.int .u64 px,.int .u64 py]);exact calls_over (hask_any g F L R px py X _ hC.may hpm.1 hpm.2.1 hUX hpm.2.2 (OG.out e).2.2.2 (OG.out e).1 (OG.out e).2.1 (OG.out e).2.2.1)) | (go_at_call 193;exact calls_over (cmpk_any _ _ c1 _ HC1.out))));go_big_quiet_on)))
        refine wpQuiet_nil ?_
        rintro W2 ⟨e,he⟩
        have hb22:=over_below wr e
        rw [← he] at hb22
        clear he og5 op0 op1 oq0 oq1
        have hpop2:=(popN_pop (v:=fun o=>decide (hasK F L R (px,py) X≤hasK F L R o X)) HQ.out (decide_eq_true hle)).symm.trans HP.out
        have HP2:=Lib.hid hpop2
        have hr3:=(HR2.out.below hb22).take m (by rw [List.length_take];omega)
        rw [List.take_take,Nat.min_eq_left (Nat.le_succ m)] at hr3
        have HR3:=Lib.hid hr3
        clear hpop2 hr3 hle
        go_wp2
        go_roundw
        case rel=>exact⟨m,some ⟨b3,0,none⟩,c,by omega,by go_num,rfl,HR3.out,HP2.out,hb2.trans (hb22.mono hb2.size)⟩
        case measure=>(simp [Go.RowKit.intOf];try omega)
       ·go_wp2
        refine wp_region_over (by kernel_rfl) (by kernel_rfl) ?_
        repeat (first | go_big_quiet_skip | (go_big_quiet_want;go_big_quiet_op;first | go_big_quiet_on | (apply Exists.intro;refine⟨fun e=>?_,?_⟩;(focus (first | (go_at_call_of 277 (Value.agg #[.int .u64 qx,.int .u64 qy]);exact calls_over (hask_any g F L R qx qy X _ hC.may hqm.1 hqm.2.1 hUX hqm.2.2 (OG.out e).2.2.2 (OG.out e).1 (OG.out e).2.1 (OG.out e).2.2.1)) | (go_at_call_of 277 (Value.agg #[.int .u64 px,.int .u64 py]);exact calls_over (hask_any g F L R px py X _ hC.may hpm.1 hpm.2.1 hUX hpm.2.2 (OG.out e).2.2.2 (OG.out e).1 (OG.out e).2.1 (OG.out e).2.2.1)) | (go_at_call 193;exact calls_over (cmpk_any _ _ c1 _ HC1.out))));go_big_quiet_on)))
        refine wpQuiet_nil ?_
        rintro W2 ⟨e,he⟩
        have hb22:=over_below wr e
        rw [← he] at hb22
        clear he og5 op0 op1 oq0 oq1
        have hB4:=HB3.out.below hb22 HB3.out.lt
        have hP4:=HPB.out.below hb22 HPB.out.lt
        have og0:=fun e=>(over_cell (w:=W2) (e:=e) (o:=0) hB4.lt).trans (hB4.cell 0)
        have og1:=fun e=>(over_cell (w:=W2) (e:=e) (o:=1) hB4.lt).trans (hB4.cell 1)
        have og2:=fun e=>(over_cell (w:=W2) (e:=e) (o:=2) hB4.lt).trans (hB4.cell 2)
        have og5:=fun e=>(over_cell (w:=W2) (e:=e) (o:=5) hB4.lt).trans (hB4.cell 5)
        have op0:=fun e=>(over_cell (w:=W2) (e:=e) (o:=0) hP4.lt).trans (hP4.cell 0)
        have op1:=fun e=>(over_cell (w:=W2) (e:=e) (o:=1) hP4.lt).trans (hP4.cell 1)
        have ogl:=fun e=>Nat.lt_of_lt_of_le hB4.lt (over_below W2 e).size
        simp only [lTA,lCZ,lCS] at og0 og1 og2 og5 op0 op1
        have OG4:=Lib.hid (fun e=>And.intro (og0 e) (And.intro (og1 e) (And.intro (og2 e) (ogl e))))
        clear og0 og1 og2 ogl
        have hrow4:=HR2.out.below hb22
        obtain⟨b5,cp5,hv5,hbb5,hbw5,hcap5,hcells5⟩:=hrow4.open_ HNE.out
        obtain⟨h51,h52⟩:b3=b5∧c=cp5:=by injection hv5 with h1 h2 h3;injection h1 with h1;injection h1 with h1;exact⟨h1,h3⟩
        subst h51;subst h52
        obtain⟨e0,e1⟩:=hcells5 m (qx,qy) (by rw [List.getElem?_take_of_lt (by omega)];exact HQ.out)
        have oq0:=fun e=>(over_cell (w:=W2) (e:=e) (o:=m*2) hbw5).trans e0
        have oq1:=fun e=>(over_cell (w:=W2) (e:=e) (o:=m*2+1) hbw5).trans e1
        have HP4:=Lib.hid hP4;have HR4:=Lib.hid hrow4
        have hlW:wo.heap.size < W2.heap.size:=hP4.lt
        clear hv5 hcells5 e0 e1 hB4 hP4 hrow4
        have htop:=push1_top HQ.out HP.out hle
        have tst2:∃ c2,cmpI (lineK R (qx,qy) X) (lineK R (px,py) X)=c2∧((lineK R (qx,qy) X≤lineK R (px,py) X∧c2≤0)∨(lineK R (px,py) X < lineK R (qx,qy) X∧decide (c2≤0)=false)):=by
         refine⟨_,rfl,?_⟩
         by_cases h:lineK R (px,py) X < lineK R (qx,qy) X
         ·exact .inr ⟨h,by rw [cmpI_gt h];decide⟩
         ·exact .inl ⟨by omega,by unfold cmpI;split <;> (try split) <;> omega⟩
        obtain⟨c2,hc2,htst2⟩:=tst2
        have HC2:=Lib.hid hc2;have HT:=Lib.hid htop
        clear hc2 htop hle
        have hbW2:Below wc.heap.size wc W2:=((hbr.trans (hal.mono hbr.size)).trans (hb2.mono (Nat.le_trans hbr.size hal.size))).trans (hb22.mono (Nat.le_trans hbr.size (Nat.le_trans hal.size hb2.size)))
        rcases htst2 with ⟨hle,hcc2⟩ | ⟨hle,hcc2⟩
        ·go_wp2
         refine wp_region_over (by kernel_rfl) (by kernel_rfl) ?_
         repeat (first | go_big_quiet_skip | (go_big_quiet_want;go_big_quiet_op;first | go_big_quiet_on | (apply Exists.intro;refine⟨fun e=>?_,?_⟩;(focus (first | (go_at_call_of 278 (Value.agg #[.int .u64 qx,.int .u64 qy]);exact calls_over (linek_any g F L R qx qy X _ hC.may hqm.1 hqm.2.1 hUX hqm.2.2 (OG4.out e).2.2.2 (OG4.out e).2.2.1)) | (go_at_call_of 278 (Value.agg #[.int .u64 px,.int .u64 py]);exact calls_over (linek_any g F L R px py X _ hC.may hpm.1 hpm.2.1 hUX hpm.2.2 (OG4.out e).2.2.2 (OG4.out e).2.2.1)) | (go_at_call 193;exact calls_over (cmpk_any _ _ c2 _ HC2.out))));go_big_quiet_on)))
         refine wpQuiet_nil ?_
         rintro W3 ⟨e,he⟩
         have hb33:=over_below W2 e
         rw [← he] at hb33
         clear he og5 op0 op1 oq0 oq1
         have hnew:=HN.out
         rw [HT.out,if_pos hle] at hnew
         have hr5:=HR4.out.below hb33
         have HNew:=Lib.hid hnew;have HR5:=Lib.hid hr5
         clear hnew hr5 hle
         go_wp2
         go_roundw
         case rel=>(repeat apply Exists.intro);exact⟨⟨j+1,by omega,by go_num,by rw [HNew.out];exact HR5.out,hbW2.trans (hb33.mono hbW2.size)⟩,rfl⟩
         case measure=>simp [Go.RowKit.intOf];omega
        ·go_wp2
         refine wp_region_over (by kernel_rfl) (by kernel_rfl) ?_
         repeat (first | go_big_quiet_skip | (go_big_quiet_want;go_big_quiet_op;first | go_big_quiet_on | (apply Exists.intro;refine⟨fun e=>?_,?_⟩;(focus (first | (go_at_call_of 278 (Value.agg #[.int .u64 qx,.int .u64 qy]);exact calls_over (linek_any g F L R qx qy X _ hC.may hqm.1 hqm.2.1 hUX hqm.2.2 (OG4.out e).2.2.2 (OG4.out e).2.2.1)) | (go_at_call_of 278 (Value.agg #[.int .u64 px,.int .u64 py]);exact calls_over (linek_any g F L R px py X _ hC.may hpm.1 hpm.2.1 hUX hpm.2.2 (OG4.out e).2.2.2 (OG4.out e).2.2.1)) | (go_at_call 193;exact calls_over (cmpk_any _ _ c2 _ HC2.out))));go_big_quiet_on)))
         refine wpQuiet_nil ?_
         rintro W3 ⟨e,he⟩
         have hb33:=over_below W2 e
         rw [← he] at hb33
         clear he og5 op0 op1 oq0 oq1
         have hnew:=HN.out
         rw [HT.out,if_neg (by omega)] at hnew
         have hr5:=HR4.out.below hb33
         have hP5:=HP4.out.below hb33 HP4.out.lt
         have p0:=hP5.cell 0;have p1:=hP5.cell 1
         simp only [lTA,lCZ,lCS] at p0 p1
         have HNew:=Lib.hid hnew;have HR5:=Lib.hid hr5
         have htl:(out.take (m+1)).length=m+1:=by rw [List.length_take];omega
         have hr6:W3.ownsRow wc.heap.size 315 2 (.slice (some ⟨b3,0,none⟩) (m+1) c) (m+1) (cellsOf (out.take (m+1))):=by have:=HR5.out;unfold RowK at this;rw [htl] at this;exact this
         have hbW3:Below wc.heap.size wc W3:=hbW2.trans (hb33.mono hbW2.size)
         have HR6:=Lib.hid hr6;have HTL:=Lib.hid htl
         clear hnew hr5 hle hP5 hr6 htl
         obtain⟨i0,hi0,hz0,hz1,hz2⟩:=info_parts info_start
         go_wp2_with (at_builtin;refine wpList_append_lies _ rfl _ _ 214 rfl wc.heap.size 315 i0 (.agg #[.int .u64 0,.int .u64 0]) 2 16 Tryz.underlying214 hi0 hz0 hz1 hz2 rfl (by decide) _ (m+1) (cellsOf (out.take (m+1))) rfl (HR6.out.alloc _) ⟨W3.heap.size,0,none⟩ 1 1 [.int .u64 px,.int .u64 py] rfl rfl (World.news_of_block (heap_alloc_new W3 _)) (by simp [Value.oneCell']) (by decide) (by unfold maxLen;omega) (by omega) (Nat.le_trans hbW3.size (by simp)) _ rfl ?_;intro b4 cp4 W4 hown4 hgr4 hat4 hlt4)
         have hlast:RowK W4 wc.heap.size (.slice (some ⟨b4,0,none⟩) (m+1+1) cp4) (out.take (m+1) ++ [(px,py)]):=by
          have:=HTL.out
          rw [RowK,cellsOf_append,List.length_append,this]
          exact hown4
         have hbW4:Below wc.heap.size wc W4:=(hbW3.alloc hbW3.size _).grown hgr4 (by simp;have:=hbW3.size;omega) (fun k hk=>(HR6.out.lt k hk).1)
         go_roundw
         case rel=>(repeat apply Exists.intro);exact⟨⟨j+1,by omega,by go_num,by rw [HNew.out];exact hlast,hbW4⟩,rfl⟩
         case measure=>simp [Go.RowKit.intOf];omega
    ·obtain rfl:j=K.length+1:=by omega
     obtain⟨oa,oc,rfl⟩:=hrow.shape
     have hBw:=(HB.out.below hbL hgW).below hbr (HB.out.below hbL hgW).lt
     have g6:=hBw.cell 6;have z6:=hBw.frozen 6
     simp only [lTA,lCZ,lCS] at g6
     have HBw:=Lib.hid hBw;have HW:=Lib.hid hrow
     clear hBw hrow
     go_wp2
     rw [Exit.noGoto_normal]
     go_returns
     refine⟨rfl,⟨_,HBw.out.set_ 6 _,?_⟩,?_,fun v9 b9 hv9 hb9=>?_⟩
     ·have h1:=HW.out
      rw [List.take_of_length_le (by simp)] at h1 ⊢
      have h3:(Value.slice oa (List.foldl (push1 F L R X) [] (K ++ [(X,Y)])).length oc).ownBlock=none∨(Value.slice oa (List.foldl (push1 F L R X) [] (K ++ [(X,Y)])).length oc).ownBlock≠some g:=by
       rcases hv:Value.ownBlock _ with _ | k
       ·exact .inl rfl
       ·refine .inr fun he=>?_
        have h4:=(h1.lt k hv).1
        have h5:=hbL.size
        injection he with he
        omega
      have h2:RowK (wo.setCell ⟨g,6,none⟩ (Value.slice oa (List.foldl (push1 F L R X) [] (K ++ [(X,Y)])).length oc)) wc.heap.size (Value.slice oa (List.foldl (push1 F L R X) [] (K ++ [(X,Y)])).length oc) (List.foldl (push1 F L R X) [] (K ++ [(X,Y)])):=h1.kept (World.grownBy_setCell _ _ _) h3
      have h5:g+1≤wc.heap.size:=Nat.le_trans hgW hbL.size
      exact h2.low h5
     ·have h1:=HG.out
      have h2:Below W.heap.size W wo:=hbL.trans (hbr.mono hbL.size)
      exact⟨h2.os.trans h1.os,h2.tape.trans h1.tape,h2.output.trans h1.output,by simp [World.setCell];exact Nat.le_trans h1.size h2.size,fun k hk hne=>(Below.heap_setCell _ _ _ k (by simpa using hne)).trans ((h2.block k (Nat.lt_of_lt_of_le hk h1.size)).trans (h1.block k hk hne))⟩
     ·have h1:=HW.out
      rw [List.take_of_length_le (by simp)] at h1 hv9
      have h2:=(HBw.out.set_ 6 (Value.slice oa (List.foldl (push1 F L R X) [] (K ++ [(X,Y)])).length oc)).cell 6
      have h3:=Option.some.inj (hv9.symm.trans h2)
      rw [h3] at hb9
      have h4:=(h1.lt b9 hb9).1
      have h5:=hbL.size
      have h6:=HG.out.size
      omega
end
section
open Go.RowKit
abbrev wv (n:Int):Value:=.agg #[.int .u64 (hiW n),.int .u64 (loW n)]
theorem mul_halves (x1 x0 y1 y0:Int):(x1*4294967296+x0)*(y1*4294967296+y0)=x1*y1*18446744073709551616+(x1*y0+x0*y1)*4294967296+x0*y0:=by
 have e1:x1*4294967296*(y1*4294967296)=x1*y1*18446744073709551616:=by
  rw [Int.mul_assoc,Int.mul_left_comm 4294967296,← Int.mul_assoc,show (4294967296:Int)*4294967296=18446744073709551616 from rfl]
 have e2:x1*4294967296*y0=x1*y0*4294967296:=Int.mul_right_comm _ _ _
 have e3:x0*(y1*4294967296)=x0*y1*4294967296:=(Int.mul_assoc _ _ _).symm
 rw [Int.add_mul,Int.mul_add,Int.mul_add,e1,e2,e3]
 omega
theorem rmul_walk (a b x0 x1 y0 y1 t00 t10 t01 t11 l1 l0 o1 o0 w1 w0 md m1 m0 h l:Int)(w:World)
  (e1:IntKind.u64.wrap (a.tdiv 4294967296)=x1) (e2:a.tmod 4294967296=x0) (e3:IntKind.u64.wrap (b.tdiv 4294967296)=y1) (e4:b.tmod 4294967296=y0)
  (g00:IntKind.u64.wrap (x0*y0)=t00) (g10:IntKind.u64.wrap (x1*y0)=t10) (g01:IntKind.u64.wrap (x0*y1)=t01) (g11:IntKind.u64.wrap (x1*y1)=t11)
  (k1:IntKind.u64.wrap (t00.tdiv 4294967296)=l1) (k2:t00.tmod 4294967296=l0) (k3:IntKind.u64.wrap (t10.tdiv 4294967296)=o1) (k4:t10.tmod 4294967296=o0) (k5:IntKind.u64.wrap (t01.tdiv 4294967296)=w1) (k6:t01.tmod 4294967296=w0)
  (f1:IntKind.u64.wrap (IntKind.u64.wrap (l1+o0)+w0)=md) (k7:IntKind.u64.wrap (md.tdiv 4294967296)=m1) (k8:md.tmod 4294967296=m0)
  (f2:IntKind.u64.wrap (IntKind.u64.wrap (IntKind.u64.wrap (t11+o1)+w1)+m1)=h) (f3:IntKind.u64.wrap (IntKind.u64.wrap (m0*4294967296)+l0)=l) :
  Calls Tryz.prog 203 #[.int .u64 a,.int .u64 b] w fun e w'=>e=.returned (.agg #[.int .u64 h,.int .u64 l])∧Below w.heap.size w w':=by
 go_enter Tryz.func203,Tryz.ntmps203
 go_wp2
 go_returns
 exact⟨rfl,by go_grown⟩
theorem ref_mul (a b:Int)(w:World)(ha:U a)(hb:U b) :
  Calls Tryz.prog 203 #[.int .u64 a,.int .u64 b] w fun e w'=>e=.returned (wv (a*b))∧Below w.heap.size w w':=by
 have ha':=ha;have hb':=hb
 unfold U at ha' hb'
 have b00:=prod_bd (x:=a % 4294967296) (y:=b % 4294967296) (by omega) (by omega) (by omega) (by omega)
 have b01:=prod_bd (x:=a % 4294967296) (y:=b / 4294967296) (by omega) (by omega) (by omega) (by omega)
 have b10:=prod_bd (x:=a / 4294967296) (y:=b % 4294967296) (by omega) (by omega) (by omega) (by omega)
 have b11:=prod_bd (x:=a / 4294967296) (y:=b / 4294967296) (by omega) (by omega) (by omega) (by omega)
 have hab:=mul_halves (a / 4294967296) (a % 4294967296) (b / 4294967296) (b % 4294967296)
 rw [show a / 4294967296*4294967296+a % 4294967296=a by omega,show b / 4294967296*4294967296+b % 4294967296=b by omega] at hab
 have hU:∀ t:Int,0≤t→t≤18446744073709551615→U t:=fun t h h'=>⟨h,h'⟩
 have e1:IntKind.u64.wrap (a.tdiv 4294967296)=a / 4294967296:=by rw [Int.tdiv_eq_ediv_of_nonneg ha.1];exact wrap_u (hU _ (by omega) (by omega))
 have e2:a.tmod 4294967296=a % 4294967296:=Int.tmod_eq_emod_of_nonneg ha.1
 have e3:IntKind.u64.wrap (b.tdiv 4294967296)=b / 4294967296:=by rw [Int.tdiv_eq_ediv_of_nonneg hb.1];exact wrap_u (hU _ (by omega) (by omega))
 have e4:b.tmod 4294967296=b % 4294967296:=Int.tmod_eq_emod_of_nonneg hb.1
 unfold wv
 rw [hab]
 have dv:∀ t:Int,0≤t→t≤18446744073709551615→IntKind.u64.wrap (t.tdiv 4294967296)=t / 4294967296:=fun t h0 h1=>by rw [Int.tdiv_eq_ediv_of_nonneg h0];exact wrap_u (hU _ (by omega) (by omega))
 have md:∀ t:Int,0≤t→t.tmod 4294967296=t % 4294967296:=fun t h0=>Int.tmod_eq_emod_of_nonneg h0
 have r1:0≤a / 4294967296∧a / 4294967296≤4294967295:=by omega
 have r2:0≤b / 4294967296∧b / 4294967296≤4294967295:=by omega
 generalize h1:a / 4294967296=x1 at *
 generalize h2:a % 4294967296=x0 at *
 generalize h3:b / 4294967296=y1 at *
 generalize h4:b % 4294967296=y0 at *
 clear hab ha' hb' h1 h2 h3 h4
 generalize g00:x0*y0=t00 at *
 generalize g01:x0*y1=t01 at *
 generalize g10:x1*y0=t10 at *
 generalize g11:x1*y1=t11 at *
 have q1:0≤t00 / 4294967296+t10 % 4294967296+t01 % 4294967296∧t00 / 4294967296+t10 % 4294967296+t01 % 4294967296≤18446744073709551615:=by omega
 exact rmul_walk a b x0 x1 y0 y1 t00 t10 t01 t11 (t00 / 4294967296) (t00 % 4294967296) (t10 / 4294967296) (t10 % 4294967296) (t01 / 4294967296) (t01 % 4294967296)
  (t00 / 4294967296+t10 % 4294967296+t01 % 4294967296) ((t00 / 4294967296+t10 % 4294967296+t01 % 4294967296) / 4294967296) ((t00 / 4294967296+t10 % 4294967296+t01 % 4294967296) % 4294967296)
  (hiW (t11*18446744073709551616+(t10+t01)*4294967296+t00)) (loW (t11*18446744073709551616+(t10+t01)*4294967296+t00)) w
  e1 e2 e3 e4 (by rw [g00];exact wrap_u (hU _ (by omega) (by omega))) (by rw [g10];exact wrap_u (hU _ (by omega) (by omega))) (by rw [g01];exact wrap_u (hU _ (by omega) (by omega))) (by rw [g11];exact wrap_u (hU _ (by omega) (by omega)))
  (dv _ (by omega) (by omega)) (md _ (by omega)) (dv _ (by omega) (by omega)) (md _ (by omega)) (dv _ (by omega) (by omega)) (md _ (by omega))
  (by rw [wrap_u (x:=t00 / 4294967296+t10 % 4294967296) (hU _ (by omega) (by omega))];exact wrap_u (hU _ q1.1 q1.2)) (dv _ q1.1 q1.2) (md _ q1.1)
  (by rw [wrap_u (x:=t11+t10 / 4294967296) (hU _ (by omega) (by omega)),wrap_u (x:=t11+t10 / 4294967296+t01 / 4294967296) (hU _ (by omega) (by omega)),wrap_u (hU _ (by omega) (by omega))];unfold hiW;omega)
  (by rw [wrap_u (x:=(t00 / 4294967296+t10 % 4294967296+t01 % 4294967296) % 4294967296*4294967296) (hU _ (by omega) (by omega)),wrap_u (hU _ (by omega) (by omega))];unfold loW;omega)
theorem ref_stop (n:Int)(w:World)(h0:0≤n)(h1:n < 340282366920938463463374607431768211456) :
  Calls Tryz.prog 178 #[wv n] w fun e w'=>e=.returned (.int .u64 (cap n))∧Below w.heap.size w w':=by
 have hh:=U_hi h0 h1;have hl:=U_lo n
 have hn:n=hiW n*18446744073709551616+loW n:=(num_words n).symm
 obtain⟨a,ha⟩:∃ a,hiW n=a:=⟨_,rfl⟩
 obtain⟨b,hb⟩:∃ b,loW n=b:=⟨_,rfl⟩
 obtain⟨c,hc⟩:∃ c,cap n=c:=⟨_,rfl⟩
 have hc2:c=if 0 < a∨4611686018427387904 < b then 4611686018427387904 else b:=by
  rw [← hc];unfold cap;unfold U at hh hl;rw [ha] at hh hn;rw [hb] at hl hn
  split <;> split <;> omega
 have HC:=Lib.hid hc2;clear hc2
 have hh0:=hh.1;have hl0:=hl.1
 unfold wv
 rw [hc,ha,hb]
 rw [ha] at hh0;rw [hb] at hl0
 clear hn hc hh hl ha hb
 go_enter Tryz.func178,Tryz.ntmps178
 go_wp2
 all_goals go_ret
 all_goals exact⟨congrArg (fun q=>Ending.returned (.int .u64 q)) (by (have h:=HC.out;split at h <;> omega)),by go_grown⟩
theorem ref_cmp (n m:Int)(w:World)(h0:0≤n)(h1:n < 340282366920938463463374607431768211456)(k0:0≤m)(k1:m < 340282366920938463463374607431768211456) :
  Calls Tryz.prog 190 #[wv n,wv m] w fun e w'=>e=.returned (.int .i64 (cmpI n m))∧Below w.heap.size w w':=by
 have hh:=U_hi h0 h1;have hl:=U_lo n
 have kh:=U_hi k0 k1;have kl:=U_lo m
 have hn:n=hiW n*18446744073709551616+loW n:=(num_words n).symm
 have hm:m=hiW m*18446744073709551616+loW m:=(num_words m).symm
 unfold wv
 generalize hiW n=a at *
 generalize loW n=b at *
 generalize hiW m=c at *
 generalize loW m=d at *
 unfold U at hh hl kh kl
 go_enter Tryz.func190,Tryz.ntmps190
 go_wp2
 all_goals go_ret
 all_goals first
  | exact⟨ret_int (cmpI_lt (by omega)).symm,by go_grown⟩
  | exact⟨ret_int (cmpI_gt (by omega)).symm,by go_grown⟩
  | exact⟨ret_int (cmpI_eq (by omega)).symm,by go_grown⟩
theorem ref_plus (n m:Int)(w:World)(h0:0≤n)(k0:0≤m)(hs:n+m < 340282366920938463463374607431768211456) :
  Calls Tryz.prog 195 #[wv n,wv m] w fun e w'=>e=.returned (.tuple #[wv (n+m),.int .i64 0])∧Below w.heap.size w w':=by
 have hh:=U_hi h0 (show n < 340282366920938463463374607431768211456 by omega);have hl:=U_lo n
 have kh:=U_hi k0 (show m < 340282366920938463463374607431768211456 by omega);have kl:=U_lo m
 have hn:n=hiW n*18446744073709551616+loW n:=(num_words n).symm
 have hm:m=hiW m*18446744073709551616+loW m:=(num_words m).symm
 obtain⟨x,hx⟩:∃ x,hiW (n+m)=x:=⟨_,rfl⟩
 obtain⟨y,hy⟩:∃ y,loW (n+m)=y:=⟨_,rfl⟩
 have hxd:=hx;have hyd:=hy
 unfold hiW at hxd;unfold loW at hyd
 unfold wv
 rw [hx,hy]
 generalize hiW n=a at *
 generalize loW n=b at *
 generalize hiW m=c at *
 generalize loW m=d at *
 unfold U at hh hl kh kl
 clear hx hy
 by_cases hc:18446744073709551616≤b+d
 ·have e1:x=a+c+1:=by omega
  have e2:y=b+d - 18446744073709551616:=by omega
  have f1:IntKind.u64.wrap (b+d)=y:=by rw [IntKind.wrap_u64];omega
  have f2:a+c+1=x:=by omega
  have f3:(x == 0)=false:=by simp;omega
  have ux:0≤x∧x≤18446744073709551615:=by omega
  clear hn hm hxd hyd e1
  go_enter Tryz.func195,Tryz.ntmps195
  go_wp2
  all_goals first
   | (exfalso;omega)
   | skip
  all_goals go_returns
  all_goals first
   | exact⟨rfl,by go_grown⟩
   | (rw [e2];exact⟨rfl,by go_grown⟩)
 ·have e1:x=a+c:=by omega
  have e2:y=b+d:=by omega
  have f1:b+d=y:=e2.symm
  have f2:a+c=x:=e1.symm
  have ux:0≤x∧x≤18446744073709551615:=by omega
  clear hn hm hxd hyd e1 e2
  go_enter Tryz.func195,Tryz.ntmps195
  go_wp2
  all_goals first
   | (exfalso;omega)
   | skip
  all_goals go_returns
  all_goals first
   | exact⟨rfl,by go_grown⟩
   | (rw [e2];exact⟨rfl,by go_grown⟩)
theorem wv_small {y:Int} (h:U y):wv y=.agg #[.int .u64 0,.int .u64 y]:=by
 unfold wv
 rw [hi_small h,lo_small h]
theorem ref_plus_zero (n:Int)(w:World)(h0:0≤n)(hs:n < 340282366920938463463374607431768211456) :
  Calls Tryz.prog 195 #[wv n,.agg #[.int .u64 0,.int .u64 0]] w fun e w'=>e=.returned (.tuple #[wv n,.int .i64 0])∧Below w.heap.size w w':=by
 have h:=ref_plus n 0 w h0 (by omega) (by omega)
 rw [Int.add_zero,wv_small (y:=0) ⟨by omega,by omega⟩] at h
 exact h
theorem ref_wide (F L R t:Int)(w:World)(h:MayC F L R)(ht:U t) :
  Calls Tryz.prog 196 #[.agg #[.int .u64 F,.int .u64 L,.int .u64 R],.int .u64 t] w fun e w'=>e=.returned (wv (W F L R t))∧Below w.heap.size w w':=by
 have f0:=h.f0;have f1:=h.f1;have r0:=h.r0;have r1:=h.r1;have l0:=h.l0;have l1:=h.l1
 have t0:=ht.1;have t1:=ht.2
 have uF:U F:=⟨f0,by omega⟩
 have uR:U R:=⟨r0,by omega⟩
 have HM:=Lib.hid h;clear h
 have nb:=((Blk.new w 30 #[.int .u64 F,.int .u64 L,.int .u64 R]).below ((Below.refl _ _).alloc (Nat.le_refl _) (.cells #[.int .u64 0,.int .u64 0] 236)) (Blk.new w 30 #[.int .u64 F,.int .u64 L,.int .u64 R]).lt)
 have hal:=((Below.refl w.heap.size w).alloc (Nat.le_refl _) (.cells #[.int .u64 F,.int .u64 L,.int .u64 R] 30))
 have hal2:=hal.alloc hal.size (.cells #[.int .u64 0,.int .u64 0] 236)
 have hsz:(w.alloc (.cells #[.int .u64 F,.int .u64 L,.int .u64 R] 30)).heap.size=w.heap.size+1:=by simp
 have rb:=Blk.new (w.alloc (.cells #[.int .u64 F,.int .u64 L,.int .u64 R] 30)) 236 #[.int .u64 0,.int .u64 0]
 rw [hsz] at rb
 have NB:=Lib.hid nb;have HAL:=Lib.hid hal2;have RB:=Lib.hid rb
 clear nb hal hal2 rb hsz
 by_cases hc:t≤L
 ·have e:W F L R t=F*t:=W_early hc
  have b:=mul_bd (a:=F) (t:=t) (A:=1048576) (T:=1099511627776) f0 f1 t0 (by omega)
  rw [e]
  go_enter Tryz.func196,Tryz.ntmps196
  go_wp2_with (first
   | (go_at_call 203;refine (ref_mul F t _ uF ht).mono ?_;rintro e' w1 ⟨rfl,hb1⟩;have n1:=NB.out.below hb1 NB.out.lt;have hlt1:=n1.lt;have a0:=n1.cell 0;have a1:=n1.cell 1;have a2:=n1.cell 2;simp only [lTA,lCZ,lCS] at a0 a1 a2)
   | (go_at_call 195;refine (ref_plus_zero (F*t) _ b.1 (by omega)).mono ?_;rintro e' w2 ⟨rfl,hb2⟩;have hg1:Below w1.heap.size w1 w2:=((Below.refl w1.heap.size w1).alloc (Nat.le_refl _) (.cells #[.int .u64 (hiW (F*t)),.int .u64 (loW (F*t))] 236)).trans ((Below.refl _ _).trans ((((Below.refl _ _).alloc (Nat.le_refl _) (.cells #[.int .u64 0,.int .u64 0] 236)).trans (hb2.mono (by simp))).mono (by simp)));have r1b:=RB.out.below hb1 RB.out.lt;have r2b:=r1b.below hg1 r1b.lt;have hlt2:=r2b.lt;have s0:=r2b.cell 0;have s1:=r2b.cell 1;have z0:=r2b.frozen 0;have z1:=r2b.frozen 1;simp only [lTA,lCZ,lCS] at s0 s1))
  have rr:=(((r2b.set_ 0 (.int .u64 (hiW (F*t)))).set_ 1 (.int .u64 (loW (F*t)))).alloc (.cells #[.int .u64 (hiW (F*t)),.int .u64 (loW (F*t))] 236))
  have q0:=rr.cell 0;have q1:=rr.cell 1
  simp at q0 q1
  have hbw:=HAL.out.trans ((hb1.trans (hg1.mono hb1.size)).mono HAL.out.size)
  refine bodyPost_ret (v:=.agg #[.int .u64 (hiW (F*t)),.int .u64 (loW (F*t))]) (by simp [results,Tryz.results196,go_sem,q0,q1]) rfl ⟨rfl,?_⟩
  exact ((hbw.setCell (by simp) _).setCell (by simp) _).alloc (by have:=hbw.size;simp;omega) _
 ·have e:W F L R t=F*L+R*(t - L):=W_late (by omega)
  have b1:=mul_bd (a:=F) (t:=L) (A:=1048576) (T:=1099511627776) f0 f1 l0 (by omega)
  have b2:=mul_bd (a:=R) (t:=t - L) (A:=1048576) (T:=18446744073709551615) r0 r1 (by omega) (by omega)
  have uL:U L:=⟨l0,by omega⟩
  have ut:U (t - L):=⟨by omega,by omega⟩
  rw [e]
  have HT:=Lib.hid (show True from trivial)
  go_enter Tryz.func196,Tryz.ntmps196
  go_wp2_with (first
   | (go_at_call 203;have htok:=HT.out;with_reducible refine (ref_mul F L _ uF uL).mono ?_;rintro e' w1 ⟨rfl,hb1⟩;clear HT htok;have n1:=NB.out.below hb1 NB.out.lt;have hlt1:=n1.lt;have a0:=n1.cell 0;have a1:=n1.cell 1;have a2:=n1.cell 2;simp only [lTA,lCZ,lCS] at a0 a1 a2)
   | (go_at_call 203;with_reducible refine (ref_mul R (t - L) _ uR ut).mono ?_;rintro e' w2 ⟨rfl,hb2⟩;have fb:=(Blk.new w1 236 #[.int .u64 (hiW (F*L)),.int .u64 (loW (F*L))]).alloc (.cells #[.int .u64 0,.int .u64 0] 236);have gb:=Blk.new (w1.alloc (.cells #[.int .u64 (hiW (F*L)),.int .u64 (loW (F*L))] 236)) 236 #[.int .u64 0,.int .u64 0];rw [show (w1.alloc (.cells #[.int .u64 (hiW (F*L)),.int .u64 (loW (F*L))] 236)).heap.size=w1.heap.size+1 by simp] at gb;have fb2:=fb.below hb2 fb.lt;have gb2:=gb.below hb2 gb.lt;have hlf:=fb2.lt;have hlg:=gb2.lt;have p0:=fb2.cell 0;have p1:=fb2.cell 1;have q0:=gb2.cell 0;have q1:=gb2.cell 1;have z0:=gb2.frozen 0;have z1:=gb2.frozen 1;simp only [lTA,lCZ,lCS] at p0 p1 q0 q1))
  have hs12:F*L+R*(t - L) < 340282366920938463463374607431768211456:=by omega
  have hg1:Below w1.heap.size w1 w2:=((Below.refl w1.heap.size w1).alloc (Nat.le_refl _) (.cells #[.int .u64 (hiW (F*L)),.int .u64 (loW (F*L))] 236)).trans ((Below.refl _ _).trans ((((Below.refl _ _).alloc (Nat.le_refl _) (.cells #[.int .u64 0,.int .u64 0] 236)).trans (hb2.mono (by simp))).mono (by simp)))
  have r1b:=RB.out.below hb1 RB.out.lt
  have r2b:=r1b.below hg1 r1b.lt
  have hlr:=r1b.lt
  have r3b:=(r2b.grown (World.grownBy_setCell w2 ⟨w1.heap.size+1,0,none⟩ (.int .u64 (hiW (R*(t - L))))) (by simp;omega)).grown (World.grownBy_setCell _ ⟨w1.heap.size+1,1,none⟩ (.int .u64 (loW (R*(t - L))))) (by simp;omega)
  have hbw0:Below w.heap.size w ((w2.setCell ⟨w1.heap.size+1,0,none⟩ (.int .u64 (hiW (R*(t - L))))).setCell ⟨w1.heap.size+1,1,none⟩ (.int .u64 (loW (R*(t - L))))):=((HAL.out.trans ((hb1.trans (hg1.mono hb1.size)).mono HAL.out.size)).setCell (by have:=HAL.out.size;have:=hb1.size;simp only;omega) _).setCell (by have:=HAL.out.size;have:=hb1.size;simp only;omega) _
  refine (ref_plus (F*L) (R*(t - L)) _ b1.1 b2.1 hs12).mono ?_
  rintro e' w3 ⟨rfl,hb3⟩
  have r4b:=r3b.below hb3 r3b.lt
  have hlt4:=r4b.lt
  have s0:=r4b.cell 0;have s1:=r4b.cell 1;have y0:=r4b.frozen 0;have y1:=r4b.frozen 1
  simp only [lTA,lCZ,lCS] at s0 s1
  have hbw:=hbw0.trans (hb3.mono hbw0.size)
  obtain⟨n,hn⟩:∃ n,F*L+R*(t - L)=n:=⟨_,rfl⟩
  rw [hn]
  have HN:=Lib.hid hn
  clear hn p0 p1 q0 q1 z0 z1 a0 a1 a2
  go_wp2
  have rr:=(((r4b.set_ 0 (.int .u64 (hiW n))).set_ 1 (.int .u64 (loW n))).alloc (.cells #[.int .u64 (hiW n),.int .u64 (loW n)] 236))
  have q0:=rr.cell 0;have q1:=rr.cell 1
  simp at q0 q1
  refine bodyPost_ret (v:=.agg #[.int .u64 (hiW n),.int .u64 (loW n)]) (by simp [results,Tryz.results196,go_sem,q0,q1]) rfl ⟨by rw [HN.out],?_⟩
  exact ((hbw.setCell (by simp) _).setCell (by simp) _).alloc (by have:=hbw.size;simp;omega) _
end
section
open Go.RowKit
structure Live (w:World)(g:Nat)(F L R x:Int)(K A:List (Int × Int)):Prop where
 at_:SagAt w g F L R A.length x K
 may:MayC F L R
 le:F≤R
 run:Run F L R x K A
 num:∀ a∈A,0≤a.1∧0≤a.2∧a.2≤4611686018427387904
 x0:0≤x
 x1:x≤9223372036854775808
 few:A.length≤900000
 one:(∀ a∈A,L≤x - a.1)→K.length≤1
section
variable {w w' : World} {g : Nat} {F L R x : Int} {K A : List (Int × Int)}
theorem Live.below (h:Live w g F L R x K A)(hb:Below w.heap.size w w'):Live w' g F L R x K A:=⟨h.at_.below hb,h.may,h.le,h.run,h.num,h.x0,h.x1,h.few,h.one⟩
theorem Live.lt (h:Live w g F L R x K A):g < w.heap.size:=by obtain⟨v,hb,_⟩:=h.at_;exact hb.lt
theorem Live.sag (h:Live w g F L R x K A):SagC F L R:=⟨h.may,.inr h.le⟩
theorem Live.ux (h:Live w g F L R x K A):U x:=⟨h.x0,by have:=h.x1;omega⟩
theorem Live.kept (h:Live w g F L R x K A):∀ k∈K,0≤k.1∧k.1≤x∧U k.2:=fun k hk=>by
 have h1:=h.run.sub.subset hk
 have h2:=h.num k h1
 exact⟨h2.1,h.run.le k h1,h2.2.1,by omega⟩
theorem Live.kept' (h:Live w g F L R x K A):∀ k∈K,0≤k.1∧k.1≤9223372036854775808∧U k.2:=fun k hk=>by
 have h1:=h.kept k hk;have h2:=h.x1
 exact⟨h1.1,by omega,h1.2.2⟩
theorem Live.fewK (h:Live w g F L R x K A):K.length≤900000:=Nat.le_trans h.run.sub.length_le h.few
theorem Live.someK (h:Live w g F L R x K A)(hA:A≠[]):K≠[]:=by
 have:=(h.run.some hA).1
 rintro rfl
 simp at this
theorem Live.n0 (h:Live w g F L R x K A)(hA:A≠[]):(A.length:Int)≠0:=by
 have:=List.length_pos_iff.2 hA
 omega
theorem Live.none (h:Live w g F L R x K []):NoneAt w (some ⟨g,0,none⟩):=by
 obtain⟨v,hb,_⟩:=h.at_
 exact .inr ⟨g,rfl,hb.lt,hb.cell 4⟩
theorem Live.rest (h:Live w g F L R x K A):MayC 0 0 R:=⟨Int.le_refl _,by omega,h.may.r0,h.may.r1,Int.le_refl _,by omega,fun _=>rfl⟩
theorem live_new (w:World)(hF:0≤F)(hL:0≤L)(hR:0≤R)(h1:mayB F L R=true)(h2:F≤R) :
  Calls Tryz.prog 119 #[.agg #[.int .u64 F,.int .u64 L,.int .u64 R]] w fun e w' =>
   ∃ g,e=.returned (.tuple #[.pointer (some ⟨g,0,none⟩),.int .i64 0])∧w.heap.size≤g∧Live w' g F L R 0 [] []∧Below w.heap.size w w' :=
 (snew_ok F L R w hL h1 h2).mono fun _ _ ⟨g,he,hg,hs,hb⟩ =>
  ⟨g,he,hg,⟨hs,mayB_spec hF hL hR h1,h2,Run.nil F L R 0,by intro a ha;simp at ha,by omega,by omega,by simp,fun _=>by simp⟩,hb⟩
theorem live_start_own (h:Live w g F L R x K A)(t y X Y:Int)(ht:U t)(hy:U y)(hX:X=max (min t 9223372036854775808) x)(hY:Y=min y 4611686018427387904)(hfew:A.length < 900000) :
  Calls Tryz.prog 271 #[.pointer (some ⟨g,0,none⟩),.int .u64 t,.int .u64 y] w fun e w' =>
   e=.returned (.tuple #[])∧Live w' g F L R X (startK F L R X K (X,Y)) (A ++ [(X,Y)])∧w.grownBy w' (some g)∧NewRow w w' g:=by
 have hxX:x≤X:=by omega
 have h0:=h.x0;have h1:=h.x1
 refine (sstart_own g F L R A.length x y t X Y K w hX hY h.ux ht hy (by omega) (by omega) h.fewK h.sag h.kept h.at_).mono fun e w' ⟨he,hs,hg,hn⟩=>⟨he,?_,hg,hn⟩
 refine⟨?_,h.may,h.le,h.run.start h.sag hxX,fun a ha=>?_,by omega,by omega,by simp;omega,fun hall=>?_⟩
 ·rw [List.length_append]
  exact hs
 ·rcases List.mem_append.1 ha with ha | ha
  ·exact h.num a ha
  ·obtain rfl:a=(X,Y):=by simpa using ha
   unfold U at hy
   exact⟨by simp only;omega,by simp only;omega,by simp only;omega⟩
 ·refine start_one h.sag (fun o ho=>hall o ?_) (hall (X,Y) (by simp))
  exact List.mem_append_left _ (h.run.sub.subset ho)
theorem live_reach (h:Live w g F L R x K A)(hA:A≠[])(y:Int)(hy:U y) :
  Calls Tryz.prog 270 #[.pointer (some ⟨g,0,none⟩),.int .u64 y] w fun e w' =>
   e=.returned (.int .u64 (lastAt (reachC F L R) y K x))∧Below w.heap.size w w' :=
 sreach_any g F L R A.length x y K w h.may hy h.ux (h.n0 hA) (h.someK hA) (Nat.le_trans h.fewK (by omega)) h.kept' h.at_
end
end
section
open Go.RowKit
section
variable {w : World} {g : Nat} {F L R x : Int} {K A : List (Int × Int)}
end
theorem lastAt_le (needs:Int→Int)(y:Int)(K:List (Int × Int)) {s:Int} (hs:s≤9223372036854775808):lastAt needs y K s≤9223372036854775808:=by
 unfold lastAt;split
 ·exact Int.le_refl _
 ·exact lastL_never needs y K s hs
theorem reach_first {F L R:Int} (h:MayC F L R):∀ m,0≤m→m≤4611686018427387904→FirstF (W F L R) m (reachC F L R m):=by
 intro m h0 h1
 rcases reachC_spec h h0 h1 with h2 | ⟨h2,_,h3,h4⟩
 ·exact .inl h2
 ·exact .inr ⟨h2,h3,h4⟩
theorem W_line (R t:Int)(ht:0≤t):W 0 0 R t=R*t:=by
 unfold W;rw [Int.min_eq_right ht];simp
theorem reach_mono {F L R m:Int} (h:MayC F L R)(hs:F≤R)(h0:0≤m)(h1:m≤4611686018427387904):reachC 0 0 R m≤reachC F L R m:=by
 have hr:MayC 0 0 R:=⟨Int.le_refl _,by omega,h.r0,h.r1,Int.le_refl _,by omega,fun _=>rfl⟩
 rcases reach_first h m h0 h1 with ⟨e,_⟩ | ⟨a0,a1,_⟩
 ·rw [e]
  rcases reach_first hr m h0 h1 with ⟨e2,_⟩ | ⟨b0,b1,b2⟩
  ·omega
  ·rcases reachC_spec hr h0 h1 with ⟨e3,_⟩ | ⟨_,b3,_⟩ <;> omega
 ·rcases reach_first hr m h0 h1 with ⟨e2,b2⟩ | ⟨b0,b1,b2⟩
  ·exfalso
   have h4:=b2 (reachC F L R m) a0
   have hg:=gap_nonneg (F:=F) (L:=L) (R:=R) ⟨h,.inr hs⟩ a0
   have:=W_gap F L R (reachC F L R m)
   rw [W_line _ _ a0] at h4
   omega
  ·rcases Int.lt_or_le (reachC F L R m) (reachC 0 0 R m) with h3 | h3
   ·exfalso
    have h4:=b2 (reachC F L R m) a0 h3
    have hg:=gap_nonneg (F:=F) (L:=L) (R:=R) ⟨h,.inr hs⟩ a0
    have:=W_gap F L R (reachC F L R m)
    rw [W_line _ _ a0] at h4
    omega
   ·exact h3
theorem live_back {w:World} {g:Nat} {F L R x y:Int} {K A:List (Int × Int)} (h:Live w g F L R x K A)(hA:A≠[]) :
  Back (fun t=>minF (atK F L R (max t x)) 4611686018427387904 A) x y (lastAt (reachC F L R) y K x) ∧
  Back (fun t=>minF (linK R (max t x)) 4611686018427387904 A) x y (lastAt (reachC 0 0 R) y K x) ∧
  lastAt (reachC 0 0 R) y K x≤lastAt (reachC F L R) y K x:=by
 have hrun:=fun t (ht:x≤t)=>h.run.least (t:=t) (fun a ha=>(h.num a ha).2.1) ht
 have hk:∀ k∈K,0≤k.1∧k.1≤x∧0≤k.2:=fun k hk=>by have:=h.kept k hk;exact⟨this.1,this.2.1,this.2.2.1⟩
 refine⟨?_,?_,?_⟩
 ·refine Back.of h.x1 (lastAt_le _ _ _ h.x1) (back_any (y:=y) (f:=W F L R) (fun t=>minF (atK F L R (max t x)) 4611686018427387904 A) (reach_first h.may) (fun t ht=>W_nonneg h.may.f0 h.may.r0 h.may.l0 ht) (fun t u _ htu=>W_mono h.may.f0 h.may.r0 htu) hk h.x1 ?_ ?_ ?_)
  ·intro t;exact minF_le_start _ _ _
  ·intro t ht k hkK
   simp only [Int.max_eq_left ht];rw [← (hrun t ht).1]
   refine Int.le_trans (minF_le _ K _ k hkK) ?_
   rw [atK_has (hk k hkK).2.2]
   exact cap_le_self _
  ·intro t ht hy hall
   simp only [Int.max_eq_left ht];rw [← (hrun t ht).1]
   refine le_minF _ _ K _ hy fun k hkK=>?_
   rw [atK_has (hk k hkK).2.2]
   have:=hall k hkK
   unfold hasK cap;split <;> omega
 ·refine Back.of h.x1 (lastAt_le _ _ _ h.x1) (back_any (y:=y) (f:=W 0 0 R) (fun t=>minF (linK R (max t x)) 4611686018427387904 A) (reach_first h.rest) (fun t ht=>W_nonneg (by omega) h.may.r0 (by omega) ht) (fun t u _ htu=>W_mono (by omega) h.may.r0 htu) hk h.x1 ?_ ?_ ?_)
  ·intro t;exact minF_le_start _ _ _
  ·intro t ht k hkK
   simp only [Int.max_eq_left ht];rw [← (hrun t ht).2]
   refine Int.le_trans (minF_le _ K _ k hkK) ?_
   rw [linK_line (hk k hkK).2.2,W_line _ _ (by have:=hk k hkK;omega)]
   exact cap_le_self _
  ·intro t ht hy hall
   simp only [Int.max_eq_left ht];rw [← (hrun t ht).2]
   refine le_minF _ _ K _ hy fun k hkK=>?_
   rw [linK_line (hk k hkK).2.2]
   have:=hall k hkK
   rw [W_line _ _ (by have:=hk k hkK;omega)] at this
   unfold lineK cap;split <;> omega
 ·unfold lastAt
  split
  ·exact Int.le_refl _
  ·exact lastL_le (fun m h0 h1=>reach_mono h.may h.le h0 h1) K x x (Int.le_refl _) h.x1
end
section
open Go.RowKit
abbrev ifB (g:Nat):Value:=.iface 172 (.agg #[.pointer (some ⟨g,0,none⟩)])
abbrev ifS (g:Nat):Value:=.iface 181 (.agg #[.pointer (some ⟨g,0,none⟩)])
def RunB (w:World)(r g:Nat)(F L R x:Int)(A:List (Int × Int)):Prop :=
 Blk w r 176 #[.int .u64 F,.int .u64 L,.int .u64 R,ifB g]∧BentAt w g F L R x A∧g < r
def RunS (w:World)(r g:Nat)(F L R x:Int)(A:List (Int × Int)):Prop :=
 Blk w r 176 #[.int .u64 F,.int .u64 L,.int .u64 R,ifS g]∧(∃ K,Live w g F L R x K A)∧g < r
def RunAt (w:World)(r g:Nat)(F L R x:Int)(A:List (Int × Int)):Prop:=RunB w r g F L R x A∨RunS w r g F L R x A
section
variable {w w' : World} {r g : Nat} {F L R x : Int} {A : List (Int × Int)}
theorem RunB.below (h:RunB w r g F L R x A)(hb:Below w.heap.size w w'):RunB w' r g F L R x A:=⟨h.1.below hb h.1.lt,h.2.1.below hb,h.2.2⟩
theorem RunS.below (h:RunS w r g F L R x A)(hb:Below w.heap.size w w'):RunS w' r g F L R x A:=⟨h.1.below hb h.1.lt,by obtain⟨K,hK⟩:=h.2.1;exact⟨K,hK.below hb⟩,h.2.2⟩
theorem RunAt.below (h:RunAt w r g F L R x A)(hb:Below w.heap.size w w'):RunAt w' r g F L R x A:=by
 rcases h with h | h
 ·exact .inl (h.below hb)
 ·exact .inr (h.below hb)
theorem RunAt.lt (h:RunAt w r g F L R x A):g < r∧r < w.heap.size:=by
 rcases h with h | h
 ·exact⟨h.2.2,h.1.lt⟩
 ·exact⟨h.2.2,h.1.lt⟩
theorem RunAt.may (h:RunAt w r g F L R x A):MayC F L R:=by
 rcases h with h | ⟨_,⟨K,hK⟩,_⟩
 ·exact h.2.1.may
 ·exact hK.may
theorem RunAt.num (h:RunAt w r g F L R x A):(∀ a∈A,a.1≤x∧0≤a.2)∧0≤x∧x≤9223372036854775808:=by
 rcases h with h | ⟨_,⟨K,hK⟩,_⟩
 ·exact⟨h.2.1.low,h.2.1.x0,h.2.1.x1⟩
 ·exact⟨fun a ha=>⟨hK.run.le a ha,(hK.num a ha).2.1⟩,hK.x0,hK.x1⟩
theorem of_bent (h:RunB w r g F L R x A):Calls Tryz.prog 122 #[.pointer (some ⟨r,0,none⟩)] w fun e w'=>e=.returned (ifB g)∧w=w':=by
 have c3:=h.1.cell 3
 simp only [lTA,lCZ,lCS] at c3
 clear h
 go_enter Tryz.func122,Tryz.ntmps122
 go_wp2
 all_goals go_ret
 all_goals exact⟨rfl,rfl⟩
theorem of_sag (h:RunS w r g F L R x A):Calls Tryz.prog 122 #[.pointer (some ⟨r,0,none⟩)] w fun e w'=>e=.returned (ifS g)∧w=w':=by
 have c3:=h.1.cell 3
 simp only [lTA,lCZ,lCS] at c3
 clear h
 go_enter Tryz.func122,Tryz.ntmps122
 go_wp2
 all_goals go_ret
 all_goals exact⟨rfl,rfl⟩
theorem run_start_own (h:RunAt w r g F L R x A)(t y X Y:Int)(ht:U t)(hy:U y)(hX:X=max (min t 9223372036854775808) x)(hY:Y=min y 4611686018427387904)(hfew:A.length < 900000) :
  Calls Tryz.prog 88 #[.pointer (some ⟨r,0,none⟩),.int .u64 t,.int .u64 y] w fun e w' =>
   e=.returned (.tuple #[])∧RunAt w' r g F L R X (A ++ [(X,Y)])∧w.grownBy w' (some g)∧NewRow w w' g:=by
 rcases h with h | h
 ·have HH:=Lib.hid h;have HX:=Lib.hid hX;have HY:=Lib.hid hY;clear h hX hY
  go_enter Tryz.func88,Tryz.ntmps88
  go_wp2_with (first
   | (go_at_call 122;refine (of_bent HH.out).mono ?_;rintro e w' ⟨rfl,rfl⟩)
   | (go_at_call 252;refine (bent_start HH.out.2.1 t y X Y ht hy HX.out HY.out hfew).mono ?_;rintro e w1 ⟨rfl,hb1,hg1⟩;have HB1:=Lib.hid hb1;clear hb1))
  go_returns
  exact⟨rfl,.inl ⟨HH.out.1.grown hg1 (by have:=HH.out.2.2;simp;omega),HB1.out,HH.out.2.2⟩,hg1,fun v b hv hb=>by
   obtain⟨h1,h2,hB,_⟩:=HB1.out.blk
   have:=Option.some.inj (hv.symm.trans (hB.cell 6))
   rw [this] at hb
   cases hb⟩
 ·obtain⟨hB,⟨K,hK⟩,hlt⟩:=h
  have HH:=Lib.hid (show RunS w r g F L R x A from ⟨hB,⟨K,hK⟩,hlt⟩);have HK:=Lib.hid hK;have HX:=Lib.hid hX;have HY:=Lib.hid hY;clear hB hK hX hY
  go_enter Tryz.func88,Tryz.ntmps88
  go_wp2_with (first
   | (go_at_call 122;refine (of_sag HH.out).mono ?_;rintro e w' ⟨rfl,rfl⟩)
   | (go_at_call 271;refine (live_start_own HK.out t y X Y ht hy HX.out HY.out hfew).mono ?_;rintro e w1 ⟨rfl,hb1,hg1,hn1⟩;have HB1:=Lib.hid (And.intro hb1 hn1);clear hb1 hn1))
  go_returns
  exact⟨rfl,.inr ⟨HH.out.1.grown hg1 (by simp;omega),⟨_,HB1.out.1⟩,hlt⟩,hg1,HB1.out.2⟩
end
end
section
open Go.RowKit
section
variable {w w' : World} {r g : Nat} {F L R x : Int} {A : List (Int × Int)}
theorem run_reach (h:RunAt w r g F L R x A)(hA:A≠[])(y:Int)(hy:U y) :
  Calls Tryz.prog 102 #[.pointer (some ⟨r,0,none⟩),.int .u64 y] w (Ans (fun t=>vA F L R A (max t x)) x y w):=by
 have HA:=Lib.hid hA;clear hA
 rcases h with h | h
 ·have HH:=Lib.hid h;clear h
  go_enter Tryz.func102,Tryz.ntmps102
  go_wp2_with (first
   | (go_at_call 122;refine (of_bent HH.out).mono ?_;rintro e w' ⟨rfl,rfl⟩)
   | (go_at_call 251;refine (bent_reach HH.out.2.1 HA.out y hy).mono ?_;rintro e w1 ⟨n,rfl,hk,hn0,hn1,hb1⟩))
  go_ret
  exact⟨n,rfl,hk,hn0,hn1,hb1⟩
 ·obtain⟨K,hK⟩:=h.2.1
  have HH:=Lib.hid h;have HK:=Lib.hid hK;have HB:=Lib.hid (live_back (y:=y) hK HA.out).1;clear h hK
  go_enter Tryz.func102,Tryz.ntmps102
  go_wp2_with (first
   | (go_at_call 122;refine (of_sag HH.out).mono ?_;rintro e w' ⟨rfl,rfl⟩)
   | (go_at_call 270;refine (live_reach HK.out HA.out y hy).mono ?_;rintro e w1 ⟨rfl,hb1⟩))
  go_ret
  have hk:=HB.out;have hx0:=HK.out.x0
  exact⟨_,rfl,hk,by have:=hk.x_le;omega,hk.le_never,hb1⟩
theorem run_reach0 (h:RunAt w r g F L R x [])(y:Int) :
  Calls Tryz.prog 102 #[.pointer (some ⟨r,0,none⟩),.int .u64 y] w fun e w'=>e=.returned (.int .u64 (nev y))∧Below w.heap.size w w':=by
 rcases h with h | h
 ·have HH:=Lib.hid h;clear h
  go_enter Tryz.func102,Tryz.ntmps102
  go_wp2_with (first
   | (go_at_call 122;refine (of_bent HH.out).mono ?_;rintro e w' ⟨rfl,rfl⟩)
   | (go_at_call 251;refine (bent_reach0 HH.out.2.1 y).mono ?_;rintro e w1 ⟨rfl,rfl⟩))
  go_ret
  exact⟨rfl,Below.refl _ _⟩
 ·obtain⟨K,hK⟩:=h.2.1
  have hK0:K=[]:=List.eq_nil_of_length_eq_zero (Nat.le_zero.1 hK.run.sub.length_le)
  subst hK0
  have hN:=hK.none;have HN:=Lib.hid hN;clear hN
  have HH:=Lib.hid h;have HK:=Lib.hid hK;clear h hK
  go_enter Tryz.func102,Tryz.ntmps102
  go_wp2_with (first
   | (go_at_call 122;refine (of_sag HH.out).mono ?_;rintro e w' ⟨rfl,rfl⟩)
   | (go_at_call 270;refine (sreach_none _ y _ HN.out).mono ?_;rintro e w1 ⟨rfl,hb1⟩))
  go_ret
  exact⟨rfl,hb1⟩
end
end
section
open Go.RowKit
attribute [local go_sem] quietR quietAtR quietUponR midAt midUpon
def Made (w:World)(F L R:Int)(e:Ending)(w':World):Prop :=
 ∃ r g,e=.returned (.pointer (some ⟨r,0,none⟩))∧w.heap.size≤g∧RunAt w' r g F L R 0 []∧Below w.heap.size w w'
theorem run_new (F L R:Int)(w:World)(hF:0≤F)(hL:0≤L)(hR:0≤R)(h1:mayB F L R=true) :
  Calls Tryz.prog 83 #[.agg #[.int .u64 F,.int .u64 L,.int .u64 R]] w (Made w F L R):=by
 have hal:=(Below.refl w.heap.size w).alloc (Nat.le_refl _) (.cells #[.int .u64 F,.int .u64 L,.int .u64 R] 30)
 have nb:=Blk.new w 30 #[.int .u64 F,.int .u64 L,.int .u64 R]
 have nl:=nb.lt
 have HN:=Lib.hid nb;have H:=Lib.hid h1
 clear nb h1
 by_cases h2:R < F
 ·go_enter Tryz.func83,Tryz.ntmps83
  go_wp2_with (first
   | (go_at_call 82;refine (may_any F L R _ hL).mono ?_;rintro e w1 ⟨rfl,hb1⟩;rw [H.out];have n1:=HN.out.below hb1 nl;have a0:=n1.cell 0;have a1:=n1.cell 1;have a2:=n1.cell 2;simp only [lTA,lCZ,lCS] at a0 a1 a2)
   | (go_at_call 118;refine (bnew_ok F L R _ hF hL hR H.out h2).mono ?_;rintro e w2 ⟨g,rfl,hg,hB,hb2⟩;have HB:=Lib.hid hB;clear hB;have n2:=n1.below hb2 n1.lt;have b0:=n2.cell 0;have b1:=n2.cell 1;have b2:=n2.cell 2;simp only [lTA,lCZ,lCS] at b0 b1 b2))
  have hb3:Below w.heap.size w w2:=(hal.trans (hb1.mono hal.size)).trans (hb2.mono (Nat.le_trans hal.size hb1.size))
  go_ret
  have hal2:=(Below.refl w2.heap.size w2).alloc (Nat.le_refl _) (.cells #[.int .u64 F,.int .u64 L,.int .u64 R,ifB g] 176)
  exact⟨w2.heap.size,g,rfl,Nat.le_trans (Nat.le_trans hal.size hb1.size) hg,.inl ⟨Blk.new _ _ _,HB.out.below hal2,HB.out.lt⟩,hb3.trans (hal2.mono hb3.size)⟩
 ·have h2':F≤R:=by omega
  go_enter Tryz.func83,Tryz.ntmps83
  go_wp2_with (first
   | (go_at_call 82;refine (may_any F L R _ hL).mono ?_;rintro e w1 ⟨rfl,hb1⟩;rw [H.out];have n1:=HN.out.below hb1 nl;have a0:=n1.cell 0;have a1:=n1.cell 1;have a2:=n1.cell 2;simp only [lTA,lCZ,lCS] at a0 a1 a2)
   | (go_at_call 118;refine (bnew_no F L R _ hL H.out h2').mono ?_;rintro e w2 ⟨rfl,hb2⟩;have n2:=n1.below hb2 n1.lt;have b0:=n2.cell 0;have b1:=n2.cell 1;have b2:=n2.cell 2;simp only [lTA,lCZ,lCS] at b0 b1 b2)
   | (go_at_call 119;refine (live_new _ hF hL hR H.out h2').mono ?_;rintro e w3 ⟨g,rfl,hg,hB,hb3⟩;have HB:=Lib.hid hB;clear hB;have n3:=n2.below hb3 n2.lt;have d0:=n3.cell 0;have d1:=n3.cell 1;have d2:=n3.cell 2;simp only [lTA,lCZ,lCS] at d0 d1 d2))
  have hb4:Below w.heap.size w w2:=(hal.trans (hb1.mono hal.size)).trans (hb2.mono (Nat.le_trans hal.size hb1.size))
  have hb5:Below w.heap.size w w3:=hb4.trans (hb3.mono hb4.size)
  go_ret
  have hal2:=(Below.refl w3.heap.size w3).alloc (Nat.le_refl _) (.cells #[.int .u64 F,.int .u64 L,.int .u64 R,ifS g] 176)
  exact⟨w3.heap.size,g,rfl,Nat.le_trans hb4.size hg,.inr ⟨Blk.new _ _ _,⟨_,HB.out.below hal2⟩,HB.out.lt⟩,hb5.trans (hal2.mono hb5.size)⟩
end
end Go.Proofs.YtmmeopjemkjllaaGreat
