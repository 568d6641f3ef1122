/- Lemmas of the claim. No conditions beyond those that each states. -/
import Derived.Test.YtmmeopjemkjllaaGreatPT28
set_option linter.unusedVariables false
set_option linter.unusedSimpArgs false
set_option maxRecDepth 100000
set_option maxHeartbeats 8000000
namespace Go.Proofs.YtmmeopjemkjllaaGreat
section
open Go.RowKit
attribute [local go_sem ↓] Go.wp_at_zero Go.wp_at_succ
attribute [local go_sem] quietR quietAtR quietUponR midAt midUpon plain plainUpon
def NewTW (w:World)(e:Ending)(w':World):Prop:=∃ g,e=.returned (.pointer (some ⟨g,0,none⟩))∧w.heap.size≤g∧RbT w' g .nil∧Below w.heap.size w w'
theorem rbnew_any (w:World):Calls Tryz.prog 77 #[.func (.func 78) #[] #[],.func (.func 79) #[] #[]] w (NewTW w):=by
 have hn0:=own_nil;have hn1:=lesser_nil
 go_enter Tryz.func77,Tryz.ntmps77
 go_wp2
 have hb:=Blk.new w 165 (treeC (.pointer none) 0)
 go_ret
 exact⟨_,rfl,Nat.le_refl _,⟨hb,trivial,List.nodup_nil,Well.nil⟩,(Below.refl _ _).alloc (Nat.le_refl _) _⟩
theorem RBAt.aside {W:World} {t:RB} {g o:Nat} {u:Value} (h:RBAt W t)(hg:g ∉ addrs t):RBAt (W.setCell ⟨g,o,none⟩ u) t:=h.kept fun q hq=>Below.heap_setCell _ ⟨g,o,none⟩ _ q fun e=>hg ((show q=g from e) ▸ hq)
theorem RBAt.paint {W:World} {a:Nat} {k:Ky} {v:Int} {s:Ky} {c:Bool} {l r:RB} (h:RBAt W (.node a k v s c l r))(hn:(addrs (.node a k v s c l r)).Nodup)(b:Bool):RBAt (W.setCell ⟨a,5,none⟩ (.bool b)) (.node a k v s b l r):=by
 simp only [addrs,List.nodup_cons,List.mem_append,not_or] at hn
 exact⟨h.1.set_ 5 (.bool b),h.2.1.aside hn.1.1,h.2.2.aside hn.1.2⟩
def ownR (g:Nat)(t:RB)(b:Nat):Prop:=b=g∨b∈addrs t
def PutTW (w:World)(g:Nat)(t:RB)(k:Ky)(v:Int)(e:Ending)(w':World):Prop :=
 ∃ t',e=.returned (.int .i64 0)∧RbT w' g t'∧listT t'=insE (listT t) (k,v)∧(∀ b∈addrs t',b∈addrs t∨w.heap.size≤b)∧Fr (ownR g t) w w'
theorem rbput_any (g:Nat)(t:RB)(k:Ky)(v:Int)(w:World)(h:RbT w g t)(hn:∀ z∈listT t,z.1≠k)(hfew:(listT t).length < 1000000) :
  Calls Tryz.prog 123 #[.pointer (some ⟨g,0,none⟩),.agg #[.int .u64 k.1,.int .i64 k.2],.int .u64 v] w (PutTW w g t k v):=by
 have hb0:=(Below.refl w.heap.size w).alloc (Nat.le_refl _) (.cells #[.int .u64 k.1,.int .i64 k.2] 147)
 have hk0:=Blk.new w 147 #[.int .u64 k.1,.int .i64 k.2]
 have hfind:findT k t=.nil:=by
  rcases find_ok k t h.well.2.2.2 with ⟨a,v',s,c,l,r,h1,h2⟩ | ⟨h1,_⟩
  ·exact absurd rfl (hn _ h2)
  ·exact h1
 obtain⟨kb,hkb⟩:∃ q,q=w.heap.size:=⟨_,rfl⟩
 rw [← hkb] at hk0
 have hnone:=none_any g _ _ _ (h.tree.below hb0 h.tree.lt)
 have H0:=Lib.hid (And.intro (h.later hb0) (And.intro hk0 hb0))
 have HKB:=Lib.hid hkb
 have HF:=Lib.hid (And.intro hfind (And.intro hn hfew))
 have hwrap:IntKind.i64.wrap ((((listT t).length:Nat):Int)+1)=(((listT t).length:Nat):Int)+1:=by rw [IntKind.wrap_i64];omega
 clear h hn hfew hb0 hk0 hkb hfind
 go_enter Tryz.func123,Tryz.ntmps123
 go_wp2_with fail
 refine hnone.mono ?_
 clear hnone
 rintro e w1 ⟨rfl,rfl⟩
 rw [← HKB.out]
 generalize w.alloc (.cells #[.int .u64 k.1,.int .i64 k.2] 147)=W1 at H0 ⊢
 have ok0:=H0.out.2.1.cell 0;have ok1:=H0.out.2.1.cell 1
 simp only [lTA,lCZ,lCS] at ok0 ok1
 have hat:=rbat_any g k _ t W1 H0.out.1.tree H0.out.1.rb
 unfold AtW at hat
 rw [HF.out.1] at hat
 have ev:ptrV .nil=.pointer none:=rfl
 rw [ev] at hat
 go_wp2_with fail
 refine hat.mono ?_
 clear hat ok0 ok1 ev
 rintro e W2 ⟨rfl,hb2⟩
 have H2:=Lib.hid (And.intro (H0.out.1.later hb2) (And.intro (H0.out.2.1.below hb2 H0.out.2.1.lt) (H0.out.2.2.trans (hb2.mono H0.out.2.2.size))))
 clear hb2 H0
 go_upto_region 5 with fail
 have og:=fun e=>(over_cell (w:=W2) (e:=e) (o:=2) H2.out.1.tree.lt).trans (H2.out.1.tree.cell 2)
 have ok0:=fun e=>(over_cell (w:=W2) (e:=e) (o:=0) H2.out.2.1.lt).trans (H2.out.2.1.cell 0)
 have ok1:=fun e=>(over_cell (w:=W2) (e:=e) (o:=1) H2.out.2.1.lt).trans (H2.out.2.1.cell 1)
 unfold treeC at og
 simp only [lTA,lCZ,lCS] at og ok0 ok1
 refine wp_region_late (w:=W2) 8 4 0 [] [] [] rfl (by kernel_rfl) (by kernel_rfl) (by kernel_rfl) (by kernel_rfl) (fun _ _ _ _ _ h=>h) trivial ?_
 intro LL hL
 have HL:=Lib.hid hL
 clear hL
 simp only [List.take_succ_cons,List.take_zero,putL]
 iterate 8 (first | refine wpHead_skip (by decide) ?_ | (refine wpHead_step (by decide) (fun K hK=>?_);go_simp;(refine hK _ ?_;clear hK K)))
 refine wpHead_nil (HL.out _ trivial ?_)
 intro vs W3 hb3 hf
 clear hf HL
 change wpList _ _ _ _ _ _
 simp only [List.drop_succ_cons,List.drop_zero,List.take_succ_cons,List.take_zero,putHd]
 have H3:=Lib.hid (And.intro (H2.out.1.later hb3) (H2.out.2.2.trans (hb3.mono H2.out.2.2.size)))
 clear og ok0 ok1 hb3 H2
 have hput:=put_any g _ _ k v t W3 H3.out.1.tree H3.out.1.rb H3.out.1.nd (fun a=>by obtain⟨t',h1,_⟩:=H3.out.1.well.put a k v HF.out.2.1;exact⟨t',h1⟩)
 go_wp2_with fail
 refine hput.mono ?_
 clear hput
 rintro e W4 ⟨a,t',rfl,ha,hp,hr4,hf4⟩
 obtain⟨t1,e1,hne,hwell,hlist,hperm⟩:=H3.out.1.well.put a k v HF.out.2.1
 obtain rfl:t1=t':=Option.some.inj (e1.symm.trans hp)
 clear e1
 obtain⟨a1,k1,v1,s1,c1,l1,r1,rfl⟩:=node_of hne
 have ev:ptrV (.node a1 k1 v1 s1 c1 l1 r1)=.pointer (some ⟨a1,0,none⟩):=rfl
 have hg4:=H3.out.1.tree.fr hf4 H3.out.1.far
 have hga:g≠a1:=fun e=>RBAt.typed hg4 (by decide) hr4 (e ▸ .head _)
 have hnd4:(addrs (.node a1 k1 v1 s1 c1 l1 r1)).Nodup:=by
  have hp2:(addrs (.node a1 k1 v1 s1 c1 l1 r1)).Perm (a :: addrs t):=hperm
  refine hp2.nodup_iff.2 (List.nodup_cons.2 ⟨fun hm=>?_,H3.out.1.nd⟩)
  have:=H3.out.1.rb.lt a hm
  omega
 have hgn:g ∉ addrs (.node a1 k1 v1 s1 c1 l1 r1):=RBAt.typed hg4 (by decide) hr4
 have hg5:=hg4.set_ 2 (.pointer (some ⟨a1,0,none⟩))
 have hr5:=hr4.aside (o:=2) (u:=.pointer (some ⟨a1,0,none⟩)) hgn
 have hg6:=hg5.far (p:=⟨a1,5,none⟩) hga (.bool false)
 have hr6:=hr5.paint hnd4 false
 have hg7:=hg6.set_ 3 (.int .i64 ((((listT t).length:Nat):Int)+1))
 have hr7:=hr6.aside (o:=3) (u:=.int .i64 ((((listT t).length:Nat):Int)+1)) hgn
 have hlen:(listT (.node a1 k1 v1 s1 false l1 r1)).length=(listT t).length+1:=by
  have:listT (.node a1 k1 v1 s1 false l1 r1)=insE (listT t) (k,v):=hlist
  rw [this,ins_length]
 have hf7:Fr (ownR g t) w ((((W4.setCell ⟨g,2,none⟩ (.pointer (some ⟨a1,0,none⟩))).setCell ⟨a1,5,none⟩ (.bool false))).setCell ⟨g,3,none⟩ (.int .i64 ((((listT t).length:Nat):Int)+1))):=by
  have f1:Fr (ownR g t) w W3:=Fr.of_below H3.out.2
  have f2:Fr (ownR g t) w W4:=f1.trans (hf4.weak fun b _ hb=>.inr hb)
  have f3:Fr (ownR g t) w (W4.setCell ⟨g,2,none⟩ (.pointer (some ⟨a1,0,none⟩))):=f2.trans (Fr.set (.inl rfl))
  have ho:ownR g t a1∨w.heap.size≤a1:=by
   have hp2:(addrs (.node a1 k1 v1 s1 c1 l1 r1)).Perm (a :: addrs t):=hperm
   rcases List.mem_cons.1 (hp2.mem_iff.1 (.head _)) with e | hm
   ·exact .inr (by have:=H3.out.2.size;omega)
   ·exact .inl (.inr hm)
  have f4:Fr (ownR g t) w ((W4.setCell ⟨g,2,none⟩ (.pointer (some ⟨a1,0,none⟩))).setCell ⟨a1,5,none⟩ (.bool false)):=by
   rcases ho with ho | ho
   ·exact f3.trans (Fr.set ho)
   ·exact⟨f3.os,f3.tape,f3.output,by simpa using f3.size,fun b hb hn=>(Below.heap_setCell _ ⟨a1,5,none⟩ _ b (by show b≠a1;omega)).trans (f3.block b hb hn)⟩
  exact f4.trans (Fr.set (.inl rfl))
 have hsub:∀ b∈addrs (.node a1 k1 v1 s1 false l1 r1),b∈addrs t∨w.heap.size≤b:=fun b hb=>by
  have hp2:(addrs (.node a1 k1 v1 s1 c1 l1 r1)).Perm (a :: addrs t):=hperm
  rcases List.mem_cons.1 (hp2.mem_iff.1 hb) with e | hm
  ·exact .inr (by have:=H3.out.2.size;omega)
  ·exact .inl hm
 have hfin:RbT ((((W4.setCell ⟨g,2,none⟩ (.pointer (some ⟨a1,0,none⟩))).setCell ⟨a1,5,none⟩ (.bool false))).setCell ⟨g,3,none⟩ (.int .i64 ((((listT t).length:Nat):Int)+1))) g (.node a1 k1 v1 s1 false l1 r1):=by
  refine⟨?_,hr7,hnd4,hwell⟩
  rw [hlen]
  exact hg7
 have HFIN:=Lib.hid (And.intro hfin (And.intro hlist (And.intro hsub hf7)))
 rw [ev]
 have c2:=hg4.cell 2;have f2:=hg4.frozen 2
 have d2:=hg5.cell 2
 have n5:=hr5.1.cell 5;have fn5:=hr5.1.frozen 5
 have m3:=hg6.cell 3;have fm3:=hg6.frozen 3
 unfold treeC at c2 d2 m3
 unfold nodeC at n5
 simp at c2 d2 n5 m3
 clear hg4 hr4 hf4 hne hwell hlist hperm hga ev hnd4 hgn hg5 hr5 hg6 hr6 hg7 hr7 hlen hf7 hsub hfin hp
 go_upto_region 6 with fail
 generalize W4.setCell ⟨g,2,none⟩ (.pointer (some ⟨a1,0,none⟩))=W5 at *
 go_upto_region 7 with fail
 generalize W5.setCell ⟨a1,5,none⟩ (.bool false)=W6 at *
 go_wp2_with fail
 go_ret
 exact⟨_,rfl,HFIN.out⟩
def DropTW (w:World)(g:Nat)(t:RB)(k:Ky)(e:Ending)(w':World):Prop :=
 ∃ t',e=.returned (.int .i64 0)∧RbT w' g t'∧listT t'=delE (listT t) k∧(∀ b∈addrs t',b∈addrs t)∧Fr (ownR g t) w w'
theorem delE_length {L:List En} (h:SortE L) {x:Ky} {v:Int} (hx:(x,v)∈L):(delE L x).length+1=L.length:=by
 induction L with
 | nil=>cases hx
 | cons z L ih =>
  have hp:=List.pairwise_cons.1 h
  by_cases hz:z.1=x
  ·obtain⟨zk,zv⟩:=z
   dsimp only at hz
   subst hz
   rw [delE_cons_same,delE_not fun e he=>(lessK_ne (hp.1 e he)).symm]
   rfl
  ·rw [delE_cons_other _ hz]
   rcases List.mem_cons.1 hx with e | hx
   ·exact absurd (by rw [← e]) hz
   ·simp only [List.length_cons]
    have:=ih hp.2 hx
    omega
theorem rbdrop_any (g:Nat)(t:RB)(x:Ky)(v:Int)(w:World)(h:RbT w g t)(hx:(x,v)∈listT t)(hfew:(listT t).length < 1000000) :
  Calls Tryz.prog 124 #[.pointer (some ⟨g,0,none⟩),.agg #[.int .u64 x.1,.int .i64 x.2]] w (DropTW w g t x):=by
 have hfind:∃ a s c l r v',findT x t=.node a x v' s c l r:=by
  rcases find_ok x t h.well.2.2.2 with ⟨a,v',s,c,l,r,h1,h2⟩ | ⟨_,h1⟩
  ·exact⟨a,s,c,l,r,v',h1⟩
  ·exact absurd rfl (h1 _ hx)
 obtain⟨fa,fs,fc,fl,fr,fv,hfind⟩:=hfind
 cases t with
 | nil=>cases hx
 | node a k1 v1 s1 c1 l r =>
 obtain rfl:c1=false:=h.well.1
 obtain⟨t',hd⟩:=h.well.drop x ⟨v,hx⟩
 have hlen:=delE_length h.well.2.2.2 hx
 have hb0:=(Below.refl w.heap.size w).alloc (Nat.le_refl _) (.cells #[.int .u64 x.1,.int .i64 x.2] 147)
 have hk0:=Blk.new w 147 #[.int .u64 x.1,.int .i64 x.2]
 obtain⟨kb,hkb⟩:∃ q,q=w.heap.size:=⟨_,rfl⟩
 rw [← hkb] at hk0
 have hnone:=none_any g _ _ _ (h.tree.below hb0 h.tree.lt)
 have H0:=Lib.hid (And.intro (h.later hb0) (And.intro hk0 hb0))
 have HKB:=Lib.hid hkb
 have HX:=Lib.hid (And.intro hfind (And.intro hlen hfew))
 have HD0:=Lib.hid hd
 have hwrap:IntKind.i64.wrap ((((listT (.node a k1 v1 s1 false l r)).length:Nat):Int) - 1)=(((listT (.node a k1 v1 s1 false l r)).length:Nat):Int) - 1:=by rw [IntKind.wrap_i64];omega
 clear h hfew hb0 hk0 hkb hfind hlen hd hx
 go_enter Tryz.func124,Tryz.ntmps124
 go_wp2_with fail
 refine hnone.mono ?_
 clear hnone
 rintro e w1 ⟨rfl,rfl⟩
 rw [← HKB.out]
 generalize w.alloc (.cells #[.int .u64 x.1,.int .i64 x.2] 147)=W1 at H0 ⊢
 have ok0:=H0.out.2.1.cell 0;have ok1:=H0.out.2.1.cell 1
 simp only [lTA,lCZ,lCS] at ok0 ok1
 have hat:=rbat_any g x _ _ W1 H0.out.1.tree H0.out.1.rb
 unfold AtW at hat
 rw [HX.out.1] at hat
 have ev:ptrV (.node fa x fv fs fc fl fr)=.pointer (some ⟨fa,0,none⟩):=rfl
 rw [ev] at hat
 go_wp2_with fail
 refine hat.mono ?_
 clear hat ok0 ok1 ev
 rintro e W2 ⟨rfl,hb2⟩
 have H2:=Lib.hid (And.intro (H0.out.1.later hb2) (And.intro (H0.out.2.1.below hb2 H0.out.2.1.lt) (H0.out.2.2.trans (hb2.mono H0.out.2.2.size))))
 clear hb2 H0
 go_upto_region 5 with fail
 have c2:=H2.out.1.tree.cell 2
 have a6:=H2.out.1.rb.1.cell 6;have a7:=H2.out.1.rb.1.cell 7;have a5:=H2.out.1.rb.1.cell 5;have f5:=H2.out.1.rb.1.frozen 5
 have ev:ptrV (.node a k1 v1 s1 false l r)=.pointer (some ⟨a,0,none⟩):=rfl
 rw [ev] at c2
 unfold treeC at c2
 unfold nodeC at a5 a6 a7
 simp only [lTA,lCZ,lCS] at c2 a5 a6 a7
 have hisl:=is_any l W2 H2.out.1.rb.2.1
 have hisr:=is_any r W2 H2.out.1.rb.2.2
 clear ev
 by_cases hc:isR l=false∧isR r=false
 ·have hs:startT (.node a k1 v1 s1 false l r)=.node a k1 v1 s1 true l r:=by show (if isR l=false∧isR r=false then _ else _)=_;rw [if_pos hc];rfl
  rw [hc.1] at hisl
  rw [hc.2] at hisr
  clear hc
  go_wp2_with fail
  refine hisl.mono ?_
  clear hisl
  rintro e w2 ⟨rfl,rfl⟩
  go_wp2_with fail
  refine hisr.mono ?_
  clear hisr
  rintro e w2 ⟨rfl,rfl⟩
  go_upto_region 7 with fail
  have hd:=HD0.out
  rw [hs] at hd
  have hga:g≠a:=fun e=>H2.out.1.far (e ▸ .head _)
  have hka:kb≠a:=fun e=>RBAt.typed H2.out.2.1 (by decide) H2.out.1.rb (e ▸ .head _)
  have H3:=Lib.hid (And.intro (H2.out.1.tree.far (p:=⟨a,5,none⟩) hga (.bool true)) (And.intro (H2.out.1.rb.paint H2.out.1.nd true) (And.intro (H2.out.2.1.far (p:=⟨a,5,none⟩) hka (.bool true)) (And.intro H2.out.1.nd ((Fr.of_below H2.out.2.2).trans (Fr.set (S:=ownR g (.node a k1 v1 s1 false l r)) (b:=a) (o:=5) (u:=.bool true) (.inr (.head _))))))))
  generalize W2.setCell ⟨a,5,none⟩ (.bool true)=W3 at H3 ⊢
  clear c2 a6 a7 a5 f5 H2 HD0 hs hga hka
  have og:=fun e=>(over_cell (w:=W3) (e:=e) (o:=2) H3.out.1.lt).trans (H3.out.1.cell 2)
  have ok0:=fun e=>(over_cell (w:=W3) (e:=e) (o:=0) H3.out.2.2.1.lt).trans (H3.out.2.2.1.cell 0)
  have ok1:=fun e=>(over_cell (w:=W3) (e:=e) (o:=1) H3.out.2.2.1.lt).trans (H3.out.2.2.1.cell 1)
  unfold treeC at og
  simp only [lTA,lCZ,lCS] at og ok0 ok1
  refine wp_region_late (w:=W3) 7 4 0 [] [] [] rfl (by kernel_rfl) (by kernel_rfl) (by kernel_rfl) (by kernel_rfl) (fun _ _ _ _ _ h=>h) trivial ?_
  intro LL hL
  have HL:=Lib.hid hL
  clear hL
  simp only [List.take_succ_cons,List.take_zero,putL]
  iterate 7 (first | refine wpHead_skip (by decide) ?_ | (refine wpHead_step (by decide) (fun K hK=>?_);go_simp;(refine hK _ ?_;clear hK K)))
  refine wpHead_nil (HL.out _ trivial ?_)
  intro vs W4 hb4 hf
  clear hf HL
  change wpList _ _ _ _ _ _
  simp only [List.drop_succ_cons,List.drop_zero,List.take_succ_cons,List.take_zero,putHd]
  have H4:=Lib.hid (And.intro (H3.out.1.below hb4 H3.out.1.lt) (And.intro (H3.out.2.1.later hb4) (And.intro H3.out.2.2.2.1 (H3.out.2.2.2.2.trans (Fr.of_below hb4)))))
  clear og ok0 ok1 hb4 H3
  have HD:=Lib.hid hd
  have hdr:=dropR_any g _ _ x _ _ t' W4 ⟨H4.out.1,H4.out.2.1,H4.out.2.2.1,fun _ h=>h,Fr.refl _ _⟩ HD.out.1
  have ev1:ptrV (.node a k1 v1 s1 true l r)=.pointer (some ⟨a,0,none⟩):=rfl
  rw [ev1] at hdr
  clear ev1 hd
  go_wp2_with fail
  refine hdr.mono ?_
  clear hdr
  rintro e W5 ⟨rfl,hr5,hf5⟩
  have hg5:=H4.out.1.fr hf5 (RBAt.typed H4.out.1 (by decide) H4.out.2.1)
  have hgn:g ∉ addrs t':=RBAt.typed hg5 (by decide) hr5
  obtain⟨hdd,hwell,hlist,b0,hperm⟩:=HD.out
  have hperm2:(addrs (.node a k1 v1 s1 true l r)).Perm (b0 :: addrs t'):=by have:=hperm;rw [(blackT_same t').2.1] at this;exact this
  have hnd5:(addrs t').Nodup:=(List.nodup_cons.1 (hperm2.nodup_iff.1 H4.out.2.2.1)).2
  have hsub:∀ b∈addrs t',b∈addrs (.node a k1 v1 s1 false l r):=fun b hb=>hperm2.mem_iff.2 (.tail _ hb)
  have hlen:(((listT (blackT t')).length:Nat):Int)=(((listT (.node a k1 v1 s1 false l r)).length:Nat):Int) - 1:=by
   have:=HX.out.2.1
   rw [hlist];omega
  have hf5':Fr (ownR g (.node a k1 v1 s1 false l r)) w W5:=H4.out.2.2.2.trans (hf5.weak fun b _ hb=>.inr hb)
  have hpos:=HX.out.2.2
  have HP:=Lib.hid hpos
  clear hperm hdd hf5 hpos HD H4
  cases t' with
  | nil =>
   have e1:ptrV .nil=.pointer none:=rfl
   rw [e1]
   have hg6:=(hg5.set_ 2 (.pointer none)).set_ 3 (.int .i64 ((((listT (.node a k1 v1 s1 false l r)).length:Nat):Int) - 1))
   have hfin:RbT ((W5.setCell ⟨g,2,none⟩ (.pointer none)).setCell ⟨g,3,none⟩ (.int .i64 ((((listT (.node a k1 v1 s1 false l r)).length:Nat):Int) - 1))) g .nil:=by
    refine⟨?_,trivial,List.nodup_nil,hwell⟩
    rw [show (((listT RB.nil).length:Nat):Int)=_ from hlen]
    exact hg6
   have HFIN:=Lib.hid (And.intro hfin (And.intro (show listT RB.nil=_ from hlist) (And.intro hsub ((hf5'.trans (Fr.set (o:=2) (u:=.pointer none) (.inl rfl))).trans (Fr.set (o:=3) (u:=.int .i64 ((((listT (.node a k1 v1 s1 false l r)).length:Nat):Int) - 1)) (.inl rfl))))))
   have c2:=hg5.cell 2;have f2:=hg5.frozen 2
   have d2:=(hg5.set_ 2 (.pointer none)).cell 2;have d3:=(hg5.set_ 2 (.pointer none)).cell 3;have fd3:=(hg5.set_ 2 (.pointer none)).frozen 3
   unfold treeC at c2 d2 d3
   simp at c2 d2 d3
   clear hg5 hr5 hgn hwell hlist hperm2 hnd5 hsub hlen hf5' hg6 hfin e1
   go_upto_region 8 with fail
   generalize W5.setCell ⟨g,2,none⟩ (.pointer none)=W6 at *
   go_wp2_with fail
   go_ret
   exact⟨_,rfl,HFIN.out⟩
  | node a2 k2 v2 s2 c2 l2 r2 =>
   have e1:ptrV (.node a2 k2 v2 s2 c2 l2 r2)=.pointer (some ⟨a2,0,none⟩):=rfl
   rw [e1]
   have hga:g≠a2:=fun e=>hgn (e ▸ .head _)
   have hg6:=hg5.set_ 2 (.pointer (some ⟨a2,0,none⟩))
   have hr6:=hr5.aside (o:=2) (u:=.pointer (some ⟨a2,0,none⟩)) hgn
   have hg7:=hg6.far (p:=⟨a2,5,none⟩) hga (.bool false)
   have hr7:=hr6.paint hnd5 false
   have hg8:=hg7.set_ 3 (.int .i64 ((((listT (.node a k1 v1 s1 false l r)).length:Nat):Int) - 1))
   have hr8:=hr7.aside (o:=3) (u:=.int .i64 ((((listT (.node a k1 v1 s1 false l r)).length:Nat):Int) - 1)) hgn
   have hfin:RbT (((W5.setCell ⟨g,2,none⟩ (.pointer (some ⟨a2,0,none⟩))).setCell ⟨a2,5,none⟩ (.bool false)).setCell ⟨g,3,none⟩ (.int .i64 ((((listT (.node a k1 v1 s1 false l r)).length:Nat):Int) - 1))) g (.node a2 k2 v2 s2 false l2 r2):=by
    refine⟨?_,hr8,hnd5,hwell⟩
    rw [show (((listT (.node a2 k2 v2 s2 false l2 r2)).length:Nat):Int)=_ from hlen]
    exact hg8
   have HFIN:=Lib.hid (And.intro hfin (And.intro (show listT (.node a2 k2 v2 s2 false l2 r2)=_ from hlist) (And.intro hsub (((hf5'.trans (Fr.set (o:=2) (u:=.pointer (some ⟨a2,0,none⟩)) (.inl rfl))).trans (Fr.set (b:=a2) (o:=5) (u:=.bool false) (.inr (hsub a2 (.head _))))).trans (Fr.set (o:=3) (u:=.int .i64 ((((listT (.node a k1 v1 s1 false l r)).length:Nat):Int) - 1)) (.inl rfl))))))
   have x2:=hg5.cell 2;have f2:=hg5.frozen 2
   have d2:=hg6.cell 2
   have n5:=hr6.1.cell 5;have fn5:=hr6.1.frozen 5
   have m3:=hg7.cell 3;have fm3:=hg7.frozen 3
   unfold treeC at x2 d2 m3
   unfold nodeC at n5
   simp at x2 d2 n5 m3
   clear hg5 hr5 hgn hwell hlist hperm2 hnd5 hsub hlen hf5' hg6 hr6 hg7 hr7 hg8 hr8 hfin e1 hga
   go_upto_region 8 with fail
   generalize W5.setCell ⟨g,2,none⟩ (.pointer (some ⟨a2,0,none⟩))=W6 at *
   go_upto_region 10 with fail
   generalize W6.setCell ⟨a2,5,none⟩ (.bool false)=W7 at *
   go_wp2_with fail
   go_ret
   exact⟨_,rfl,HFIN.out⟩
 ·have hs:startT (.node a k1 v1 s1 false l r)=.node a k1 v1 s1 false l r:=by show (if isR l=false∧isR r=false then _ else _)=_;rw [if_neg hc]
  have hd:=HD0.out
  rw [hs] at hd
  have H3:=Lib.hid (And.intro H2.out.1.tree (And.intro H2.out.1.rb (And.intro H2.out.2.1 (And.intro H2.out.1.nd (Fr.of_below (S:=ownR g (.node a k1 v1 s1 false l r)) H2.out.2.2)))))
  obtain⟨W3,hW3⟩:∃ W,W=W2:=⟨_,rfl⟩
  have HD1:=Lib.hid hd
  clear hd
  have hor:isR l=true∨(isR l=false∧isR r=true):=by
   cases e1:isR l
   ·cases e2:isR r
    ·exact absurd ⟨e1,e2⟩ hc
    ·exact .inr ⟨rfl,rfl⟩
   ·exact .inl rfl
  clear hc hs HD0 H2
  rcases hor with h1 | ⟨h1,h2⟩
  ·rw [h1] at hisl
   clear hisr h1
   go_wp2_with fail
   refine hisl.mono ?_
   clear hisl
   rintro e w2 ⟨rfl,rfl⟩
   go_upto_region 7 with fail
   have hd:=HD1.out
   rw [← hW3] at H3 ⊢
   clear hW3 c2 a6 a7 a5 f5 HD1
   have og:=fun e=>(over_cell (w:=W3) (e:=e) (o:=2) H3.out.1.lt).trans (H3.out.1.cell 2)
   have ok0:=fun e=>(over_cell (w:=W3) (e:=e) (o:=0) H3.out.2.2.1.lt).trans (H3.out.2.2.1.cell 0)
   have ok1:=fun e=>(over_cell (w:=W3) (e:=e) (o:=1) H3.out.2.2.1.lt).trans (H3.out.2.2.1.cell 1)
   unfold treeC at og
   simp only [lTA,lCZ,lCS] at og ok0 ok1
   refine wp_region_late (w:=W3) 7 4 0 [] [] [] rfl (by kernel_rfl) (by kernel_rfl) (by kernel_rfl) (by kernel_rfl) (fun _ _ _ _ _ h=>h) trivial ?_
   intro LL hL
   have HL:=Lib.hid hL
   clear hL
   simp only [List.take_succ_cons,List.take_zero,putL]
   iterate 7 (first | refine wpHead_skip (by decide) ?_ | (refine wpHead_step (by decide) (fun K hK=>?_);go_simp;(refine hK _ ?_;clear hK K)))
   refine wpHead_nil (HL.out _ trivial ?_)
   intro vs W4 hb4 hf
   clear hf HL
   change wpList _ _ _ _ _ _
   simp only [List.drop_succ_cons,List.drop_zero,List.take_succ_cons,List.take_zero,putHd]
   have H4:=Lib.hid (And.intro (H3.out.1.below hb4 H3.out.1.lt) (And.intro (H3.out.2.1.later hb4) (And.intro H3.out.2.2.2.1 (H3.out.2.2.2.2.trans (Fr.of_below hb4)))))
   clear og ok0 ok1 hb4 H3
   have HD:=Lib.hid hd
   have hdr:=dropR_any g _ _ x _ _ t' W4 ⟨H4.out.1,H4.out.2.1,H4.out.2.2.1,fun _ h=>h,Fr.refl _ _⟩ HD.out.1
   have ev1:ptrV (.node a k1 v1 s1 false l r)=.pointer (some ⟨a,0,none⟩):=rfl
   rw [ev1] at hdr
   clear ev1 hd
   go_wp2_with fail
   refine hdr.mono ?_
   clear hdr
   rintro e W5 ⟨rfl,hr5,hf5⟩
   have hg5:=H4.out.1.fr hf5 (RBAt.typed H4.out.1 (by decide) H4.out.2.1)
   have hgn:g ∉ addrs t':=RBAt.typed hg5 (by decide) hr5
   obtain⟨hdd,hwell,hlist,b0,hperm⟩:=HD.out
   have hperm2:(addrs (.node a k1 v1 s1 false l r)).Perm (b0 :: addrs t'):=by have:=hperm;rw [(blackT_same t').2.1] at this;exact this
   have hnd5:(addrs t').Nodup:=(List.nodup_cons.1 (hperm2.nodup_iff.1 H4.out.2.2.1)).2
   have hsub:∀ b∈addrs t',b∈addrs (.node a k1 v1 s1 false l r):=fun b hb=>hperm2.mem_iff.2 (.tail _ hb)
   have hlen:(((listT (blackT t')).length:Nat):Int)=(((listT (.node a k1 v1 s1 false l r)).length:Nat):Int) - 1:=by
    have:=HX.out.2.1
    rw [hlist];omega
   have hf5':Fr (ownR g (.node a k1 v1 s1 false l r)) w W5:=H4.out.2.2.2.trans (hf5.weak fun b _ hb=>.inr hb)
   have hpos:=HX.out.2.2
   have HP:=Lib.hid hpos
   clear hperm hdd hf5 hpos HD H4
   cases t' with
   | nil =>
    have e1:ptrV .nil=.pointer none:=rfl
    rw [e1]
    have hg6:=(hg5.set_ 2 (.pointer none)).set_ 3 (.int .i64 ((((listT (.node a k1 v1 s1 false l r)).length:Nat):Int) - 1))
    have hfin:RbT ((W5.setCell ⟨g,2,none⟩ (.pointer none)).setCell ⟨g,3,none⟩ (.int .i64 ((((listT (.node a k1 v1 s1 false l r)).length:Nat):Int) - 1))) g .nil:=by
     refine⟨?_,trivial,List.nodup_nil,hwell⟩
     rw [show (((listT RB.nil).length:Nat):Int)=_ from hlen]
     exact hg6
    have HFIN:=Lib.hid (And.intro hfin (And.intro (show listT RB.nil=_ from hlist) (And.intro hsub ((hf5'.trans (Fr.set (o:=2) (u:=.pointer none) (.inl rfl))).trans (Fr.set (o:=3) (u:=.int .i64 ((((listT (.node a k1 v1 s1 false l r)).length:Nat):Int) - 1)) (.inl rfl))))))
    have c2:=hg5.cell 2;have f2:=hg5.frozen 2
    have d2:=(hg5.set_ 2 (.pointer none)).cell 2;have d3:=(hg5.set_ 2 (.pointer none)).cell 3;have fd3:=(hg5.set_ 2 (.pointer none)).frozen 3
    unfold treeC at c2 d2 d3
    simp at c2 d2 d3
    clear hg5 hr5 hgn hwell hlist hperm2 hnd5 hsub hlen hf5' hg6 hfin e1
    go_upto_region 8 with fail
    generalize W5.setCell ⟨g,2,none⟩ (.pointer none)=W6 at *
    go_wp2_with fail
    go_ret
    exact⟨_,rfl,HFIN.out⟩
   | node a2 k2 v2 s2 c2 l2 r2 =>
    have e1:ptrV (.node a2 k2 v2 s2 c2 l2 r2)=.pointer (some ⟨a2,0,none⟩):=rfl
    rw [e1]
    have hga:g≠a2:=fun e=>hgn (e ▸ .head _)
    have hg6:=hg5.set_ 2 (.pointer (some ⟨a2,0,none⟩))
    have hr6:=hr5.aside (o:=2) (u:=.pointer (some ⟨a2,0,none⟩)) hgn
    have hg7:=hg6.far (p:=⟨a2,5,none⟩) hga (.bool false)
    have hr7:=hr6.paint hnd5 false
    have hg8:=hg7.set_ 3 (.int .i64 ((((listT (.node a k1 v1 s1 false l r)).length:Nat):Int) - 1))
    have hr8:=hr7.aside (o:=3) (u:=.int .i64 ((((listT (.node a k1 v1 s1 false l r)).length:Nat):Int) - 1)) hgn
    have hfin:RbT (((W5.setCell ⟨g,2,none⟩ (.pointer (some ⟨a2,0,none⟩))).setCell ⟨a2,5,none⟩ (.bool false)).setCell ⟨g,3,none⟩ (.int .i64 ((((listT (.node a k1 v1 s1 false l r)).length:Nat):Int) - 1))) g (.node a2 k2 v2 s2 false l2 r2):=by
     refine⟨?_,hr8,hnd5,hwell⟩
     rw [show (((listT (.node a2 k2 v2 s2 false l2 r2)).length:Nat):Int)=_ from hlen]
     exact hg8
    have HFIN:=Lib.hid (And.intro hfin (And.intro (show listT (.node a2 k2 v2 s2 false l2 r2)=_ from hlist) (And.intro hsub (((hf5'.trans (Fr.set (o:=2) (u:=.pointer (some ⟨a2,0,none⟩)) (.inl rfl))).trans (Fr.set (b:=a2) (o:=5) (u:=.bool false) (.inr (hsub a2 (.head _))))).trans (Fr.set (o:=3) (u:=.int .i64 ((((listT (.node a k1 v1 s1 false l r)).length:Nat):Int) - 1)) (.inl rfl))))))
    have x2:=hg5.cell 2;have f2:=hg5.frozen 2
    have d2:=hg6.cell 2
    have n5:=hr6.1.cell 5;have fn5:=hr6.1.frozen 5
    have m3:=hg7.cell 3;have fm3:=hg7.frozen 3
    unfold treeC at x2 d2 m3
    unfold nodeC at n5
    simp at x2 d2 n5 m3
    clear hg5 hr5 hgn hwell hlist hperm2 hnd5 hsub hlen hf5' hg6 hr6 hg7 hr7 hg8 hr8 hfin e1 hga
    go_upto_region 8 with fail
    generalize W5.setCell ⟨g,2,none⟩ (.pointer (some ⟨a2,0,none⟩))=W6 at *
    go_upto_region 10 with fail
    generalize W6.setCell ⟨a2,5,none⟩ (.bool false)=W7 at *
    go_wp2_with fail
    go_ret
    exact⟨_,rfl,HFIN.out⟩
  ·rw [h1] at hisl
   rw [h2] at hisr
   clear h1 h2
   go_wp2_with fail
   refine hisl.mono ?_
   clear hisl
   rintro e w2 ⟨rfl,rfl⟩
   go_wp2_with fail
   refine hisr.mono ?_
   clear hisr
   rintro e w2 ⟨rfl,rfl⟩
   go_upto_region 7 with fail
   have hd:=HD1.out
   rw [← hW3] at H3 ⊢
   clear hW3 c2 a6 a7 a5 f5 HD1
   have og:=fun e=>(over_cell (w:=W3) (e:=e) (o:=2) H3.out.1.lt).trans (H3.out.1.cell 2)
   have ok0:=fun e=>(over_cell (w:=W3) (e:=e) (o:=0) H3.out.2.2.1.lt).trans (H3.out.2.2.1.cell 0)
   have ok1:=fun e=>(over_cell (w:=W3) (e:=e) (o:=1) H3.out.2.2.1.lt).trans (H3.out.2.2.1.cell 1)
   unfold treeC at og
   simp only [lTA,lCZ,lCS] at og ok0 ok1
   refine wp_region_late (w:=W3) 7 4 0 [] [] [] rfl (by kernel_rfl) (by kernel_rfl) (by kernel_rfl) (by kernel_rfl) (fun _ _ _ _ _ h=>h) trivial ?_
   intro LL hL
   have HL:=Lib.hid hL
   clear hL
   simp only [List.take_succ_cons,List.take_zero,putL]
   iterate 7 (first | refine wpHead_skip (by decide) ?_ | (refine wpHead_step (by decide) (fun K hK=>?_);go_simp;(refine hK _ ?_;clear hK K)))
   refine wpHead_nil (HL.out _ trivial ?_)
   intro vs W4 hb4 hf
   clear hf HL
   change wpList _ _ _ _ _ _
   simp only [List.drop_succ_cons,List.drop_zero,List.take_succ_cons,List.take_zero,putHd]
   have H4:=Lib.hid (And.intro (H3.out.1.below hb4 H3.out.1.lt) (And.intro (H3.out.2.1.later hb4) (And.intro H3.out.2.2.2.1 (H3.out.2.2.2.2.trans (Fr.of_below hb4)))))
   clear og ok0 ok1 hb4 H3
   have HD:=Lib.hid hd
   have hdr:=dropR_any g _ _ x _ _ t' W4 ⟨H4.out.1,H4.out.2.1,H4.out.2.2.1,fun _ h=>h,Fr.refl _ _⟩ HD.out.1
   have ev1:ptrV (.node a k1 v1 s1 false l r)=.pointer (some ⟨a,0,none⟩):=rfl
   rw [ev1] at hdr
   clear ev1 hd
   go_wp2_with fail
   refine hdr.mono ?_
   clear hdr
   rintro e W5 ⟨rfl,hr5,hf5⟩
   have hg5:=H4.out.1.fr hf5 (RBAt.typed H4.out.1 (by decide) H4.out.2.1)
   have hgn:g ∉ addrs t':=RBAt.typed hg5 (by decide) hr5
   obtain⟨hdd,hwell,hlist,b0,hperm⟩:=HD.out
   have hperm2:(addrs (.node a k1 v1 s1 false l r)).Perm (b0 :: addrs t'):=by have:=hperm;rw [(blackT_same t').2.1] at this;exact this
   have hnd5:(addrs t').Nodup:=(List.nodup_cons.1 (hperm2.nodup_iff.1 H4.out.2.2.1)).2
   have hsub:∀ b∈addrs t',b∈addrs (.node a k1 v1 s1 false l r):=fun b hb=>hperm2.mem_iff.2 (.tail _ hb)
   have hlen:(((listT (blackT t')).length:Nat):Int)=(((listT (.node a k1 v1 s1 false l r)).length:Nat):Int) - 1:=by
    have:=HX.out.2.1
    rw [hlist];omega
   have hf5':Fr (ownR g (.node a k1 v1 s1 false l r)) w W5:=H4.out.2.2.2.trans (hf5.weak fun b _ hb=>.inr hb)
   have hpos:=HX.out.2.2
   have HP:=Lib.hid hpos
   clear hperm hdd hf5 hpos HD H4
   cases t' with
   | nil =>
    have e1:ptrV .nil=.pointer none:=rfl
    rw [e1]
    have hg6:=(hg5.set_ 2 (.pointer none)).set_ 3 (.int .i64 ((((listT (.node a k1 v1 s1 false l r)).length:Nat):Int) - 1))
    have hfin:RbT ((W5.setCell ⟨g,2,none⟩ (.pointer none)).setCell ⟨g,3,none⟩ (.int .i64 ((((listT (.node a k1 v1 s1 false l r)).length:Nat):Int) - 1))) g .nil:=by
     refine⟨?_,trivial,List.nodup_nil,hwell⟩
     rw [show (((listT RB.nil).length:Nat):Int)=_ from hlen]
     exact hg6
    have HFIN:=Lib.hid (And.intro hfin (And.intro (show listT RB.nil=_ from hlist) (And.intro hsub ((hf5'.trans (Fr.set (o:=2) (u:=.pointer none) (.inl rfl))).trans (Fr.set (o:=3) (u:=.int .i64 ((((listT (.node a k1 v1 s1 false l r)).length:Nat):Int) - 1)) (.inl rfl))))))
    have c2:=hg5.cell 2;have f2:=hg5.frozen 2
    have d2:=(hg5.set_ 2 (.pointer none)).cell 2;have d3:=(hg5.set_ 2 (.pointer none)).cell 3;have fd3:=(hg5.set_ 2 (.pointer none)).frozen 3
    unfold treeC at c2 d2 d3
    simp at c2 d2 d3
    clear hg5 hr5 hgn hwell hlist hperm2 hnd5 hsub hlen hf5' hg6 hfin e1
    go_upto_region 8 with fail
    generalize W5.setCell ⟨g,2,none⟩ (.pointer none)=W6 at *
    go_wp2_with fail
    go_ret
    exact⟨_,rfl,HFIN.out⟩
   | node a2 k2 v2 s2 c2 l2 r2 =>
    have e1:ptrV (.node a2 k2 v2 s2 c2 l2 r2)=.pointer (some ⟨a2,0,none⟩):=rfl
    rw [e1]
    have hga:g≠a2:=fun e=>hgn (e ▸ .head _)
    have hg6:=hg5.set_ 2 (.pointer (some ⟨a2,0,none⟩))
    have hr6:=hr5.aside (o:=2) (u:=.pointer (some ⟨a2,0,none⟩)) hgn
    have hg7:=hg6.far (p:=⟨a2,5,none⟩) hga (.bool false)
    have hr7:=hr6.paint hnd5 false
    have hg8:=hg7.set_ 3 (.int .i64 ((((listT (.node a k1 v1 s1 false l r)).length:Nat):Int) - 1))
    have hr8:=hr7.aside (o:=3) (u:=.int .i64 ((((listT (.node a k1 v1 s1 false l r)).length:Nat):Int) - 1)) hgn
    have hfin:RbT (((W5.setCell ⟨g,2,none⟩ (.pointer (some ⟨a2,0,none⟩))).setCell ⟨a2,5,none⟩ (.bool false)).setCell ⟨g,3,none⟩ (.int .i64 ((((listT (.node a k1 v1 s1 false l r)).length:Nat):Int) - 1))) g (.node a2 k2 v2 s2 false l2 r2):=by
     refine⟨?_,hr8,hnd5,hwell⟩
     rw [show (((listT (.node a2 k2 v2 s2 false l2 r2)).length:Nat):Int)=_ from hlen]
     exact hg8
    have HFIN:=Lib.hid (And.intro hfin (And.intro (show listT (.node a2 k2 v2 s2 false l2 r2)=_ from hlist) (And.intro hsub (((hf5'.trans (Fr.set (o:=2) (u:=.pointer (some ⟨a2,0,none⟩)) (.inl rfl))).trans (Fr.set (b:=a2) (o:=5) (u:=.bool false) (.inr (hsub a2 (.head _))))).trans (Fr.set (o:=3) (u:=.int .i64 ((((listT (.node a k1 v1 s1 false l r)).length:Nat):Int) - 1)) (.inl rfl))))))
    have x2:=hg5.cell 2;have f2:=hg5.frozen 2
    have d2:=hg6.cell 2
    have n5:=hr6.1.cell 5;have fn5:=hr6.1.frozen 5
    have m3:=hg7.cell 3;have fm3:=hg7.frozen 3
    unfold treeC at x2 d2 m3
    unfold nodeC at n5
    simp at x2 d2 n5 m3
    clear hg5 hr5 hgn hwell hlist hperm2 hnd5 hsub hlen hf5' hg6 hr6 hg7 hr7 hg8 hr8 hfin e1 hga
    go_upto_region 8 with fail
    generalize W5.setCell ⟨g,2,none⟩ (.pointer (some ⟨a2,0,none⟩))=W6 at *
    go_upto_region 10 with fail
    generalize W6.setCell ⟨a2,5,none⟩ (.bool false)=W7 at *
    go_wp2_with fail
    go_ret
    exact⟨_,rfl,HFIN.out⟩
end
section
open Go.RowKit Go.Maps
attribute [local go_sem ↓] Go.wp_at_zero Go.wp_at_succ
attribute [local go_sem] quietR quietAtR quietUponR midAt midUpon plain plainUpon
theorem put_len_new {α:Type} {k:Int} (v:α):∀ {M:List (Int × α)},lookM M k=none→(putM M k v).length=M.length+1
 | [],_=>rfl
 | p :: r,h=>by
  unfold lookM at h
  split at h
  ·cases h
  ·rename_i hne
   unfold putM
   split
   ·rfl
   ·first | rw [if_neg hne] | skip
    simp only [List.length_cons,put_len_new v h]
theorem del_len {α:Type} {k:Int} {v:α}:∀ {M:List (Int × α)},Rising M→lookM M k=some v→(delM M k).length+1=M.length
 | [],_,h=>by cases h
 | p :: r,hr,h=>by
  have hp:=List.pairwise_cons.1 hr
  unfold lookM at h
  by_cases e:p.1=k
  ·have:delM (p :: r) k=r:=by
    unfold delM
    rw [List.filter_cons_of_neg (by simpa using e)]
    rw [List.filter_eq_self]
    intro x hx
    have:=hp.1 x hx
    simp only [Bool.not_eq_true',decide_eq_false_iff_not]
    omega
   rw [this];rfl
  ·rw [if_neg e] at h
   have:delM (p :: r) k=p :: delM r k:=by
    unfold delM
    rw [List.filter_cons_of_pos (by simpa using e)]
   rw [this]
   simp only [List.length_cons,del_len hp.2 h]
structure AugAt (w:World)(q g m:Nat)(t:RB)(M:List (Int × Ky)):Prop where
 aug:Blk w q 121 #[.pointer (some ⟨g,0,none⟩),.map (some m)]
 tr:RbT w g t
 map:MapI Tryz.prog 3 w m (mapV kyV M)
 inv:InvE (listT t)
 look:∀ i,lookM M i=(getE (listT t) i).map (·.1)
 len:M.length=(listT t).length
def ownA (q g m:Nat)(t:RB)(b:Nat):Prop:=b=q∨b=g∨b=m∨b∈addrs t
section
variable {w w' : World} {q g m : Nat} {t : RB} {M : List (Int × Ky)}
theorem AugAt.later (h:AugAt w q g m t M)(hb:Below w.heap.size w w'):AugAt w' q g m t M :=
 ⟨h.aug.below hb h.aug.lt,h.tr.later hb,h.map.heap (hb.block m h.map.lt),h.inv,h.look,h.len⟩
theorem AugAt.lt (h:AugAt w q g m t M):∀ b,ownA q g m t b→b < w.heap.size:=by
 rintro b (rfl | rfl | rfl | hb)
 ·exact h.aug.lt
 ·exact h.tr.tree.lt
 ·exact h.map.lt
 ·exact h.tr.rb.lt b hb
end
theorem blk_mapA {w:World} {g m:Nat} {t K:TypeId} {cs:Array Value} {N:List (Int × Value)} (h:Blk w g t cs)(hm:MapI Tryz.prog K w m N):g≠m:=by
 obtain⟨es,clock,h1,F,hs,hD⟩:=hm
 intro e
 subst e
 have:=h.symm.trans h1
 cases this
theorem node_mapA {w:World} {m:Nat} {K:TypeId} {N:List (Int × Value)} (hm:MapI Tryz.prog K w m N):∀ {t:RB},RBAt w t→m ∉ addrs t
 | .nil,_=>by intro h;cases h
 | .node b k v s c l r,h=>by
  intro hmm
  rcases List.mem_cons.1 hmm with rfl | hmm
  ·exact blk_mapA h.1 hm rfl
  ·rcases List.mem_append.1 hmm with hmm | hmm
   ·exact node_mapA hm h.2.1 hmm
   ·exact node_mapA hm h.2.2 hmm
theorem of_any (q g:Nat)(v:Value)(w:World)(h:Blk w q 121 #[.pointer (some ⟨g,0,none⟩),v]) :
  Calls Tryz.prog 97 #[.pointer (some ⟨q,0,none⟩)] w fun e w'=>e=.returned (.pointer (some ⟨g,0,none⟩))∧w=w':=by
 have c0:=h.cell 0
 simp only [lTA,lCZ,lCS] at c0
 clear h
 go_enter Tryz.func97,Tryz.ntmps97
 go_wp2
 go_ret
 exact⟨rfl,rfl⟩
def NewAW (w:World)(e:Ending)(w':World):Prop:=∃ q g m,e=.returned (.pointer (some ⟨q,0,none⟩))∧AugAt w' q g m .nil []∧Below w.heap.size w w'∧∀ b,ownA q g m .nil b→w.heap.size≤b
theorem augnew_any (w:World):Calls Tryz.prog 32 #[] w (NewAW w):=by
 have hmm:=@run_makeMap Tryz.prog
 have hnw:=rbnew_any w
 go_enter Tryz.func32,Tryz.ntmps32
 go_wp2_with fail
 refine hnw.mono ?_
 clear hnw
 rintro e w1 ⟨g,rfl,hg,hT,hb⟩
 have H:=Lib.hid (And.intro hg (And.intro hT hb))
 clear hg hT hb
 go_wp2_with fail
 go_ret
 have hm:=(MapI.made (P:=Tryz.prog) (K:=3) w1)
 have hb1:=(Below.refl w1.heap.size w1).alloc (Nat.le_refl _) (.map #[] 0)
 have hb2:=hb1.alloc (by simp) (.cells #[.pointer (some ⟨g,0,none⟩),.map (some w1.heap.size)] 121)
 have hq:=Blk.new (w1.alloc (.map #[] 0)) 121 #[.pointer (some ⟨g,0,none⟩),.map (some w1.heap.size)]
 rw [World.size_alloc] at hq
 refine⟨_,_,_,rfl,⟨hq,H.out.2.1.later hb2,hm.heap (Below.heap_alloc _ _ _ (by simp)),InvE.nil,fun _=>rfl,rfl⟩,H.out.2.2.trans (hb2.mono H.out.2.2.size),?_⟩
 have:=H.out.2.2.size
 rintro b (rfl | rfl | rfl | hb)
 ·omega
 ·exact H.out.1
 ·omega
 ·cases hb
theorem alen_any (q g m:Nat)(t:RB)(M:List (Int × Ky))(w:World)(h:AugAt w q g m t M) :
  Calls Tryz.prog 58 #[.pointer (some ⟨q,0,none⟩)] w fun e w'=>e=.returned (.int .i64 (listT t).length)∧w=w':=by
 have h1:=of_any q g _ w h.aug
 have h2:=rblen_any g t w h.tr
 clear h
 go_enter Tryz.func58,Tryz.ntmps58
 go_wp2_with fail
 refine h1.mono ?_
 clear h1
 rintro e w1 ⟨rfl,rfl⟩
 go_wp2_with fail
 refine h2.mono ?_
 clear h2
 rintro e w1 ⟨rfl,rfl⟩
 go_wp2_with fail
 go_ret
 exact⟨rfl,rfl⟩
end
section
open Go.RowKit Go.Maps
attribute [local go_sem ↓] Go.wp_at_zero Go.wp_at_succ
attribute [local go_sem] quietR quietAtR quietUponR midAt midUpon plain plainUpon
theorem kyV_zero:kyV (0,0)=.agg #[.int .u64 0,.int .i64 0]:=rfl
theorem AugAt.look_ok {w:World} {q g m:Nat} {t:RB} {M:List (Int × Ky)} (h:AugAt w q g m t M) {i:Int} (hi:(Lit.int .i64 i).wf=true) :
  (Instr.lookup 119 (.map (some m)) (.int .i64 i) true).run Tryz.prog w=.ok (.tuple #[((getE (listT t) i).map fun e=>kyV e.1).getD (kyV (0,0)),.bool (getE (listT t) i).isSome]) w:=by
 have:=h.map.look_ok (k:=i) (E:=147) (T:=119) (z:=kyV (0,0)) Tryz.underlying3 Tryz.underlying119 (by exact Tryz.zeroValue147 _) hi
 rw [look_map,h.look i] at this
 rw [this]
 cases getE (listT t) i <;> rfl
theorem fr_grown {w w':World} {m:Nat} (h:w.grownBy w' (some m)):Fr (fun b=>b=m) w w':=⟨h.os,h.tape,h.output,h.size,fun b hb hn=>h.block b hb fun e=>hn (Option.some.inj e)⟩
theorem Fr.trans2 {S T:Nat→Prop} {w w1 w':World} (h:Fr S w w1)(k:Fr T w1 w')(hs:∀ b,b < w.heap.size→T b→S b):Fr S w w' :=
 ⟨k.os.trans h.os,k.tape.trans h.tape,k.output.trans h.output,Nat.le_trans h.size k.size,fun b hb hn=>(k.block b (Nat.lt_of_lt_of_le hb h.size) fun ht=>hn (hs b hb ht)).trans (h.block b hb hn)⟩
theorem AugAt.turn {w w':World} {q g m:Nat} {t:RB} {M M':List (Int × Ky)} (h:AugAt w q g m t M)(hg:w.grownBy w' (some m)):Blk w' q 121 #[.pointer (some ⟨g,0,none⟩),.map (some m)]∧RbT w' g t :=
 ⟨h.aug.fr (fr_grown hg) (blk_mapA h.aug h.map),h.tr.fr (fr_grown hg) (blk_mapA h.tr.tree h.map) fun a ha e=>node_mapA h.map h.tr.rb (e ▸ ha)⟩
def ADropW (w:World)(q g m:Nat)(t:RB)(i:Int)(e:Ending)(w':World):Prop :=
 ∃ t' M',e=.returned (.bool (getE (listT t) i).isSome)∧AugAt w' q g m t' M'∧listT t'=dropI (listT t) i∧(∀ b∈addrs t',b∈addrs t∨w.heap.size≤b)∧Fr (ownA q g m t) w w'
theorem adrop_any (q g m:Nat)(i:Int)(t:RB)(M:List (Int × Ky))(w:World)(h:AugAt w q g m t M)(hi:(Lit.int .i64 i).wf=true)(hfew:(listT t).length < 1000000) :
  Calls Tryz.prog 91 #[.pointer (some ⟨q,0,none⟩),.int .i64 i] w (ADropW w q g m t i):=by
 have h1:=of_any q g _ w h.aug
 have hl:=h.look_ok hi
 have c1:=h.aug.cell 1
 simp only [lTA,lCZ,lCS] at c1
 have H:=Lib.hid h
 clear h
 cases he:getE (listT t) i with
 | none =>
  rw [he] at hl
  simp only [Option.map_none,Option.getD_none,Option.isSome_none,kyV_zero] at hl
  have HE:=Lib.hid he
  clear he
  go_enter Tryz.func91,Tryz.ntmps91
  go_wp2_with fail
  refine h1.mono ?_
  clear h1
  rintro e w1 ⟨rfl,rfl⟩
  go_wp2_with fail
  go_ret
  have hb:Below w.heap.size w (w.alloc (.cells #[.int .u64 0,.int .i64 0] 147)):=(Below.refl _ _).alloc (Nat.le_refl _) _
  exact⟨t,M,by rw [HE.out];rfl,H.out.later hb,(dropI_not (getE_none.1 HE.out)).symm,fun b hb=>.inl hb,Fr.of_below hb⟩
 | some e =>
  obtain⟨⟨a,i2⟩,b⟩:=e
  have hs:=getE_some he
  obtain rfl:i2=i:=hs.2
  rw [he] at hl
  simp only [Option.map_some,Option.getD_some,Option.isSome_some,kyV] at hl
  have HS:=Lib.hid (And.intro hs.1 he)
  have hfew2:=Lib.hid hfew
  clear he hs hfew
  go_enter Tryz.func91,Tryz.ntmps91
  go_wp2_with fail
  refine h1.mono ?_
  clear h1
  rintro e w1 ⟨rfl,rfl⟩
  go_upto_region 6 with fail
  clear hl c1
  have hb0:=(Below.refl w.heap.size w).alloc (Nat.le_refl _) (.cells #[.int .u64 a,.int .i64 i2] 147)
  have hk0:=Blk.new w 147 #[.int .u64 a,.int .i64 i2]
  obtain⟨kb,hkb⟩:∃ q,q=w.heap.size:=⟨_,rfl⟩
  rw [← hkb] at hk0 ⊢
  have H1:=Lib.hid (And.intro (H.out.later hb0) (And.intro hk0 hb0))
  clear hkb hb0 hk0
  generalize w.alloc (.cells #[.int .u64 a,.int .i64 i2] 147)=W1 at H1 ⊢
  have c1:=H1.out.1.aug.cell 1
  simp only [lTA,lCZ,lCS] at c1
  have hdel:=fun ty=>H1.out.1.map.drop (k:=i2) (E:=147) (T:=119) Tryz.underlying3 Tryz.underlying119 hi ty
  obtain⟨W2,hr,hm2,htn⟩:=hdel 0
  rw [del_map] at hm2
  obtain⟨hq2,ht2⟩:=H1.out.1.turn (M':=M) htn.grown
  have hf2:Fr (ownA q g m t) w W2:=(Fr.of_below H1.out.2.2).trans ((fr_grown htn.grown).weak fun b _ hb=>.inr (.inr (.inl hb)))
  have hk2:=H1.out.2.1.grown htn.grown (fun e=>by have:=blk_mapA H1.out.2.1 H1.out.1.map;exact this (Option.some.inj e))
  have H2:=Lib.hid (And.intro hq2 (And.intro ht2 (And.intro hm2 (And.intro hk2 hf2))))
  clear hdel htn hm2 hq2 ht2 hf2 hk2
  go_upto_region 7 with fail
  clear hr c1
  have oq:=fun e=>(over_cell (w:=W2) (e:=e) (o:=0) H2.out.1.lt).trans (H2.out.1.cell 0)
  have ok0:=fun e=>(over_cell (w:=W2) (e:=e) (o:=0) H2.out.2.2.2.1.lt).trans (H2.out.2.2.2.1.cell 0)
  have ok1:=fun e=>(over_cell (w:=W2) (e:=e) (o:=1) H2.out.2.2.2.1.lt).trans (H2.out.2.2.2.1.cell 1)
  simp only [lTA,lCZ,lCS] at oq ok0 ok1
  refine wp_region_over_tail 5 (by kernel_rfl) (by kernel_rfl) ?_
  simp only [List.take_succ_cons,List.take_zero,List.drop_succ_cons,List.drop_zero]
  repeat (first | go_big_quiet_skip | (go_big_quiet_want;go_big_quiet_op;go_big_quiet_on))
  refine wpQuiet_nil ?_
  rintro W3 ⟨e,he⟩
  have hb3:=over_below W2 e
  rw [← he] at hb3
  have H3:=Lib.hid (And.intro (H2.out.1.below hb3 H2.out.1.lt) (And.intro (H2.out.2.1.later hb3) (And.intro (H2.out.2.2.1.heap (hb3.block m H2.out.2.2.1.lt)) (H2.out.2.2.2.2.trans (Fr.of_below hb3)))))
  clear oq ok0 ok1 he hb3 H2
  have hdr:=rbdrop_any g t (a,i2) b W3 H3.out.2.1 HS.out.1 hfew2.out
  go_wp2_with fail
  refine hdr.mono ?_
  clear hdr
  rintro e W4 ⟨t',rfl,hT,hlist,hsub,hf4⟩
  have hgm:=blk_mapA H3.out.2.1.tree H3.out.2.2.1
  have hmt:=node_mapA H3.out.2.2.1 H3.out.2.1.rb
  have hnot:∀ x,ownR g t x→x≠q∧x≠m:=by
   rintro x (rfl | hx)
   ·refine⟨fun e=>?_,hgm⟩
    have h1:=H3.out.1
    rw [← e] at h1
    have:=h1.symm.trans H3.out.2.1.tree
    simp only [Option.some.injEq,Obj.cells.injEq] at this
    exact absurd this.2.1 (by decide)
   ·exact⟨fun e=>RBAt.typed H3.out.1 (by decide) H3.out.2.1.rb (e ▸ hx),fun e=>hmt (e ▸ hx)⟩
  have hlist':=hlist.trans (del_drop H.out.inv HS.out.1)
  have hlk:lookM M i2=some (a,i2):=by rw [H.out.look i2,HS.out.2];rfl
  have hA:AugAt W4 q g m t' (delM M i2):=by
   refine⟨H3.out.1.fr hf4 fun hs=>(hnot q hs).1 rfl,hT,H3.out.2.2.1.heap (hf4.block m H3.out.2.2.1.lt fun hs=>(hnot m hs).2 rfl),by rw [hlist'];exact H.out.inv.drop i2,fun j=>?_,?_⟩
   ·rw [hlist',get_drop H.out.inv]
    by_cases hj:j=i2
    ·subst hj
     rw [look_del_same,if_pos rfl];rfl
    ·rw [look_del_other hj,if_neg hj]
     exact H.out.look j
   ·have e1:(delM M i2).length+1=M.length:=del_len (k:=i2) (v:=(a,i2)) (M:=M) (by
     have:=H.out.map.rising (int_keyed Tryz.underlying3)
     have h2:Rising (mapV kyV M):=this
     unfold Rising mapV at h2
     rw [List.pairwise_map] at h2
     exact h2) hlk
    have e2:(dropI (listT t) i2).length+1=(listT t).length:=drop_length H.out.inv.ids HS.out.1
    rw [show listT t'=dropI (listT t) i2 from hlist']
    have e3:=H.out.len
    omega
  have HF:=Lib.hid (And.intro hA (And.intro hlist' (And.intro hsub (H3.out.2.2.2.trans (hf4.weak fun x _ hx=>hx.elim (fun e=>.inr (.inl e)) fun hx=>.inr (.inr (.inr hx)))))))
  clear hT hlist hsub hf4 hgm hmt hnot hlist' hlk hA H3
  go_wp2_with fail
  go_ret
  exact⟨t',_,by rw [HS.out.2];rfl,HF.out.1,HF.out.2.1,fun x hx=>.inl (HF.out.2.2.1 x hx),HF.out.2.2.2⟩
def APutW (w:World)(q g m:Nat)(t:RB)(i a b:Int)(e:Ending)(w':World):Prop :=
 ∃ t' M',e=.returned (.tuple #[])∧AugAt w' q g m t' M'∧listT t'=putI (listT t) i a b∧(∀ x∈addrs t',x∈addrs t∨w.heap.size≤x)∧Fr (ownA q g m t) w w'
theorem aput_any (q g m:Nat)(i a b:Int)(t:RB)(M:List (Int × Ky))(w:World)(h:AugAt w q g m t M)(hi:(Lit.int .i64 i).wf=true)(hfew:(listT t).length < 900000) :
  Calls Tryz.prog 90 #[.pointer (some ⟨q,0,none⟩),.int .i64 i,.int .u64 a,.int .u64 b] w (APutW w q g m t i a b):=by
 have h1:=of_any q g _ w h.aug
 have hdr:=adrop_any q g m i t M w h hi (by omega)
 have HFEW:=Lib.hid hfew
 have HI:=Lib.hid h.inv
 clear h hfew
 go_enter Tryz.func90,Tryz.ntmps90
 go_wp2_with fail
 refine h1.mono ?_
 clear h1
 rintro e w1 ⟨rfl,rfl⟩
 go_wp2_with fail
 refine hdr.mono ?_
 clear hdr
 rintro e W1 ⟨t1,M1,rfl,hA,hlist,hsub,hf⟩
 have H1:=Lib.hid (And.intro hA (And.intro hlist (And.intro hsub hf)))
 clear hA hlist hsub hf
 go_upto_region 3 with fail
 have hb0:=(Below.refl W1.heap.size W1).alloc (Nat.le_refl _) (.cells #[.int .u64 a,.int .i64 i] 147)
 have hk0:=Blk.new W1 147 #[.int .u64 a,.int .i64 i]
 obtain⟨kb,hkb⟩:∃ q,q=W1.heap.size:=⟨_,rfl⟩
 have hlo:w.heap.size≤kb:=by rw [hkb];exact H1.out.2.2.2.size
 have hko:∀ x,ownA q g m t1 x→x≠kb:=fun x hx e=>by have:=H1.out.1.lt x hx;omega
 rw [← hkb] at hk0 ⊢
 have H2:=Lib.hid (And.intro (H1.out.1.later hb0) (And.intro hk0 (H1.out.2.2.2.trans (Fr.of_below hb0))))
 have HK:=Lib.hid (And.intro hlo hko)
 clear hkb hb0 hk0 hlo hko
 generalize W1.alloc (.cells #[.int .u64 a,.int .i64 i] 147)=W2 at H2 ⊢
 have oq:=fun e=>(over_cell (w:=W2) (e:=e) (o:=0) H2.out.1.aug.lt).trans (H2.out.1.aug.cell 0)
 have ok0:=fun e=>(over_cell (w:=W2) (e:=e) (o:=0) H2.out.2.1.lt).trans (H2.out.2.1.cell 0)
 have ok1:=fun e=>(over_cell (w:=W2) (e:=e) (o:=1) H2.out.2.1.lt).trans (H2.out.2.1.cell 1)
 simp only [lTA,lCZ,lCS] at oq ok0 ok1
 refine wp_region_over_tail 6 (by kernel_rfl) (by kernel_rfl) ?_
 simp only [List.take_succ_cons,List.take_zero,List.drop_succ_cons,List.drop_zero]
 repeat (first | go_big_quiet_skip | (go_big_quiet_want;go_big_quiet_op;go_big_quiet_on))
 refine wpQuiet_nil ?_
 rintro W3 ⟨e,he⟩
 have hb3:=over_below W2 e
 rw [← he] at hb3
 have H3:=Lib.hid (And.intro (H2.out.1.later hb3) (And.intro (H2.out.2.1.below hb3 H2.out.2.1.lt) (H2.out.2.2.trans (Fr.of_below hb3))))
 clear oq ok0 ok1 he hb3 H2
 have hle:(listT t1).length≤(listT t).length:=by rw [H1.out.2.1];exact drop_le _ _
 have hpt:=rbput_any g t1 (a,i) b W3 H3.out.1.tr (fun z hz e=>by
  rw [H1.out.2.1] at hz
  exact (mem_drop.1 hz).2 (by rw [e])) (by have:=HFEW.out;omega)
 clear hle
 go_wp2_with fail
 refine hpt.mono ?_
 clear hpt
 rintro e W4 ⟨t',rfl,hT,hlist,hsub,hf4⟩
 have hnot:∀ x,ownR g t1 x→x≠q∧x≠m∧x≠kb:=by
  rintro x (rfl | hx)
  ·refine⟨fun e=>?_,blk_mapA H3.out.1.tr.tree H3.out.1.map,HK.out.2 _ (.inr (.inl rfl))⟩
   have h1:=H3.out.1.aug
   rw [← e] at h1
   have:=h1.symm.trans H3.out.1.tr.tree
   simp only [Option.some.injEq,Obj.cells.injEq] at this
   exact absurd this.2.1 (by decide)
  ·exact⟨fun e=>RBAt.typed H3.out.1.aug (by decide) H3.out.1.tr.rb (e ▸ hx),fun e=>node_mapA H3.out.1.map H3.out.1.tr.rb (e ▸ hx),HK.out.2 x (.inr (.inr (.inr hx)))⟩
 have hq4:=H3.out.1.aug.fr hf4 fun hs=>(hnot q hs).1 rfl
 have hm4:=H3.out.1.map.heap (hf4.block m H3.out.1.map.lt fun hs=>(hnot m hs).2.1 rfl)
 have hk4:=H3.out.2.1.fr hf4 fun hs=>(hnot kb hs).2.2 rfl
 have hlist':listT t'=putI (listT t) i a b:=by rw [hlist,H1.out.2.1];rfl
 have hnew:lookM M1 i=none:=by
  rw [H1.out.1.look i,H1.out.2.1,get_drop HI.out,if_pos rfl];rfl
 have hln:=H1.out.1.len
 have hlt1:M1.length < 1000000:=by
  have:(listT t1).length≤(listT t).length:=by rw [H1.out.2.1];exact drop_le _ _
  have:=HFEW.out
  omega
 have hsub':∀ x∈addrs t',x∈addrs t∨w.heap.size≤x:=fun x hx=>by
  rcases hsub x hx with hx | hx
  ·exact H1.out.2.2.1 x hx
  ·exact .inr (by have:=H3.out.2.2.size;omega)
 have hfr:Fr (ownA q g m t) w W4:=by
  refine H3.out.2.2.trans2 hf4 fun x hlt hx=>?_
  rcases hx with rfl | hx
  ·exact .inr (.inl rfl)
  ·rcases H1.out.2.2.1 x hx with hx | hx
   ·exact .inr (.inr (.inr hx))
   ·exact absurd hlt (by omega)
 have H4:=Lib.hid (And.intro hq4 (And.intro hT (And.intro hm4 (And.intro hk4 hfr))))
 have HL:=Lib.hid (And.intro hlist' (And.intro hnew (And.intro hlt1 (And.intro hsub' hln))))
 have hlist1:listT t'=insE (listT t1) ((a,i),b):=hlist
 have HL1:=Lib.hid hlist1
 clear hT hlist hsub hf4 hnot hq4 hm4 hk4 hlist' hnew hln hlt1 hsub' hfr H3 hlist1
 go_upto_region 4 with fail
 have oq:=fun e=>(over_cell (w:=W4) (e:=e) (o:=1) H4.out.1.lt).trans (H4.out.1.cell 1)
 have ok0:=fun e=>(over_cell (w:=W4) (e:=e) (o:=0) H4.out.2.2.2.1.lt).trans (H4.out.2.2.2.1.cell 0)
 have ok1:=fun e=>(over_cell (w:=W4) (e:=e) (o:=1) H4.out.2.2.2.1.lt).trans (H4.out.2.2.2.1.cell 1)
 simp only [lTA,lCZ,lCS] at oq ok0 ok1
 refine wp_region_over_tail 6 (by kernel_rfl) (by kernel_rfl) ?_
 simp only [List.take_succ_cons,List.take_zero,List.drop_succ_cons,List.drop_zero]
 repeat (first | go_big_quiet_skip | (go_big_quiet_want;go_big_quiet_op;go_big_quiet_on))
 refine wpQuiet_nil ?_
 rintro W5 ⟨e,he⟩
 have hb5:=over_below W4 e
 rw [← he] at hb5
 have hm5:=H4.out.2.2.1.heap (hb5.block m H4.out.2.2.1.lt)
 obtain⟨W6,hr,hm6,htn⟩:=hm5.store (k:=i) (E:=147) (T:=119) Tryz.underlying3 Tryz.underlying119 hi (by rw [mapV_length];have:=HL.out.2.2.1;unfold maxLen;omega) (kyV (a,i))
 rw [put_map] at hm6
 have hq5:=H4.out.1.below hb5 H4.out.1.lt
 have hT5:=H4.out.2.1.later hb5
 have hq6:=hq5.fr (fr_grown htn.grown) (blk_mapA hq5 hm5)
 have hT6:=hT5.fr (fr_grown htn.grown) (blk_mapA hT5.tree hm5) fun x hx e=>node_mapA hm5 hT5.rb (e ▸ hx)
 have hf6:Fr (ownA q g m t) w W6:=(H4.out.2.2.2.2.trans (Fr.of_below hb5)).trans2 (fr_grown htn.grown) fun x _ hx=>.inr (.inr (.inl hx))
 have hA6:AugAt W6 q g m t' (putM M1 i (a,i)):=by
  refine⟨hq6,hT6,hm6,by rw [HL.out.1];exact HI.out.put i a b,fun j=>?_,?_⟩
  ·rw [HL.out.1,get_put HI.out]
   by_cases hj:j=i
   ·subst hj
    rw [look_put_same,if_pos rfl];rfl
   ·rw [look_put_other _ hj,if_neg hj,H1.out.1.look j,H1.out.2.1,get_drop HI.out,if_neg hj]
  ·rw [put_len_new _ HL.out.2.1,HL1.out,ins_length,HL.out.2.2.2.2]
 have HF:=Lib.hid (And.intro hA6 hf6)
 unfold kyV at hr
 clear oq ok0 ok1 he hb5 hm5 hm6 htn hq5 hT5 hq6 hT6 hf6 hA6 H4
 go_wp2_with fail
 go_returns
 exact⟨t',_,rfl,HF.out.1,HL.out.1,HL.out.2.2.2.1,HF.out.2⟩
end
section
structure Rn where
 F:Int
 L:Int
 R:Int
 x:Int
 A:List (Int × Int)
structure Mem where
 tot:Int
 v:Int
 rn:Rn
 aw:Bool
structure Fam where
 m:List (Int × Mem)
 mark:Int
structure Cls where
 pa:Int
 lf:Bool
 sh:Bool
 tot:Int
 lim:Option Rn
 fam:Fam
 tr:List En
 un:Int
abbrev Pk:=List (Int × Cls)
def nevC:Int:=9223372036854775808
def capC:Int:=4611686018427387904
def startR (r:Rn)(t y:Int):Rn:={ r with x:=max (min t nevC) r.x,A:=r.A ++ [(max (min t nevC) r.x,min y capC)] }
def rn0 (c:Int × Int × Int):Rn:=⟨c.1,c.2.1,c.2.2,0,[]⟩
def fam0:Fam:=⟨[],0⟩
def lowV:List En→Option Int
 | []=>none
 | e :: L=>some (match lowV L with
  | none=>e.2
  | some m=>min e.2 m)
theorem lowV_none {L:List En}:lowV L=none↔L=[]:=by
 cases L <;> simp [lowV]
theorem lowV_spec:∀ {L:List En} {m:Int},lowV L=some m→(∃ e∈L,e.2=m)∧∀ e∈L,m≤e.2
 | [],m,h=>by cases h
 | e :: L,m,h=>by
  unfold lowV at h
  cases hl:lowV L with
  | none =>
   rw [hl] at h
   have h:=Option.some.inj h
   dsimp only at h
   obtain rfl:=lowV_none.1 hl
   exact⟨⟨e,.head _,h⟩,fun x hx=>by rw [List.mem_singleton.1 hx,h];exact Int.le_refl _⟩
  | some k =>
   rw [hl] at h
   have h:=Option.some.inj h
   dsimp only at h
   obtain⟨⟨y,hy,hyk⟩,hk⟩:=lowV_spec hl
   refine⟨?_,fun x hx=>?_⟩
   ·by_cases hc:e.2≤k
    ·exact⟨e,.head _,by omega⟩
    ·exact⟨y,.tail _ hy,by omega⟩
   ·rcases List.mem_cons.1 hx with rfl | hx
    ·omega
    ·have:=hk x hx;omega
def withinV (L:List En)(v:Int):Option Int:=(L.find? fun e=>decide (e.2≤v)).map (·.1.2)
def updP (P:Pk)(id:Int)(f:Cls→Cls):Pk:=match lookM P id with
 | none=>P
 | some c=>putM P id (f c)
theorem look_upd (P:Pk)(id:Int)(f:Cls→Cls)(j:Int):lookM (updP P id f) j=if j=id then (lookM P id).map f else lookM P j:=by
 unfold updP
 cases h:lookM P id with
 | none =>
  by_cases e:j=id
  ·subst e;rw [if_pos rfl];exact h
  ·rw [if_neg e]
 | some c =>
  by_cases e:j=id
  ·subst e;rw [if_pos rfl];exact look_put_same _ _ _
  ·rw [if_neg e];exact look_put_other _ e _
theorem rising_upd {P:Pk} (h:Rising P)(id:Int)(f:Cls→Cls):Rising (updP P id f):=by
 unfold updP
 cases lookM P id with
 | none=>exact h
 | some c=>exact rising_put _ _ h
def paP (P:Pk)(id:Int):Option Int:=(lookM P id).map (·.pa)
def famP (P:Pk)(id:Int):Option Fam:=(lookM P id).map (·.fam)
def memP (P:Pk)(id:Int):Option Mem:=(paP P id).bind fun q=>(famP P q).bind fun f=>lookM f.m id
def awP (P:Pk)(id:Int):Bool:=decide (0 < id) && (match memP P id with
 | none=>false
 | some m=>m.aw)
def vP (P:Pk)(id:Int):Int:=if 0 < id then (match memP P id with
 | none=>0
 | some m=>m.v) else 0
theorem memP_congr {P Q:Pk} {id:Int} (h1:paP Q id=paP P id)(h2:∀ q,paP P id=some q→(famP Q q).bind (fun f=>lookM f.m id)=(famP P q).bind (fun f=>lookM f.m id)):memP Q id=memP P id:=by
 unfold memP
 rw [h1]
 cases h:paP P id with
 | none=>rfl
 | some q=>exact h2 q h
theorem awP_congr {P Q:Pk} {id:Int} (h:memP Q id=memP P id):awP Q id=awP P id:=by unfold awP;rw [h]
theorem vP_congr {P Q:Pk} {id:Int} (h:memP Q id=memP P id):vP Q id=vP P id:=by unfold vP;rw [h]
theorem paP_upd {P:Pk} {id:Int} {f:Cls→Cls} (hf:∀ c,(f c).pa=c.pa)(j:Int):paP (updP P id f) j=paP P j:=by
 unfold paP
 rw [look_upd]
 by_cases e:j=id
 ·subst e
  rw [if_pos rfl]
  cases lookM P j with
  | none=>rfl
  | some c=>exact congrArg some (hf c)
 ·rw [if_neg e]
theorem famP_upd {P:Pk} {id:Int} {f:Cls→Cls} (hf:∀ c,(f c).fam=c.fam)(j:Int):famP (updP P id f) j=famP P j:=by
 unfold famP
 rw [look_upd]
 by_cases e:j=id
 ·subst e
  rw [if_pos rfl]
  cases lookM P j with
  | none=>rfl
  | some c=>exact congrArg some (hf c)
 ·rw [if_neg e]
theorem memP_upd {P:Pk} {id:Int} {f:Cls→Cls} (h1:∀ c,(f c).pa=c.pa)(h2:∀ c,(f c).fam=c.fam)(j:Int):memP (updP P id f) j=memP P j :=
 memP_congr (paP_upd h1 j) fun q _=>by rw [famP_upd h2]
section
variable (ow : Option Rn → Int → Int)
def fitC (c:Cls):Int:=if c.lf=true then ow c.lim c.tot else match lowV c.tr with
 | none=>nevC
 | some l=>max (ow c.lim c.tot) l
def fitP (P:Pk)(id:Int):Int:=match lookM P id with
 | none=>0
 | some c=>fitC ow c
def noteP (P:Pk)(id:Int):Pk:=match paP P id with
 | none=>P
 | some q=>updP P q fun p=>{ p with tr:=if awP P id=true then putI p.tr id (vP P id) (fitP ow P id) else dropI p.tr id }
end
structure WfP (dp:Int→Nat)(P:Pk):Prop where
 rise:Rising P
 root:∃ c,lookM P 0=some c∧c.lf=false
 par:∀ id c,lookM P id=some c→id≠0→∃ p,lookM P c.pa=some p∧p.lf=false∧dp id=dp c.pa+1
 pos:∀ id c,lookM P id=some c→0≤id
 inv:∀ id c,lookM P id=some c→InvE c.tr
 kids:∀ id c e,lookM P id=some c→e∈c.tr→0 < e.1.2∧paP P e.1.2=some id
def NotedBut (ow:Option Rn→Int→Int)(P:Pk)(X:Int→Prop):Prop:=∀ id c p,0 < id→¬ X id→lookM P id=some c→lookM P c.pa=some p→getE p.tr id=if awP P id=true then some ((vP P id,id),fitC ow c) else none
structure Mild (f:Cls→Cls):Prop where
 pa:∀ c,(f c).pa=c.pa
 lf:∀ c,(f c).lf=c.lf
 tr:∀ c,(f c).tr=c.tr
theorem WfP.mild {dp:Int→Nat} {P:Pk} (h:WfP dp P)(id:Int) {f:Cls→Cls} (hf:Mild f):WfP dp (updP P id f):=by
 have look:∀ j c',lookM (updP P id f) j=some c'→∃ c,lookM P j=some c∧c'.pa=c.pa∧c'.lf=c.lf∧c'.tr=c.tr:=fun j c' hj=>by
  rw [look_upd] at hj
  by_cases e:j=id
  ·subst e
   rw [if_pos rfl] at hj
   obtain⟨c,hc,rfl⟩:=Option.map_eq_some_iff.1 hj
   exact⟨c,hc,hf.pa c,hf.lf c,hf.tr c⟩
  ·rw [if_neg e] at hj
   exact⟨c',hj,rfl,rfl,rfl⟩
 have back:∀ j c,lookM P j=some c→∃ c',lookM (updP P id f) j=some c'∧c'.lf=c.lf:=fun j c hj=>by
  rw [look_upd]
  by_cases e:j=id
  ·subst e
   rw [if_pos rfl,hj]
   exact⟨f c,rfl,hf.lf c⟩
  ·rw [if_neg e]
   exact⟨c,hj,rfl⟩
 refine⟨rising_upd h.rise _ _,?_,fun j c' hj hne=>?_,fun j c' hj=>?_,fun j c' hj=>?_,fun j c' e hj he=>?_⟩
 ·obtain⟨c,hc,hl⟩:=h.root
  obtain⟨c',h1,h2⟩:=back 0 c hc
  exact⟨c',h1,h2.trans hl⟩
 ·obtain⟨c,hc,h1,h2,h3⟩:=look j c' hj
  obtain⟨p,hp,hl,hd⟩:=h.par j c hc hne
  obtain⟨p',h4,h5⟩:=back c.pa p hp
  rw [h1]
  exact⟨p',h4,h5.trans hl,hd⟩
 ·obtain⟨c,hc,_⟩:=look j c' hj
  exact h.pos j c hc
 ·obtain⟨c,hc,_,_,h3⟩:=look j c' hj
  rw [h3]
  exact h.inv j c hc
 ·obtain⟨c,hc,_,_,h3⟩:=look j c' hj
  rw [h3] at he
  rw [paP_upd hf.pa]
  exact h.kids j c e hc he
theorem paP_some {P:Pk} {id q:Int} (h:paP P id=some q):∃ c,lookM P id=some c∧c.pa=q:=by
 obtain⟨c,hc,e⟩:=Option.map_eq_some_iff.1 h
 exact⟨c,hc,e⟩
theorem paP_of {P:Pk} {id:Int} {c:Cls} (h:lookM P id=some c):paP P id=some c.pa:=by unfold paP;rw [h];rfl
theorem note_step {ow:Option Rn→Int→Int} {dp:Int→Nat} {P:Pk} {X:Int→Prop} (hW:WfP dp P)(h:NotedBut ow P X) {id:Int} {c:Cls} (hid:0 < id)(hc:lookM P id=some c) :
  WfP dp (noteP ow P id)∧NotedBut ow (noteP ow P id) (fun j=>(X j∧j≠id)∨j=c.pa)∧(∀ j,memP (noteP ow P id) j=memP P j)∧(∀ j,paP (noteP ow P id) j=paP P j):=by
 obtain⟨p,hp,hpl,hdp⟩:=hW.par id c hc (by omega)
 have hne:c.pa≠id:=fun e=>by rw [e] at hdp;omega
 have hpa:=paP_of hc
 obtain⟨t,ht⟩:∃ t,t=(if awP P id=true then putI p.tr id (vP P id) (fitP ow P id) else dropI p.tr id):=⟨_,rfl⟩
 have hN:noteP ow P id=updP P c.pa fun p=>{ p with tr:=if awP P id=true then putI p.tr id (vP P id) (fitP ow P id) else dropI p.tr id }:=by unfold noteP;rw [hpa]
 have hlook:∀ j,lookM (noteP ow P id) j=if j=c.pa then some { p with tr:=t } else lookM P j:=fun j=>by
  rw [hN,look_upd,hp,ht]
  rfl
 have hpaj:∀ j,paP (noteP ow P id) j=paP P j:=fun j=>by rw [hN];exact paP_upd (by intro c;rfl) j
 have hmem:∀ j,memP (noteP ow P id) j=memP P j:=fun j=>by rw [hN];exact memP_upd (by intro c;rfl) (by intro c;rfl) j
 have hit:InvE t:=by
  have:=hW.inv _ _ hp
  rw [ht]
  split
  ·exact this.put _ _ _
  ·exact this.drop _
 refine⟨⟨?_,?_,fun j c' hj hne'=>?_,fun j c' hj=>?_,fun j c' hj=>?_,fun j c' e hj he=>?_⟩,fun j c' p' hj hX hcj hpj=>?_,hmem,hpaj⟩
 ·rw [hN];exact rising_upd hW.rise _ _
 ·obtain⟨r,hr,hl⟩:=hW.root
  rw [hlook]
  by_cases e:0=c.pa
  ·rw [if_pos e];exact⟨_,rfl,hpl⟩
  ·rw [if_neg e];exact⟨r,hr,hl⟩
 ·have:∃ k,lookM P j=some k∧k.pa=c'.pa:=by
   rw [hlook] at hj
   by_cases e:j=c.pa
   ·rw [if_pos e] at hj;cases hj;exact⟨p,by rw [e];exact hp,rfl⟩
   ·rw [if_neg e] at hj;exact⟨c',hj,rfl⟩
  obtain⟨k,hk,hkp⟩:=this
  obtain⟨q,hq,hql,hqd⟩:=hW.par j k hk hne'
  rw [← hkp,hlook]
  by_cases e:k.pa=c.pa
  ·rw [if_pos e];exact⟨_,rfl,hpl,hqd⟩
  ·rw [if_neg e];exact⟨q,hq,hql,hqd⟩
 ·rw [hlook] at hj
  by_cases e:j=c.pa
  ·rw [e];exact hW.pos _ _ hp
  ·rw [if_neg e] at hj;exact hW.pos _ _ hj
 ·rw [hlook] at hj
  by_cases e:j=c.pa
  ·rw [if_pos e] at hj;cases hj;exact hit
  ·rw [if_neg e] at hj;exact hW.inv _ _ hj
 ·rw [hpaj]
  rw [hlook] at hj
  by_cases e2:j=c.pa
  ·rw [if_pos e2] at hj
   cases hj
   dsimp only at he
   rw [ht] at he
   rw [e2]
   have key:e.1.2=id∨e∈p.tr:=by
    split at he
    ·rcases mem_put.1 he with rfl | he
     ·exact .inl rfl
     ·exact .inr he.1
    ·exact .inr (mem_drop.1 he).1
   rcases key with key | key
   ·rw [key];exact⟨hid,hpa⟩
   ·exact hW.kids _ _ _ hp key
  ·rw [if_neg e2] at hj
   exact hW.kids _ _ _ hj he
 ·rw [awP_congr (hmem j),vP_congr (hmem j)]
  have hjpa:j≠c.pa:=fun e=>hX (.inr e)
  rw [hlook,if_neg hjpa] at hcj
  rw [hlook] at hpj
  have hio:=hW.inv _ _ hp
  by_cases e:c'.pa=c.pa
  ·rw [if_pos e] at hpj
   cases hpj
   dsimp only
   by_cases e2:j=id
   ·subst e2
    rw [hc] at hcj
    cases hcj
    rw [ht]
    have hft:fitP ow P j=fitC ow c:=by unfold fitP;rw [hc]
    by_cases ha:awP P j=true
    ·rw [if_pos ha,if_pos ha,get_put hio,if_pos rfl,hft]
    ·rw [if_neg ha,if_neg ha,get_drop hio,if_pos rfl]
   ·have h1:=h j c' p hj (fun hx=>hX (.inl ⟨hx,e2⟩)) hcj (by rw [e];exact hp)
    rw [← h1,ht]
    split
    ·rw [get_put hio,if_neg e2]
    ·rw [get_drop hio,if_neg e2]
  ·rw [if_neg e] at hpj
   by_cases e2:j=id
   ·subst e2
    rw [hc] at hcj
    cases hcj
    exact absurd rfl e
   ·exact h j c' p' hj (fun hx=>hX (.inl ⟨hx,e2⟩)) hcj hpj
end
end Go.Proofs.YtmmeopjemkjllaaGreat
