/- Lemmas of the claim. No conditions beyond those that each states. -/
import Derived.Laws.EntriesVeiled
import Derived.Test.YtmmeopjemkjllaaGreatPU13
set_option linter.unusedVariables false
set_option linter.unusedSimpArgs false
set_option maxRecDepth 100000
set_option maxHeartbeats 8000000
namespace Go.Proofs.YtmmeopjemkjllaaGreat
section
open Go.RowKit
attribute [local go_sem ↓] Go.wp_at_zero Go.wp_at_succ
attribute [local go_sem] quietR quietAtR quietUponR midAt midUpon plain plainUpon
def NewTW (w:World)(e:Ending)(w':World):Prop:=∃ g,e=.returned (.pointer (some ⟨g,0,none⟩))∧w.heap.size≤g∧RbT w' g .nil∧Below w.heap.size w w'
theorem rbnew_any (w:World):Calls Tryz.prog 77 #[.func (.func 78) #[] #[],.func (.func 79) #[] #[]] w (NewTW w):=by
 have hn0:=own_nil;have hn1:=lesser_nil
 go_enter Tryz.func77,Tryz.ntmps77
 go_wp2
 have hb:=Blk.new w 165 (treeC (.pointer none) 0)
 go_ret
 exact⟨_,rfl,Nat.le_refl _,⟨hb,trivial,List.nodup_nil,Well.nil⟩,(Below.refl _ _).alloc (Nat.le_refl _) _⟩
theorem RBAt.aside {W:World} {t:RB} {g o:Nat} {u:Value} (h:RBAt W t)(hg:g ∉ addrs t):RBAt (W.setCell ⟨g,o,none⟩ u) t:=h.kept fun q hq=>Below.heap_setCell _ ⟨g,o,none⟩ _ q fun e=>hg ((show q=g from e) ▸ hq)
theorem RBAt.paint {W:World} {a:Nat} {k:Ky} {v:Int} {s:Ky} {c:Bool} {l r:RB} (h:RBAt W (.node a k v s c l r))(hn:(addrs (.node a k v s c l r)).Nodup)(b:Bool):RBAt (W.setCell ⟨a,5,none⟩ (.bool b)) (.node a k v s b l r):=by
 simp only [addrs,List.nodup_cons,List.mem_append,not_or] at hn
 exact⟨h.1.set_ 5 (.bool b),h.2.1.aside hn.1.1,h.2.2.aside hn.1.2⟩
def ownR (g:Nat)(t:RB)(b:Nat):Prop:=b=g∨b∈addrs t
def PutTW (w:World)(g:Nat)(t:RB)(k:Ky)(v:Int)(e:Ending)(w':World):Prop :=
 ∃ t',e=.returned (.int .i64 0)∧RbT w' g t'∧listT t'=insE (listT t) (k,v)∧(∀ b∈addrs t',b∈addrs t∨w.heap.size≤b)∧Fr (ownR g t) w w'
theorem rbput_any (g:Nat)(t:RB)(k:Ky)(v:Int)(w:World)(h:RbT w g t)(hn:∀ z∈listT t,z.1≠k)(hfew:(listT t).length < 1000000) :
  Calls Tryz.prog 123 #[.pointer (some ⟨g,0,none⟩),.agg #[.int .u64 k.1,.int .i64 k.2],.int .u64 v] w (PutTW w g t k v):=by
 have hb0:=(Below.refl w.heap.size w).alloc (Nat.le_refl _) (.cells #[.int .u64 k.1,.int .i64 k.2] 147)
 have hk0:=Blk.new w 147 #[.int .u64 k.1,.int .i64 k.2]
 have hfind:findT k t=.nil:=by
  rcases find_ok k t h.well.2.2.2 with ⟨a,v',s,c,l,r,h1,h2⟩ | ⟨h1,_⟩
  ·exact absurd rfl (hn _ h2)
  ·exact h1
 obtain⟨kb,hkb⟩:∃ q,q=w.heap.size:=⟨_,rfl⟩
 rw [← hkb] at hk0
 have hnone:=none_any g _ _ _ (h.tree.below hb0 h.tree.lt)
 have H0:=Lib.hid (And.intro (h.later hb0) (And.intro hk0 hb0))
 have HKB:=Lib.hid hkb
 have HF:=Lib.hid (And.intro hfind (And.intro hn hfew))
 have hwrap:IntKind.i64.wrap ((((listT t).length:Nat):Int)+1)=(((listT t).length:Nat):Int)+1:=by rw [IntKind.wrap_i64];omega
 clear h hn hfew hb0 hk0 hkb hfind
 go_enter Tryz.func123,Tryz.ntmps123
 go_wp2_with fail
 refine hnone.mono ?_
 clear hnone
 rintro e w1 ⟨rfl,rfl⟩
 rw [← HKB.out]
 generalize w.alloc (.cells #[.int .u64 k.1,.int .i64 k.2] 147)=W1 at H0 ⊢
 have ok0:=H0.out.2.1.cell 0;have ok1:=H0.out.2.1.cell 1
 simp only [lTA,lCZ,lCS] at ok0 ok1
 have hat:=rbat_any g k _ t W1 H0.out.1.tree H0.out.1.rb
 unfold AtW at hat
 rw [HF.out.1] at hat
 have ev:ptrV .nil=.pointer none:=rfl
 rw [ev] at hat
 go_wp2_with fail
 refine hat.mono ?_
 clear hat ok0 ok1 ev
 rintro e W2 ⟨rfl,hb2⟩
 have H2:=Lib.hid (And.intro (H0.out.1.later hb2) (And.intro (H0.out.2.1.below hb2 H0.out.2.1.lt) (H0.out.2.2.trans (hb2.mono H0.out.2.2.size))))
 clear hb2 H0
 go_upto_region 5 with fail
 have og:=fun e=>(over_cell (w:=W2) (e:=e) (o:=2) H2.out.1.tree.lt).trans (H2.out.1.tree.cell 2)
 have ok0:=fun e=>(over_cell (w:=W2) (e:=e) (o:=0) H2.out.2.1.lt).trans (H2.out.2.1.cell 0)
 have ok1:=fun e=>(over_cell (w:=W2) (e:=e) (o:=1) H2.out.2.1.lt).trans (H2.out.2.1.cell 1)
 unfold treeC at og
 simp only [lTA,lCZ,lCS] at og ok0 ok1
 refine wp_region_late (w:=W2) 8 4 0 [] [] [] rfl (by kernel_rfl) (by kernel_rfl) (by kernel_rfl) (by kernel_rfl) (fun _ _ _ _ _ h=>h) trivial ?_
 intro LL hL
 have HL:=Lib.hid hL
 clear hL
 simp only [List.take_succ_cons,List.take_zero,putL]
 iterate 8 (first | refine wpHead_skip (by decide) ?_ | (refine wpHead_step (by decide) (fun K hK=>?_);go_simp;(refine hK _ ?_;clear hK K)))
 refine wpHead_nil (HL.out _ trivial ?_)
 intro vs W3 hb3 hf
 clear hf HL
 change wpList _ _ _ _ _ _
 simp only [List.drop_succ_cons,List.drop_zero,List.take_succ_cons,List.take_zero,putHd]
 have H3:=Lib.hid (And.intro (H2.out.1.later hb3) (H2.out.2.2.trans (hb3.mono H2.out.2.2.size)))
 clear og ok0 ok1 hb3 H2
 have hput:=put_any g _ _ k v t W3 H3.out.1.tree H3.out.1.rb H3.out.1.nd (fun a=>by obtain⟨t',h1,_⟩:=H3.out.1.well.put a k v HF.out.2.1;exact⟨t',h1⟩)
 go_wp2_with fail
 refine hput.mono ?_
 clear hput
 rintro e W4 ⟨a,t',rfl,ha,hp,hr4,hf4⟩
 obtain⟨t1,e1,hne,hwell,hlist,hperm⟩:=H3.out.1.well.put a k v HF.out.2.1
 obtain rfl:t1=t':=Option.some.inj (e1.symm.trans hp)
 clear e1
 obtain⟨a1,k1,v1,s1,c1,l1,r1,rfl⟩:=node_of hne
 have ev:ptrV (.node a1 k1 v1 s1 c1 l1 r1)=.pointer (some ⟨a1,0,none⟩):=rfl
 have hg4:=H3.out.1.tree.fr hf4 H3.out.1.far
 have hga:g≠a1:=fun e=>RBAt.typed hg4 (by decide) hr4 (e ▸ .head _)
 have hnd4:(addrs (.node a1 k1 v1 s1 c1 l1 r1)).Nodup:=by
  have hp2:(addrs (.node a1 k1 v1 s1 c1 l1 r1)).Perm (a :: addrs t):=hperm
  refine hp2.nodup_iff.2 (List.nodup_cons.2 ⟨fun hm=>?_,H3.out.1.nd⟩)
  have:=H3.out.1.rb.lt a hm
  omega
 have hgn:g ∉ addrs (.node a1 k1 v1 s1 c1 l1 r1):=RBAt.typed hg4 (by decide) hr4
 have hg5:=hg4.set_ 2 (.pointer (some ⟨a1,0,none⟩))
 have hr5:=hr4.aside (o:=2) (u:=.pointer (some ⟨a1,0,none⟩)) hgn
 have hg6:=hg5.far (p:=⟨a1,5,none⟩) hga (.bool false)
 have hr6:=hr5.paint hnd4 false
 have hg7:=hg6.set_ 3 (.int .i64 ((((listT t).length:Nat):Int)+1))
 have hr7:=hr6.aside (o:=3) (u:=.int .i64 ((((listT t).length:Nat):Int)+1)) hgn
 have hlen:(listT (.node a1 k1 v1 s1 false l1 r1)).length=(listT t).length+1:=by
  have:listT (.node a1 k1 v1 s1 false l1 r1)=insE (listT t) (k,v):=hlist
  rw [this,ins_length]
 have hf7:Fr (ownR g t) w ((((W4.setCell ⟨g,2,none⟩ (.pointer (some ⟨a1,0,none⟩))).setCell ⟨a1,5,none⟩ (.bool false))).setCell ⟨g,3,none⟩ (.int .i64 ((((listT t).length:Nat):Int)+1))):=by
  have f1:Fr (ownR g t) w W3:=Fr.of_below H3.out.2
  have f2:Fr (ownR g t) w W4:=f1.trans (hf4.weak fun b _ hb=>.inr hb)
  have f3:Fr (ownR g t) w (W4.setCell ⟨g,2,none⟩ (.pointer (some ⟨a1,0,none⟩))):=f2.trans (Fr.set (.inl rfl))
  have ho:ownR g t a1∨w.heap.size≤a1:=by
   have hp2:(addrs (.node a1 k1 v1 s1 c1 l1 r1)).Perm (a :: addrs t):=hperm
   rcases List.mem_cons.1 (hp2.mem_iff.1 (.head _)) with e | hm
   ·exact .inr (by have:=H3.out.2.size;omega)
   ·exact .inl (.inr hm)
  have f4:Fr (ownR g t) w ((W4.setCell ⟨g,2,none⟩ (.pointer (some ⟨a1,0,none⟩))).setCell ⟨a1,5,none⟩ (.bool false)):=by
   rcases ho with ho | ho
   ·exact f3.trans (Fr.set ho)
   ·exact⟨f3.os,f3.tape,f3.output,by simpa using f3.size,fun b hb hn=>(Below.heap_setCell _ ⟨a1,5,none⟩ _ b (by show b≠a1;omega)).trans (f3.block b hb hn)⟩
  exact f4.trans (Fr.set (.inl rfl))
 have hsub:∀ b∈addrs (.node a1 k1 v1 s1 false l1 r1),b∈addrs t∨w.heap.size≤b:=fun b hb=>by
  have hp2:(addrs (.node a1 k1 v1 s1 c1 l1 r1)).Perm (a :: addrs t):=hperm
  rcases List.mem_cons.1 (hp2.mem_iff.1 hb) with e | hm
  ·exact .inr (by have:=H3.out.2.size;omega)
  ·exact .inl hm
 have hfin:RbT ((((W4.setCell ⟨g,2,none⟩ (.pointer (some ⟨a1,0,none⟩))).setCell ⟨a1,5,none⟩ (.bool false))).setCell ⟨g,3,none⟩ (.int .i64 ((((listT t).length:Nat):Int)+1))) g (.node a1 k1 v1 s1 false l1 r1):=by
  refine⟨?_,hr7,hnd4,hwell⟩
  rw [hlen]
  exact hg7
 have HFIN:=Lib.hid (And.intro hfin (And.intro hlist (And.intro hsub hf7)))
 rw [ev]
 have c2:=hg4.cell 2;have f2:=hg4.frozen 2
 have d2:=hg5.cell 2
 have n5:=hr5.1.cell 5;have fn5:=hr5.1.frozen 5
 have m3:=hg6.cell 3;have fm3:=hg6.frozen 3
 unfold treeC at c2 d2 m3
 unfold nodeC at n5
 simp at c2 d2 n5 m3
 clear hg4 hr4 hf4 hne hwell hlist hperm hga ev hnd4 hgn hg5 hr5 hg6 hr6 hg7 hr7 hlen hf7 hsub hfin hp
 go_upto_region 6 with fail
 generalize W4.setCell ⟨g,2,none⟩ (.pointer (some ⟨a1,0,none⟩))=W5 at *
 go_upto_region 7 with fail
 generalize W5.setCell ⟨a1,5,none⟩ (.bool false)=W6 at *
 go_wp2_with fail
 go_ret
 exact⟨_,rfl,HFIN.out⟩
def DropTW (w:World)(g:Nat)(t:RB)(k:Ky)(e:Ending)(w':World):Prop :=
 ∃ t',e=.returned (.int .i64 0)∧RbT w' g t'∧listT t'=delE (listT t) k∧(∀ b∈addrs t',b∈addrs t)∧Fr (ownR g t) w w'
theorem delE_length {L:List En} (h:SortE L) {x:Ky} {v:Int} (hx:(x,v)∈L):(delE L x).length+1=L.length:=by
 induction L with
 | nil=>cases hx
 | cons z L ih =>
  have hp:=List.pairwise_cons.1 h
  by_cases hz:z.1=x
  ·obtain⟨zk,zv⟩:=z
   dsimp only at hz
   subst hz
   rw [delE_cons_same,delE_not fun e he=>(lessK_ne (hp.1 e he)).symm]
   rfl
  ·rw [delE_cons_other _ hz]
   rcases List.mem_cons.1 hx with e | hx
   ·exact absurd (by rw [← e]) hz
   ·simp only [List.length_cons]
    have:=ih hp.2 hx
    omega
theorem rbdrop_any (g:Nat)(t:RB)(x:Ky)(v:Int)(w:World)(h:RbT w g t)(hx:(x,v)∈listT t)(hfew:(listT t).length < 1000000) :
  Calls Tryz.prog 124 #[.pointer (some ⟨g,0,none⟩),.agg #[.int .u64 x.1,.int .i64 x.2]] w (DropTW w g t x):=by
 have hfind:∃ a s c l r v',findT x t=.node a x v' s c l r:=by
  rcases find_ok x t h.well.2.2.2 with ⟨a,v',s,c,l,r,h1,h2⟩ | ⟨_,h1⟩
  ·exact⟨a,s,c,l,r,v',h1⟩
  ·exact absurd rfl (h1 _ hx)
 obtain⟨fa,fs,fc,fl,fr,fv,hfind⟩:=hfind
 cases t with
 | nil=>cases hx
 | node a k1 v1 s1 c1 l r =>
 obtain rfl:c1=false:=h.well.1
 obtain⟨t',hd⟩:=h.well.drop x ⟨v,hx⟩
 have hlen:=delE_length h.well.2.2.2 hx
 have hb0:=(Below.refl w.heap.size w).alloc (Nat.le_refl _) (.cells #[.int .u64 x.1,.int .i64 x.2] 147)
 have hk0:=Blk.new w 147 #[.int .u64 x.1,.int .i64 x.2]
 obtain⟨kb,hkb⟩:∃ q,q=w.heap.size:=⟨_,rfl⟩
 rw [← hkb] at hk0
 have hnone:=none_any g _ _ _ (h.tree.below hb0 h.tree.lt)
 have H0:=Lib.hid (And.intro (h.later hb0) (And.intro hk0 hb0))
 have HKB:=Lib.hid hkb
 have HX:=Lib.hid (And.intro hfind (And.intro hlen hfew))
 have HD0:=Lib.hid hd
 have hwrap:IntKind.i64.wrap ((((listT (.node a k1 v1 s1 false l r)).length:Nat):Int) - 1)=(((listT (.node a k1 v1 s1 false l r)).length:Nat):Int) - 1:=by rw [IntKind.wrap_i64];omega
 clear h hfew hb0 hk0 hkb hfind hlen hd hx
 go_enter Tryz.func124,Tryz.ntmps124
 go_wp2_with fail
 refine hnone.mono ?_
 clear hnone
 rintro e w1 ⟨rfl,rfl⟩
 rw [← HKB.out]
 generalize w.alloc (.cells #[.int .u64 x.1,.int .i64 x.2] 147)=W1 at H0 ⊢
 have ok0:=H0.out.2.1.cell 0;have ok1:=H0.out.2.1.cell 1
 simp only [lTA,lCZ,lCS] at ok0 ok1
 have hat:=rbat_any g x _ _ W1 H0.out.1.tree H0.out.1.rb
 unfold AtW at hat
 rw [HX.out.1] at hat
 have ev:ptrV (.node fa x fv fs fc fl fr)=.pointer (some ⟨fa,0,none⟩):=rfl
 rw [ev] at hat
 go_wp2_with fail
 refine hat.mono ?_
 clear hat ok0 ok1 ev
 rintro e W2 ⟨rfl,hb2⟩
 have H2:=Lib.hid (And.intro (H0.out.1.later hb2) (And.intro (H0.out.2.1.below hb2 H0.out.2.1.lt) (H0.out.2.2.trans (hb2.mono H0.out.2.2.size))))
 clear hb2 H0
 go_upto_region 5 with fail
 have c2:=H2.out.1.tree.cell 2
 have a6:=H2.out.1.rb.1.cell 6;have a7:=H2.out.1.rb.1.cell 7;have a5:=H2.out.1.rb.1.cell 5;have f5:=H2.out.1.rb.1.frozen 5
 have ev:ptrV (.node a k1 v1 s1 false l r)=.pointer (some ⟨a,0,none⟩):=rfl
 rw [ev] at c2
 unfold treeC at c2
 unfold nodeC at a5 a6 a7
 simp only [lTA,lCZ,lCS] at c2 a5 a6 a7
 have hisl:=is_any l W2 H2.out.1.rb.2.1
 have hisr:=is_any r W2 H2.out.1.rb.2.2
 clear ev
 by_cases hc:isR l=false∧isR r=false
 ·have hs:startT (.node a k1 v1 s1 false l r)=.node a k1 v1 s1 true l r:=by show (if isR l=false∧isR r=false then _ else _)=_;rw [if_pos hc];rfl
  rw [hc.1] at hisl
  rw [hc.2] at hisr
  clear hc
  go_wp2_with fail
  refine hisl.mono ?_
  clear hisl
  rintro e w2 ⟨rfl,rfl⟩
  go_wp2_with fail
  refine hisr.mono ?_
  clear hisr
  rintro e w2 ⟨rfl,rfl⟩
  go_upto_region 7 with fail
  have hd:=HD0.out
  rw [hs] at hd
  have hga:g≠a:=fun e=>H2.out.1.far (e ▸ .head _)
  have hka:kb≠a:=fun e=>RBAt.typed H2.out.2.1 (by decide) H2.out.1.rb (e ▸ .head _)
  have H3:=Lib.hid (And.intro (H2.out.1.tree.far (p:=⟨a,5,none⟩) hga (.bool true)) (And.intro (H2.out.1.rb.paint H2.out.1.nd true) (And.intro (H2.out.2.1.far (p:=⟨a,5,none⟩) hka (.bool true)) (And.intro H2.out.1.nd ((Fr.of_below H2.out.2.2).trans (Fr.set (S:=ownR g (.node a k1 v1 s1 false l r)) (b:=a) (o:=5) (u:=.bool true) (.inr (.head _))))))))
  generalize W2.setCell ⟨a,5,none⟩ (.bool true)=W3 at H3 ⊢
  clear c2 a6 a7 a5 f5 H2 HD0 hs hga hka
  have og:=fun e=>(over_cell (w:=W3) (e:=e) (o:=2) H3.out.1.lt).trans (H3.out.1.cell 2)
  have ok0:=fun e=>(over_cell (w:=W3) (e:=e) (o:=0) H3.out.2.2.1.lt).trans (H3.out.2.2.1.cell 0)
  have ok1:=fun e=>(over_cell (w:=W3) (e:=e) (o:=1) H3.out.2.2.1.lt).trans (H3.out.2.2.1.cell 1)
  unfold treeC at og
  simp only [lTA,lCZ,lCS] at og ok0 ok1
  refine wp_region_late (w:=W3) 7 4 0 [] [] [] rfl (by kernel_rfl) (by kernel_rfl) (by kernel_rfl) (by kernel_rfl) (fun _ _ _ _ _ h=>h) trivial ?_
  intro LL hL
  have HL:=Lib.hid hL
  clear hL
  simp only [List.take_succ_cons,List.take_zero,putL]
  iterate 7 (first | refine wpHead_skip (by decide) ?_ | (refine wpHead_step (by decide) (fun K hK=>?_);go_simp;(refine hK _ ?_;clear hK K)))
  refine wpHead_nil (HL.out _ trivial ?_)
  intro vs W4 hb4 hf
  clear hf HL
  change wpList _ _ _ _ _ _
  simp only [List.drop_succ_cons,List.drop_zero,List.take_succ_cons,List.take_zero,putHd]
  have H4:=Lib.hid (And.intro (H3.out.1.below hb4 H3.out.1.lt) (And.intro (H3.out.2.1.later hb4) (And.intro H3.out.2.2.2.1 (H3.out.2.2.2.2.trans (Fr.of_below hb4)))))
  clear og ok0 ok1 hb4 H3
  have HD:=Lib.hid hd
  have hdr:=dropR_any g _ _ x _ _ t' W4 ⟨H4.out.1,H4.out.2.1,H4.out.2.2.1,fun _ h=>h,Fr.refl _ _⟩ HD.out.1
  have ev1:ptrV (.node a k1 v1 s1 true l r)=.pointer (some ⟨a,0,none⟩):=rfl
  rw [ev1] at hdr
  clear ev1 hd
  go_wp2_with fail
  refine hdr.mono ?_
  clear hdr
  rintro e W5 ⟨rfl,hr5,hf5⟩
  have hg5:=H4.out.1.fr hf5 (RBAt.typed H4.out.1 (by decide) H4.out.2.1)
  have hgn:g ∉ addrs t':=RBAt.typed hg5 (by decide) hr5
  obtain⟨hdd,hwell,hlist,b0,hperm⟩:=HD.out
  have hperm2:(addrs (.node a k1 v1 s1 true l r)).Perm (b0 :: addrs t'):=by have:=hperm;rw [(blackT_same t').2.1] at this;exact this
  have hnd5:(addrs t').Nodup:=(List.nodup_cons.1 (hperm2.nodup_iff.1 H4.out.2.2.1)).2
  have hsub:∀ b∈addrs t',b∈addrs (.node a k1 v1 s1 false l r):=fun b hb=>hperm2.mem_iff.2 (.tail _ hb)
  have hlen:(((listT (blackT t')).length:Nat):Int)=(((listT (.node a k1 v1 s1 false l r)).length:Nat):Int) - 1:=by
   have:=HX.out.2.1
   rw [hlist];omega
  have hf5':Fr (ownR g (.node a k1 v1 s1 false l r)) w W5:=H4.out.2.2.2.trans (hf5.weak fun b _ hb=>.inr hb)
  have hpos:=HX.out.2.2
  have HP:=Lib.hid hpos
  clear hperm hdd hf5 hpos HD H4
  cases t' with
  | nil =>
   have e1:ptrV .nil=.pointer none:=rfl
   rw [e1]
   have hg6:=(hg5.set_ 2 (.pointer none)).set_ 3 (.int .i64 ((((listT (.node a k1 v1 s1 false l r)).length:Nat):Int) - 1))
   have hfin:RbT ((W5.setCell ⟨g,2,none⟩ (.pointer none)).setCell ⟨g,3,none⟩ (.int .i64 ((((listT (.node a k1 v1 s1 false l r)).length:Nat):Int) - 1))) g .nil:=by
    refine⟨?_,trivial,List.nodup_nil,hwell⟩
    rw [show (((listT RB.nil).length:Nat):Int)=_ from hlen]
    exact hg6
   have HFIN:=Lib.hid (And.intro hfin (And.intro (show listT RB.nil=_ from hlist) (And.intro hsub ((hf5'.trans (Fr.set (o:=2) (u:=.pointer none) (.inl rfl))).trans (Fr.set (o:=3) (u:=.int .i64 ((((listT (.node a k1 v1 s1 false l r)).length:Nat):Int) - 1)) (.inl rfl))))))
   have c2:=hg5.cell 2;have f2:=hg5.frozen 2
   have d2:=(hg5.set_ 2 (.pointer none)).cell 2;have d3:=(hg5.set_ 2 (.pointer none)).cell 3;have fd3:=(hg5.set_ 2 (.pointer none)).frozen 3
   unfold treeC at c2 d2 d3
   simp at c2 d2 d3
   clear hg5 hr5 hgn hwell hlist hperm2 hnd5 hsub hlen hf5' hg6 hfin e1
   go_upto_region 8 with fail
   generalize W5.setCell ⟨g,2,none⟩ (.pointer none)=W6 at *
   go_wp2_with fail
   go_ret
   exact⟨_,rfl,HFIN.out⟩
  | node a2 k2 v2 s2 c2 l2 r2 =>
   have e1:ptrV (.node a2 k2 v2 s2 c2 l2 r2)=.pointer (some ⟨a2,0,none⟩):=rfl
   rw [e1]
   have hga:g≠a2:=fun e=>hgn (e ▸ .head _)
   have hg6:=hg5.set_ 2 (.pointer (some ⟨a2,0,none⟩))
   have hr6:=hr5.aside (o:=2) (u:=.pointer (some ⟨a2,0,none⟩)) hgn
   have hg7:=hg6.far (p:=⟨a2,5,none⟩) hga (.bool false)
   have hr7:=hr6.paint hnd5 false
   have hg8:=hg7.set_ 3 (.int .i64 ((((listT (.node a k1 v1 s1 false l r)).length:Nat):Int) - 1))
   have hr8:=hr7.aside (o:=3) (u:=.int .i64 ((((listT (.node a k1 v1 s1 false l r)).length:Nat):Int) - 1)) hgn
   have hfin:RbT (((W5.setCell ⟨g,2,none⟩ (.pointer (some ⟨a2,0,none⟩))).setCell ⟨a2,5,none⟩ (.bool false)).setCell ⟨g,3,none⟩ (.int .i64 ((((listT (.node a k1 v1 s1 false l r)).length:Nat):Int) - 1))) g (.node a2 k2 v2 s2 false l2 r2):=by
    refine⟨?_,hr8,hnd5,hwell⟩
    rw [show (((listT (.node a2 k2 v2 s2 false l2 r2)).length:Nat):Int)=_ from hlen]
    exact hg8
   have HFIN:=Lib.hid (And.intro hfin (And.intro (show listT (.node a2 k2 v2 s2 false l2 r2)=_ from hlist) (And.intro hsub (((hf5'.trans (Fr.set (o:=2) (u:=.pointer (some ⟨a2,0,none⟩)) (.inl rfl))).trans (Fr.set (b:=a2) (o:=5) (u:=.bool false) (.inr (hsub a2 (.head _))))).trans (Fr.set (o:=3) (u:=.int .i64 ((((listT (.node a k1 v1 s1 false l r)).length:Nat):Int) - 1)) (.inl rfl))))))
   have x2:=hg5.cell 2;have f2:=hg5.frozen 2
   have d2:=hg6.cell 2
   have n5:=hr6.1.cell 5;have fn5:=hr6.1.frozen 5
   have m3:=hg7.cell 3;have fm3:=hg7.frozen 3
   unfold treeC at x2 d2 m3
   unfold nodeC at n5
   simp at x2 d2 n5 m3
   clear hg5 hr5 hgn hwell hlist hperm2 hnd5 hsub hlen hf5' hg6 hr6 hg7 hr7 hg8 hr8 hfin e1 hga
   go_upto_region 8 with fail
   generalize W5.setCell ⟨g,2,none⟩ (.pointer (some ⟨a2,0,none⟩))=W6 at *
   go_upto_region 10 with fail
   generalize W6.setCell ⟨a2,5,none⟩ (.bool false)=W7 at *
   go_wp2_with fail
   go_ret
   exact⟨_,rfl,HFIN.out⟩
 ·have hs:startT (.node a k1 v1 s1 false l r)=.node a k1 v1 s1 false l r:=by show (if isR l=false∧isR r=false then _ else _)=_;rw [if_neg hc]
  have hd:=HD0.out
  rw [hs] at hd
  have H3:=Lib.hid (And.intro H2.out.1.tree (And.intro H2.out.1.rb (And.intro H2.out.2.1 (And.intro H2.out.1.nd (Fr.of_below (S:=ownR g (.node a k1 v1 s1 false l r)) H2.out.2.2)))))
  obtain⟨W3,hW3⟩:∃ W,W=W2:=⟨_,rfl⟩
  have HD1:=Lib.hid hd
  clear hd
  have hor:isR l=true∨(isR l=false∧isR r=true):=by
   cases e1:isR l
   ·cases e2:isR r
    ·exact absurd ⟨e1,e2⟩ hc
    ·exact .inr ⟨rfl,rfl⟩
   ·exact .inl rfl
  clear hc hs HD0 H2
  rcases hor with h1 | ⟨h1,h2⟩
  ·rw [h1] at hisl
   clear hisr h1
   go_wp2_with fail
   refine hisl.mono ?_
   clear hisl
   rintro e w2 ⟨rfl,rfl⟩
   go_upto_region 7 with fail
   have hd:=HD1.out
   rw [← hW3] at H3 ⊢
   clear hW3 c2 a6 a7 a5 f5 HD1
   have og:=fun e=>(over_cell (w:=W3) (e:=e) (o:=2) H3.out.1.lt).trans (H3.out.1.cell 2)
   have ok0:=fun e=>(over_cell (w:=W3) (e:=e) (o:=0) H3.out.2.2.1.lt).trans (H3.out.2.2.1.cell 0)
   have ok1:=fun e=>(over_cell (w:=W3) (e:=e) (o:=1) H3.out.2.2.1.lt).trans (H3.out.2.2.1.cell 1)
   unfold treeC at og
   simp only [lTA,lCZ,lCS] at og ok0 ok1
   refine wp_region_late (w:=W3) 7 4 0 [] [] [] rfl (by kernel_rfl) (by kernel_rfl) (by kernel_rfl) (by kernel_rfl) (fun _ _ _ _ _ h=>h) trivial ?_
   intro LL hL
   have HL:=Lib.hid hL
   clear hL
   simp only [List.take_succ_cons,List.take_zero,putL]
   iterate 7 (first | refine wpHead_skip (by decide) ?_ | (refine wpHead_step (by decide) (fun K hK=>?_);go_simp;(refine hK _ ?_;clear hK K)))
   refine wpHead_nil (HL.out _ trivial ?_)
   intro vs W4 hb4 hf
   clear hf HL
   change wpList _ _ _ _ _ _
   simp only [List.drop_succ_cons,List.drop_zero,List.take_succ_cons,List.take_zero,putHd]
   have H4:=Lib.hid (And.intro (H3.out.1.below hb4 H3.out.1.lt) (And.intro (H3.out.2.1.later hb4) (And.intro H3.out.2.2.2.1 (H3.out.2.2.2.2.trans (Fr.of_below hb4)))))
   clear og ok0 ok1 hb4 H3
   have HD:=Lib.hid hd
   have hdr:=dropR_any g _ _ x _ _ t' W4 ⟨H4.out.1,H4.out.2.1,H4.out.2.2.1,fun _ h=>h,Fr.refl _ _⟩ HD.out.1
   have ev1:ptrV (.node a k1 v1 s1 false l r)=.pointer (some ⟨a,0,none⟩):=rfl
   rw [ev1] at hdr
   clear ev1 hd
   go_wp2_with fail
   refine hdr.mono ?_
   clear hdr
   rintro e W5 ⟨rfl,hr5,hf5⟩
   have hg5:=H4.out.1.fr hf5 (RBAt.typed H4.out.1 (by decide) H4.out.2.1)
   have hgn:g ∉ addrs t':=RBAt.typed hg5 (by decide) hr5
   obtain⟨hdd,hwell,hlist,b0,hperm⟩:=HD.out
   have hperm2:(addrs (.node a k1 v1 s1 false l r)).Perm (b0 :: addrs t'):=by have:=hperm;rw [(blackT_same t').2.1] at this;exact this
   have hnd5:(addrs t').Nodup:=(List.nodup_cons.1 (hperm2.nodup_iff.1 H4.out.2.2.1)).2
   have hsub:∀ b∈addrs t',b∈addrs (.node a k1 v1 s1 false l r):=fun b hb=>hperm2.mem_iff.2 (.tail _ hb)
   have hlen:(((listT (blackT t')).length:Nat):Int)=(((listT (.node a k1 v1 s1 false l r)).length:Nat):Int) - 1:=by
    have:=HX.out.2.1
    rw [hlist];omega
   have hf5':Fr (ownR g (.node a k1 v1 s1 false l r)) w W5:=H4.out.2.2.2.trans (hf5.weak fun b _ hb=>.inr hb)
   have hpos:=HX.out.2.2
   have HP:=Lib.hid hpos
   clear hperm hdd hf5 hpos HD H4
   cases t' with
   | nil =>
    have e1:ptrV .nil=.pointer none:=rfl
    rw [e1]
    have hg6:=(hg5.set_ 2 (.pointer none)).set_ 3 (.int .i64 ((((listT (.node a k1 v1 s1 false l r)).length:Nat):Int) - 1))
    have hfin:RbT ((W5.setCell ⟨g,2,none⟩ (.pointer none)).setCell ⟨g,3,none⟩ (.int .i64 ((((listT (.node a k1 v1 s1 false l r)).length:Nat):Int) - 1))) g .nil:=by
     refine⟨?_,trivial,List.nodup_nil,hwell⟩
     rw [show (((listT RB.nil).length:Nat):Int)=_ from hlen]
     exact hg6
    have HFIN:=Lib.hid (And.intro hfin (And.intro (show listT RB.nil=_ from hlist) (And.intro hsub ((hf5'.trans (Fr.set (o:=2) (u:=.pointer none) (.inl rfl))).trans (Fr.set (o:=3) (u:=.int .i64 ((((listT (.node a k1 v1 s1 false l r)).length:Nat):Int) - 1)) (.inl rfl))))))
    have c2:=hg5.cell 2;have f2:=hg5.frozen 2
    have d2:=(hg5.set_ 2 (.pointer none)).cell 2;have d3:=(hg5.set_ 2 (.pointer none)).cell 3;have fd3:=(hg5.set_ 2 (.pointer none)).frozen 3
    unfold treeC at c2 d2 d3
    simp at c2 d2 d3
    clear hg5 hr5 hgn hwell hlist hperm2 hnd5 hsub hlen hf5' hg6 hfin e1
    go_upto_region 8 with fail
    generalize W5.setCell ⟨g,2,none⟩ (.pointer none)=W6 at *
    go_wp2_with fail
    go_ret
    exact⟨_,rfl,HFIN.out⟩
   | node a2 k2 v2 s2 c2 l2 r2 =>
    have e1:ptrV (.node a2 k2 v2 s2 c2 l2 r2)=.pointer (some ⟨a2,0,none⟩):=rfl
    rw [e1]
    have hga:g≠a2:=fun e=>hgn (e ▸ .head _)
    have hg6:=hg5.set_ 2 (.pointer (some ⟨a2,0,none⟩))
    have hr6:=hr5.aside (o:=2) (u:=.pointer (some ⟨a2,0,none⟩)) hgn
    have hg7:=hg6.far (p:=⟨a2,5,none⟩) hga (.bool false)
    have hr7:=hr6.paint hnd5 false
    have hg8:=hg7.set_ 3 (.int .i64 ((((listT (.node a k1 v1 s1 false l r)).length:Nat):Int) - 1))
    have hr8:=hr7.aside (o:=3) (u:=.int .i64 ((((listT (.node a k1 v1 s1 false l r)).length:Nat):Int) - 1)) hgn
    have hfin:RbT (((W5.setCell ⟨g,2,none⟩ (.pointer (some ⟨a2,0,none⟩))).setCell ⟨a2,5,none⟩ (.bool false)).setCell ⟨g,3,none⟩ (.int .i64 ((((listT (.node a k1 v1 s1 false l r)).length:Nat):Int) - 1))) g (.node a2 k2 v2 s2 false l2 r2):=by
     refine⟨?_,hr8,hnd5,hwell⟩
     rw [show (((listT (.node a2 k2 v2 s2 false l2 r2)).length:Nat):Int)=_ from hlen]
     exact hg8
    have HFIN:=Lib.hid (And.intro hfin (And.intro (show listT (.node a2 k2 v2 s2 false l2 r2)=_ from hlist) (And.intro hsub (((hf5'.trans (Fr.set (o:=2) (u:=.pointer (some ⟨a2,0,none⟩)) (.inl rfl))).trans (Fr.set (b:=a2) (o:=5) (u:=.bool false) (.inr (hsub a2 (.head _))))).trans (Fr.set (o:=3) (u:=.int .i64 ((((listT (.node a k1 v1 s1 false l r)).length:Nat):Int) - 1)) (.inl rfl))))))
    have x2:=hg5.cell 2;have f2:=hg5.frozen 2
    have d2:=hg6.cell 2
    have n5:=hr6.1.cell 5;have fn5:=hr6.1.frozen 5
    have m3:=hg7.cell 3;have fm3:=hg7.frozen 3
    unfold treeC at x2 d2 m3
    unfold nodeC at n5
    simp at x2 d2 n5 m3
    clear hg5 hr5 hgn hwell hlist hperm2 hnd5 hsub hlen hf5' hg6 hr6 hg7 hr7 hg8 hr8 hfin e1 hga
    go_upto_region 8 with fail
    generalize W5.setCell ⟨g,2,none⟩ (.pointer (some ⟨a2,0,none⟩))=W6 at *
    go_upto_region 10 with fail
    generalize W6.setCell ⟨a2,5,none⟩ (.bool false)=W7 at *
    go_wp2_with fail
    go_ret
    exact⟨_,rfl,HFIN.out⟩
  ·rw [h1] at hisl
   rw [h2] at hisr
   clear h1 h2
   go_wp2_with fail
   refine hisl.mono ?_
   clear hisl
   rintro e w2 ⟨rfl,rfl⟩
   go_wp2_with fail
   refine hisr.mono ?_
   clear hisr
   rintro e w2 ⟨rfl,rfl⟩
   go_upto_region 7 with fail
   have hd:=HD1.out
   rw [← hW3] at H3 ⊢
   clear hW3 c2 a6 a7 a5 f5 HD1
   have og:=fun e=>(over_cell (w:=W3) (e:=e) (o:=2) H3.out.1.lt).trans (H3.out.1.cell 2)
   have ok0:=fun e=>(over_cell (w:=W3) (e:=e) (o:=0) H3.out.2.2.1.lt).trans (H3.out.2.2.1.cell 0)
   have ok1:=fun e=>(over_cell (w:=W3) (e:=e) (o:=1) H3.out.2.2.1.lt).trans (H3.out.2.2.1.cell 1)
   unfold treeC at og
   simp only [lTA,lCZ,lCS] at og ok0 ok1
   refine wp_region_late (w:=W3) 7 4 0 [] [] [] rfl (by kernel_rfl) (by kernel_rfl) (by kernel_rfl) (by kernel_rfl) (fun _ _ _ _ _ h=>h) trivial ?_
   intro LL hL
   have HL:=Lib.hid hL
   clear hL
   simp only [List.take_succ_cons,List.take_zero,putL]
   iterate 7 (first | refine wpHead_skip (by decide) ?_ | (refine wpHead_step (by decide) (fun K hK=>?_);go_simp;(refine hK _ ?_;clear hK K)))
   refine wpHead_nil (HL.out _ trivial ?_)
   intro vs W4 hb4 hf
   clear hf HL
   change wpList _ _ _ _ _ _
   simp only [List.drop_succ_cons,List.drop_zero,List.take_succ_cons,List.take_zero,putHd]
   have H4:=Lib.hid (And.intro (H3.out.1.below hb4 H3.out.1.lt) (And.intro (H3.out.2.1.later hb4) (And.intro H3.out.2.2.2.1 (H3.out.2.2.2.2.trans (Fr.of_below hb4)))))
   clear og ok0 ok1 hb4 H3
   have HD:=Lib.hid hd
   have hdr:=dropR_any g _ _ x _ _ t' W4 ⟨H4.out.1,H4.out.2.1,H4.out.2.2.1,fun _ h=>h,Fr.refl _ _⟩ HD.out.1
   have ev1:ptrV (.node a k1 v1 s1 false l r)=.pointer (some ⟨a,0,none⟩):=rfl
   rw [ev1] at hdr
   clear ev1 hd
   go_wp2_with fail
   refine hdr.mono ?_
   clear hdr
   rintro e W5 ⟨rfl,hr5,hf5⟩
   have hg5:=H4.out.1.fr hf5 (RBAt.typed H4.out.1 (by decide) H4.out.2.1)
   have hgn:g ∉ addrs t':=RBAt.typed hg5 (by decide) hr5
   obtain⟨hdd,hwell,hlist,b0,hperm⟩:=HD.out
   have hperm2:(addrs (.node a k1 v1 s1 false l r)).Perm (b0 :: addrs t'):=by have:=hperm;rw [(blackT_same t').2.1] at this;exact this
   have hnd5:(addrs t').Nodup:=(List.nodup_cons.1 (hperm2.nodup_iff.1 H4.out.2.2.1)).2
   have hsub:∀ b∈addrs t',b∈addrs (.node a k1 v1 s1 false l r):=fun b hb=>hperm2.mem_iff.2 (.tail _ hb)
   have hlen:(((listT (blackT t')).length:Nat):Int)=(((listT (.node a k1 v1 s1 false l r)).length:Nat):Int) - 1:=by
    have:=HX.out.2.1
    rw [hlist];omega
   have hf5':Fr (ownR g (.node a k1 v1 s1 false l r)) w W5:=H4.out.2.2.2.trans (hf5.weak fun b _ hb=>.inr hb)
   have hpos:=HX.out.2.2
   have HP:=Lib.hid hpos
   clear hperm hdd hf5 hpos HD H4
   cases t' with
   | nil =>
    have e1:ptrV .nil=.pointer none:=rfl
    rw [e1]
    have hg6:=(hg5.set_ 2 (.pointer none)).set_ 3 (.int .i64 ((((listT (.node a k1 v1 s1 false l r)).length:Nat):Int) - 1))
    have hfin:RbT ((W5.setCell ⟨g,2,none⟩ (.pointer none)).setCell ⟨g,3,none⟩ (.int .i64 ((((listT (.node a k1 v1 s1 false l r)).length:Nat):Int) - 1))) g .nil:=by
     refine⟨?_,trivial,List.nodup_nil,hwell⟩
     rw [show (((listT RB.nil).length:Nat):Int)=_ from hlen]
     exact hg6
    have HFIN:=Lib.hid (And.intro hfin (And.intro (show listT RB.nil=_ from hlist) (And.intro hsub ((hf5'.trans (Fr.set (o:=2) (u:=.pointer none) (.inl rfl))).trans (Fr.set (o:=3) (u:=.int .i64 ((((listT (.node a k1 v1 s1 false l r)).length:Nat):Int) - 1)) (.inl rfl))))))
    have c2:=hg5.cell 2;have f2:=hg5.frozen 2
    have d2:=(hg5.set_ 2 (.pointer none)).cell 2;have d3:=(hg5.set_ 2 (.pointer none)).cell 3;have fd3:=(hg5.set_ 2 (.pointer none)).frozen 3
    unfold treeC at c2 d2 d3
    simp at c2 d2 d3
    clear hg5 hr5 hgn hwell hlist hperm2 hnd5 hsub hlen hf5' hg6 hfin e1
    go_upto_region 8 with fail
    generalize W5.setCell ⟨g,2,none⟩ (.pointer none)=W6 at *
    go_wp2_with fail
    go_ret
    exact⟨_,rfl,HFIN.out⟩
   | node a2 k2 v2 s2 c2 l2 r2 =>
    have e1:ptrV (.node a2 k2 v2 s2 c2 l2 r2)=.pointer (some ⟨a2,0,none⟩):=rfl
    rw [e1]
    have hga:g≠a2:=fun e=>hgn (e ▸ .head _)
    have hg6:=hg5.set_ 2 (.pointer (some ⟨a2,0,none⟩))
    have hr6:=hr5.aside (o:=2) (u:=.pointer (some ⟨a2,0,none⟩)) hgn
    have hg7:=hg6.far (p:=⟨a2,5,none⟩) hga (.bool false)
    have hr7:=hr6.paint hnd5 false
    have hg8:=hg7.set_ 3 (.int .i64 ((((listT (.node a k1 v1 s1 false l r)).length:Nat):Int) - 1))
    have hr8:=hr7.aside (o:=3) (u:=.int .i64 ((((listT (.node a k1 v1 s1 false l r)).length:Nat):Int) - 1)) hgn
    have hfin:RbT (((W5.setCell ⟨g,2,none⟩ (.pointer (some ⟨a2,0,none⟩))).setCell ⟨a2,5,none⟩ (.bool false)).setCell ⟨g,3,none⟩ (.int .i64 ((((listT (.node a k1 v1 s1 false l r)).length:Nat):Int) - 1))) g (.node a2 k2 v2 s2 false l2 r2):=by
     refine⟨?_,hr8,hnd5,hwell⟩
     rw [show (((listT (.node a2 k2 v2 s2 false l2 r2)).length:Nat):Int)=_ from hlen]
     exact hg8
    have HFIN:=Lib.hid (And.intro hfin (And.intro (show listT (.node a2 k2 v2 s2 false l2 r2)=_ from hlist) (And.intro hsub (((hf5'.trans (Fr.set (o:=2) (u:=.pointer (some ⟨a2,0,none⟩)) (.inl rfl))).trans (Fr.set (b:=a2) (o:=5) (u:=.bool false) (.inr (hsub a2 (.head _))))).trans (Fr.set (o:=3) (u:=.int .i64 ((((listT (.node a k1 v1 s1 false l r)).length:Nat):Int) - 1)) (.inl rfl))))))
    have x2:=hg5.cell 2;have f2:=hg5.frozen 2
    have d2:=hg6.cell 2
    have n5:=hr6.1.cell 5;have fn5:=hr6.1.frozen 5
    have m3:=hg7.cell 3;have fm3:=hg7.frozen 3
    unfold treeC at x2 d2 m3
    unfold nodeC at n5
    simp at x2 d2 n5 m3
    clear hg5 hr5 hgn hwell hlist hperm2 hnd5 hsub hlen hf5' hg6 hr6 hg7 hr7 hg8 hr8 hfin e1 hga
    go_upto_region 8 with fail
    generalize W5.setCell ⟨g,2,none⟩ (.pointer (some ⟨a2,0,none⟩))=W6 at *
    go_upto_region 10 with fail
    generalize W6.setCell ⟨a2,5,none⟩ (.bool false)=W7 at *
    go_wp2_with fail
    go_ret
    exact⟨_,rfl,HFIN.out⟩
end
end Go.Proofs.YtmmeopjemkjllaaGreat
