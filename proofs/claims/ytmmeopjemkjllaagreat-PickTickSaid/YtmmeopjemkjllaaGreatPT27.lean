/- Lemmas of the claim. No conditions beyond those that each states. -/
import Derived.Test.YtmmeopjemkjllaaGreatPT26
set_option linter.unusedVariables false
set_option linter.unusedSimpArgs false
set_option maxRecDepth 100000
set_option maxHeartbeats 8000000
namespace Go.Proofs.YtmmeopjemkjllaaGreat
section
open Go.RowKit
attribute [local go_sem ↓] Go.wp_at_zero Go.wp_at_succ
attribute [local go_sem] quietR quietAtR quietUponR midAt midUpon
theorem put_addr (a:Nat)(k:Ky)(v:Int):∀ (t t':RB),putR a k v t=some t'→(addrs t').Perm (a :: addrs t)
 | .nil,t',h=>by cases h;exact .refl _
 | .node b k2 v2 s c l r,t',h=>by
  unfold putR at h
  split at h
  ·obtain⟨l',h1,h2⟩:=Option.bind_eq_some_iff.1 h
   refine (bal_same h2).1.addr.trans ?_
   show (b :: (addrs l' ++ addrs r)).Perm (a :: b :: (addrs l ++ addrs r))
   exact (List.Perm.cons b ((put_addr a k v l l' h1).append_right _)).trans (.swap a b _)
  ·obtain⟨r',h1,h2⟩:=Option.bind_eq_some_iff.1 h
   refine (bal_same h2).1.addr.trans ?_
   show (b :: (addrs l ++ addrs r')).Perm (a :: b :: (addrs l ++ addrs r))
   exact (List.Perm.cons b (((put_addr a k v r r' h1).append_left _).trans List.perm_middle)).trans (.swap a b _)
def PutW (w:World)(k:Ky)(v:Int)(t:RB)(e:Ending)(w':World):Prop :=
 ∃ a t',e=.returned (ptrV t')∧w.heap.size≤a∧putR a k v t=some t'∧RBAt w' t'∧Fr (fun x=>x∈addrs t) w w'
structure PutS (W:World)(g:Nat)(p:Value)(n:Int)(kb:Nat)(k:Ky)(t:RB):Prop where
 tree:Blk W g 165 (treeC p n)
 rb:RBAt W t
 nd:(addrs t).Nodup
 key:Blk W kb 147 #[.int .u64 k.1,.int .i64 k.2]
theorem PutS.later {W W':World} {g:Nat} {p:Value} {n:Int} {kb:Nat} {k:Ky} {t:RB} (h:PutS W g p n kb k t)(hb:Below W.heap.size W W'):PutS W' g p n kb k t :=
 ⟨h.tree.below hb h.tree.lt,h.rb.later hb,h.nd,h.key.below hb h.key.lt⟩
theorem nd_left {b:Nat} {k2:Ky} {v2:Int} {s:Ky} {c:Bool} {l r:RB} (h:(addrs (.node b k2 v2 s c l r)).Nodup):(addrs l).Nodup:=by
 simp only [addrs,List.nodup_cons,List.nodup_append] at h
 exact h.2.1
theorem put_left {W W':World} {g:Nat} {p:Value} {n:Int} {kb x b:Nat} {k k2:Ky} {v2:Int} {s:Ky} {c:Bool} {l l' r:RB} {q:Option Addr} (h:PutS W g p n kb k (.node b k2 v2 s c l r))(hx:W.heap.size≤x)(hp:(addrs l').Perm (x :: addrs l))(hr:RBAt W' l')(hf:Fr (fun y=>y∈addrs l) W W')(hq:.pointer q=ptrV l') :
  BalS W (W'.setCell ⟨b,6,none⟩ (.pointer q)) g p n (x :: addrs (.node b k2 v2 s c l r)) (.node b k2 v2 s c l' r)∧Blk W' b 193 (nodeC k2 v2 s c l r):=by
 have hnd:=h.nd
 simp only [addrs,List.nodup_cons,List.nodup_append,List.mem_append,not_or] at hnd
 obtain⟨⟨hbl,hbr⟩,hnl,hnr,hlr⟩:=hnd
 have hlt:=fun y hy=>RBAt.lt h.rb y hy
 have hxb:b≠x:=by have:=hlt b (.head _);omega
 have hB':=h.rb.1.fr hf hbl
 have hk:∀ y,y≠b→(W'.setCell ⟨b,6,none⟩ (.pointer q)).heap[y]?=W'.heap[y]?:=fun y hy=>Below.heap_setCell W' ⟨b,6,none⟩ _ y hy
 have hbl':b ∉ addrs l':=fun hm=>by
  rcases List.mem_cons.1 (hp.mem_iff.1 hm) with e | e
  ·exact hxb e
  ·exact hbl e
 have hoth:=h.rb.2.2.fr hf (fun y hy hy2=>hlr y hy2 y hy rfl)
 have hperm:(addrs (.node b k2 v2 s c l' r)).Perm (x :: addrs (.node b k2 v2 s c l r)):=(List.Perm.cons b (hp.append_right _)).trans (.swap x b _)
 have hset:=hB'.set_ 6 (.pointer q)
 refine⟨⟨(hk g (node_ne h.tree h.rb.1 (by decide))).trans (h.tree.fr hf (RBAt.typed h.tree (by decide) h.rb.2.1)),⟨?_,hr.kept fun y hy=>hk y fun e=>hbl' (e ▸ hy),hoth.kept fun y hy=>hk y fun e=>hbr (e ▸ hy)⟩,?_,fun y hy=>hperm.mem_iff.1 hy,?_⟩,hB'⟩
 ·rw [show nodeC k2 v2 s c l' r=(nodeC k2 v2 s c l r).setIfInBounds 6 (.pointer q) by rw [hq];rfl]
  exact hset
 ·refine hperm.nodup_iff.2 (List.nodup_cons.2 ⟨fun hm=>?_,h.nd⟩)
  have:=hlt x hm;omega
 ·exact (hf.weak fun y _ hy=>List.mem_cons.2 (.inr (List.mem_cons.2 (.inr (List.mem_append.2 (.inl hy)))))).trans (Fr.set (List.mem_cons.2 (.inr (.head _))))
theorem nd_right {b:Nat} {k2:Ky} {v2:Int} {s:Ky} {c:Bool} {l r:RB} (h:(addrs (.node b k2 v2 s c l r)).Nodup):(addrs r).Nodup:=by
 simp only [addrs,List.nodup_cons,List.nodup_append] at h
 exact h.2.2.1
theorem put_right {W W':World} {g:Nat} {p:Value} {n:Int} {kb x b:Nat} {k k2:Ky} {v2:Int} {s:Ky} {c:Bool} {l l' r:RB} {q:Option Addr} (h:PutS W g p n kb k (.node b k2 v2 s c l r))(hx:W.heap.size≤x)(hp:(addrs l').Perm (x :: addrs r))(hr:RBAt W' l')(hf:Fr (fun y=>y∈addrs r) W W')(hq:.pointer q=ptrV l') :
  BalS W (W'.setCell ⟨b,7,none⟩ (.pointer q)) g p n (x :: addrs (.node b k2 v2 s c l r)) (.node b k2 v2 s c l l')∧Blk W' b 193 (nodeC k2 v2 s c l r):=by
 have hnd:=h.nd
 simp only [addrs,List.nodup_cons,List.nodup_append,List.mem_append,not_or] at hnd
 obtain⟨⟨hbl,hbr⟩,hnl,hnr,hlr⟩:=hnd
 have hlt:=fun y hy=>RBAt.lt h.rb y hy
 have hxb:b≠x:=by have:=hlt b (.head _);omega
 have hB':=h.rb.1.fr hf hbr
 have hk:∀ y,y≠b→(W'.setCell ⟨b,7,none⟩ (.pointer q)).heap[y]?=W'.heap[y]?:=fun y hy=>Below.heap_setCell W' ⟨b,7,none⟩ _ y hy
 have hbl':b ∉ addrs l':=fun hm=>by
  rcases List.mem_cons.1 (hp.mem_iff.1 hm) with e | e
  ·exact hxb e
  ·exact hbr e
 have hoth:=h.rb.2.1.fr hf (fun y hy hy2=>hlr y hy y hy2 rfl)
 have hperm:(addrs (.node b k2 v2 s c l l')).Perm (x :: addrs (.node b k2 v2 s c l r)):=(List.Perm.cons b ((hp.append_left _).trans List.perm_middle)).trans (.swap x b _)
 have hset:=hB'.set_ 7 (.pointer q)
 refine⟨⟨(hk g (node_ne h.tree h.rb.1 (by decide))).trans (h.tree.fr hf (RBAt.typed h.tree (by decide) h.rb.2.2)),⟨?_,hoth.kept fun y hy=>hk y fun e=>hbl (e ▸ hy),hr.kept fun y hy=>hk y fun e=>hbl' (e ▸ hy)⟩,?_,fun y hy=>hperm.mem_iff.1 hy,?_⟩,hB'⟩
 ·rw [show nodeC k2 v2 s c l l'=(nodeC k2 v2 s c l r).setIfInBounds 7 (.pointer q) by rw [hq];rfl]
  exact hset
 ·refine hperm.nodup_iff.2 (List.nodup_cons.2 ⟨fun hm=>?_,h.nd⟩)
  have:=hlt x hm;omega
 ·exact (hf.weak fun y _ hy=>List.mem_cons.2 (.inr (List.mem_cons.2 (.inr (List.mem_append.2 (.inr hy)))))).trans (Fr.set (List.mem_cons.2 (.inr (.head _))))
theorem put_any (g:Nat)(p:Value)(n:Int)(k:Ky)(v:Int):∀ (t:RB)(w:World),Blk w g 165 (treeC p n)→RBAt w t→(addrs t).Nodup→(∀ a,∃ t',putR a k v t=some t') →
  Calls Tryz.prog 152 #[.pointer (some ⟨g,0,none⟩),ptrV t,.agg #[.int .u64 k.1,.int .i64 k.2],.int .u64 v] w (PutW w k v t):=by
 intro t
 induction t with
 | nil =>
  intro w hg _ _ _
  have hb0:=(Below.refl w.heap.size w).alloc (Nat.le_refl _) (.cells #[.int .u64 k.1,.int .i64 k.2] 147)
  have hk0:=Blk.new w 147 #[.int .u64 k.1,.int .i64 k.2]
  have H0:=Lib.hid (And.intro (hg.below hb0 hg.lt) hk0)
  have HB0:=Lib.hid hb0
  clear hg hb0 hk0
  have ev:ptrV .nil=.pointer none:=rfl
  rw [ev]
  clear ev
  go_enter Tryz.func152,Tryz.ntmps152
  go_upto_region 3 with fail
  obtain⟨kb,hkb⟩:∃ q,q=w.heap.size:=⟨_,rfl⟩
  rw [← hkb] at H0 ⊢
  clear hkb
  generalize w.alloc (.cells #[.int .u64 k.1,.int .i64 k.2] 147)=W1 at H0 HB0 ⊢
  have og:=fun e=>(over_cell (w:=W1) (e:=e) (o:=0) H0.out.1.lt).trans (H0.out.1.cell 0)
  have ok0:=fun e=>(over_cell (w:=W1) (e:=e) (o:=0) H0.out.2.lt).trans (H0.out.2.cell 0)
  have ok1:=fun e=>(over_cell (w:=W1) (e:=e) (o:=1) H0.out.2.lt).trans (H0.out.2.cell 1)
  unfold treeC at og
  simp only [lTA,lCZ,lCS] at og ok0 ok1
  refine wp_region_over_tail 9 (by kernel_rfl) (by kernel_rfl) ?_
  simp only [List.take_succ_cons,List.take_zero,List.drop_succ_cons,List.drop_zero]
  repeat (first | go_big_quiet_skip | (go_big_quiet_want;go_big_quiet_op;first | go_big_quiet_on | (apply Exists.intro;refine⟨fun e=>?_,?_⟩;(focus (go_at_call 78;with_reducible exact calls_over (own_any k v _)));go_big_quiet_on)))
  refine wpQuiet_nil ?_
  rintro W2 ⟨e,he⟩
  have hb2:=over_below W1 e
  rw [← he] at hb2
  have HB:=Lib.hid (HB0.out.trans (hb2.mono HB0.out.size))
  clear he og ok0 ok1 hb2 H0 HB0
  obtain⟨o,ho⟩:∃ o,ownK k v=o:=⟨_,rfl⟩
  rw [ho]
  have HO:=Lib.hid ho
  clear ho
  go_wp2
  go_ret
  have hnb:=Blk.new W2 193 (nodeC k v o true .nil .nil)
  refine⟨W2.heap.size,.node W2.heap.size k v o true .nil .nil,rfl,HB.out.size,by rw [← HO.out];rfl,⟨hnb,trivial,trivial⟩,?_⟩
  exact (Fr.of_below HB.out).trans (Fr.alloc _)
 | node b k2 v2 s c l r ihl ihr =>
  intro w hg h hn hs
  have hb0:=(Below.refl w.heap.size w).alloc (Nat.le_refl _) (.cells #[.int .u64 k.1,.int .i64 k.2] 147)
  have hk0:=Blk.new w 147 #[.int .u64 k.1,.int .i64 k.2]
  obtain⟨kb,hkb⟩:∃ q,q=w.heap.size:=⟨_,rfl⟩
  rw [← hkb] at hk0
  have H0:=Lib.hid (And.intro (⟨hg.below hb0 hg.lt,h.later hb0,hn,hk0⟩:PutS _ g p n kb k (.node b k2 v2 s c l r)) hb0)
  have HS:=Lib.hid hs
  have HKB:=Lib.hid hkb
  clear hg h hn hs hb0 hk0 hkb
  have ev:ptrV (.node b k2 v2 s c l r)=.pointer (some ⟨b,0,none⟩):=rfl
  rw [ev]
  clear ev
  go_enter Tryz.func152,Tryz.ntmps152
  go_upto_region 4 with fail
  rw [← HKB.out]
  generalize w.alloc (.cells #[.int .u64 k.1,.int .i64 k.2] 147)=W1 at H0 ⊢
  have ok0:=fun e=>(over_cell (w:=W1) (e:=e) (o:=0) H0.out.1.key.lt).trans (H0.out.1.key.cell 0)
  have ok1:=fun e=>(over_cell (w:=W1) (e:=e) (o:=1) H0.out.1.key.lt).trans (H0.out.1.key.cell 1)
  have ob0:=fun e=>(over_cell (w:=W1) (e:=e) (o:=0) H0.out.1.rb.1.lt).trans (H0.out.1.rb.1.cell 0)
  have ob1:=fun e=>(over_cell (w:=W1) (e:=e) (o:=1) H0.out.1.rb.1.lt).trans (H0.out.1.rb.1.cell 1)
  unfold nodeC at ob0 ob1
  simp only [lTA,lCZ,lCS] at ok0 ok1 ob0 ob1
  refine wp_region_over_tail 5 (by kernel_rfl) (by kernel_rfl) ?_
  simp only [List.take_succ_cons,List.take_zero,List.drop_succ_cons,List.drop_zero]
  repeat (first | go_big_quiet_skip | (go_big_quiet_want;go_big_quiet_op;go_big_quiet_on))
  refine wpQuiet_nil ?_
  rintro W2 ⟨e,he⟩
  have hb2:=over_below W1 e
  rw [← he] at hb2
  have H2:=Lib.hid (And.intro (H0.out.1.later hb2) (H0.out.2.trans (hb2.mono H0.out.2.size)))
  clear he ok0 ok1 ob0 ob1 hb2 H0
  have hless:=less_any k k2 W2
  go_wp2_with fail
  cases hlt:lessK k k2 with
  | true =>
   rw [hlt] at hless
   have HLT:=Lib.hid hlt
   clear hlt
   refine hless.mono ?_
   clear hless
   rintro e W3 ⟨rfl,hb3⟩
   have H3:=Lib.hid (And.intro (H2.out.1.later hb3) (H2.out.2.trans (hb3.mono H2.out.2.size)))
   clear hb3 H2
   have hrec:∀ a,∃ l',putR a k v l=some l'∧∃ t',putR a k v (.node b k2 v2 s c l r)=some t'∧bal (.node b k2 v2 s c l' r)=some t':=fun a=>by
    obtain⟨t',ht⟩:=HS.out a
    have ht2:=ht
    unfold putR at ht
    rw [if_pos HLT.out] at ht
    obtain⟨l',h1,h2⟩:=Option.bind_eq_some_iff.1 ht
    exact⟨l',h1,t',ht2,h2⟩
   have HREC:=Lib.hid hrec
   clear hrec HLT
   go_upto_region 5 with fail
   have o1:=fun e=>(over_cell (w:=W3) (e:=e) (o:=6) H3.out.1.rb.1.lt).trans (H3.out.1.rb.1.cell 6)
   unfold nodeC at o1
   simp only [lTA,lCZ,lCS] at o1
   have ok0:=fun e=>(over_cell (w:=W3) (e:=e) (o:=0) H3.out.1.key.lt).trans (H3.out.1.key.cell 0)
   have ok1:=fun e=>(over_cell (w:=W3) (e:=e) (o:=1) H3.out.1.key.lt).trans (H3.out.1.key.cell 1)
   simp only [lTA,lCZ,lCS] at ok0 ok1
   refine wp_region_late (w:=W3) 8 4 0 [] [] [] rfl (by kernel_rfl) (by kernel_rfl) (by kernel_rfl) (by kernel_rfl) (fun _ _ _ _ _ h=>h) trivial ?_
   intro LL hL
   have HL:=Lib.hid hL
   clear hL
   simp only [List.take_succ_cons,List.take_zero,putL]
   iterate 8 (first | refine wpHead_skip (by decide) ?_ | (refine wpHead_step (by decide) (fun K hK=>?_);go_simp;(refine hK _ ?_;clear hK K)))
   refine wpHead_nil (HL.out _ trivial ?_)
   intro vs W4 hb4 hf
   clear hf HL
   change wpList _ _ _ _ _ _
   simp only [List.drop_succ_cons,List.drop_zero,List.take_succ_cons,List.take_zero,putHd]
   have H4:=Lib.hid (And.intro (H3.out.1.later hb4) (H3.out.2.trans (hb4.mono H3.out.2.size)))
   clear o1 ok0 ok1 hb4
   have hput:=ihl W4 H4.out.1.tree H4.out.1.rb.2.1 (nd_left H4.out.1.nd) (fun a=>by obtain⟨l',h1,_⟩:=HREC.out a;exact⟨l',h1⟩)
   clear H3
   go_wp2_with fail
   refine hput.mono ?_
   clear hput
   rintro e W5 ⟨x,l',rfl,hx,hxl,hr5,hf5⟩
   obtain⟨pl,hpp⟩:∃ q,ptrV l'=.pointer q:=⟨_,rfl⟩
   obtain⟨hbs,hblk⟩:=put_left H4.out.1 hx (put_addr x k v _ _ hxl) hr5 hf5 hpp.symm
   rw [hpp]
   have H5:=Lib.hid hbs
   have HX:=Lib.hid (And.intro hx hxl)
   have c6:=hblk.cell 6;have f6:=hblk.frozen 6
   unfold nodeC at c6
   simp only [lTA,lCZ,lCS] at c6
   obtain⟨pq,hpq⟩:∃ q,ptrV l=.pointer q:=⟨_,rfl⟩
   rw [hpq] at c6
   clear hpp hx hxl hr5 hf5 hbs hblk hpq
   go_upto_region 6 with fail
   generalize W5.setCell ⟨b,6,none⟩ (.pointer pl)=W6 at H5 ⊢
   clear c6 f6
   obtain⟨l2,e2,t',e3,e4⟩:=HREC.out x
   rw [HX.out.2] at e2
   obtain rfl:l'=l2:=Option.some.inj e2
   have hbal:=balance_any g p n (.node b k2 v2 s c l' r) t' W6 H5.out.tree H5.out.rb H5.out.nd e4
   have ev2:ptrV (.node b k2 v2 s c l' r)=.pointer (some ⟨b,0,none⟩):=rfl
   rw [ev2] at hbal
   have HE:=Lib.hid e3
   clear e2 e3 e4 ev2
   go_wp2_with fail
   refine hbal.mono ?_
   clear hbal
   rintro e W7 ⟨rfl,hr7,hf7⟩
   have HF:=Lib.hid (And.intro hr7 hf7)
   clear hr7 hf7
   go_wp2_with fail
   go_ret
   refine⟨x,t',rfl,Nat.le_trans H4.out.2.size HX.out.1,HE.out,HF.out.1,?_⟩
   have f1:Fr (fun y=>y∈addrs (.node b k2 v2 s c l r)) w W4:=Fr.of_below H4.out.2
   refine f1.trans ((H5.out.fr.trans (HF.out.2.weak fun y _ hy=>H5.out.sub y hy)).weak fun y hy1 hy2=>?_)
   rcases List.mem_cons.1 hy2 with rfl | hy2
   ·have:=HX.out.1;omega
   ·exact hy2
  | false =>
   rw [hlt] at hless
   have HLT:=Lib.hid hlt
   clear hlt
   refine hless.mono ?_
   clear hless
   rintro e W3 ⟨rfl,hb3⟩
   have H3:=Lib.hid (And.intro (H2.out.1.later hb3) (H2.out.2.trans (hb3.mono H2.out.2.size)))
   clear hb3 H2
   have hrec:∀ a,∃ l',putR a k v r=some l'∧∃ t',putR a k v (.node b k2 v2 s c l r)=some t'∧bal (.node b k2 v2 s c l l')=some t':=fun a=>by
    obtain⟨t',ht⟩:=HS.out a
    have ht2:=ht
    unfold putR at ht
    rw [if_neg (by rw [HLT.out];simp)] at ht
    obtain⟨l',h1,h2⟩:=Option.bind_eq_some_iff.1 ht
    exact⟨l',h1,t',ht2,h2⟩
   have HREC:=Lib.hid hrec
   clear hrec HLT
   go_upto_region 1 with fail
   have o1:=fun e=>(over_cell (w:=W3) (e:=e) (o:=7) H3.out.1.rb.1.lt).trans (H3.out.1.rb.1.cell 7)
   unfold nodeC at o1
   simp only [lTA,lCZ,lCS] at o1
   have ok0:=fun e=>(over_cell (w:=W3) (e:=e) (o:=0) H3.out.1.key.lt).trans (H3.out.1.key.cell 0)
   have ok1:=fun e=>(over_cell (w:=W3) (e:=e) (o:=1) H3.out.1.key.lt).trans (H3.out.1.key.cell 1)
   simp only [lTA,lCZ,lCS] at ok0 ok1
   refine wp_region_late (w:=W3) 8 4 0 [] [] [] rfl (by kernel_rfl) (by kernel_rfl) (by kernel_rfl) (by kernel_rfl) (fun _ _ _ _ _ h=>h) trivial ?_
   intro LL hL
   have HL:=Lib.hid hL
   clear hL
   simp only [List.take_succ_cons,List.take_zero,putL]
   iterate 8 (first | refine wpHead_skip (by decide) ?_ | (refine wpHead_step (by decide) (fun K hK=>?_);go_simp;(refine hK _ ?_;clear hK K)))
   refine wpHead_nil (HL.out _ trivial ?_)
   intro vs W4 hb4 hf
   clear hf HL
   change wpList _ _ _ _ _ _
   simp only [List.drop_succ_cons,List.drop_zero,List.take_succ_cons,List.take_zero,putHd]
   have H4:=Lib.hid (And.intro (H3.out.1.later hb4) (H3.out.2.trans (hb4.mono H3.out.2.size)))
   clear o1 ok0 ok1 hb4
   have hput:=ihr W4 H4.out.1.tree H4.out.1.rb.2.2 (nd_right H4.out.1.nd) (fun a=>by obtain⟨l',h1,_⟩:=HREC.out a;exact⟨l',h1⟩)
   clear H3
   go_wp2_with fail
   refine hput.mono ?_
   clear hput
   rintro e W5 ⟨x,l',rfl,hx,hxl,hr5,hf5⟩
   obtain⟨pl,hpp⟩:∃ q,ptrV l'=.pointer q:=⟨_,rfl⟩
   obtain⟨hbs,hblk⟩:=put_right H4.out.1 hx (put_addr x k v _ _ hxl) hr5 hf5 hpp.symm
   rw [hpp]
   have H5:=Lib.hid hbs
   have HX:=Lib.hid (And.intro hx hxl)
   have c6:=hblk.cell 7;have f6:=hblk.frozen 7
   unfold nodeC at c6
   simp only [lTA,lCZ,lCS] at c6
   obtain⟨pq,hpq⟩:∃ q,ptrV r=.pointer q:=⟨_,rfl⟩
   rw [hpq] at c6
   clear hpp hx hxl hr5 hf5 hbs hblk hpq
   go_upto_region 6 with fail
   generalize W5.setCell ⟨b,7,none⟩ (.pointer pl)=W6 at H5 ⊢
   clear c6 f6
   obtain⟨l2,e2,t',e3,e4⟩:=HREC.out x
   rw [HX.out.2] at e2
   obtain rfl:l'=l2:=Option.some.inj e2
   have hbal:=balance_any g p n (.node b k2 v2 s c l l') t' W6 H5.out.tree H5.out.rb H5.out.nd e4
   have ev2:ptrV (.node b k2 v2 s c l l')=.pointer (some ⟨b,0,none⟩):=rfl
   rw [ev2] at hbal
   have HE:=Lib.hid e3
   clear e2 e3 e4 ev2
   go_wp2_with fail
   refine hbal.mono ?_
   clear hbal
   rintro e W7 ⟨rfl,hr7,hf7⟩
   have HF:=Lib.hid (And.intro hr7 hf7)
   clear hr7 hf7
   go_wp2_with fail
   go_ret
   refine⟨x,t',rfl,Nat.le_trans H4.out.2.size HX.out.1,HE.out,HF.out.1,?_⟩
   have f1:Fr (fun y=>y∈addrs (.node b k2 v2 s c l r)) w W4:=Fr.of_below H4.out.2
   refine f1.trans ((H5.out.fr.trans (HF.out.2.weak fun y _ hy=>H5.out.sub y hy)).weak fun y hy1 hy2=>?_)
   rcases List.mem_cons.1 hy2 with rfl | hy2
   ·have:=HX.out.1;omega
   ·exact hy2
end
section
open Go.RowKit
attribute [local go_sem ↓] Go.wp_at_zero Go.wp_at_succ
attribute [local go_sem] quietR quietAtR quietUponR midAt midUpon
theorem child_left {w W W':World} {g:Nat} {p:Value} {n:Int} {S:List Nat} {b:Nat} {k2:Ky} {v2:Int} {s:Ky} {c:Bool} {l l' r:RB} {q:Option Addr} (h:BalS w W g p n S (.node b k2 v2 s c l r))(hn:(addrs l').Nodup)(hs:∀ y∈addrs l',y∈addrs l)(hr:RBAt W' l')(hf:Fr (fun y=>y∈addrs l) W W')(hq:.pointer q=ptrV l') :
  BalS w (W'.setCell ⟨b,6,none⟩ (.pointer q)) g p n S (.node b k2 v2 s c l' r)∧Blk W' b 193 (nodeC k2 v2 s c l r):=by
 have hnd:=h.nd
 simp only [addrs,List.nodup_cons,List.nodup_append,List.mem_append,not_or] at hnd
 obtain⟨⟨hbl,hbr⟩,hnl,hnr,hlr⟩:=hnd
 have hB':=h.rb.1.fr hf hbl
 have hk:∀ y,y≠b→(W'.setCell ⟨b,6,none⟩ (.pointer q)).heap[y]?=W'.heap[y]?:=fun y hy=>Below.heap_setCell W' ⟨b,6,none⟩ _ y hy
 have hbl':b ∉ addrs l':=fun hm=>hbl (hs b hm)
 have hoth:=h.rb.2.2.fr hf (fun y hy hy2=>hlr y hy2 y hy rfl)
 have hset:=hB'.set_ 6 (.pointer q)
 refine⟨⟨(hk g (node_ne h.tree h.rb.1 (by decide))).trans (h.tree.fr hf (RBAt.typed h.tree (by decide) h.rb.2.1)),⟨?_,hr.kept fun y hy=>hk y fun e=>hbl' (e ▸ hy),hoth.kept fun y hy=>hk y fun e=>hbr (e ▸ hy)⟩,?_,fun y hy=>?_,?_⟩,hB'⟩
 ·rw [show nodeC k2 v2 s c l' r=(nodeC k2 v2 s c l r).setIfInBounds 6 (.pointer q) by rw [hq];rfl]
  exact hset
 ·simp only [addrs,List.nodup_cons,List.nodup_append,List.mem_append,not_or]
  exact⟨⟨hbl',hbr⟩,hn,hnr,fun y hy z hz=>hlr y (hs y hy) z hz⟩
 ·rcases List.mem_cons.1 hy with rfl | hy
  ·exact h.sub y (.head _)
  ·rcases List.mem_append.1 hy with hy | hy
   ·exact h.sub y (List.mem_cons.2 (.inr (List.mem_append.2 (.inl (hs y hy)))))
   ·exact h.sub y (List.mem_cons.2 (.inr (List.mem_append.2 (.inr hy))))
 ·exact h.fr.trans ((hf.weak fun y _ hy=>h.sub y (List.mem_cons.2 (.inr (List.mem_append.2 (.inl hy))))).trans (Fr.set (h.sub b (.head _))))
theorem child_right {w W W':World} {g:Nat} {p:Value} {n:Int} {S:List Nat} {b:Nat} {k2:Ky} {v2:Int} {s:Ky} {c:Bool} {l l' r:RB} {q:Option Addr} (h:BalS w W g p n S (.node b k2 v2 s c l r))(hn:(addrs l').Nodup)(hs:∀ y∈addrs l',y∈addrs r)(hr:RBAt W' l')(hf:Fr (fun y=>y∈addrs r) W W')(hq:.pointer q=ptrV l') :
  BalS w (W'.setCell ⟨b,7,none⟩ (.pointer q)) g p n S (.node b k2 v2 s c l l')∧Blk W' b 193 (nodeC k2 v2 s c l r):=by
 have hnd:=h.nd
 simp only [addrs,List.nodup_cons,List.nodup_append,List.mem_append,not_or] at hnd
 obtain⟨⟨hbl,hbr⟩,hnl,hnr,hlr⟩:=hnd
 have hB':=h.rb.1.fr hf hbr
 have hk:∀ y,y≠b→(W'.setCell ⟨b,7,none⟩ (.pointer q)).heap[y]?=W'.heap[y]?:=fun y hy=>Below.heap_setCell W' ⟨b,7,none⟩ _ y hy
 have hbl':b ∉ addrs l':=fun hm=>hbr (hs b hm)
 have hoth:=h.rb.2.1.fr hf (fun y hy hy2=>hlr y hy y hy2 rfl)
 have hset:=hB'.set_ 7 (.pointer q)
 refine⟨⟨(hk g (node_ne h.tree h.rb.1 (by decide))).trans (h.tree.fr hf (RBAt.typed h.tree (by decide) h.rb.2.2)),⟨?_,hoth.kept fun y hy=>hk y fun e=>hbl (e ▸ hy),hr.kept fun y hy=>hk y fun e=>hbl' (e ▸ hy)⟩,?_,fun y hy=>?_,?_⟩,hB'⟩
 ·rw [show nodeC k2 v2 s c l l'=(nodeC k2 v2 s c l r).setIfInBounds 7 (.pointer q) by rw [hq];rfl]
  exact hset
 ·simp only [addrs,List.nodup_cons,List.nodup_append,List.mem_append,not_or]
  exact⟨⟨hbl,hbl'⟩,hnl,hn,fun y hy z hz=>hlr y hy z (hs z hz)⟩
 ·rcases List.mem_cons.1 hy with rfl | hy
  ·exact h.sub y (.head _)
  ·rcases List.mem_append.1 hy with hy | hy
   ·exact h.sub y (List.mem_cons.2 (.inr (List.mem_append.2 (.inl hy))))
   ·exact h.sub y (List.mem_cons.2 (.inr (List.mem_append.2 (.inr (hs y hy)))))
 ·exact h.fr.trans ((hf.weak fun y _ hy=>h.sub y (List.mem_cons.2 (.inr (List.mem_append.2 (.inr hy))))).trans (Fr.set (h.sub b (.head _))))
theorem flip_ptr {t t':RB} (h:flipT t=some t'):ptrV t'=ptrV t:=by
 cases t with
 | nil=>cases h
 | node a k v s c l r =>
  cases l with
  | nil=>cases h
  | node=>cases r with
   | nil=>cases h
   | node=>cases h;rfl
theorem node_of {t:RB} (h:t≠.nil):∃ a k v s c l r,t=.node a k v s c l r:=by
 cases t with
 | nil=>exact absurd rfl h
 | node a k v s c l r=>exact⟨a,k,v,s,c,l,r,rfl⟩
theorem BalS.done {w W:World} {g:Nat} {p:Value} {n:Int} {t t':RB} (h:BalS w W g p n (addrs t) t'):TurnW w (addrs t) t' (.returned (ptrV t')) W:=⟨rfl,h.rb,h.fr⟩
theorem redL_walk (g:Nat)(p:Value)(n:Int)(a:Nat)(k:Ky)(v:Int)(s:Ky)(c:Bool)(b:Nat)(k2:Ky)(v2:Int)(s2:Ky)(c2:Bool)(l2 r2:RB)(d:Nat)(k3:Ky)(v3:Int)(s3:Ky)(c3:Bool)(l3 r3:RB)(t':RB)(w:World)
  (h0:BalS w w g p n (addrs (.node a k v s c (.node b k2 v2 s2 c2 l2 r2) (.node d k3 v3 s3 c3 l3 r3))) (.node a k v s c (.node b k2 v2 s2 c2 l2 r2) (.node d k3 v3 s3 c3 l3 r3)))(e:redL (.node a k v s c (.node b k2 v2 s2 c2 l2 r2) (.node d k3 v3 s3 c3 l3 r3))=some t') :
  Calls Tryz.prog 174 #[.pointer (some ⟨g,0,none⟩),.pointer (some ⟨a,0,none⟩)] w (TurnW w (addrs (.node a k v s c (.node b k2 v2 s2 c2 l2 r2) (.node d k3 v3 s3 c3 l3 r3))) t'):=by
 have e1:flipT (.node a k v s c (.node b k2 v2 s2 c2 l2 r2) (.node d k3 v3 s3 c3 l3 r3))=some (.node a k v s (!c) (.node b k2 v2 s2 (!c2) l2 r2) (.node d k3 v3 s3 (!c3) l3 r3)):=rfl
 unfold redL at e
 rw [e1] at e
 have e:(if isR l3=true then (rotR (.node d k3 v3 s3 (!c3) l3 r3)).bind fun r=>(rotL (.node a k v s (!c) (.node b k2 v2 s2 (!c2) l2 r2) r)).bind flipT else some (.node a k v s (!c) (.node b k2 v2 s2 (!c2) l2 r2) (.node d k3 v3 s3 (!c3) l3 r3)))=some t':=e
 have hf:=flip_walk a k v s c b k2 v2 s2 c2 l2 r2 d k3 v3 s3 c3 l3 r3 w h0.rb h0.nd
 have H0:=Lib.hid h0
 have HF:=Lib.hid (flip_same e1).1.addr
 obtain⟨S,hS⟩:∃ S,S=addrs (.node a k v s c (.node b k2 v2 s2 c2 l2 r2) (.node d k3 v3 s3 c3 l3 r3)):=⟨_,rfl⟩
 rw [← hS] at H0 ⊢
 have HSE:=Lib.hid hS
 have E:=Lib.hid e
 clear e e1 h0 hS
 go_enter Tryz.func174,Tryz.ntmps174
 go_wp2_with fail
 refine hf.mono ?_
 clear hf
 rintro e W1 ⟨rfl,hr1,hf1⟩
 have H1:=Lib.hid (H0.out.turn HF.out hr1 hf1)
 clear hr1 hf1 H0 HF
 generalize (!c)=c' at H1 E
 generalize (!c2)=c2' at H1 E
 generalize (!c3)=c3' at H1 E
 have a7:=H1.out.rb.1.cell 7;have d6:=H1.out.rb.2.2.1.cell 6
 unfold nodeC at a7 d6
 simp only [lTA,lCZ,lCS] at a7 d6
 have ed:ptrV (.node d k3 v3 s3 c3' l3 r3)=.pointer (some ⟨d,0,none⟩):=rfl
 rw [ed] at a7
 cases hl:isR l3 with
 | false =>
  have hir:=is_eq l3 _ hl W1 H1.out.rb.2.2.2.1
  have e:=E.out
  rw [hl] at e
  cases e
  clear hl ed
  go_wp2_with fail
  refine hir.mono ?_
  rintro e w1 ⟨rfl,rfl⟩
  go_wp2_with fail
  go_ret
  rw [HSE.out] at H1 ⊢
  exact H1.out.done
 | true =>
  have hir:=is_eq l3 _ hl W1 H1.out.rb.2.2.2.1
  have e:=E.out
  rw [hl,if_pos rfl] at e
  obtain⟨r',e1,e⟩:=Option.bind_eq_some_iff.1 e
  obtain⟨t3,e2,e3⟩:=Option.bind_eq_some_iff.1 e
  have hrot:=rotR_any g p n _ _ W1 H1.out.tree H1.out.rb.2.2 (nd_right H1.out.nd) e1
  rw [ed] at hrot
  have hs1:=rotR_same e1
  have HE:=Lib.hid (And.intro hs1.1.addr (And.intro e2 e3))
  clear hl e e1 e2 e3 ed E hs1
  go_wp2_with fail
  refine hir.mono ?_
  clear hir d6
  rintro e w1 ⟨rfl,rfl⟩
  go_wp2_with fail
  refine hrot.mono ?_
  clear hrot
  rintro e W2 ⟨rfl,hr2,hf2⟩
  obtain⟨q,hq⟩:∃ q,ptrV r'=.pointer q:=⟨_,rfl⟩
  obtain⟨hb2,hB2⟩:=child_right H1.out (HE.out.1.nodup_iff.2 (nd_right H1.out.nd)) (fun y hy=>HE.out.1.mem_iff.1 hy) hr2 hf2 hq.symm
  rw [hq]
  have H2:=Lib.hid hb2
  have c7:=hB2.cell 7;have f7:=hB2.frozen 7
  unfold nodeC at c7
  simp only [lTA,lCZ,lCS] at c7
  have ed:ptrV (.node d k3 v3 s3 c3' l3 r3)=.pointer (some ⟨d,0,none⟩):=rfl
  rw [ed] at c7
  clear hr2 hf2 hq hb2 hB2 ed a7
  go_upto_region 4 with fail
  generalize W2.setCell ⟨a,7,none⟩ (.pointer q)=W3 at H2 ⊢
  clear c7 f7 H1
  have hrot:=rotL_any g p n _ _ W3 H2.out.tree H2.out.rb H2.out.nd HE.out.2.1
  have ea:ptrV (.node a k v s c' (.node b k2 v2 s2 c2' l2 r2) r')=.pointer (some ⟨a,0,none⟩):=rfl
  rw [ea] at hrot
  clear ea
  go_wp2_with fail
  refine hrot.mono ?_
  clear hrot
  rintro e W4 ⟨rfl,hr4,hf4⟩
  have H4:=Lib.hid (H2.out.turn (rotL_same HE.out.2.1).1.addr hr4 hf4)
  clear hr4 hf4 H2
  have hfl:=flip_any t3 t' W4 H4.out.rb H4.out.nd HE.out.2.2
  go_wp2_with fail
  refine hfl.mono ?_
  clear hfl
  rintro e W5 ⟨rfl,hr5,hf5⟩
  have H5:=Lib.hid (H4.out.turn (flip_same HE.out.2.2).1.addr hr5 hf5)
  clear hr5 hf5 H4
  go_wp2_with fail
  go_ret
  rw [HSE.out] at H5 ⊢
  rw [← flip_ptr HE.out.2.2]
  exact H5.out.done
theorem redL_any (g:Nat)(p:Value)(n:Int)(t t':RB)(w:World)(h:BalS w w g p n (addrs t) t)(e:redL t=some t') :
  Calls Tryz.prog 174 #[.pointer (some ⟨g,0,none⟩),ptrV t] w (TurnW w (addrs t) t'):=by
 cases t with
 | nil=>cases e
 | node a k v s c l r =>
  cases l with
  | nil=>cases e
  | node b k2 v2 s2 c2 l2 r2 =>
   cases r with
   | nil=>cases e
   | node d k3 v3 s3 c3 l3 r3=>exact redL_walk g p n a k v s c b k2 v2 s2 c2 l2 r2 d k3 v3 s3 c3 l3 r3 t' w h e
theorem redRt_walk (g:Nat)(p:Value)(n:Int)(a:Nat)(k:Ky)(v:Int)(s:Ky)(c:Bool)(b:Nat)(k2:Ky)(v2:Int)(s2:Ky)(c2:Bool)(l2 r2:RB)(d:Nat)(k3:Ky)(v3:Int)(s3:Ky)(c3:Bool)(l3 r3:RB)(t':RB)(w:World)
  (h0:BalS w w g p n (addrs (.node a k v s c (.node b k2 v2 s2 c2 l2 r2) (.node d k3 v3 s3 c3 l3 r3))) (.node a k v s c (.node b k2 v2 s2 c2 l2 r2) (.node d k3 v3 s3 c3 l3 r3)))(e:redRt (.node a k v s c (.node b k2 v2 s2 c2 l2 r2) (.node d k3 v3 s3 c3 l3 r3))=some t') :
  Calls Tryz.prog 176 #[.pointer (some ⟨g,0,none⟩),.pointer (some ⟨a,0,none⟩)] w (TurnW w (addrs (.node a k v s c (.node b k2 v2 s2 c2 l2 r2) (.node d k3 v3 s3 c3 l3 r3))) t'):=by
 have e1:flipT (.node a k v s c (.node b k2 v2 s2 c2 l2 r2) (.node d k3 v3 s3 c3 l3 r3))=some (.node a k v s (!c) (.node b k2 v2 s2 (!c2) l2 r2) (.node d k3 v3 s3 (!c3) l3 r3)):=rfl
 unfold redRt at e
 rw [e1] at e
 have e:(if isR l2=true then (rotR (.node a k v s (!c) (.node b k2 v2 s2 (!c2) l2 r2) (.node d k3 v3 s3 (!c3) l3 r3))).bind flipT else some (.node a k v s (!c) (.node b k2 v2 s2 (!c2) l2 r2) (.node d k3 v3 s3 (!c3) l3 r3)))=some t':=e
 have hf:=flip_walk a k v s c b k2 v2 s2 c2 l2 r2 d k3 v3 s3 c3 l3 r3 w h0.rb h0.nd
 have H0:=Lib.hid h0
 have HF:=Lib.hid (flip_same e1).1.addr
 obtain⟨S,hS⟩:∃ S,S=addrs (.node a k v s c (.node b k2 v2 s2 c2 l2 r2) (.node d k3 v3 s3 c3 l3 r3)):=⟨_,rfl⟩
 rw [← hS] at H0 ⊢
 have HSE:=Lib.hid hS
 have E:=Lib.hid e
 clear e e1 h0 hS
 go_enter Tryz.func176,Tryz.ntmps176
 go_wp2_with fail
 refine hf.mono ?_
 clear hf
 rintro e W1 ⟨rfl,hr1,hf1⟩
 have H1:=Lib.hid (H0.out.turn HF.out hr1 hf1)
 clear hr1 hf1 H0 HF
 generalize (!c)=c' at H1 E
 generalize (!c2)=c2' at H1 E
 generalize (!c3)=c3' at H1 E
 have a6:=H1.out.rb.1.cell 6;have b6:=H1.out.rb.2.1.1.cell 6
 unfold nodeC at a6 b6
 simp only [lTA,lCZ,lCS] at a6 b6
 have eb:ptrV (.node b k2 v2 s2 c2' l2 r2)=.pointer (some ⟨b,0,none⟩):=rfl
 rw [eb] at a6
 clear eb
 cases hl:isR l2 with
 | false =>
  have hir:=is_eq l2 _ hl W1 H1.out.rb.2.1.2.1
  have e:=E.out
  rw [hl] at e
  cases e
  clear hl
  go_wp2_with fail
  refine hir.mono ?_
  rintro e w1 ⟨rfl,rfl⟩
  go_wp2_with fail
  go_ret
  rw [HSE.out] at H1 ⊢
  exact H1.out.done
 | true =>
  have hir:=is_eq l2 _ hl W1 H1.out.rb.2.1.2.1
  have e:=E.out
  rw [hl,if_pos rfl] at e
  obtain⟨t3,e2,e3⟩:=Option.bind_eq_some_iff.1 e
  have HE:=Lib.hid (And.intro e2 e3)
  have hrot:=rotR_any g p n _ _ W1 H1.out.tree H1.out.rb H1.out.nd e2
  have ea:ptrV (.node a k v s c' (.node b k2 v2 s2 c2' l2 r2) (.node d k3 v3 s3 c3' l3 r3))=.pointer (some ⟨a,0,none⟩):=rfl
  rw [ea] at hrot
  clear hl e e2 e3 E ea
  go_wp2_with fail
  refine hir.mono ?_
  clear hir a6 b6
  rintro e w1 ⟨rfl,rfl⟩
  go_wp2_with fail
  refine hrot.mono ?_
  clear hrot
  rintro e W4 ⟨rfl,hr4,hf4⟩
  have H4:=Lib.hid (H1.out.turn (rotR_same HE.out.1).1.addr hr4 hf4)
  clear hr4 hf4 H1
  have hfl:=flip_any t3 t' W4 H4.out.rb H4.out.nd HE.out.2
  go_wp2_with fail
  refine hfl.mono ?_
  clear hfl
  rintro e W5 ⟨rfl,hr5,hf5⟩
  have H5:=Lib.hid (H4.out.turn (flip_same HE.out.2).1.addr hr5 hf5)
  clear hr5 hf5 H4
  go_wp2_with fail
  go_ret
  rw [HSE.out] at H5 ⊢
  rw [← flip_ptr HE.out.2]
  exact H5.out.done
theorem redRt_any (g:Nat)(p:Value)(n:Int)(t t':RB)(w:World)(h:BalS w w g p n (addrs t) t)(e:redRt t=some t') :
  Calls Tryz.prog 176 #[.pointer (some ⟨g,0,none⟩),ptrV t] w (TurnW w (addrs t) t'):=by
 cases t with
 | nil=>cases e
 | node a k v s c l r =>
  cases l with
  | nil=>cases e
  | node b k2 v2 s2 c2 l2 r2 =>
   cases r with
   | nil=>cases e
   | node d k3 v3 s3 c3 l3 r3=>exact redRt_walk g p n a k v s c b k2 v2 s2 c2 l2 r2 d k3 v3 s3 c3 l3 r3 t' w h e
end
section
open Go.RowKit
attribute [local go_sem ↓] Go.wp_at_zero Go.wp_at_succ
attribute [local go_sem] quietR quietAtR quietUponR midAt midUpon
theorem less_of_perm {l l':List Nat} {x:Nat} (h:l.Perm (x :: l'))(hn:l.Nodup):l'.Nodup∧∀ y∈l',y∈l :=
 ⟨(List.nodup_cons.1 (h.nodup_iff.1 hn)).2,fun y hy=>h.mem_iff.2 (.tail _ hy)⟩
theorem dropF_any (g:Nat)(p:Value)(n:Int):∀ (m:Nat)(t t':RB)(w:World),BalS w w g p n (addrs t) t→dropF m t=some t' →
  Calls Tryz.prog 177 #[.pointer (some ⟨g,0,none⟩),ptrV t] w (TurnW w (addrs t) t'):=by
 intro m
 induction m with
 | zero=>intro t t' w _ e;cases e
 | succ m ih =>
  intro t t' w h e
  cases t with
  | nil=>cases e
  | node a k v s c l r =>
  have ev:ptrV (.node a k v s c l r)=.pointer (some ⟨a,0,none⟩):=rfl
  rw [ev]
  have EV:=Lib.hid ev
  clear ev
  by_cases hl:l=.nil
  ·subst hl
   unfold dropF at e
   rw [if_pos (show adr .nil=none from rfl)] at e
   split at e
   ·cases e
    have a6:=h.rb.1.cell 6
    unfold nodeC at a6
    simp only [lTA,lCZ,lCS] at a6
    have en:ptrV .nil=.pointer none:=rfl
    rw [en] at a6
    have HE:=Lib.hid (Fr.refl (fun x=>x∈addrs (.node a k v s c .nil r)) w)
    clear h en
    go_enter Tryz.func177,Tryz.ntmps177
    go_wp2_with fail
    go_ret
    exact⟨rfl,trivial,HE.out⟩
   ·cases e
  ·unfold dropF at e
   rw [if_neg (fun hh=>hl (adr_none.1 hh))] at e
   obtain⟨t1,e1,e⟩:=Option.bind_eq_some_iff.1 e
   obtain⟨l',e2,e3⟩:=Option.bind_eq_some_iff.1 e
   have EG:=Lib.hid e1
   have E:=Lib.hid (And.intro e2 e3)
   have H0N:=Lib.hid hl
   obtain⟨S,hS⟩:∃ S,S=addrs (.node a k v s c l r):=⟨_,rfl⟩
   rw [← hS] at h ⊢
   have H0:=Lib.hid h
   have a6:=h.rb.1.cell 6
   unfold nodeC at a6
   simp only [lTA,lCZ,lCS] at a6
   obtain⟨bb,kk,vv,ss,cc,ll,rr,hch⟩:=node_of hl
   have el:ptrV l=.pointer (some ⟨bb,0,none⟩):=by rw [hch];rfl
   rw [el] at a6
   clear e e1 e2 e3 hl hS h hch el
   go_enter Tryz.func177,Tryz.ntmps177
   go_upto_region 3 with fail
   clear a6
   go_cut [26] from 10 to 26 (fun vc wx=>Cnd (isR l=false∧isR (lft l)=false) w vc wx)
   case first =>
    have a6:=H0.out.rb.1.cell 6
    unfold nodeC at a6
    simp only [lTA,lCZ,lCS] at a6
    obtain⟨bb,kk,vv,ss,cc,ll,rr,hch⟩:=node_of H0N.out
    have hrb:=H0.out.rb.2.1
    rw [hch] at hrb
    have b6:=hrb.1.cell 6
    unfold nodeC at b6
    simp only [lTA,lCZ,lCS] at b6
    have hil:=is_any l w H0.out.rb.2.1
    have hill:=is_any ll w hrb.2.1
    have el:ptrV l=.pointer (some ⟨bb,0,none⟩):=by rw [hch];rfl
    rw [el] at a6 hil
    have HCH:=Lib.hid hch
    cases hl:isR l with
    | true =>
     rw [hl] at hil
     have HRR:=Lib.hid hl
     clear hl el hch hrb
     go_wp2_with fail
     refine hil.mono ?_
     rintro e w1 ⟨rfl,rfl⟩
     go_wp2_with fail
     go_meet
     exact⟨_,rfl,by rw [HRR.out];simp,rfl⟩
    | false =>
     rw [hl] at hil
     have HRR:=Lib.hid hl
     clear hl el hch hrb
     go_wp2_with fail
     refine hil.mono ?_
     rintro e w1 ⟨rfl,rfl⟩
     go_wp2_with fail
     refine hill.mono ?_
     rintro e w1 ⟨rfl,rfl⟩
     go_wp2_with fail
     go_meet
     exact⟨_,rfl,by rw [HRR.out,HCH.out,lft_node];simp,rfl⟩
   case rest =>
    obtain⟨cb,rfl,hcb,hwc⟩:=hcut
    rw [hwc]
    clear hwc
    have HC:=Lib.hid hcb
    clear hcb
    go_upto_if 26 with fail
    go_cut [1] from 27 to 29 (fun vx wx=>BalR w g p n S (goL (.node a k v s c l r)) vx wx)
    case first =>
     cases cb with
     | false =>
      have HB:=Lib.hid (show goL (.node a k v s c l r)=some (.node a k v s c l r) by
       obtain⟨bb,kk,vv,ss,cc,ll,rr,hch⟩:=node_of H0N.out
       have hh:=fun hx=>Bool.false_ne_true (HC.out.2 hx)
       unfold goL
       rw [lft_node]
       rw [hch] at hh ⊢
       exact if_neg (fun hx=>hh ⟨hx.1,hx.2⟩))
      go_wp2_with fail
      go_meet
      exact⟨_,HB.out,EV.out.symm,H0.out⟩
     | true =>
      have HB:=Lib.hid (show goL (.node a k v s c l r)=redL (.node a k v s c l r) by
       obtain⟨bb,kk,vv,ss,cc,ll,rr,hch⟩:=node_of H0N.out
       have hh:=HC.out.1 rfl
       unfold goL
       rw [lft_node]
       rw [hch] at hh ⊢
       exact if_pos ⟨hh.1,hh.2⟩)
      have hred:=redL_any g p n (.node a k v s c l r) t1 w ⟨H0.out.tree,H0.out.rb,H0.out.nd,fun _ h=>h,Fr.refl _ _⟩ (by rw [← HB.out];exact EG.out)
      rw [EV.out] at hred
      go_wp2_with fail
      refine hred.mono ?_
      clear hred
      rintro e w1 ⟨rfl,hr1,hf1⟩
      have H9:=Lib.hid (H0.out.turn (goL_same EG.out).1.addr hr1 hf1)
      clear hr1 hf1
      go_wp2_with fail
      go_meet
      exact⟨_,EG.out,rfl,H9.out⟩
    case rest =>
     obtain⟨tq,e1,rfl,hb1⟩:=hcut
     rw [EG.out] at e1
     obtain rfl:t1=tq:=Option.some.inj e1
     obtain⟨W1,rfl⟩:∃ W,W=wc:=⟨_,rfl⟩
     have H1:=Lib.hid hb1
     clear hb1 e1 H0 EV
     have hne:t1≠.nil:=by
      rintro rfl
      have e2:=E.out.1
      cases m <;> cases e2
     cases t1 with
     | nil=>exact absurd rfl hne
     | node a1 k1 v1 s1 c1 l1 r1 =>
     have e2:dropF m l1=some l':=E.out.1
     have e3:bal (.node a1 k1 v1 s1 c1 l' r1)=some t':=E.out.2
     obtain⟨_,⟨x,hx⟩,_⟩:=dropF_list m l1 l' e2
     have hsub:=less_of_perm hx (nd_left H1.out.nd)
     have hrec:=ih l1 l' W1 ⟨H1.out.tree,H1.out.rb.2.1,nd_left H1.out.nd,fun _ h=>h,Fr.refl _ _⟩ e2
     have HE:=Lib.hid (And.intro e3 hsub)
     have a6:=H1.out.rb.1.cell 6
     unfold nodeC at a6
     simp only [lTA,lCZ,lCS] at a6
     obtain⟨q0,hq0⟩:∃ q,ptrV l1=.pointer q:=⟨_,rfl⟩
     rw [hq0] at a6 hrec
     have HQ:=Lib.hid hq0
     have ev:ptrV (.node a1 k1 v1 s1 c1 l1 r1)=.pointer (some ⟨a1,0,none⟩):=rfl
     rw [ev]
     clear ev hne e2 e3 hx hsub E EG hq0
     go_wp2_with fail
     refine hrec.mono ?_
     clear hrec a6
     rintro e W2 ⟨rfl,hr2,hf2⟩
     obtain⟨q,hq⟩:∃ q,ptrV l'=.pointer q:=⟨_,rfl⟩
     obtain⟨hb2,hB2⟩:=child_left H1.out HE.out.2.1 HE.out.2.2 hr2 hf2 hq.symm
     rw [hq]
     have H2:=Lib.hid hb2
     have c6:=hB2.cell 6;have f6:=hB2.frozen 6
     unfold nodeC at c6
     simp only [lTA,lCZ,lCS] at c6
     rw [HQ.out] at c6
     clear hr2 hf2 hq hb2 hB2
     go_upto_region 6 with fail
     generalize W2.setCell ⟨a1,6,none⟩ (.pointer q)=W3 at H2 ⊢
     clear c6 f6 H1
     have hbal:=balance_any g p n _ t' W3 H2.out.tree H2.out.rb H2.out.nd HE.out.1
     have ea:ptrV (.node a1 k1 v1 s1 c1 l' r1)=.pointer (some ⟨a1,0,none⟩):=rfl
     rw [ea] at hbal
     clear ea
     go_wp2_with fail
     refine hbal.mono ?_
     clear hbal
     rintro e W4 ⟨rfl,hr4,hf4⟩
     have H4:=Lib.hid (H2.out.turn (bal_same HE.out.1).1.addr hr4 hf4)
     clear hr4 hf4 H2
     go_wp2_with fail
     go_ret
     exact⟨rfl,H4.out.rb,H4.out.fr⟩
end
end Go.Proofs.YtmmeopjemkjllaaGreat
