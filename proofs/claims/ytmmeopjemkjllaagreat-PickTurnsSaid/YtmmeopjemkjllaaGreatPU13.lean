/- Lemmas of the claim. No conditions beyond those that each states. -/
import Derived.Test.YtmmeopjemkjllaaGreatPU12
set_option linter.unusedVariables false
set_option linter.unusedSimpArgs false
set_option maxRecDepth 100000
set_option maxHeartbeats 8000000
namespace Go.Proofs.YtmmeopjemkjllaaGreat
section
open Go.RowKit
attribute [local go_sem ↓] Go.wp_at_zero Go.wp_at_succ
attribute [local go_sem] quietR quietAtR quietUponR midAt midUpon
theorem less_of_perm {l l':List Nat} {x:Nat} (h:l.Perm (x :: l'))(hn:l.Nodup):l'.Nodup∧∀ y∈l',y∈l :=
 ⟨(List.nodup_cons.1 (h.nodup_iff.1 hn)).2,fun y hy=>h.mem_iff.2 (.tail _ hy)⟩
theorem dropF_any (g:Nat)(p:Value)(n:Int):∀ (m:Nat)(t t':RB)(w:World),BalS w w g p n (addrs t) t→dropF m t=some t' →
  Calls Tryz.prog 177 #[.pointer (some ⟨g,0,none⟩),ptrV t] w (TurnW w (addrs t) t'):=by
 intro m
 induction m with
 | zero=>intro t t' w _ e;cases e
 | succ m ih =>
  intro t t' w h e
  cases t with
  | nil=>cases e
  | node a k v s c l r =>
  have ev:ptrV (.node a k v s c l r)=.pointer (some ⟨a,0,none⟩):=rfl
  rw [ev]
  have EV:=Lib.hid ev
  clear ev
  by_cases hl:l=.nil
  ·subst hl
   unfold dropF at e
   rw [if_pos (show adr .nil=none from rfl)] at e
   split at e
   ·cases e
    have a6:=h.rb.1.cell 6
    unfold nodeC at a6
    simp only [lTA,lCZ,lCS] at a6
    have en:ptrV .nil=.pointer none:=rfl
    rw [en] at a6
    have HE:=Lib.hid (Fr.refl (fun x=>x∈addrs (.node a k v s c .nil r)) w)
    clear h en
    go_enter Tryz.func177,Tryz.ntmps177
    go_wp2_with fail
    go_ret
    exact⟨rfl,trivial,HE.out⟩
   ·cases e
  ·unfold dropF at e
   rw [if_neg (fun hh=>hl (adr_none.1 hh))] at e
   obtain⟨t1,e1,e⟩:=Option.bind_eq_some_iff.1 e
   obtain⟨l',e2,e3⟩:=Option.bind_eq_some_iff.1 e
   have EG:=Lib.hid e1
   have E:=Lib.hid (And.intro e2 e3)
   have H0N:=Lib.hid hl
   obtain⟨S,hS⟩:∃ S,S=addrs (.node a k v s c l r):=⟨_,rfl⟩
   rw [← hS] at h ⊢
   have H0:=Lib.hid h
   have a6:=h.rb.1.cell 6
   unfold nodeC at a6
   simp only [lTA,lCZ,lCS] at a6
   obtain⟨bb,kk,vv,ss,cc,ll,rr,hch⟩:=node_of hl
   have el:ptrV l=.pointer (some ⟨bb,0,none⟩):=by rw [hch];rfl
   rw [el] at a6
   clear e e1 e2 e3 hl hS h hch el
   go_enter Tryz.func177,Tryz.ntmps177
   go_upto_region 3 with fail
   clear a6
   go_cut [26] from 10 to 26 (fun vc wx=>Cnd (isR l=false∧isR (lft l)=false) w vc wx)
   case first =>
    have a6:=H0.out.rb.1.cell 6
    unfold nodeC at a6
    simp only [lTA,lCZ,lCS] at a6
    obtain⟨bb,kk,vv,ss,cc,ll,rr,hch⟩:=node_of H0N.out
    have hrb:=H0.out.rb.2.1
    rw [hch] at hrb
    have b6:=hrb.1.cell 6
    unfold nodeC at b6
    simp only [lTA,lCZ,lCS] at b6
    have hil:=is_any l w H0.out.rb.2.1
    have hill:=is_any ll w hrb.2.1
    have el:ptrV l=.pointer (some ⟨bb,0,none⟩):=by rw [hch];rfl
    rw [el] at a6 hil
    have HCH:=Lib.hid hch
    cases hl:isR l with
    | true =>
     rw [hl] at hil
     have HRR:=Lib.hid hl
     clear hl el hch hrb
     go_wp2_with fail
     refine hil.mono ?_
     rintro e w1 ⟨rfl,rfl⟩
     go_wp2_with fail
     go_meet
     exact⟨_,rfl,by rw [HRR.out];simp,rfl⟩
    | false =>
     rw [hl] at hil
     have HRR:=Lib.hid hl
     clear hl el hch hrb
     go_wp2_with fail
     refine hil.mono ?_
     rintro e w1 ⟨rfl,rfl⟩
     go_wp2_with fail
     refine hill.mono ?_
     rintro e w1 ⟨rfl,rfl⟩
     go_wp2_with fail
     go_meet
     exact⟨_,rfl,by rw [HRR.out,HCH.out,lft_node];simp,rfl⟩
   case rest =>
    obtain⟨cb,rfl,hcb,hwc⟩:=hcut
    rw [hwc]
    clear hwc
    have HC:=Lib.hid hcb
    clear hcb
    go_upto_if 26 with fail
    go_cut [1] from 27 to 29 (fun vx wx=>BalR w g p n S (goL (.node a k v s c l r)) vx wx)
    case first =>
     cases cb with
     | false =>
      have HB:=Lib.hid (show goL (.node a k v s c l r)=some (.node a k v s c l r) by
       obtain⟨bb,kk,vv,ss,cc,ll,rr,hch⟩:=node_of H0N.out
       have hh:=fun hx=>Bool.false_ne_true (HC.out.2 hx)
       unfold goL
       rw [lft_node]
       rw [hch] at hh ⊢
       exact if_neg (fun hx=>hh ⟨hx.1,hx.2⟩))
      go_wp2_with fail
      go_meet
      exact⟨_,HB.out,EV.out.symm,H0.out⟩
     | true =>
      have HB:=Lib.hid (show goL (.node a k v s c l r)=redL (.node a k v s c l r) by
       obtain⟨bb,kk,vv,ss,cc,ll,rr,hch⟩:=node_of H0N.out
       have hh:=HC.out.1 rfl
       unfold goL
       rw [lft_node]
       rw [hch] at hh ⊢
       exact if_pos ⟨hh.1,hh.2⟩)
      have hred:=redL_any g p n (.node a k v s c l r) t1 w ⟨H0.out.tree,H0.out.rb,H0.out.nd,fun _ h=>h,Fr.refl _ _⟩ (by rw [← HB.out];exact EG.out)
      rw [EV.out] at hred
      go_wp2_with fail
      refine hred.mono ?_
      clear hred
      rintro e w1 ⟨rfl,hr1,hf1⟩
      have H9:=Lib.hid (H0.out.turn (goL_same EG.out).1.addr hr1 hf1)
      clear hr1 hf1
      go_wp2_with fail
      go_meet
      exact⟨_,EG.out,rfl,H9.out⟩
    case rest =>
     obtain⟨tq,e1,rfl,hb1⟩:=hcut
     rw [EG.out] at e1
     obtain rfl:t1=tq:=Option.some.inj e1
     obtain⟨W1,rfl⟩:∃ W,W=wc:=⟨_,rfl⟩
     have H1:=Lib.hid hb1
     clear hb1 e1 H0 EV
     have hne:t1≠.nil:=by
      rintro rfl
      have e2:=E.out.1
      cases m <;> cases e2
     cases t1 with
     | nil=>exact absurd rfl hne
     | node a1 k1 v1 s1 c1 l1 r1 =>
     have e2:dropF m l1=some l':=E.out.1
     have e3:bal (.node a1 k1 v1 s1 c1 l' r1)=some t':=E.out.2
     obtain⟨_,⟨x,hx⟩,_⟩:=dropF_list m l1 l' e2
     have hsub:=less_of_perm hx (nd_left H1.out.nd)
     have hrec:=ih l1 l' W1 ⟨H1.out.tree,H1.out.rb.2.1,nd_left H1.out.nd,fun _ h=>h,Fr.refl _ _⟩ e2
     have HE:=Lib.hid (And.intro e3 hsub)
     have a6:=H1.out.rb.1.cell 6
     unfold nodeC at a6
     simp only [lTA,lCZ,lCS] at a6
     obtain⟨q0,hq0⟩:∃ q,ptrV l1=.pointer q:=⟨_,rfl⟩
     rw [hq0] at a6 hrec
     have HQ:=Lib.hid hq0
     have ev:ptrV (.node a1 k1 v1 s1 c1 l1 r1)=.pointer (some ⟨a1,0,none⟩):=rfl
     rw [ev]
     clear ev hne e2 e3 hx hsub E EG hq0
     go_wp2_with fail
     refine hrec.mono ?_
     clear hrec a6
     rintro e W2 ⟨rfl,hr2,hf2⟩
     obtain⟨q,hq⟩:∃ q,ptrV l'=.pointer q:=⟨_,rfl⟩
     obtain⟨hb2,hB2⟩:=child_left H1.out HE.out.2.1 HE.out.2.2 hr2 hf2 hq.symm
     rw [hq]
     have H2:=Lib.hid hb2
     have c6:=hB2.cell 6;have f6:=hB2.frozen 6
     unfold nodeC at c6
     simp only [lTA,lCZ,lCS] at c6
     rw [HQ.out] at c6
     clear hr2 hf2 hq hb2 hB2
     go_upto_region 6 with fail
     generalize W2.setCell ⟨a1,6,none⟩ (.pointer q)=W3 at H2 ⊢
     clear c6 f6 H1
     have hbal:=balance_any g p n _ t' W3 H2.out.tree H2.out.rb H2.out.nd HE.out.1
     have ea:ptrV (.node a1 k1 v1 s1 c1 l' r1)=.pointer (some ⟨a1,0,none⟩):=rfl
     rw [ea] at hbal
     clear ea
     go_wp2_with fail
     refine hbal.mono ?_
     clear hbal
     rintro e W4 ⟨rfl,hr4,hf4⟩
     have H4:=Lib.hid (H2.out.turn (bal_same HE.out.1).1.addr hr4 hf4)
     clear hr4 hf4 H2
     go_wp2_with fail
     go_ret
     exact⟨rfl,H4.out.rb,H4.out.fr⟩
end
section
open Go.RowKit
attribute [local go_sem ↓] Go.wp_at_zero Go.wp_at_succ
attribute [local go_sem] quietR quietAtR quietUponR midAt midUpon
theorem dropR_addr (x:Ky):∀ (n:Nat)(t t':RB),dropR n x t=some t'→∃ b,(addrs t).Perm (b :: addrs t')
 | 0,t,t',h=>by cases h
 | n+1,.nil,t',h=>by cases h
 | n+1,.node a k v s c l r,t',h=>by
  unfold dropR at h
  split at h
  ·obtain⟨t1,h1,h⟩:=Option.bind_eq_some_iff.1 h
   obtain⟨l',h2,h3⟩:=Option.bind_eq_some_iff.1 h
   have hne:t1≠.nil:=by
    rintro rfl
    cases n <;> cases h2
   have e3:=(goL_same h1).1.addr
   obtain⟨a1,k1,v1,s1,c1,l1,r1,rfl,hset⟩:=setL_node (l':=l') hne
   rw [hset] at h3
   obtain⟨b,f2⟩:=dropR_addr x n _ _ h2
   refine⟨b,e3.symm.trans (.trans ?_ (.cons b (bal_same h3).1.addr.symm))⟩
   show (a1 :: (addrs l1 ++ addrs r1)).Perm (b :: a1 :: (addrs l' ++ addrs r1))
   exact (List.Perm.cons a1 (List.Perm.append_right _ f2)).trans (.swap b a1 _)
  ·obtain⟨t1,h1,h⟩:=Option.bind_eq_some_iff.1 h
   have e1:=(leanR_same h1).1.addr
   split at h
   ·rename_i hx
    split at h
    ·rename_i hl
     have hl:=adr_none.1 hl
     have hr:=adr_none.1 hx.2
     cases h
     cases t1 with
     | nil=>cases hx.1
     | node a1 k1 v1 s1 c1 l1 r1 =>
      cases hl
      cases hr
      exact⟨a1,e1.symm⟩
    ·cases h
   ·obtain⟨t2,h2,h⟩:=Option.bind_eq_some_iff.1 h
    have e3:=(goR_same h2).1.addr.trans e1
    cases t2 with
    | nil =>
     split at h
     ·rename_i hx;cases hx
     ·obtain⟨r',f1,h⟩:=Option.bind_eq_some_iff.1 h
      cases n <;> cases f1
    | node a2 k2 v2 s2 c2 l2 r2 =>
     split at h
     ·obtain⟨e,f1,h⟩:=Option.bind_eq_some_iff.1 h
      obtain⟨r',f2,h⟩:=Option.bind_eq_some_iff.1 h
      obtain⟨_,⟨b,g3⟩,_⟩:=dropF_list n _ _ f2
      refine⟨b,e3.symm.trans (.trans ?_ (.cons b (bal_same h).1.addr.symm))⟩
      show (a2 :: (addrs l2 ++ addrs r2)).Perm (b :: a2 :: (addrs l2 ++ addrs r'))
      have g3:(addrs r2).Perm (b :: addrs r'):=g3
      exact (List.Perm.cons a2 ((g3.append_left _).trans List.perm_middle)).trans (.swap b a2 _)
     ·obtain⟨r',f2,h⟩:=Option.bind_eq_some_iff.1 h
      obtain⟨b,g3⟩:=dropR_addr x n _ _ f2
      refine⟨b,e3.symm.trans (.trans ?_ (.cons b (bal_same h).1.addr.symm))⟩
      show (a2 :: (addrs l2 ++ addrs r2)).Perm (b :: a2 :: (addrs l2 ++ addrs r'))
      have g3:(addrs r2).Perm (b :: addrs r'):=g3
      exact (List.Perm.cons a2 ((g3.append_left _).trans List.perm_middle)).trans (.swap b a2 _)
def CndB (P:Prop)(w:World)(v:Value)(W:World):Prop:=∃ b:Bool,v=.bool b∧(b=true↔P)∧Below w.heap.size w W
theorem BalS.rekey {w W:World} {g:Nat} {p:Value} {n:Int} {S:List Nat} {a:Nat} {k:Ky} {v:Int} {s:Ky} {c:Bool} {l r:RB} (h:BalS w W g p n S (.node a k v s c l r))(k':Ky)(v':Int) :
  BalS w (((W.setCell ⟨a,0,none⟩ (.int .u64 k'.1)).setCell ⟨a,1,none⟩ (.int .i64 k'.2)).setCell ⟨a,2,none⟩ (.int .u64 v')).drew g p n S (.node a k' v' s c l r):=by
 have hk:∀ y,y≠a→(((W.setCell ⟨a,0,none⟩ (.int .u64 k'.1)).setCell ⟨a,1,none⟩ (.int .i64 k'.2)).setCell ⟨a,2,none⟩ (.int .u64 v')).heap[y]?=W.heap[y]?:=fun y hy =>
  (Below.heap_setCell _ ⟨a,2,none⟩ _ y hy).trans ((Below.heap_setCell _ ⟨a,1,none⟩ _ y hy).trans (Below.heap_setCell _ ⟨a,0,none⟩ _ y hy))
 have hnd:=List.nodup_cons.1 h.nd
 have hs:=((h.rb.1.set_ 0 (.int .u64 k'.1)).set_ 1 (.int .i64 k'.2)).set_ 2 (.int .u64 v')
 refine⟨(hk g (node_ne h.tree h.rb.1 (by decide))).trans h.tree,⟨hs,h.rb.2.1.kept fun y hy=>hk y fun e=>hnd.1 (e ▸ List.mem_append.2 (.inl hy)),h.rb.2.2.kept fun y hy=>hk y fun e=>hnd.1 (e ▸ List.mem_append.2 (.inr hy))⟩,h.nd,h.sub,?_⟩
 have f1:Fr (fun x=>x∈S) W (((W.setCell ⟨a,0,none⟩ (.int .u64 k'.1)).setCell ⟨a,1,none⟩ (.int .i64 k'.2)).setCell ⟨a,2,none⟩ (.int .u64 v')):=((Fr.set (h.sub a (.head _))).trans (Fr.set (h.sub a (.head _)))).trans (Fr.set (h.sub a (.head _)))
 exact h.fr.trans ⟨f1.os,f1.tape,f1.output,f1.size,f1.block⟩
theorem dropR_any (g:Nat)(p:Value)(n:Int)(x:Ky):∀ (m:Nat)(t t':RB)(w:World),BalS w w g p n (addrs t) t→dropR m x t=some t' →
  Calls Tryz.prog 154 #[.pointer (some ⟨g,0,none⟩),ptrV t,.agg #[.int .u64 x.1,.int .i64 x.2]] w (TurnW w (addrs t) t'):=by
 intro m
 induction m with
 | zero=>intro t t' w _ e;cases e
 | succ m ih =>
  intro t t' w h e
  cases t with
  | nil=>cases e
  | node a k v s c l r =>
  have ev:ptrV (.node a k v s c l r)=.pointer (some ⟨a,0,none⟩):=rfl
  rw [ev]
  have EV:=Lib.hid ev
  clear ev
  have hb0:=(Below.refl w.heap.size w).alloc (Nat.le_refl _) (.cells #[.int .u64 x.1,.int .i64 x.2] 147)
  have hk0:=Blk.new w 147 #[.int .u64 x.1,.int .i64 x.2]
  obtain⟨kb,hkb⟩:∃ q,q=w.heap.size:=⟨_,rfl⟩
  rw [← hkb] at hk0
  obtain⟨S,hS⟩:∃ S,S=addrs (.node a k v s c l r):=⟨_,rfl⟩
  rw [← hS] at h ⊢
  have hb:=h.later hb0
  have H0:=Lib.hid (⟨hb.tree,hb.rb,hb.nd,hb.sub,Fr.refl _ _⟩:BalS (w.alloc (.cells #[.int .u64 x.1,.int .i64 x.2] 147)) (w.alloc (.cells #[.int .u64 x.1,.int .i64 x.2] 147)) g p n S (.node a k v s c l r))
  have HKEY:=Lib.hid (And.intro hk0 (show kb ∉ S by rw [hS];exact RBAt.typed hk0 (by decide) hb.rb))
  have HA:=Lib.hid (Fr.of_below (S:=fun y=>y∈S) hb0)
  have HKB:=Lib.hid hkb
  have E0:=Lib.hid e
  clear h hb hb0 hk0 hkb hS e
  go_enter Tryz.func154,Tryz.ntmps154
  go_upto_region 1 with fail
  rw [← HKB.out]
  generalize w.alloc (.cells #[.int .u64 x.1,.int .i64 x.2] 147)=W0 at H0 HKEY HA ⊢
  have ok0:=fun e=>(over_cell (w:=W0) (e:=e) (o:=0) HKEY.out.1.lt).trans (HKEY.out.1.cell 0)
  have ok1:=fun e=>(over_cell (w:=W0) (e:=e) (o:=1) HKEY.out.1.lt).trans (HKEY.out.1.cell 1)
  have oa0:=fun e=>(over_cell (w:=W0) (e:=e) (o:=0) H0.out.rb.1.lt).trans (H0.out.rb.1.cell 0)
  have oa1:=fun e=>(over_cell (w:=W0) (e:=e) (o:=1) H0.out.rb.1.lt).trans (H0.out.rb.1.cell 1)
  unfold nodeC at oa0 oa1
  simp only [lTA,lCZ,lCS] at ok0 ok1 oa0 oa1
  refine wp_region_over_tail 5 (by kernel_rfl) (by kernel_rfl) ?_
  simp only [List.take_succ_cons,List.take_zero,List.drop_succ_cons,List.drop_zero]
  repeat (first | go_big_quiet_skip | (go_big_quiet_want;go_big_quiet_op;go_big_quiet_on))
  refine wpQuiet_nil ?_
  rintro W1 ⟨e,he⟩
  have hb1:=over_below W0 e
  rw [← he] at hb1
  have H1:=Lib.hid (H0.out.later hb1)
  clear he ok0 ok1 oa0 oa1 hb1 H0
  have hless:=less_any x k W1
  go_wp2_with fail
  cases hlt:lessK x k with
  | true =>
   rw [hlt] at hless
   have e:=E0.out
   unfold dropR at e
   rw [if_pos hlt] at e
   obtain⟨t1,e1,e⟩:=Option.bind_eq_some_iff.1 e
   obtain⟨l',e2,e3⟩:=Option.bind_eq_some_iff.1 e
   have hl:l≠.nil:=by
    rintro rfl
    cases e1
   have EG:=Lib.hid e1
   have E:=Lib.hid (And.intro e2 e3)
   have H2N:=Lib.hid hl
   clear e e1 e2 e3 hl hlt E0
   refine hless.mono ?_
   clear hless
   rintro e W2 ⟨rfl,hb2⟩
   have H2:=Lib.hid (H1.out.later hb2)
   clear hb2 H1
   go_upto_region 2 with fail
   go_cut [30] from 14 to 30 (fun vc wx=>Cnd (isR l=false∧isR (lft l)=false) W2 vc wx)
   case first =>
    have a6:=H2.out.rb.1.cell 6
    unfold nodeC at a6
    simp only [lTA,lCZ,lCS] at a6
    obtain⟨bb,kk,vv,ss,cc,ll,rr,hch⟩:=node_of H2N.out
    have hrb:=H2.out.rb.2.1
    rw [hch] at hrb
    have b6:=hrb.1.cell 6
    unfold nodeC at b6
    simp only [lTA,lCZ,lCS] at b6
    have hil:=is_any l W2 H2.out.rb.2.1
    have hill:=is_any ll W2 hrb.2.1
    have el:ptrV l=.pointer (some ⟨bb,0,none⟩):=by rw [hch];rfl
    rw [el] at a6 hil
    have HCH:=Lib.hid hch
    cases hl:isR l with
    | true =>
     rw [hl] at hil
     have HRR:=Lib.hid hl
     clear hl el hch hrb
     go_wp2_with fail
     refine hil.mono ?_
     rintro e w1 ⟨rfl,rfl⟩
     go_wp2_with fail
     go_meet
     exact⟨_,rfl,by rw [HRR.out];simp,rfl⟩
    | false =>
     rw [hl] at hil
     have HRR:=Lib.hid hl
     clear hl el hch hrb
     go_wp2_with fail
     refine hil.mono ?_
     rintro e w1 ⟨rfl,rfl⟩
     go_wp2_with fail
     refine hill.mono ?_
     rintro e w1 ⟨rfl,rfl⟩
     go_wp2_with fail
     go_meet
     exact⟨_,rfl,by rw [HRR.out,HCH.out,lft_node];simp,rfl⟩
   case rest =>
    obtain⟨cb,rfl,hcb,hwc⟩:=hcut
    rw [hwc]
    clear hwc
    have HC:=Lib.hid hcb
    clear hcb
    go_upto_if 30 with fail
    go_cut [1] from 31 to 33 (fun vx wx=>BalR W0 g p n S (goL (.node a k v s c l r)) vx wx)
    case first =>
     cases cb with
     | false =>
      have HB:=Lib.hid (show goL (.node a k v s c l r)=some (.node a k v s c l r) by
       obtain⟨bb,kk,vv,ss,cc,ll,rr,hch⟩:=node_of H2N.out
       have hh:=fun hx=>Bool.false_ne_true (HC.out.2 hx)
       unfold goL
       rw [lft_node]
       rw [hch] at hh ⊢
       exact if_neg (fun hx=>hh ⟨hx.1,hx.2⟩))
      go_wp2_with fail
      go_meet
      exact⟨_,HB.out,EV.out.symm,H2.out⟩
     | true =>
      have HB:=Lib.hid (show goL (.node a k v s c l r)=redL (.node a k v s c l r) by
       obtain⟨bb,kk,vv,ss,cc,ll,rr,hch⟩:=node_of H2N.out
       have hh:=HC.out.1 rfl
       unfold goL
       rw [lft_node]
       rw [hch] at hh ⊢
       exact if_pos ⟨hh.1,hh.2⟩)
      have hred:=redL_any g p n (.node a k v s c l r) t1 W2 ⟨H2.out.tree,H2.out.rb,H2.out.nd,fun _ h=>h,Fr.refl _ _⟩ (by rw [← HB.out];exact EG.out)
      rw [EV.out] at hred
      go_wp2_with fail
      refine hred.mono ?_
      clear hred
      rintro e w1 ⟨rfl,hr1,hf1⟩
      have H9:=Lib.hid (H2.out.turn (goL_same EG.out).1.addr hr1 hf1)
      clear hr1 hf1
      go_wp2_with fail
      go_meet
      exact⟨_,EG.out,rfl,H9.out⟩
    case rest =>
     obtain⟨tq,e1,rfl,hb1⟩:=hcut
     rw [EG.out] at e1
     obtain rfl:t1=tq:=Option.some.inj e1
     obtain⟨W3,rfl⟩:∃ W,W=wc:=⟨_,rfl⟩
     have H3:=Lib.hid hb1
     clear hb1 e1 H2 EV
     have hne:t1≠.nil:=by
      rintro rfl
      have e2:=E.out.1
      cases m <;> cases e2
     cases t1 with
     | nil=>exact absurd rfl hne
     | node a1 k1 v1 s1 c1 l1 r1 =>
     have e2:dropR m x l1=some l':=E.out.1
     have e3:bal (.node a1 k1 v1 s1 c1 l' r1)=some t':=E.out.2
     obtain⟨y,hy⟩:=dropR_addr x m l1 l' e2
     have hsub:=less_of_perm hy (nd_left H3.out.nd)
     have HE:=Lib.hid (And.intro e3 hsub)
     have HR:=Lib.hid e2
     obtain⟨q0,hq0⟩:∃ q,ptrV l1=.pointer q:=⟨_,rfl⟩
     have HQ:=Lib.hid hq0
     have ev:ptrV (.node a1 k1 v1 s1 c1 l1 r1)=.pointer (some ⟨a1,0,none⟩):=rfl
     rw [ev]
     clear ev hne e2 e3 hy hsub E EG hq0
     go_upto_region 4 with fail
     have oc:=fun e=>(over_cell (w:=W3) (e:=e) (o:=6) H3.out.rb.1.lt).trans (H3.out.rb.1.cell 6)
     unfold nodeC at oc
     simp only [lTA,lCZ,lCS] at oc
     have hkey:=HKEY.out.1.fr H3.out.fr HKEY.out.2
     have ok0:=fun e=>(over_cell (w:=W3) (e:=e) (o:=0) hkey.lt).trans (hkey.cell 0)
     have ok1:=fun e=>(over_cell (w:=W3) (e:=e) (o:=1) hkey.lt).trans (hkey.cell 1)
     simp only [lTA,lCZ,lCS] at ok0 ok1
     clear hkey
     rw [HQ.out] at oc
     refine wp_region_late (w:=W3) 7 4 0 [] [] [] rfl (by kernel_rfl) (by kernel_rfl) (by kernel_rfl) (by kernel_rfl) (fun _ _ _ _ _ h=>h) trivial ?_
     intro LL hL
     have HL:=Lib.hid hL
     clear hL
     simp only [List.take_succ_cons,List.take_zero,putL]
     iterate 7 (first | refine wpHead_skip (by decide) ?_ | (refine wpHead_step (by decide) (fun K hK=>?_);go_simp;(refine hK _ ?_;clear hK K)))
     refine wpHead_nil (HL.out _ trivial ?_)
     intro vs W5 hbL hf
     clear hf HL
     change wpList _ _ _ _ _ _
     simp only [List.drop_succ_cons,List.drop_zero,List.take_succ_cons,List.take_zero,putHd]
     clear oc ok0 ok1
     have H5:=Lib.hid (H3.out.later hbL)
     clear hbL H3
     have hrec:=ih l1 l' W5 ⟨H5.out.tree,H5.out.rb.2.1,nd_left H5.out.nd,fun _ h=>h,Fr.refl _ _⟩ HR.out
     rw [HQ.out] at hrec
     go_wp2_with fail
     refine hrec.mono ?_
     clear hrec
     rintro e W6 ⟨rfl,hr2,hf2⟩
     obtain⟨q,hq⟩:∃ q,ptrV l'=.pointer q:=⟨_,rfl⟩
     obtain⟨hb2,hB2⟩:=child_left H5.out HE.out.2.1 HE.out.2.2 hr2 hf2 hq.symm
     rw [hq]
     have H7:=Lib.hid hb2
     have c6:=hB2.cell 6;have f6:=hB2.frozen 6
     unfold nodeC at c6
     simp only [lTA,lCZ,lCS] at c6
     rw [HQ.out] at c6
     clear hr2 hf2 hq hb2 hB2
     go_upto_region 5 with fail
     generalize W6.setCell ⟨a1,6,none⟩ (.pointer q)=W7 at H7 ⊢
     clear c6 f6 H5
     have hbal:=balance_any g p n _ t' W7 H7.out.tree H7.out.rb H7.out.nd HE.out.1
     have ea:ptrV (.node a1 k1 v1 s1 c1 l' r1)=.pointer (some ⟨a1,0,none⟩):=rfl
     rw [ea] at hbal
     clear ea
     go_wp2_with fail
     refine hbal.mono ?_
     clear hbal
     rintro e W9 ⟨rfl,hr4,hf4⟩
     have H8:=Lib.hid (H7.out.turn (bal_same HE.out.1).1.addr hr4 hf4)
     clear hr4 hf4 H7
     go_wp2_with fail
     go_ret
     exact⟨rfl,H8.out.rb,(HA.out.trans H8.out.fr)⟩
  | false =>
   rw [hlt] at hless
   have e:=E0.out
   unfold dropR at e
   rw [if_neg (by rw [hlt];simp)] at e
   obtain⟨t1,e1,e⟩:=Option.bind_eq_some_iff.1 e
   have EG:=Lib.hid e1
   have E:=Lib.hid e
   clear e e1 hlt E0
   refine hless.mono ?_
   clear hless
   rintro e W2 ⟨rfl,hb2⟩
   have H2:=Lib.hid (H1.out.later hb2)
   clear hb2 H1
   go_upto_region 6 with fail
   go_cut [51] from 47 to 51 (fun vc wx=>Cnd (isR l=true) W2 vc wx)
   case first =>
    have a6:=H2.out.rb.1.cell 6
    unfold nodeC at a6
    simp only [lTA,lCZ,lCS] at a6
    have hil:=is_any l W2 H2.out.rb.2.1
    go_wp2_with fail
    refine hil.mono ?_
    rintro e w1 ⟨rfl,rfl⟩
    go_wp2_with fail
    go_meet
    exact⟨_,rfl,Iff.rfl,rfl⟩
   case rest =>
    obtain⟨cb,rfl,hcb,hwc⟩:=hcut
    rw [hwc]
    clear hwc
    have HC:=Lib.hid hcb
    clear hcb
    go_upto_if 51 with fail
    go_cut [1] from 52 to 54 (fun vx wx=>BalR W0 g p n S (leanR (.node a k v s c l r)) vx wx)
    case first =>
     cases cb with
     | false =>
      have HB:=Lib.hid (show leanR (.node a k v s c l r)=some (.node a k v s c l r) by unfold leanR;rw [lft_node,if_neg (fun hx=>Bool.false_ne_true (HC.out.2 hx))])
      go_wp2_with fail
      go_meet
      exact⟨_,HB.out,EV.out.symm,H2.out⟩
     | true =>
      have HB:=Lib.hid (show leanR (.node a k v s c l r)=rotR (.node a k v s c l r) by unfold leanR;rw [lft_node,if_pos (HC.out.1 rfl)])
      have hrot:=rotR_any g p n (.node a k v s c l r) t1 W2 H2.out.tree H2.out.rb H2.out.nd (by rw [← HB.out];exact EG.out)
      rw [EV.out] at hrot
      go_wp2_with fail
      refine hrot.mono ?_
      clear hrot
      rintro e w1 ⟨rfl,hr1,hf1⟩
      have H9:=Lib.hid (H2.out.turn (leanR_same EG.out).1.addr hr1 hf1)
      clear hr1 hf1
      go_wp2_with fail
      go_meet
      exact⟨_,EG.out,rfl,H9.out⟩
    case rest =>
     obtain⟨tq,e1,rfl,hb1⟩:=hcut
     rw [EG.out] at e1
     obtain rfl:t1=tq:=Option.some.inj e1
     obtain⟨W3,rfl⟩:∃ W,W=wc:=⟨_,rfl⟩
     have H3:=Lib.hid hb1
     clear hb1 e1 H2 EV HC EG
     have hne:t1≠.nil:=by
      rintro rfl
      have e:=E.out
      rw [if_neg (by intro hh;cases hh.1)] at e
      cases e
     cases t1 with
     | nil=>exact absurd rfl hne
     | node a1 k1 v1 s1 c1 l1 r1 =>
     have ev:ptrV (.node a1 k1 v1 s1 c1 l1 r1)=.pointer (some ⟨a1,0,none⟩):=rfl
     rw [ev]
     have EV:=Lib.hid ev
     clear ev hne
     go_upto_region 8 with fail
     go_cut [67] from 55 to 67 (fun vc wx=>CndB (k1=x∧r1=.nil) W3 vc wx)
     case first =>
      have hkey:=HKEY.out.1.fr H3.out.fr HKEY.out.2
      have ok0:=fun e=>(over_cell (w:=W3) (e:=e) (o:=0) hkey.lt).trans (hkey.cell 0)
      have ok1:=fun e=>(over_cell (w:=W3) (e:=e) (o:=1) hkey.lt).trans (hkey.cell 1)
      have oa0:=fun e=>(over_cell (w:=W3) (e:=e) (o:=0) H3.out.rb.1.lt).trans (H3.out.rb.1.cell 0)
      have oa1:=fun e=>(over_cell (w:=W3) (e:=e) (o:=1) H3.out.rb.1.lt).trans (H3.out.rb.1.cell 1)
      have oa7:=fun e=>(over_cell (w:=W3) (e:=e) (o:=7) H3.out.rb.1.lt).trans (H3.out.rb.1.cell 7)
      unfold nodeC at oa0 oa1 oa7
      simp only [lTA,lCZ,lCS] at ok0 ok1 oa0 oa1 oa7
      clear hkey
      by_cases hk:k1=x
      ·have HK:=Lib.hid hk
       subst hk
       have hkeq:=key_eqT k1
       by_cases hr:r1=.nil
       ·have er:ptrV r1=.pointer none:=by rw [hr];rfl
        rw [er] at oa7
        have HR:=Lib.hid hr
        clear er hr
        refine wp_region_over (by kernel_rfl) (by kernel_rfl) ?_
        repeat (first | go_big_quiet_skip | (go_big_quiet_want;go_big_quiet_op;go_big_quiet_on))
        refine wpQuiet_nil ?_
        rintro W4 ⟨e,he⟩
        have hb4:=over_below W3 e
        rw [← he] at hb4
        have HB4:=Lib.hid hb4
        clear he hb4 ok0 ok1 oa0 oa1 oa7 hkeq
        go_wp2_with fail
        go_meet
        exact⟨_,rfl,⟨fun _=>⟨(by first | rfl | trivial),HR.out⟩,fun _=>rfl⟩,HB4.out⟩
       ·obtain⟨a9,k9,v9,s9,c9,l9,r9,hr9⟩:=node_of hr
        have er:ptrV r1=.pointer (some ⟨a9,0,none⟩):=by rw [hr9];rfl
        rw [er] at oa7
        have HR:=Lib.hid hr
        clear er hr hr9
        refine wp_region_over (by kernel_rfl) (by kernel_rfl) ?_
        repeat (first | go_big_quiet_skip | (go_big_quiet_want;go_big_quiet_op;go_big_quiet_on))
        refine wpQuiet_nil ?_
        rintro W4 ⟨e,he⟩
        have hb4:=over_below W3 e
        rw [← he] at hb4
        have HB4:=Lib.hid hb4
        clear he hb4 ok0 ok1 oa0 oa1 oa7 hkeq
        go_wp2_with fail
        go_meet
        exact⟨_,rfl,⟨fun hh=>(Bool.false_ne_true hh).elim,fun hh=>(HR.out hh.2).elim⟩,HB4.out⟩
      ·have hkeq:=key_eqF k1 x hk
       have HK:=Lib.hid hk
       clear hk
       refine wp_region_over (by kernel_rfl) (by kernel_rfl) ?_
       repeat (first | go_big_quiet_skip | (go_big_quiet_want;go_big_quiet_op;go_big_quiet_on))
       refine wpQuiet_nil ?_
       rintro W4 ⟨e,he⟩
       have hb4:=over_below W3 e
       rw [← he] at hb4
       have HB4:=Lib.hid hb4
       clear he hb4 ok0 ok1 oa0 oa1 oa7 hkeq
       go_wp2_with fail
       go_meet
       exact⟨_,rfl,⟨fun hh=>(Bool.false_ne_true hh).elim,fun hh=>(HK.out hh.1).elim⟩,HB4.out⟩
     case rest =>
      obtain⟨cb,rfl,hcb,hb4⟩:=hcut
      obtain⟨W4,rfl⟩:∃ W,W=wc:=⟨_,rfl⟩
      have H4:=Lib.hid (H3.out.later hb4)
      have HC:=Lib.hid hcb
      clear hcb hb4 H3
      cases cb with
      | true =>
       have e:=E.out
       have hh:=HC.out.1 rfl
       change (if keyT (.node a1 k1 v1 s1 c1 l1 r1)=some x∧adr r1=none then (if adr l1=none then some RB.nil else none) else _)=_ at e
       rw [hh.2] at e
       rw [if_pos ⟨by rw [hh.1];rfl,rfl⟩] at e
       split at e
       ·cases e
        clear hh
        go_wp2_with fail
        go_ret
        exact⟨rfl,trivial,HA.out.trans H4.out.fr⟩
       ·cases e
      | false =>
       have e:=E.out
       change (if keyT (.node a1 k1 v1 s1 c1 l1 r1)=some x∧adr r1=none then _ else _)=_ at e
       have hnh:¬ (keyT (.node a1 k1 v1 s1 c1 l1 r1)=some x∧adr r1=none):=fun hh=>Bool.false_ne_true (HC.out.2 ⟨Option.some.inj hh.1,adr_none.1 hh.2⟩)
       rw [if_neg hnh] at e
       obtain⟨t2,e1,e⟩:=Option.bind_eq_some_iff.1 e
       have hr1:r1≠.nil:=by
        rintro rfl
        cases e1
       have EG:=Lib.hid e1
       have H4N:=Lib.hid hr1
       have E2:=Lib.hid e
       clear e e1 hr1 hnh HC E
       go_upto_region 10 with fail
       go_cut [84] from 68 to 84 (fun vc wx=>Cnd (isR r1=false∧isR (lft r1)=false) W4 vc wx)
       case first =>
        have a6:=H4.out.rb.1.cell 7
        unfold nodeC at a6
        simp only [lTA,lCZ,lCS] at a6
        obtain⟨bb,kk,vv,ss,cc,ll,rr,hch⟩:=node_of H4N.out
        have hrb:=H4.out.rb.2.2
        rw [hch] at hrb
        have b6:=hrb.1.cell 6
        unfold nodeC at b6
        simp only [lTA,lCZ,lCS] at b6
        have hil:=is_any r1 W4 H4.out.rb.2.2
        have hill:=is_any ll W4 hrb.2.1
        have el:ptrV r1=.pointer (some ⟨bb,0,none⟩):=by rw [hch];rfl
        rw [el] at a6 hil
        have HCH:=Lib.hid hch
        cases hl:isR r1 with
        | true =>
         rw [hl] at hil
         have HRR:=Lib.hid hl
         clear hl el hch hrb
         go_wp2_with fail
         refine hil.mono ?_
         rintro e w1 ⟨rfl,rfl⟩
         go_wp2_with fail
         go_meet
         exact⟨_,rfl,by rw [HRR.out];simp,rfl⟩
        | false =>
         rw [hl] at hil
         have HRR:=Lib.hid hl
         clear hl el hch hrb
         go_wp2_with fail
         refine hil.mono ?_
         rintro e w1 ⟨rfl,rfl⟩
         go_wp2_with fail
         refine hill.mono ?_
         rintro e w1 ⟨rfl,rfl⟩
         go_wp2_with fail
         go_meet
         exact⟨_,rfl,by rw [HRR.out,HCH.out,lft_node];simp,rfl⟩
       case rest =>
        obtain⟨cb,rfl,hcb,hwc⟩:=hcut
        rw [hwc]
        clear hwc
        have HC:=Lib.hid hcb
        clear hcb
        go_upto_if 84 with fail
        go_cut [1] from 85 to 87 (fun vx wx=>BalR W0 g p n S (goR (.node a1 k1 v1 s1 c1 l1 r1)) vx wx)
        case first =>
         cases cb with
         | false =>
          have HB:=Lib.hid (show goR (.node a1 k1 v1 s1 c1 l1 r1)=some (.node a1 k1 v1 s1 c1 l1 r1) by
           obtain⟨bb,kk,vv,ss,cc,ll,rr,hch⟩:=node_of H4N.out
           have hh:=fun hx=>Bool.false_ne_true (HC.out.2 hx)
           unfold goR
           rw [rgt_node]
           rw [hch] at hh ⊢
           exact if_neg (fun hx=>hh ⟨hx.1,hx.2⟩))
          go_wp2_with fail
          go_meet
          exact⟨_,HB.out,EV.out.symm,H4.out⟩
         | true =>
          have HB:=Lib.hid (show goR (.node a1 k1 v1 s1 c1 l1 r1)=redRt (.node a1 k1 v1 s1 c1 l1 r1) by
           obtain⟨bb,kk,vv,ss,cc,ll,rr,hch⟩:=node_of H4N.out
           have hh:=HC.out.1 rfl
           unfold goR
           rw [rgt_node]
           rw [hch] at hh ⊢
           exact if_pos ⟨hh.1,hh.2⟩)
          have hred:=redRt_any g p n (.node a1 k1 v1 s1 c1 l1 r1) t2 W4 ⟨H4.out.tree,H4.out.rb,H4.out.nd,fun _ h=>h,Fr.refl _ _⟩ (by rw [← HB.out];exact EG.out)
          rw [EV.out] at hred
          go_wp2_with fail
          refine hred.mono ?_
          clear hred
          rintro e w1 ⟨rfl,hr1,hf1⟩
          have H9:=Lib.hid (H4.out.turn (goR_same EG.out).1.addr hr1 hf1)
          clear hr1 hf1
          go_wp2_with fail
          go_meet
          exact⟨_,EG.out,rfl,H9.out⟩
        case rest =>
         obtain⟨tq,e1,rfl,hb1⟩:=hcut
         rw [EG.out] at e1
         obtain rfl:t2=tq:=Option.some.inj e1
         obtain⟨W5,rfl⟩:∃ W,W=wc:=⟨_,rfl⟩
         have H5:=Lib.hid hb1
         clear hb1 e1 H4 EV
         have hne:t2≠.nil:=by
          rintro rfl
          have e:=E2.out
          rw [if_neg (by intro hh;cases hh)] at e
          obtain⟨l',e2,e3⟩:=Option.bind_eq_some_iff.1 e
          cases m <;> cases e2
         cases t2 with
         | nil=>exact absurd rfl hne
         | node a2 k2 v2 s2 c2 l2 r2 =>
         have ev:ptrV (.node a2 k2 v2 s2 c2 l2 r2)=.pointer (some ⟨a2,0,none⟩):=rfl
         rw [ev]
         clear ev hne EG
         have hkey:=HKEY.out.1.fr H5.out.fr HKEY.out.2
         have ok0:=fun e=>(over_cell (w:=W5) (e:=e) (o:=0) hkey.lt).trans (hkey.cell 0)
         have ok1:=fun e=>(over_cell (w:=W5) (e:=e) (o:=1) hkey.lt).trans (hkey.cell 1)
         have oa0:=fun e=>(over_cell (w:=W5) (e:=e) (o:=0) H5.out.rb.1.lt).trans (H5.out.rb.1.cell 0)
         have oa1:=fun e=>(over_cell (w:=W5) (e:=e) (o:=1) H5.out.rb.1.lt).trans (H5.out.rb.1.cell 1)
         unfold nodeC at oa0 oa1
         simp only [lTA,lCZ,lCS] at ok0 ok1 oa0 oa1
         clear hkey
         by_cases hk:k2=x
         ·subst hk
          have e:=E2.out
          change (if some k2=some k2 then _ else _)=_ at e
          rw [if_pos rfl] at e
          obtain⟨e0,e1,e⟩:=Option.bind_eq_some_iff.1 e
          obtain⟨l',e2,e3⟩:=Option.bind_eq_some_iff.1 e
          have e1:firstE r2=some e0:=e1
          have e2:dropF m r2=some l':=e2
          have e3:bal (.node a2 e0.1 e0.2 s2 c2 l2 l')=some t':=e3
          have hkeq:=key_neT k2
          obtain⟨_,⟨y,hy⟩,_⟩:=dropF_list m r2 l' e2
          have hsub:=less_of_perm hy (nd_right H5.out.nd)
          have HE:=Lib.hid (And.intro e3 hsub)
          have HR:=Lib.hid (And.intro e1 e2)
          have hr2:r2≠.nil:=by rintro rfl;cases e1
          have HRN:=Lib.hid hr2
          clear e e1 e2 e3 hy hsub E2 hr2
          go_upto_region 12 with fail
          refine wp_region_over (by kernel_rfl) (by kernel_rfl) ?_
          repeat (first | go_big_quiet_skip | (go_big_quiet_want;go_big_quiet_op;go_big_quiet_on))
          refine wpQuiet_nil ?_
          rintro W6 ⟨e,he⟩
          have hb6:=over_below W5 e
          rw [← he] at hb6
          have H6:=Lib.hid (H5.out.later hb6)
          clear he hb6 ok0 ok1 oa0 oa1 hkeq H5
          have a7:=H6.out.rb.1.cell 7
          unfold nodeC at a7
          simp only [lTA,lCZ,lCS] at a7
          obtain⟨q0,hq0⟩:∃ q,ptrV r2=.pointer q:=⟨_,rfl⟩
          rw [hq0] at a7
          have HQ:=Lib.hid hq0
          clear hq0
          go_wp2_with fail
          clear a7
          go_loopg [7] (sizeT r2) (fun k v7 wr=>wr=W6∧∃ u,sizeT u=k∧u≠.nil∧v7=ptrV u∧RBAt W6 u∧firstE u=some e0∧∀ z∈addrs u,z∈addrs r2)
          case atStart=>exact⟨rfl,r2,rfl,HRN.out,HQ.out.symm,H6.out.rb.2.2,HR.out.1,fun _ h=>h⟩
          case round =>
           obtain⟨hwr,u,hsz,hun,hv7,hru,hfu,hus⟩:=hrel
           rw [hwr]
           clear hwr
           obtain⟨au,ku,vu,su,cu,lu,ru,rfl⟩:=node_of hun
           have evu:ptrV (.node au ku vu su cu lu ru)=.pointer (some ⟨au,0,none⟩):=rfl
           rw [evu] at hv7
           subst hv7
           have u6:=hru.1.cell 6
           unfold nodeC at u6
           simp only [lTA,lCZ,lCS] at u6
           by_cases hlu:lu=.nil
           ·subst hlu
            have hfe:((ku,vu):En)=e0:=by
             have hfu:some ((ku,vu):En)=some e0:=hfu
             exact Option.some.inj hfu
            have HU:=Lib.hid (And.intro hru (And.intro hfe (hus au (.head _))))
            have en:ptrV .nil=.pointer none:=rfl
            rw [en] at u6
            clear hsz hun hru hfu hus hfe en evu
            go_upto_region 18 with fail
            clear u6
            have u0:=HU.out.1.1.cell 0;have u1:=HU.out.1.1.cell 1;have u2:=HU.out.1.1.cell 2
            have b0:=H6.out.rb.1.cell 0;have b1:=H6.out.rb.1.cell 1;have b2:=H6.out.rb.1.cell 2
            have f0:=H6.out.rb.1.frozen 0;have f1:=H6.out.rb.1.frozen 1;have f2:=H6.out.rb.1.frozen 2
            unfold nodeC at u0 u1 u2 b0 b1 b2
            simp only [lTA,lCZ,lCS] at u0 u1 u2 b0 b1 b2
            have hna:a2 ∉ addrs r2:=fun hm=>(List.nodup_cons.1 H6.out.nd).1 (List.mem_append.2 (.inr hm))
            have hau:¬ au=a2:=fun hh=>hna (hh ▸ HU.out.2.2)
            have hua:¬ a2=au:=fun hh=>hau hh.symm
            clear hna
            go_cut [] from 120 to 133 (fun wx=>BalR W0 g p n S (some (.node a2 e0.1 e0.2 s2 c2 l2 r2)) (.pointer (some ⟨a2,0,none⟩)) wx)
            case first =>
             go_region
             go_wp2_with fail
             go_meet
             have hbb:=H6.out.rekey ku vu
             rw [← HU.out.2.1]
             exact⟨_,rfl,rfl,hbb⟩
            case rest =>
             obtain⟨tq,etq,-,hrt⟩:=hcut
             cases etq
             obtain⟨W7,rfl⟩:∃ W,W=wc:=⟨_,rfl⟩
             have H7x:=Lib.hid hrt
             clear hrt u0 u1 u2 b0 b1 b2 f0 f1 f2 hau hua H6 HU
             have hrec:=dropF_any g p n m r2 l' W7 ⟨H7x.out.tree,H7x.out.rb.2.2,nd_right H7x.out.nd,fun _ h=>h,Fr.refl _ _⟩ HR.out.2
             rw [HQ.out] at hrec
             have a7:=H7x.out.rb.1.cell 7
             unfold nodeC at a7
             simp only [lTA,lCZ,lCS] at a7
             rw [HQ.out] at a7
             go_wp2_with fail
             refine hrec.mono ?_
             clear hrec a7
             rintro e W8 ⟨rfl,hr2,hf2⟩
             obtain⟨q,hq⟩:∃ q,ptrV l'=.pointer q:=⟨_,rfl⟩
             obtain⟨hb2,hB2⟩:=child_right H7x.out HE.out.2.1 HE.out.2.2 hr2 hf2 hq.symm
             rw [hq]
             have H7:=Lib.hid hb2
             have c6:=hB2.cell 7;have f6:=hB2.frozen 7
             unfold nodeC at c6
             simp only [lTA,lCZ,lCS] at c6
             rw [HQ.out] at c6
             clear hr2 hf2 hq hb2 hB2
             go_upto_region 20 with fail
             generalize W8.setCell ⟨a2,7,none⟩ (.pointer q)=W10 at H7 ⊢
             clear c6 f6 H7x
             have hbal:=balance_any g p n _ t' W10 H7.out.tree H7.out.rb H7.out.nd HE.out.1
             have ea:ptrV (.node a2 e0.1 e0.2 s2 c2 l2 l')=.pointer (some ⟨a2,0,none⟩):=rfl
             rw [ea] at hbal
             clear ea
             go_wp2_with fail
             refine hbal.mono ?_
             clear hbal
             rintro e W9 ⟨rfl,hr4,hf4⟩
             have H8:=Lib.hid (H7.out.turn (bal_same HE.out.1).1.addr hr4 hf4)
             clear hr4 hf4 H7
             go_wp2_with fail
             go_ret
             exact⟨rfl,H8.out.rb,(HA.out.trans H8.out.fr)⟩
           ·have HU:=Lib.hid (And.intro hsz (And.intro hlu (And.intro hru.2.1 (And.intro hfu hus))))
            obtain⟨a9,k9,v9,s9,c9,l9,r9,h9⟩:=node_of hlu
            have el:ptrV lu=.pointer (some ⟨a9,0,none⟩):=by rw [h9];rfl
            rw [el] at u6
            have HEL:=Lib.hid el
            have hs2:sizeT lu < gk:=by
             have:sizeT (.node au ku vu su cu lu ru)=sizeT lu+sizeT ru+1:=rfl
             omega
            have hf2:firstE lu=some e0:=by
             rw [h9]
             rw [h9] at hfu
             exact hfu
            have HF2:=Lib.hid hf2
            clear hsz hun hru hfu hus hlu h9 el evu hf2
            go_wp2_with fail
            go_roundg (sizeT lu)
            case measure=>exact hs2
            case rel=>exact⟨rfl,lu,rfl,HU.out.2.1,HEL.out.symm,HU.out.2.2.1,HF2.out,fun z hz=>HU.out.2.2.2.2 z (.tail _ (List.mem_append.2 (.inl hz)))⟩
         ·have e:=E2.out
          change (if some k2=some x then _ else _)=_ at e
          rw [if_neg (fun hh=>hk (Option.some.inj hh))] at e
          obtain⟨l',e2,e3⟩:=Option.bind_eq_some_iff.1 e
          have e2:dropR m x r2=some l':=e2
          have e3:bal (.node a2 k2 v2 s2 c2 l2 l')=some t':=e3
          have hkeq:=key_neF k2 x hk
          obtain⟨y,hy⟩:=dropR_addr x m r2 l' e2
          have hsub:=less_of_perm hy (nd_right H5.out.nd)
          have HE:=Lib.hid (And.intro e3 hsub)
          have HR:=Lib.hid e2
          obtain⟨q0,hq0⟩:∃ q,ptrV r2=.pointer q:=⟨_,rfl⟩
          have HQ:=Lib.hid hq0
          clear e e2 e3 hy hsub E2 hk hq0
          go_upto_region 12 with fail
          refine wp_region_over (by kernel_rfl) (by kernel_rfl) ?_
          repeat (first | go_big_quiet_skip | (go_big_quiet_want;go_big_quiet_op;go_big_quiet_on))
          refine wpQuiet_nil ?_
          rintro W6 ⟨e,he⟩
          have hb6:=over_below W5 e
          rw [← he] at hb6
          have H6:=Lib.hid (H5.out.later hb6)
          clear he hb6 ok0 ok1 oa0 oa1 hkeq H5
          go_upto_region 13 with fail
          have oc:=fun e=>(over_cell (w:=W6) (e:=e) (o:=7) H6.out.rb.1.lt).trans (H6.out.rb.1.cell 7)
          unfold nodeC at oc
          simp only [lTA,lCZ,lCS] at oc
          have hkey:=HKEY.out.1.fr H6.out.fr HKEY.out.2
          have ok0:=fun e=>(over_cell (w:=W6) (e:=e) (o:=0) hkey.lt).trans (hkey.cell 0)
          have ok1:=fun e=>(over_cell (w:=W6) (e:=e) (o:=1) hkey.lt).trans (hkey.cell 1)
          simp only [lTA,lCZ,lCS] at ok0 ok1
          clear hkey
          rw [HQ.out] at oc
          refine wp_region_late (w:=W6) 7 4 0 [] [] [] rfl (by kernel_rfl) (by kernel_rfl) (by kernel_rfl) (by kernel_rfl) (fun _ _ _ _ _ h=>h) trivial ?_
          intro LL hL
          have HL:=Lib.hid hL
          clear hL
          simp only [List.take_succ_cons,List.take_zero,putL]
          iterate 7 (first | refine wpHead_skip (by decide) ?_ | (refine wpHead_step (by decide) (fun K hK=>?_);go_simp;(refine hK _ ?_;clear hK K)))
          refine wpHead_nil (HL.out _ trivial ?_)
          intro vs W7 hbL hf
          clear hf HL
          change wpList _ _ _ _ _ _
          simp only [List.drop_succ_cons,List.drop_zero,List.take_succ_cons,List.take_zero,putHd]
          clear oc ok0 ok1
          have H7x:=Lib.hid (H6.out.later hbL)
          clear hbL H6
          have hrec:=ih r2 l' W7 ⟨H7x.out.tree,H7x.out.rb.2.2,nd_right H7x.out.nd,fun _ h=>h,Fr.refl _ _⟩ HR.out
          rw [HQ.out] at hrec
          go_wp2_with fail
          refine hrec.mono ?_
          clear hrec
          rintro e W8 ⟨rfl,hr2,hf2⟩
          obtain⟨q,hq⟩:∃ q,ptrV l'=.pointer q:=⟨_,rfl⟩
          obtain⟨hb2,hB2⟩:=child_right H7x.out HE.out.2.1 HE.out.2.2 hr2 hf2 hq.symm
          rw [hq]
          have H7:=Lib.hid hb2
          have c6:=hB2.cell 7;have f6:=hB2.frozen 7
          unfold nodeC at c6
          simp only [lTA,lCZ,lCS] at c6
          rw [HQ.out] at c6
          clear hr2 hf2 hq hb2 hB2
          go_upto_region 14 with fail
          generalize W8.setCell ⟨a2,7,none⟩ (.pointer q)=W10 at H7 ⊢
          clear c6 f6 H7x
          have hbal:=balance_any g p n _ t' W10 H7.out.tree H7.out.rb H7.out.nd HE.out.1
          have ea:ptrV (.node a2 k2 v2 s2 c2 l2 l')=.pointer (some ⟨a2,0,none⟩):=rfl
          rw [ea] at hbal
          clear ea
          go_wp2_with fail
          refine hbal.mono ?_
          clear hbal
          rintro e W9 ⟨rfl,hr4,hf4⟩
          have H8:=Lib.hid (H7.out.turn (bal_same HE.out.1).1.addr hr4 hf4)
          clear hr4 hf4 H7
          go_wp2_with fail
          go_ret
          exact⟨rfl,H8.out.rb,(HA.out.trans H8.out.fr)⟩
end
end Go.Proofs.YtmmeopjemkjllaaGreat
