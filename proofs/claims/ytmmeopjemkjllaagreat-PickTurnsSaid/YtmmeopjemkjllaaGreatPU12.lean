/- Lemmas of the claim. No conditions beyond those that each states. -/
import Derived.Test.YtmmeopjemkjllaaGreatPU11
import Derived.Deep.CutRange
import Derived.Deep.DeepCutAuto
import Derived.Deep.LoopGhost
import Derived.BigRegion
import Derived.Test.YtmmeopjemkjllaaGreatPU10
set_option linter.unusedVariables false
set_option linter.unusedSimpArgs false
set_option maxRecDepth 100000
set_option maxHeartbeats 8000000
namespace Go.Proofs.YtmmeopjemkjllaaGreat
section
open Go.RowKit
attribute [local go_sem ↓] Go.wp_at_zero Go.wp_at_succ
attribute [local go_sem] quietR quietAtR quietUponR midAt midUpon plain plainUpon
def treeC (p:Value)(n:Int):Array Value:=#[.func (.func 78) #[] #[],.func (.func 79) #[] #[],p,.int .i64 n]
def TotW (w:World)(h:Ky)(e:Ending)(w':World):Prop:=e=.returned (.agg #[.int .u64 h.1,.int .i64 h.2])∧Below w.heap.size w w'
def NewBox (n:Nat)(t:TypeId)(cs:Array Value)(u:Value)(W:World):Prop:=∃ B,u=.pointer (some ⟨B,0,none⟩)∧n≤B∧Blk W B t cs
theorem fits_castE {p q:Prop} (h:p)(e:p=q):q:=e ▸ h
structure TotS (w W:World)(g:Nat)(p:Value)(n:Int)(a:Nat)(k:Ky)(v:Int)(s:Ky)(c:Bool)(l r:RB)(R B:Nat)(x:Ky):Prop where
 tree:Blk W g 165 (treeC p n)
 rb:Blk W a 193 (nodeC k v s c l r)∧RBAt W l∧RBAt W r
 res:Blk W R 116 #[.int .u64 0,.int .i64 0]
 sum:Blk W B 116 #[.int .u64 x.1,.int .i64 x.2]
 below:Below w.heap.size w W
 rlo:w.heap.size≤R
 blo:w.heap.size≤B
 ne:R≠B
section
variable {w W W' : World} {g : Nat} {p : Value} {n : Int} {a : Nat} {k : Ky} {v : Int} {s : Ky} {c : Bool} {l r : RB} {R B : Nat} {x : Ky}
theorem TotS.later (h:TotS w W g p n a k v s c l r R B x)(hb:Below W.heap.size W W'):TotS w W' g p n a k v s c l r R B x :=
 ⟨h.tree.below hb h.tree.lt,⟨h.rb.1.below hb h.rb.1.lt,h.rb.2.1.later hb,h.rb.2.2.later hb⟩,h.res.below hb h.res.lt,h.sum.below hb h.sum.lt,h.below.trans (hb.mono h.below.size),h.rlo,h.blo,h.ne⟩
theorem TotS.put (h:TotS w W g p n a k v s c l r R B x)(y:Ky):TotS w ((W.setCell ⟨B,0,none⟩ (.int .u64 y.1)).setCell ⟨B,1,none⟩ (.int .i64 y.2)) g p n a k v s c l r R B y:=by
 have hBt:∀ {q:Nat} {t:TypeId} {cs:Array Value},Blk W q t cs→t≠116→q≠B:=fun hq ht e=>by
  subst e
  have:=hq.symm.trans h.sum
  simp only [Option.some.injEq,Obj.cells.injEq] at this
  exact ht this.2.1
 have far:∀ {q:Nat} {t:TypeId} {cs:Array Value},Blk W q t cs→q≠B→Blk ((W.setCell ⟨B,0,none⟩ (.int .u64 y.1)).setCell ⟨B,1,none⟩ (.int .i64 y.2)) q t cs:=fun hq hne=>(hq.far hne _).far hne _
 have hh:∀ q,q≠B→((W.setCell ⟨B,0,none⟩ (.int .u64 y.1)).setCell ⟨B,1,none⟩ (.int .i64 y.2)).heap[q]?=W.heap[q]?:=fun q hq=>(Below.heap_setCell _ ⟨B,1,none⟩ _ q hq).trans (Below.heap_setCell _ ⟨B,0,none⟩ _ q hq)
 have kept:∀ {t:RB},RBAt W t→RBAt ((W.setCell ⟨B,0,none⟩ (.int .u64 y.1)).setCell ⟨B,1,none⟩ (.int .i64 y.2)) t:=fun ht=>ht.kept fun q hq=>hh q fun e=>RBAt.typed h.sum (by decide) ht (e ▸ hq)
 have hs:=(h.sum.set_ 0 (.int .u64 y.1)).set_ 1 (.int .i64 y.2)
 simp at hs
 exact⟨far h.tree (hBt h.tree (by decide)),⟨far h.rb.1 (hBt h.rb.1 (by decide)),kept h.rb.2.1,kept h.rb.2.2⟩,far h.res h.ne,hs,(h.below.setCell h.blo _).setCell h.blo _,h.rlo,h.blo,h.ne⟩
end
theorem total_any (g a:Nat)(p:Value)(n:Int)(k:Ky)(v:Int)(s:Ky)(c:Bool)(l r:RB)(w:World)(hg:Blk w g 165 (treeC p n))(h:RBAt w (.node a k v s c l r)) :
  Calls Tryz.prog 188 #[.pointer (some ⟨g,0,none⟩),.pointer (some ⟨a,0,none⟩)] w (TotW w (total k v l r)):=by
 have hb0:=(Below.refl w.heap.size w).alloc (Nat.le_refl _) (.cells #[.int .u64 0,.int .i64 0] 116)
 have hR0:=Blk.new w 116 #[.int .u64 0,.int .i64 0]
 obtain⟨R,hR⟩:∃ R,R=w.heap.size:=⟨_,rfl⟩
 rw [← hR] at hR0
 have hRlo:w.heap.size≤R:=by omega
 have hg0:=hg.below hb0 hg.lt
 have h0:=h.later hb0
 obtain⟨h1,h2,h3⟩:=h0
 have HG:=Lib.hid (And.intro hg0 (And.intro h1 (And.intro h2 h3)))
 have HB:=Lib.hid (And.intro hb0 hR0)
 clear hg h h1 h2 h3 hb0 hR0 hg0
 go_enter Tryz.func188,Tryz.ntmps188
 go_upto_region 1 with fail
 rw [← hR]
 clear hR
 generalize w.alloc (.cells #[.int .u64 0,.int .i64 0] 116)=W0 at HG HB ⊢
 have lg:=HG.out.1.lt;have la:=HG.out.2.1.lt
 have og:=fun e=>(over_cell (w:=W0) (e:=e) (o:=0) lg).trans (HG.out.1.cell 0)
 have oa0:=fun e=>(over_cell (w:=W0) (e:=e) (o:=0) la).trans (HG.out.2.1.cell 0)
 have oa1:=fun e=>(over_cell (w:=W0) (e:=e) (o:=1) la).trans (HG.out.2.1.cell 1)
 have oa2:=fun e=>(over_cell (w:=W0) (e:=e) (o:=2) la).trans (HG.out.2.1.cell 2)
 unfold treeC at og
 unfold nodeC at oa0 oa1 oa2
 simp only [lTA,lCZ,lCS] at og oa0 oa1 oa2
 refine wp_region_midg (w:=W0) 14 1 [13] [] [(13,NewBox W0.heap.size 116 #[.int .u64 0,.int .i64 0])] rfl (by kernel_rfl) (by kernel_rfl) (by kernel_rfl) (by kernel_rfl) (fun _ _ _ _ _ h=>h) ⟨fun v W1 W2 ⟨B,h1,h2,h3⟩ hb=>⟨B,h1,h2,h3.below hb h3.lt⟩,trivial⟩ ?_
 intro LL hL
 have HL:=Lib.hid hL
 clear hL
 simp only [List.take_succ_cons,List.take_zero,putL]
 iterate 14 (first | refine wpHead_skip (by decide) ?_ | (refine wpHead_step (by decide) (fun K hK=>?_);go_simp;first | (refine hK _ ?_;clear hK K) | (apply Exists.intro;refine⟨fun _=>?_,hK _ ?_⟩;(focus (go_at_call 78;exact own_any k v _));clear hK K)))
 refine wpHead_nil (HL.out _ ⟨?_,trivial⟩ ?_)
 ·intro vs W1 hb1 hf
  clear HL hf og oa0 oa1 oa2
  change TStep _ _ _ (Act.put _ (some 5) (vs 13)) _ _
  refine tstep_yes (by kernel_rfl) ?_
  go_simp
  exact⟨(Below.refl _ _).alloc (Nat.le_refl _) _,_,rfl,hb1.size,Blk.new _ _ _⟩
 ·intro vs W1 hb1 hf
  have hf:=fits_castE (q:=NewBox W0.heap.size 116 #[.int .u64 0,.int .i64 0] (vs 13) W1∧True) hf (by kernel_rfl)
  clear HL
  change wpList _ _ _ _ (Act.put _ (some 5) (vs 13)) _
  refine Exists.elim hf.1 fun B hfB=>?_
  rw [hfB.1]
  have hB:=hfB.2.1
  have bN:=hfB.2.2
  clear hf hfB
  simp only [List.drop_succ_cons,List.drop_zero,List.take_succ_cons,List.take_zero]
  have hRB:R≠B:=by have:=HB.out.2.lt;omega
  have H0:TotS w W1 g p n a k v s c l r R B (0,0):=⟨HG.out.1.below hb1 lg,⟨HG.out.2.1.below hb1 la,HG.out.2.2.1.later hb1,HG.out.2.2.2.later hb1⟩,HB.out.2.below hb1 HB.out.2.lt,bN,HB.out.1.trans (hb1.mono HB.out.1.size),hRlo,Nat.le_trans HB.out.1.size hB,hRB⟩
  have H1:=Lib.hid (H0.put (ownK k v))
  have n0:=bN.cell 0;have n1:=bN.cell 1;have f0:=bN.frozen 0;have f1:=bN.frozen 1
  simp only [lTA,lCZ,lCS] at n0 n1
  clear H0 hRB og oa0 oa1 oa2 lg la hb1 bN HG HB hB
  go_upto_region 2 with fail
  generalize (W1.setCell ⟨B,0,none⟩ (.int .u64 (ownK k v).1)).setCell ⟨B,1,none⟩ (.int .i64 (ownK k v).2)=W at H1 ⊢
  have HW:=Lib.hid H1.out
  clear H1 n0 n1 f0 f1 hf
  clear W1 W0
  cases l with
  | nil =>
   cases r with
   | nil =>
    have cp:=HW.out.rb.1.cell 6
    unfold nodeC at cp
    simp only [lTA,lCZ,lCS,ptrV,adr,Option.map_some,Option.map_none] at cp
    go_upto_region 4 with fail
    clear cp
    have cp:=HW.out.rb.1.cell 7
    unfold nodeC at cp
    simp only [lTA,lCZ,lCS,ptrV,adr,Option.map_some,Option.map_none] at cp
    go_upto_region 6 with fail
    clear cp
    have cs0:=HW.out.sum.cell 0;have cs1:=HW.out.sum.cell 1;have cr0:=HW.out.res.cell 0;have cr1:=HW.out.res.cell 1;have fr0:=HW.out.res.frozen 0;have fr1:=HW.out.res.frozen 1
    simp only [lTA,lCZ,lCS] at cs0 cs1 cr0 cr1
    go_wp2
    have hres:=(HW.out.res.set_ 0 (.int .u64 (ownK k v).1)).set_ 1 (.int .i64 (ownK k v).2)
    have e0:=hres.cell 0;have e1:=hres.cell 1
    simp at e0 e1
    refine bodyPost_ret (v:=.agg #[.int .u64 (ownK k v).1,.int .i64 (ownK k v).2]) (by (simp [results,Tryz.results188,go_sem,e0,e1])) rfl ⟨by rw [show total k v _ _=(ownK k v) from rfl],(HW.out.below.setCell HW.out.rlo _).setCell HW.out.rlo _⟩
   | node bR kR vR sSR cR lR rR =>
    have cp:=HW.out.rb.1.cell 6
    unfold nodeC at cp
    simp only [lTA,lCZ,lCS,ptrV,adr,Option.map_some,Option.map_none] at cp
    go_upto_region 4 with fail
    clear cp
    have cp:=HW.out.rb.1.cell 7
    unfold nodeC at cp
    simp only [lTA,lCZ,lCS,ptrV,adr,Option.map_some,Option.map_none] at cp
    go_upto_region 5 with fail
    have lg:=HW.out.tree.lt;have la:=HW.out.rb.1.lt;have lb:=HW.out.rb.2.2.1.lt;have lB:=HW.out.sum.lt
    have og:=fun e=>(over_cell (w:=W) (e:=e) (o:=1) lg).trans (HW.out.tree.cell 1)
    have oa:=fun e=>(over_cell (w:=W) (e:=e) (o:=7) la).trans (HW.out.rb.1.cell 7)
    have ob3:=fun e=>(over_cell (w:=W) (e:=e) (o:=3) lb).trans (HW.out.rb.2.2.1.cell 3)
    have ob4:=fun e=>(over_cell (w:=W) (e:=e) (o:=4) lb).trans (HW.out.rb.2.2.1.cell 4)
    have oB0:=fun e=>(over_cell (w:=W) (e:=e) (o:=0) lB).trans (HW.out.sum.cell 0)
    have oB1:=fun e=>(over_cell (w:=W) (e:=e) (o:=1) lB).trans (HW.out.sum.cell 1)
    unfold treeC at og
    unfold nodeC at oa ob3 ob4
    simp only [lTA,lCZ,lCS,ptrV,adr,Option.map_some] at og oa ob3 ob4 oB0 oB1
    refine wp_region_over_tail 13 (by kernel_rfl) (by kernel_rfl) ?_
    simp only [List.take_succ_cons,List.take_zero,List.drop_succ_cons,List.drop_zero]
    repeat (first | go_big_quiet_skip | (go_big_quiet_want;go_big_quiet_op;first | go_big_quiet_on | (apply Exists.intro;refine⟨fun e=>?_,?_⟩;(focus (go_at_call 79;with_reducible exact calls_over (lesser_any ((ownK k v)) (sSR) _)));go_big_quiet_on)))
    refine wpQuiet_nil ?_
    rintro W2 ⟨e,he⟩
    have hb2:=over_below W e
    rw [← he] at hb2
    have H2:=Lib.hid (HW.out.later hb2)
    clear he og oa ob3 ob4 oB0 oB1 lg la lb lB hb2
    obtain⟨y,hy⟩:∃ y,lessH (ownK k v) sSR=y:=⟨_,rfl⟩
    rw [hy]
    have f0:=H2.out.sum.frozen 0;have f1:=H2.out.sum.frozen 1
    have c0:=H2.out.sum.cell 0;have c1:=H2.out.sum.cell 1
    simp only [lTA,lCZ,lCS] at c0 c1
    have HY:=Lib.hid hy
    clear hy
    have HS:=Lib.hid (H2.out.put y)
    go_upto_region 6 with fail
    clear c0 c1 f0 f1 HW H2
    generalize (W2.setCell ⟨B,0,none⟩ (.int .u64 y.1)).setCell ⟨B,1,none⟩ (.int .i64 y.2)=W at HS ⊢
    have HW:=Lib.hid HS.out
    clear HS
    clear W2
    obtain⟨xR,hxR⟩:∃ x,x=y:=⟨_,rfl⟩
    rw [← hxR] at HY HW ⊢
    have HYR:=Lib.hid HY.out
    clear HY hxR y cp
    have cs0:=HW.out.sum.cell 0;have cs1:=HW.out.sum.cell 1;have cr0:=HW.out.res.cell 0;have cr1:=HW.out.res.cell 1;have fr0:=HW.out.res.frozen 0;have fr1:=HW.out.res.frozen 1
    simp only [lTA,lCZ,lCS] at cs0 cs1 cr0 cr1
    go_wp2
    have hres:=(HW.out.res.set_ 0 (.int .u64 xR.1)).set_ 1 (.int .i64 xR.2)
    have e0:=hres.cell 0;have e1:=hres.cell 1
    simp at e0 e1
    refine bodyPost_ret (v:=.agg #[.int .u64 xR.1,.int .i64 xR.2]) (by (simp [results,Tryz.results188,go_sem,e0,e1])) rfl ⟨by rw [show total k v _ _=xR from by unfold total joinL joinR;dsimp only;try rw [HYR.out]],(HW.out.below.setCell HW.out.rlo _).setCell HW.out.rlo _⟩
  | node bL kL vL sSL cL lL rL =>
   cases r with
   | nil =>
    have cp:=HW.out.rb.1.cell 6
    unfold nodeC at cp
    simp only [lTA,lCZ,lCS,ptrV,adr,Option.map_some,Option.map_none] at cp
    go_upto_region 3 with fail
    have lg:=HW.out.tree.lt;have la:=HW.out.rb.1.lt;have lb:=HW.out.rb.2.1.1.lt;have lB:=HW.out.sum.lt
    have og:=fun e=>(over_cell (w:=W) (e:=e) (o:=1) lg).trans (HW.out.tree.cell 1)
    have oa:=fun e=>(over_cell (w:=W) (e:=e) (o:=6) la).trans (HW.out.rb.1.cell 6)
    have ob3:=fun e=>(over_cell (w:=W) (e:=e) (o:=3) lb).trans (HW.out.rb.2.1.1.cell 3)
    have ob4:=fun e=>(over_cell (w:=W) (e:=e) (o:=4) lb).trans (HW.out.rb.2.1.1.cell 4)
    have oB0:=fun e=>(over_cell (w:=W) (e:=e) (o:=0) lB).trans (HW.out.sum.cell 0)
    have oB1:=fun e=>(over_cell (w:=W) (e:=e) (o:=1) lB).trans (HW.out.sum.cell 1)
    unfold treeC at og
    unfold nodeC at oa ob3 ob4
    simp only [lTA,lCZ,lCS,ptrV,adr,Option.map_some] at og oa ob3 ob4 oB0 oB1
    refine wp_region_over_tail 13 (by kernel_rfl) (by kernel_rfl) ?_
    simp only [List.take_succ_cons,List.take_zero,List.drop_succ_cons,List.drop_zero]
    repeat (first | go_big_quiet_skip | (go_big_quiet_want;go_big_quiet_op;first | go_big_quiet_on | (apply Exists.intro;refine⟨fun e=>?_,?_⟩;(focus (go_at_call 79;with_reducible exact calls_over (lesser_any (sSL) ((ownK k v)) _)));go_big_quiet_on)))
    refine wpQuiet_nil ?_
    rintro W2 ⟨e,he⟩
    have hb2:=over_below W e
    rw [← he] at hb2
    have H2:=Lib.hid (HW.out.later hb2)
    clear he og oa ob3 ob4 oB0 oB1 lg la lb lB hb2
    obtain⟨y,hy⟩:∃ y,lessH sSL (ownK k v)=y:=⟨_,rfl⟩
    rw [hy]
    have f0:=H2.out.sum.frozen 0;have f1:=H2.out.sum.frozen 1
    have c0:=H2.out.sum.cell 0;have c1:=H2.out.sum.cell 1
    simp only [lTA,lCZ,lCS] at c0 c1
    have HY:=Lib.hid hy
    clear hy
    have HS:=Lib.hid (H2.out.put y)
    go_upto_region 4 with fail
    clear c0 c1 f0 f1 HW H2
    generalize (W2.setCell ⟨B,0,none⟩ (.int .u64 y.1)).setCell ⟨B,1,none⟩ (.int .i64 y.2)=W at HS ⊢
    have HW:=Lib.hid HS.out
    clear HS
    clear W2
    obtain⟨xL,hxL⟩:∃ x,x=y:=⟨_,rfl⟩
    rw [← hxL] at HY HW ⊢
    have HYL:=Lib.hid HY.out
    clear HY hxL y cp
    have cp:=HW.out.rb.1.cell 7
    unfold nodeC at cp
    simp only [lTA,lCZ,lCS,ptrV,adr,Option.map_some,Option.map_none] at cp
    go_upto_region 6 with fail
    clear cp
    have cs0:=HW.out.sum.cell 0;have cs1:=HW.out.sum.cell 1;have cr0:=HW.out.res.cell 0;have cr1:=HW.out.res.cell 1;have fr0:=HW.out.res.frozen 0;have fr1:=HW.out.res.frozen 1
    simp only [lTA,lCZ,lCS] at cs0 cs1 cr0 cr1
    go_wp2
    have hres:=(HW.out.res.set_ 0 (.int .u64 xL.1)).set_ 1 (.int .i64 xL.2)
    have e0:=hres.cell 0;have e1:=hres.cell 1
    simp at e0 e1
    refine bodyPost_ret (v:=.agg #[.int .u64 xL.1,.int .i64 xL.2]) (by (simp [results,Tryz.results188,go_sem,e0,e1])) rfl ⟨by rw [show total k v _ _=xL from by unfold total joinL joinR;dsimp only;rw [HYL.out];try rfl],(HW.out.below.setCell HW.out.rlo _).setCell HW.out.rlo _⟩
   | node bR kR vR sSR cR lR rR =>
    have cp:=HW.out.rb.1.cell 6
    unfold nodeC at cp
    simp only [lTA,lCZ,lCS,ptrV,adr,Option.map_some,Option.map_none] at cp
    go_upto_region 3 with fail
    have lg:=HW.out.tree.lt;have la:=HW.out.rb.1.lt;have lb:=HW.out.rb.2.1.1.lt;have lB:=HW.out.sum.lt
    have og:=fun e=>(over_cell (w:=W) (e:=e) (o:=1) lg).trans (HW.out.tree.cell 1)
    have oa:=fun e=>(over_cell (w:=W) (e:=e) (o:=6) la).trans (HW.out.rb.1.cell 6)
    have ob3:=fun e=>(over_cell (w:=W) (e:=e) (o:=3) lb).trans (HW.out.rb.2.1.1.cell 3)
    have ob4:=fun e=>(over_cell (w:=W) (e:=e) (o:=4) lb).trans (HW.out.rb.2.1.1.cell 4)
    have oB0:=fun e=>(over_cell (w:=W) (e:=e) (o:=0) lB).trans (HW.out.sum.cell 0)
    have oB1:=fun e=>(over_cell (w:=W) (e:=e) (o:=1) lB).trans (HW.out.sum.cell 1)
    unfold treeC at og
    unfold nodeC at oa ob3 ob4
    simp only [lTA,lCZ,lCS,ptrV,adr,Option.map_some] at og oa ob3 ob4 oB0 oB1
    refine wp_region_over_tail 13 (by kernel_rfl) (by kernel_rfl) ?_
    simp only [List.take_succ_cons,List.take_zero,List.drop_succ_cons,List.drop_zero]
    repeat (first | go_big_quiet_skip | (go_big_quiet_want;go_big_quiet_op;first | go_big_quiet_on | (apply Exists.intro;refine⟨fun e=>?_,?_⟩;(focus (go_at_call 79;with_reducible exact calls_over (lesser_any (sSL) ((ownK k v)) _)));go_big_quiet_on)))
    refine wpQuiet_nil ?_
    rintro W2 ⟨e,he⟩
    have hb2:=over_below W e
    rw [← he] at hb2
    have H2:=Lib.hid (HW.out.later hb2)
    clear he og oa ob3 ob4 oB0 oB1 lg la lb lB hb2
    obtain⟨y,hy⟩:∃ y,lessH sSL (ownK k v)=y:=⟨_,rfl⟩
    rw [hy]
    have f0:=H2.out.sum.frozen 0;have f1:=H2.out.sum.frozen 1
    have c0:=H2.out.sum.cell 0;have c1:=H2.out.sum.cell 1
    simp only [lTA,lCZ,lCS] at c0 c1
    have HY:=Lib.hid hy
    clear hy
    have HS:=Lib.hid (H2.out.put y)
    go_upto_region 4 with fail
    clear c0 c1 f0 f1 HW H2
    generalize (W2.setCell ⟨B,0,none⟩ (.int .u64 y.1)).setCell ⟨B,1,none⟩ (.int .i64 y.2)=W at HS ⊢
    have HW:=Lib.hid HS.out
    clear HS
    clear W2
    obtain⟨xL,hxL⟩:∃ x,x=y:=⟨_,rfl⟩
    rw [← hxL] at HY HW ⊢
    have HYL:=Lib.hid HY.out
    clear HY hxL y cp
    have cp:=HW.out.rb.1.cell 7
    unfold nodeC at cp
    simp only [lTA,lCZ,lCS,ptrV,adr,Option.map_some,Option.map_none] at cp
    go_upto_region 5 with fail
    have lg:=HW.out.tree.lt;have la:=HW.out.rb.1.lt;have lb:=HW.out.rb.2.2.1.lt;have lB:=HW.out.sum.lt
    have og:=fun e=>(over_cell (w:=W) (e:=e) (o:=1) lg).trans (HW.out.tree.cell 1)
    have oa:=fun e=>(over_cell (w:=W) (e:=e) (o:=7) la).trans (HW.out.rb.1.cell 7)
    have ob3:=fun e=>(over_cell (w:=W) (e:=e) (o:=3) lb).trans (HW.out.rb.2.2.1.cell 3)
    have ob4:=fun e=>(over_cell (w:=W) (e:=e) (o:=4) lb).trans (HW.out.rb.2.2.1.cell 4)
    have oB0:=fun e=>(over_cell (w:=W) (e:=e) (o:=0) lB).trans (HW.out.sum.cell 0)
    have oB1:=fun e=>(over_cell (w:=W) (e:=e) (o:=1) lB).trans (HW.out.sum.cell 1)
    unfold treeC at og
    unfold nodeC at oa ob3 ob4
    simp only [lTA,lCZ,lCS,ptrV,adr,Option.map_some] at og oa ob3 ob4 oB0 oB1
    refine wp_region_over_tail 13 (by kernel_rfl) (by kernel_rfl) ?_
    simp only [List.take_succ_cons,List.take_zero,List.drop_succ_cons,List.drop_zero]
    repeat (first | go_big_quiet_skip | (go_big_quiet_want;go_big_quiet_op;first | go_big_quiet_on | (apply Exists.intro;refine⟨fun e=>?_,?_⟩;(focus (go_at_call 79;with_reducible exact calls_over (lesser_any (xL) (sSR) _)));go_big_quiet_on)))
    refine wpQuiet_nil ?_
    rintro W2 ⟨e,he⟩
    have hb2:=over_below W e
    rw [← he] at hb2
    have H2:=Lib.hid (HW.out.later hb2)
    clear he og oa ob3 ob4 oB0 oB1 lg la lb lB hb2
    obtain⟨y,hy⟩:∃ y,lessH xL sSR=y:=⟨_,rfl⟩
    rw [hy]
    have f0:=H2.out.sum.frozen 0;have f1:=H2.out.sum.frozen 1
    have c0:=H2.out.sum.cell 0;have c1:=H2.out.sum.cell 1
    simp only [lTA,lCZ,lCS] at c0 c1
    have HY:=Lib.hid hy
    clear hy
    have HS:=Lib.hid (H2.out.put y)
    go_upto_region 6 with fail
    clear c0 c1 f0 f1 HW H2
    generalize (W2.setCell ⟨B,0,none⟩ (.int .u64 y.1)).setCell ⟨B,1,none⟩ (.int .i64 y.2)=W at HS ⊢
    have HW:=Lib.hid HS.out
    clear HS
    clear W2
    obtain⟨xR,hxR⟩:∃ x,x=y:=⟨_,rfl⟩
    rw [← hxR] at HY HW ⊢
    have HYR:=Lib.hid HY.out
    clear HY hxR y cp
    have cs0:=HW.out.sum.cell 0;have cs1:=HW.out.sum.cell 1;have cr0:=HW.out.res.cell 0;have cr1:=HW.out.res.cell 1;have fr0:=HW.out.res.frozen 0;have fr1:=HW.out.res.frozen 1
    simp only [lTA,lCZ,lCS] at cs0 cs1 cr0 cr1
    go_wp2
    have hres:=(HW.out.res.set_ 0 (.int .u64 xR.1)).set_ 1 (.int .i64 xR.2)
    have e0:=hres.cell 0;have e1:=hres.cell 1
    simp at e0 e1
    refine bodyPost_ret (v:=.agg #[.int .u64 xR.1,.int .i64 xR.2]) (by (simp [results,Tryz.results188,go_sem,e0,e1])) rfl ⟨by rw [show total k v _ _=xR from by unfold total joinL joinR;dsimp only;rw [HYL.out];try rw [HYR.out]],(HW.out.below.setCell HW.out.rlo _).setCell HW.out.rlo _⟩
end
section
open Go.RowKit
attribute [local go_sem ↓] Go.wp_at_zero Go.wp_at_succ
attribute [local go_sem] quietR quietAtR quietUponR midAt midUpon plain plainUpon
structure RbT (w:World)(g:Nat)(t:RB):Prop where
 tree:Blk w g 165 (treeC (ptrV t) (listT t).length)
 rb:RBAt w t
 nd:(addrs t).Nodup
 well:Well t
theorem RbT.later {w w':World} {g:Nat} {t:RB} (h:RbT w g t)(hb:Below w.heap.size w w'):RbT w' g t:=⟨h.tree.below hb h.tree.lt,h.rb.later hb,h.nd,h.well⟩
theorem RbT.fr {S:Nat→Prop} {w w':World} {g:Nat} {t:RB} (h:RbT w g t)(hf:Fr S w w')(hg:¬ S g)(hn:∀ a∈addrs t,¬ S a):RbT w' g t:=⟨h.tree.fr hf hg,h.rb.fr hf hn,h.nd,h.well⟩
theorem RbT.far {w:World} {g:Nat} {t:RB} (h:RbT w g t):g ∉ addrs t:=RBAt.typed h.tree (by decide) h.rb
theorem own_nil (W:World):(binOp .eql 117 (.func (.func 78) #[] #[]) .nilFunc).run Tryz.prog W=.ok (.bool false) W:=by kernel_rfl
theorem lesser_nil (W:World):(binOp .eql 118 (.func (.func 79) #[] #[]) .nilFunc).run Tryz.prog W=.ok (.bool false) W:=by kernel_rfl
theorem none_any (g:Nat)(p:Value)(n:Int)(w:World)(h:Blk w g 165 (treeC p n)) :
  Calls Tryz.prog 127 #[.pointer (some ⟨g,0,none⟩)] w fun e w'=>e=.returned (.bool false)∧w=w':=by
 have c0:=h.cell 0;have c1:=h.cell 1
 unfold treeC at c0 c1
 simp only [lTA,lCZ,lCS] at c0 c1
 clear h
 have hn0:=own_nil;have hn1:=lesser_nil
 go_enter Tryz.func127,Tryz.ntmps127
 go_wp2
 go_ret
 exact⟨rfl,rfl⟩
theorem key_eqT (x:Ky)(W:World):(binOp .eql 147 (.agg #[.int .u64 x.1,.int .i64 x.2]) (.agg #[.int .u64 x.1,.int .i64 x.2])).run Tryz.prog W=.ok (.bool true) W:=by go_simp
theorem key_neT (x:Ky)(W:World):(binOp .neq 147 (.agg #[.int .u64 x.1,.int .i64 x.2]) (.agg #[.int .u64 x.1,.int .i64 x.2])).run Tryz.prog W=.ok (.bool false) W:=by go_simp
theorem key_eqF (x y:Ky)(h:x≠y)(W:World):(binOp .eql 147 (.agg #[.int .u64 x.1,.int .i64 x.2]) (.agg #[.int .u64 y.1,.int .i64 y.2])).run Tryz.prog W=.ok (.bool false) W:=by
 have:¬ (x.1=y.1∧x.2=y.2):=fun hh=>h (Prod.ext hh.1 hh.2)
 by_cases h1:x.1=y.1
 ·have h2:¬ x.2=y.2:=fun hh=>this ⟨h1,hh⟩
  go_simp
 ·go_simp
theorem key_neF (x y:Ky)(h:x≠y)(W:World):(binOp .neq 147 (.agg #[.int .u64 x.1,.int .i64 x.2]) (.agg #[.int .u64 y.1,.int .i64 y.2])).run Tryz.prog W=.ok (.bool true) W:=by
 have:¬ (x.1=y.1∧x.2=y.2):=fun hh=>h (Prod.ext hh.1 hh.2)
 by_cases h1:x.1=y.1
 ·have h2:¬ x.2=y.2:=fun hh=>this ⟨h1,hh⟩
  go_simp
 ·go_simp
def AtW (w:World)(x:Ky)(t:RB)(e:Ending)(w':World):Prop:=e=.returned (ptrV (findT x t))∧Below w.heap.size w w'
theorem findT_same (a:Nat)(x:Ky)(v:Int)(s:Ky)(c:Bool)(l r:RB):findT x (.node a x v s c l r)=.node a x v s c l r:=by unfold findT;rw [if_pos rfl]
theorem findT_left {a:Nat} {x k:Ky} {v:Int} {s:Ky} {c:Bool} {l r:RB} (h:lessK x k=true):findT x (.node a k v s c l r)=findT x l:=by
 have:=lessK_ne h
 conv=>lhs;unfold findT
 rw [if_neg this.symm,if_pos h]
theorem findT_right {a:Nat} {x k:Ky} {v:Int} {s:Ky} {c:Bool} {l r:RB} (h:lessK x k=false)(hne:k≠x):findT x (.node a k v s c l r)=findT x r:=by
 conv=>lhs;unfold findT
 rw [if_neg hne,if_neg (by rw [h];simp)]
theorem rbat_any (g:Nat)(x:Ky)(n:Int)(t:RB)(w:World)(hg:Blk w g 165 (treeC (ptrV t) n))(hr:RBAt w t) :
  Calls Tryz.prog 151 #[.pointer (some ⟨g,0,none⟩),.agg #[.int .u64 x.1,.int .i64 x.2]] w (AtW w x t):=by
 have hb0:=(Below.refl w.heap.size w).alloc (Nat.le_refl _) (.cells #[.int .u64 x.1,.int .i64 x.2] 147)
 have hk0:=Blk.new w 147 #[.int .u64 x.1,.int .i64 x.2]
 obtain⟨kb,hkb⟩:∃ q,q=w.heap.size:=⟨_,rfl⟩
 rw [← hkb] at hk0
 have hg0:=hg.below hb0 hg.lt
 have hnone:=none_any g _ _ _ hg0
 have c2:=hg0.cell 2
 unfold treeC at c2
 simp only [lTA,lCZ,lCS] at c2
 have H0:=Lib.hid (And.intro (hr.later hb0) (And.intro hk0 hb0))
 have HKB:=Lib.hid hkb
 clear hg hr hb0 hk0 hkb hg0
 go_enter Tryz.func151,Tryz.ntmps151
 go_wp2_with fail
 refine hnone.mono ?_
 clear hnone
 rintro e w1 ⟨rfl,rfl⟩
 rw [← HKB.out]
 generalize w.alloc (.cells #[.int .u64 x.1,.int .i64 x.2] 147)=W1 at H0 c2 ⊢
 go_wp2_with fail
 clear c2
 have ok0:=H0.out.2.1.cell 0;have ok1:=H0.out.2.1.cell 1
 simp only [lTA,lCZ,lCS] at ok0 ok1
 go_loopg [5] (sizeT t) (fun k v5 wr=>∃ u,sizeT u=k∧v5=ptrV u∧findT x u=findT x t∧RBAt wr u∧Blk wr kb 147 #[.int .u64 x.1,.int .i64 x.2]∧Below w.heap.size w wr)
 case atStart=>exact⟨t,rfl,rfl,rfl,H0.out⟩
 case round =>
  obtain⟨u,hsz,rfl,hfu,hru,hkb,hbr⟩:=hrel
  clear ok0 ok1 H0
  cases u with
  | nil =>
   have e1:ptrV .nil=.pointer none:=rfl
   rw [e1]
   have HF:=Lib.hid hfu
   have HB:=Lib.hid hbr
   clear hfu hbr hru e1
   go_upto_region 4 with fail
   refine wp_region_over (by kernel_rfl) (by kernel_rfl) ?_
   repeat (first | go_big_quiet_skip | (go_big_quiet_want;go_big_quiet_op;go_big_quiet_on))
   refine wpQuiet_nil ?_
   rintro W2 ⟨e,he⟩
   have hb2:=over_below wr e
   rw [← he] at hb2
   have HB2:=Lib.hid (HB.out.trans (hb2.mono HB.out.size))
   clear he hb2 HB
   go_wp2_with fail
   go_ret
   exact⟨by rw [← HF.out];rfl,HB2.out⟩
  | node a k v s c l r =>
   have e1:ptrV (.node a k v s c l r)=.pointer (some ⟨a,0,none⟩):=rfl
   rw [e1]
   have HU:=Lib.hid (And.intro hru (And.intro hkb hbr))
   have HF:=Lib.hid hfu
   have HSZ:=Lib.hid hsz
   have ok0:=fun e=>(over_cell (w:=wr) (e:=e) (o:=0) hkb.lt).trans (hkb.cell 0)
   have ok1:=fun e=>(over_cell (w:=wr) (e:=e) (o:=1) hkb.lt).trans (hkb.cell 1)
   have oa0:=fun e=>(over_cell (w:=wr) (e:=e) (o:=0) hru.1.lt).trans (hru.1.cell 0)
   have oa1:=fun e=>(over_cell (w:=wr) (e:=e) (o:=1) hru.1.lt).trans (hru.1.cell 1)
   unfold nodeC at oa0 oa1
   simp only [lTA,lCZ,lCS] at ok0 ok1 oa0 oa1
   clear hru hkb hbr hfu hsz e1
   by_cases hk:k=x
   ·subst hk
    have hkeq:=key_neT k
    go_upto_region 4 with fail
    refine wp_region_over (by kernel_rfl) (by kernel_rfl) ?_
    repeat (first | go_big_quiet_skip | (go_big_quiet_want;go_big_quiet_op;go_big_quiet_on))
    refine wpQuiet_nil ?_
    rintro W2 ⟨e,he⟩
    have hb2:=over_below wr e
    rw [← he] at hb2
    have HB2:=Lib.hid (HU.out.2.2.trans (hb2.mono HU.out.2.2.size))
    clear he hb2 HU ok0 ok1 oa0 oa1 hkeq
    go_wp2_with fail
    go_ret
    exact⟨by rw [← HF.out,findT_same];rfl,HB2.out⟩
   ·have hkeq:=key_neF k x hk
    go_upto_region 4 with fail
    refine wp_region_over (by kernel_rfl) (by kernel_rfl) ?_
    repeat (first | go_big_quiet_skip | (go_big_quiet_want;go_big_quiet_op;go_big_quiet_on))
    refine wpQuiet_nil ?_
    rintro W2 ⟨e,he⟩
    have hb2:=over_below wr e
    rw [← he] at hb2
    have H2:=Lib.hid (And.intro (HU.out.1.later hb2) (And.intro (HU.out.2.1.below hb2 HU.out.2.1.lt) (HU.out.2.2.trans (hb2.mono HU.out.2.2.size))))
    clear he hb2 HU ok0 ok1 oa0 oa1 hkeq
    go_upto_region 5 with fail
    have ok0:=fun e=>(over_cell (w:=W2) (e:=e) (o:=0) H2.out.2.1.lt).trans (H2.out.2.1.cell 0)
    have ok1:=fun e=>(over_cell (w:=W2) (e:=e) (o:=1) H2.out.2.1.lt).trans (H2.out.2.1.cell 1)
    have oa0:=fun e=>(over_cell (w:=W2) (e:=e) (o:=0) H2.out.1.1.lt).trans (H2.out.1.1.cell 0)
    have oa1:=fun e=>(over_cell (w:=W2) (e:=e) (o:=1) H2.out.1.1.lt).trans (H2.out.1.1.cell 1)
    unfold nodeC at oa0 oa1
    simp only [lTA,lCZ,lCS] at ok0 ok1 oa0 oa1
    refine wp_region_over_tail 5 (by kernel_rfl) (by kernel_rfl) ?_
    simp only [List.take_succ_cons,List.take_zero,List.drop_succ_cons,List.drop_zero]
    repeat (first | go_big_quiet_skip | (go_big_quiet_want;go_big_quiet_op;go_big_quiet_on))
    refine wpQuiet_nil ?_
    rintro W3 ⟨e,he⟩
    have hb3:=over_below W2 e
    rw [← he] at hb3
    have H3:=Lib.hid (And.intro (H2.out.1.later hb3) (And.intro (H2.out.2.1.below hb3 H2.out.2.1.lt) (H2.out.2.2.trans (hb3.mono H2.out.2.2.size))))
    clear he hb3 H2 ok0 ok1 oa0 oa1
    have hless:=less_any x k W3
    go_wp2_with fail
    refine hless.mono ?_
    clear hless
    rintro e W4 ⟨rfl,hb4⟩
    have H4:=Lib.hid (And.intro (H3.out.1.later hb4) (And.intro (H3.out.2.1.below hb4 H3.out.2.1.lt) (H3.out.2.2.trans (hb4.mono H3.out.2.2.size))))
    clear hb4 H3
    have a6:=H4.out.1.1.cell 6;have a7:=H4.out.1.1.cell 7
    unfold nodeC at a6 a7
    simp only [lTA,lCZ,lCS] at a6 a7
    cases hlt:lessK x k with
    | true =>
     have HF2:=Lib.hid ((findT_left hlt).symm.trans HF.out)
     clear hlt HF a7
     go_wp2_with fail
     go_roundg (sizeT l)
     case measure=>have:=HSZ.out;simp only [sizeT] at this;omega
     case rel=>exact⟨l,rfl,rfl,HF2.out,H4.out.1.2.1,H4.out.2⟩
    | false =>
     have HF2:=Lib.hid ((findT_right hlt hk).symm.trans HF.out)
     clear hlt HF a6
     go_wp2_with fail
     go_roundg (sizeT r)
     case measure=>have:=HSZ.out;simp only [sizeT] at this;omega
     case rel=>exact⟨r,rfl,rfl,HF2.out,H4.out.1.2.2,H4.out.2⟩
end
section
open Go.RowKit
attribute [local go_sem ↓] Go.wp_at_zero Go.wp_at_succ
attribute [local go_sem] quietR quietAtR quietUponR midAt midUpon plain plainUpon
theorem rblen_any (g:Nat)(t:RB)(w:World)(h:RbT w g t) :
  Calls Tryz.prog 103 #[.pointer (some ⟨g,0,none⟩)] w fun e w'=>e=.returned (.int .i64 (listT t).length)∧w=w':=by
 have c3:=h.tree.cell 3
 unfold treeC at c3
 simp only [lTA,lCZ,lCS] at c3
 have hn:=none_any g _ _ w h.tree
 clear h
 go_enter Tryz.func103,Tryz.ntmps103
 go_wp2_with (go_at_call 127;refine hn.mono ?_;rintro e w1 ⟨rfl,rfl⟩)
 go_ret
 exact⟨rfl,rfl⟩
end
section
open Go.RowKit
attribute [local go_sem ↓] Go.wp_at_zero Go.wp_at_succ
attribute [local go_sem] quietR quietAtR quietUponR midAt midUpon
def TurnW (w:World)(S:List Nat)(t':RB)(e:Ending)(w':World):Prop:=e=.returned (ptrV t')∧RBAt w' t'∧Fr (fun x=>x∈S) w w'
structure Apart2 (a b:Nat)(l m r:RB):Prop where
 ab:a≠b
 al:a ∉ addrs l
 am:a ∉ addrs m
 ar:a ∉ addrs r
 bl:b ∉ addrs l
 bm:b ∉ addrs m
 br:b ∉ addrs r
theorem apart_right {a b:Nat} {k k2:Ky} {v v2:Int} {s s2:Ky} {c c2:Bool} {l m r:RB} (h:(addrs (.node a k v s c l (.node b k2 v2 s2 c2 m r))).Nodup):Apart2 a b l m r:=by
 simp only [addrs,List.nodup_cons,List.nodup_append,List.mem_append,List.mem_cons,not_or] at h
 obtain⟨⟨h1,h2,h3,h4⟩,h5,⟨⟨h6,h7⟩,h8⟩,h9⟩:=h
 exact⟨h2,h1,h3,h4,fun hb=>h9 b hb b (.inl rfl) rfl,h6,h7⟩
theorem apart_left {a b:Nat} {k k2:Ky} {v v2:Int} {s s2:Ky} {c c2:Bool} {l m r:RB} (h:(addrs (.node a k v s c (.node b k2 v2 s2 c2 l m) r)).Nodup):Apart2 a b l m r:=by
 simp only [addrs,List.nodup_cons,List.nodup_append,List.mem_append,List.mem_cons,not_or,List.cons_append] at h
 obtain⟨⟨h2,⟨h1,h3⟩,h4⟩,⟨h6,h7⟩,h8⟩:=h
 exact⟨h2,h1,h3,h4,h6.1,h6.2,h7⟩
structure TwoS (w W:World)(g:Nat)(p:Value)(n:Int)(a b:Nat)(cA cB:Array Value)(l m r:RB):Prop where
 tree:Blk W g 165 (treeC p n)
 A:Blk W a 193 cA
 B:Blk W b 193 cB
 tl:RBAt W l
 tm:RBAt W m
 tr:RBAt W r
 ap:Apart2 a b l m r
 fr:Fr (fun x=>x=a∨x=b) w W
section
variable {w W W' : World} {g : Nat} {p : Value} {n : Int} {a b : Nat} {cA cB : Array Value} {l m r : RB}
theorem TwoS.later (h:TwoS w W g p n a b cA cB l m r)(hb:Below W.heap.size W W'):TwoS w W' g p n a b cA cB l m r :=
 ⟨h.tree.below hb h.tree.lt,h.A.below hb h.A.lt,h.B.below hb h.B.lt,h.tl.later hb,h.tm.later hb,h.tr.later hb,h.ap,h.fr.trans (Fr.of_below hb)⟩
theorem node_ne {W:World} {g a:Nat} {t:TypeId} {cs cs':Array Value} (hg:Blk W g t cs)(ha:Blk W a 193 cs')(ht:t≠193):g≠a:=by
 rintro rfl
 have:=hg.symm.trans ha
 simp only [Option.some.injEq,Obj.cells.injEq] at this
 exact ht this.2.1
theorem TwoS.setA (h:TwoS w W g p n a b cA cB l m r)(o:Nat)(u:Value):TwoS w (W.setCell ⟨a,o,none⟩ u) g p n a b (cA.setIfInBounds o u) cB l m r:=by
 have hk:∀ q,q≠a→(W.setCell ⟨a,o,none⟩ u).heap[q]?=W.heap[q]?:=fun q hq=>Below.heap_setCell W ⟨a,o,none⟩ u q hq
 have hs:=h.A.set_ o u
 exact⟨(hk g (node_ne h.tree h.A (by decide))).trans h.tree,hs,(hk b h.ap.ab.symm).trans h.B,h.tl.kept fun q hq=>hk q fun e=>h.ap.al (e ▸ hq),h.tm.kept fun q hq=>hk q fun e=>h.ap.am (e ▸ hq),h.tr.kept fun q hq=>hk q fun e=>h.ap.ar (e ▸ hq),h.ap,h.fr.trans (Fr.set (.inl rfl))⟩
theorem TwoS.setB (h:TwoS w W g p n a b cA cB l m r)(o:Nat)(u:Value):TwoS w (W.setCell ⟨b,o,none⟩ u) g p n a b cA (cB.setIfInBounds o u) l m r:=by
 have hk:∀ q,q≠b→(W.setCell ⟨b,o,none⟩ u).heap[q]?=W.heap[q]?:=fun q hq=>Below.heap_setCell W ⟨b,o,none⟩ u q hq
 have hs:=h.B.set_ o u
 exact⟨(hk g (node_ne h.tree h.B (by decide))).trans h.tree,(hk a h.ap.ab).trans h.A,hs,h.tl.kept fun q hq=>hk q fun e=>h.ap.bl (e ▸ hq),h.tm.kept fun q hq=>hk q fun e=>h.ap.bm (e ▸ hq),h.tr.kept fun q hq=>hk q fun e=>h.ap.br (e ▸ hq),h.ap,h.fr.trans (Fr.set (.inr rfl))⟩
theorem TwoS.castA (h:TwoS w W g p n a b cA cB l m r) {c':Array Value} (e:cA=c'):TwoS w W g p n a b c' cB l m r:=e ▸ h
theorem TwoS.castB (h:TwoS w W g p n a b cA cB l m r) {c':Array Value} (e:cB=c'):TwoS w W g p n a b cA c' l m r:=e ▸ h
end
theorem rotL_walk (g:Nat)(p:Value)(n:Int)(a:Nat)(k:Ky)(v:Int)(s:Ky)(c:Bool)(l m r:RB)(b:Nat)(k2:Ky)(v2:Int)(s2:Ky)(c2:Bool)(w:World)(hg:Blk w g 165 (treeC p n))(h:RBAt w (.node a k v s c l (.node b k2 v2 s2 c2 m r)))(hn:(addrs (.node a k v s c l (.node b k2 v2 s2 c2 m r))).Nodup) :
  Calls Tryz.prog 186 #[.pointer (some ⟨g,0,none⟩),.pointer (some ⟨a,0,none⟩)] w (TurnW w (addrs (.node a k v s c l (.node b k2 v2 s2 c2 m r))) (.node b k2 v2 (total k2 v2 (.node a k v (total k v l m) true l m) r) c (.node a k v (total k v l m) true l m) r)):=by
 have hap:=apart_right hn
 obtain⟨hA,hl,hB,hm,hr⟩:=h
 have H0:=Lib.hid (⟨hg,hA,hB,hl,hm,hr,hap,Fr.refl _ _⟩:TwoS w w g p n a b _ _ l m r)
 have hab:¬ a=b:=hap.ab
 have hba:¬ b=a:=fun e=>hap.ab e.symm
 have a5:=hA.cell 5;have aT:=hA.cell 7;have b5:=hB.cell 5;have bT:=hB.cell 6
 have fa5:=hA.frozen 5;have faT:=hA.frozen 7;have fb5:=hB.frozen 5;have fbT:=hB.frozen 6
 unfold nodeC at a5 aT b5 bT
 simp only [lTA,lCZ,lCS] at a5 aT b5 bT
 have eb:ptrV (.node b k2 v2 s2 c2 m r)=.pointer (some ⟨b,0,none⟩):=rfl
 rw [eb] at aT
 obtain⟨pm,hpm⟩:∃ q,ptrV m=.pointer q:=⟨_,rfl⟩
 rw [hpm] at bT
 have HPM:=Lib.hid hpm
 clear hpm
 clear eb hg hn hap hA hB hl hm hr
 go_enter Tryz.func186,Tryz.ntmps186
 go_upto_region 4 with fail
 have hT:=((((H0.out.setA 7 (.pointer pm)).setB 6 (.pointer (some ⟨a,0,none⟩))).setB 5 (.bool c)).setA 5 (.bool true))
 have H3:=Lib.hid ((hT.castA (c':=nodeC k v s true l m) (by rw [← HPM.out];rfl)).castB (c':=nodeC k2 v2 s2 c (.node a k v s true l m) r) rfl)
 clear hT
 generalize ((((w.setCell ⟨a,7,none⟩ (.pointer pm)).setCell ⟨b,6,none⟩ (.pointer (some ⟨a,0,none⟩))).setCell ⟨b,5,none⟩ (.bool c)).setCell ⟨a,5,none⟩ (.bool true))=W3 at H3 ⊢
 clear a5 aT b5 bT fa5 faT fb5 fbT
 have ht:=total_any g a p n k v s true l m W3 H3.out.tree ⟨H3.out.A,H3.out.tl,H3.out.tm⟩
 go_wp2_with fail
 refine ht.mono ?_
 clear ht
 rintro e W4 ⟨rfl,hb4⟩
 have H4:=Lib.hid (H3.out.later hb4)
 clear hb4 H3
 obtain⟨x,hx⟩:∃ x,total k v l m=x:=⟨_,rfl⟩
 rw [hx]
 have HX:=Lib.hid hx
 clear hx
 have a3:=H4.out.A.cell 3;have a4:=H4.out.A.cell 4;have fa3:=H4.out.A.frozen 3;have fa4:=H4.out.A.frozen 4
 unfold nodeC at a3 a4
 simp only [lTA,lCZ,lCS] at a3 a4
 go_upto_region 5 with fail
 have H5:=Lib.hid (((H4.out.setA 3 (.int .u64 x.1)).setA 4 (.int .i64 x.2)).castA (c':=nodeC k v x true l m) rfl)
 generalize ((W4.setCell ⟨a,3,none⟩ (.int .u64 x.1)).setCell ⟨a,4,none⟩ (.int .i64 x.2))=W5 at H5 ⊢
 clear a3 a4 fa3 fa4 H4
 have ht:=total_any g b p n k2 v2 s2 c (.node a k v x true l m) r W5 H5.out.tree ⟨H5.out.B,⟨H5.out.A,H5.out.tl,H5.out.tm⟩,H5.out.tr⟩
 go_wp2_with fail
 refine ht.mono ?_
 clear ht
 rintro e W6 ⟨rfl,hb6⟩
 have H6:=Lib.hid (H5.out.later hb6)
 clear hb6 H5
 obtain⟨y,hy⟩:∃ y,total k2 v2 (.node a k v x true l m) r=y:=⟨_,rfl⟩
 rw [hy]
 have HY:=Lib.hid hy
 clear hy
 have b3:=H6.out.B.cell 3;have b4:=H6.out.B.cell 4;have fb3:=H6.out.B.frozen 3;have fb4:=H6.out.B.frozen 4
 unfold nodeC at b3 b4
 simp only [lTA,lCZ,lCS] at b3 b4
 go_upto_region 6 with fail
 have H7:=Lib.hid (((H6.out.setB 3 (.int .u64 y.1)).setB 4 (.int .i64 y.2)).castB (c':=nodeC k2 v2 y c (.node a k v x true l m) r) rfl)
 generalize ((W6.setCell ⟨b,3,none⟩ (.int .u64 y.1)).setCell ⟨b,4,none⟩ (.int .i64 y.2))=W7 at H7 ⊢
 clear b3 b4 fb3 fb4 H6
 go_wp2
 go_ret
 rw [HX.out,HY.out]
 refine⟨rfl,⟨H7.out.B,⟨H7.out.A,H7.out.tl,H7.out.tm⟩,H7.out.tr⟩,H7.out.fr.weak fun q _ hq=>?_⟩
 rcases hq with rfl | rfl
 ·exact .head _
 ·exact List.mem_cons.2 (.inr (List.mem_append.2 (.inr (.head _))))
theorem rotL_any (g:Nat)(p:Value)(n:Int)(t t':RB)(w:World)(hg:Blk w g 165 (treeC p n))(h:RBAt w t)(hn:(addrs t).Nodup)(e:rotL t=some t') :
  Calls Tryz.prog 186 #[.pointer (some ⟨g,0,none⟩),ptrV t] w (TurnW w (addrs t) t'):=by
 cases t with
 | nil=>cases e
 | node a k v s c l r =>
  cases r with
  | nil=>cases e
  | node b k2 v2 s2 c2 x y =>
   cases e
   exact rotL_walk g p n a k v s c l x y b k2 v2 s2 c2 w hg h hn
theorem rotR_walk (g:Nat)(p:Value)(n:Int)(a:Nat)(k:Ky)(v:Int)(s:Ky)(c:Bool)(l m r:RB)(b:Nat)(k2:Ky)(v2:Int)(s2:Ky)(c2:Bool)(w:World)(hg:Blk w g 165 (treeC p n))(h:RBAt w (.node a k v s c (.node b k2 v2 s2 c2 l m) r))(hn:(addrs (.node a k v s c (.node b k2 v2 s2 c2 l m) r)).Nodup) :
  Calls Tryz.prog 175 #[.pointer (some ⟨g,0,none⟩),.pointer (some ⟨a,0,none⟩)] w (TurnW w (addrs (.node a k v s c (.node b k2 v2 s2 c2 l m) r)) (.node b k2 v2 (total k2 v2 l (.node a k v (total k v m r) true m r)) c l (.node a k v (total k v m r) true m r))):=by
 have hap:=apart_left hn
 obtain⟨hA,⟨hB,hl,hm⟩,hr⟩:=h
 have H0:=Lib.hid (⟨hg,hA,hB,hl,hm,hr,hap,Fr.refl _ _⟩:TwoS w w g p n a b _ _ l m r)
 have hab:¬ a=b:=hap.ab
 have hba:¬ b=a:=fun e=>hap.ab e.symm
 have a5:=hA.cell 5;have aT:=hA.cell 6;have b5:=hB.cell 5;have bT:=hB.cell 7
 have fa5:=hA.frozen 5;have faT:=hA.frozen 6;have fb5:=hB.frozen 5;have fbT:=hB.frozen 7
 unfold nodeC at a5 aT b5 bT
 simp only [lTA,lCZ,lCS] at a5 aT b5 bT
 have eb:ptrV (.node b k2 v2 s2 c2 l m)=.pointer (some ⟨b,0,none⟩):=rfl
 rw [eb] at aT
 obtain⟨pm,hpm⟩:∃ q,ptrV m=.pointer q:=⟨_,rfl⟩
 rw [hpm] at bT
 have HPM:=Lib.hid hpm
 clear hpm
 clear eb hg hn hap hA hB hl hm hr
 go_enter Tryz.func175,Tryz.ntmps175
 go_upto_region 4 with fail
 have hT:=((((H0.out.setA 6 (.pointer pm)).setB 7 (.pointer (some ⟨a,0,none⟩))).setB 5 (.bool c)).setA 5 (.bool true))
 have H3:=Lib.hid ((hT.castA (c':=nodeC k v s true m r) (by rw [← HPM.out];rfl)).castB (c':=nodeC k2 v2 s2 c l (.node a k v s true m r)) rfl)
 clear hT
 generalize ((((w.setCell ⟨a,6,none⟩ (.pointer pm)).setCell ⟨b,7,none⟩ (.pointer (some ⟨a,0,none⟩))).setCell ⟨b,5,none⟩ (.bool c)).setCell ⟨a,5,none⟩ (.bool true))=W3 at H3 ⊢
 clear a5 aT b5 bT fa5 faT fb5 fbT
 have ht:=total_any g a p n k v s true m r W3 H3.out.tree ⟨H3.out.A,H3.out.tm,H3.out.tr⟩
 go_wp2_with fail
 refine ht.mono ?_
 clear ht
 rintro e W4 ⟨rfl,hb4⟩
 have H4:=Lib.hid (H3.out.later hb4)
 clear hb4 H3
 obtain⟨x,hx⟩:∃ x,total k v m r=x:=⟨_,rfl⟩
 rw [hx]
 have HX:=Lib.hid hx
 clear hx
 have a3:=H4.out.A.cell 3;have a4:=H4.out.A.cell 4;have fa3:=H4.out.A.frozen 3;have fa4:=H4.out.A.frozen 4
 unfold nodeC at a3 a4
 simp only [lTA,lCZ,lCS] at a3 a4
 go_upto_region 5 with fail
 have H5:=Lib.hid (((H4.out.setA 3 (.int .u64 x.1)).setA 4 (.int .i64 x.2)).castA (c':=nodeC k v x true m r) rfl)
 generalize ((W4.setCell ⟨a,3,none⟩ (.int .u64 x.1)).setCell ⟨a,4,none⟩ (.int .i64 x.2))=W5 at H5 ⊢
 clear a3 a4 fa3 fa4 H4
 have ht:=total_any g b p n k2 v2 s2 c l (.node a k v x true m r) W5 H5.out.tree ⟨H5.out.B,H5.out.tl,⟨H5.out.A,H5.out.tm,H5.out.tr⟩⟩
 go_wp2_with fail
 refine ht.mono ?_
 clear ht
 rintro e W6 ⟨rfl,hb6⟩
 have H6:=Lib.hid (H5.out.later hb6)
 clear hb6 H5
 obtain⟨y,hy⟩:∃ y,total k2 v2 l (.node a k v x true m r)=y:=⟨_,rfl⟩
 rw [hy]
 have HY:=Lib.hid hy
 clear hy
 have b3:=H6.out.B.cell 3;have b4:=H6.out.B.cell 4;have fb3:=H6.out.B.frozen 3;have fb4:=H6.out.B.frozen 4
 unfold nodeC at b3 b4
 simp only [lTA,lCZ,lCS] at b3 b4
 go_upto_region 6 with fail
 have H7:=Lib.hid (((H6.out.setB 3 (.int .u64 y.1)).setB 4 (.int .i64 y.2)).castB (c':=nodeC k2 v2 y c l (.node a k v x true m r)) rfl)
 generalize ((W6.setCell ⟨b,3,none⟩ (.int .u64 y.1)).setCell ⟨b,4,none⟩ (.int .i64 y.2))=W7 at H7 ⊢
 clear b3 b4 fb3 fb4 H6
 go_wp2
 go_ret
 rw [HX.out,HY.out]
 refine⟨rfl,⟨H7.out.B,H7.out.tl,⟨H7.out.A,H7.out.tm,H7.out.tr⟩⟩,H7.out.fr.weak fun q _ hq=>?_⟩
 rcases hq with rfl | rfl
 ·exact .head _
 ·exact List.mem_cons.2 (.inr (List.mem_append.2 (.inl (.head _))))
theorem rotR_any (g:Nat)(p:Value)(n:Int)(t t':RB)(w:World)(hg:Blk w g 165 (treeC p n))(h:RBAt w t)(hn:(addrs t).Nodup)(e:rotR t=some t') :
  Calls Tryz.prog 175 #[.pointer (some ⟨g,0,none⟩),ptrV t] w (TurnW w (addrs t) t'):=by
 cases t with
 | nil=>cases e
 | node a k v s c l r =>
  cases l with
  | nil=>cases e
  | node b k2 v2 s2 c2 x y =>
   cases e
   exact rotR_walk g p n a k v s c x y r b k2 v2 s2 c2 w hg h hn
end
section
open Go.RowKit
attribute [local go_sem ↓] Go.wp_at_zero Go.wp_at_succ
attribute [local go_sem] quietR quietAtR quietUponR midAt midUpon
def FlipW (w:World)(S:List Nat)(t':RB)(e:Ending)(w':World):Prop:=e=.returned (.tuple #[])∧RBAt w' t'∧Fr (fun x=>x∈S) w w'
theorem flip_walk (a:Nat)(k:Ky)(v:Int)(s:Ky)(c:Bool)(b:Nat)(k2:Ky)(v2:Int)(s2:Ky)(c2:Bool)(l2 r2:RB)(d:Nat)(k3:Ky)(v3:Int)(s3:Ky)(c3:Bool)(l3 r3:RB)(w:World)(h:RBAt w (.node a k v s c (.node b k2 v2 s2 c2 l2 r2) (.node d k3 v3 s3 c3 l3 r3)))
  (hn:(addrs (.node a k v s c (.node b k2 v2 s2 c2 l2 r2) (.node d k3 v3 s3 c3 l3 r3))).Nodup) :
  Calls Tryz.prog 187 #[.pointer (some ⟨a,0,none⟩)] w (FlipW w (addrs (.node a k v s c (.node b k2 v2 s2 c2 l2 r2) (.node d k3 v3 s3 c3 l3 r3))) (.node a k v s (!c) (.node b k2 v2 s2 (!c2) l2 r2) (.node d k3 v3 s3 (!c3) l3 r3))):=by
 have hn':=hn
 simp only [addrs,List.nodup_cons,List.nodup_append,List.mem_append,List.mem_cons,not_or,List.cons_append] at hn'
 obtain⟨hA,⟨hB,hl2,hr2⟩,hD,hl3,hr3⟩:=h
 have HN:=Lib.hid hn'
 have hab:¬ a=b:=by rintro rfl;simp at hn'
 have hba:¬ b=a:=fun e=>hab e.symm
 have had:¬ a=d:=by rintro rfl;simp at hn'
 have hda:¬ d=a:=fun e=>had e.symm
 have hbd:¬ b=d:=by rintro rfl;simp at hn'
 have hdb:¬ d=b:=fun e=>hbd e.symm
 have H:=Lib.hid (And.intro hA (And.intro hB (And.intro hl2 (And.intro hr2 (And.intro hD (And.intro hl3 hr3))))))
 have a5:=hA.cell 5;have a6:=hA.cell 6;have a7:=hA.cell 7;have b5:=hB.cell 5;have d5:=hD.cell 5
 have fa5:=hA.frozen 5;have fb5:=hB.frozen 5;have fd5:=hD.frozen 5
 unfold nodeC at a5 a6 a7 b5 d5
 simp only [lTA,lCZ,lCS,ptrV,adr,Option.map_some] at a5 a6 a7 b5 d5
 clear hn' hn hA hB hl2 hr2 hD hl3 hr3
 go_enter Tryz.func187,Tryz.ntmps187
 go_region
 go_returns
 obtain⟨hA,hB,hl2,hr2,hD,hl3,hr3⟩:=H.out
 obtain⟨⟨_,⟨x1,x2⟩,_,x3,x4⟩,⟨⟨y1,y2⟩,_,y3,y4⟩,_,⟨⟨z3,z4⟩,_⟩,hlr⟩:=HN.out
 have z1:d ∉ addrs l2:=fun h=>hlr d (.inl h) d (.inl rfl) rfl
 have z2:d ∉ addrs r2:=fun h=>hlr d (.inr h) d (.inl rfl) rfl
 have kept:∀ {t:RB},RBAt w t→a ∉ addrs t→b ∉ addrs t→d ∉ addrs t→RBAt (((w.setCell ⟨a,5,none⟩ (.bool !c)).setCell ⟨b,5,none⟩ (.bool !c2)).setCell ⟨d,5,none⟩ (.bool !c3)).drew t:=fun ht h1 h2 h3=>ht.kept fun q hq =>
  (Below.heap_setCell _ ⟨d,5,none⟩ _ q fun e=>h3 (show d∈addrs _ from (show q=d from e) ▸ hq)).trans ((Below.heap_setCell _ ⟨b,5,none⟩ _ q fun e=>h2 (show b∈addrs _ from (show q=b from e) ▸ hq)).trans (Below.heap_setCell _ ⟨a,5,none⟩ _ q fun e=>h1 (show a∈addrs _ from (show q=a from e) ▸ hq)))
 have na:=((hA.set_ 5 (.bool !c)).far (p:=⟨b,5,none⟩) hab (.bool !c2)).far (p:=⟨d,5,none⟩) had (.bool !c3)
 have nb:=((hB.far (p:=⟨a,5,none⟩) hba (.bool !c)).set_ 5 (.bool !c2)).far (p:=⟨d,5,none⟩) hbd (.bool !c3)
 have nd:=((hD.far (p:=⟨a,5,none⟩) hda (.bool !c)).far (p:=⟨b,5,none⟩) hdb (.bool !c2)).set_ 5 (.bool !c3)
 refine⟨rfl,⟨na.drew,⟨nb.drew,kept hl2 x1 y1 z1,kept hr2 x2 y2 z2⟩,⟨nd.drew,kept hl3 x3 y3 z3,kept hr3 x4 y4 z4⟩⟩,?_⟩
 ·have f1:Fr (fun x=>x∈addrs (.node a k v s c (.node b k2 v2 s2 c2 l2 r2) (.node d k3 v3 s3 c3 l3 r3))) w (((w.setCell ⟨a,5,none⟩ (.bool !c)).setCell ⟨b,5,none⟩ (.bool !c2)).setCell ⟨d,5,none⟩ (.bool !c3)) :=
   ((Fr.set (by simp [addrs])).trans (Fr.set (by simp [addrs]))).trans (Fr.set (by simp [addrs]))
  exact⟨f1.os,f1.tape,f1.output,f1.size,f1.block⟩
theorem flip_any (t t':RB)(w:World)(h:RBAt w t)(hn:(addrs t).Nodup)(e:flipT t=some t') :
  Calls Tryz.prog 187 #[ptrV t] w (FlipW w (addrs t) t'):=by
 cases t with
 | nil=>cases e
 | node a k v s c l r =>
  cases l with
  | nil=>cases e
  | node b k2 v2 s2 c2 l2 r2 =>
   cases r with
   | nil=>cases e
   | node d k3 v3 s3 c3 l3 r3 =>
    cases e
    exact flip_walk a k v s c b k2 v2 s2 c2 l2 r2 d k3 v3 s3 c3 l3 r3 w h hn
end
section
open Go.RowKit
attribute [local go_sem ↓] Go.wp_at_zero Go.wp_at_succ
attribute [local go_sem] quietR quietAtR quietUponR midAt midUpon
structure BalS (w W:World)(g:Nat)(p:Value)(n:Int)(S:List Nat)(t:RB):Prop where
 tree:Blk W g 165 (treeC p n)
 rb:RBAt W t
 nd:(addrs t).Nodup
 sub:∀ x∈addrs t,x∈S
 fr:Fr (fun x=>x∈S) w W
section
variable {w W W' : World} {g : Nat} {p : Value} {n : Int} {S : List Nat} {t t' : RB}
theorem BalS.later (h:BalS w W g p n S t)(hb:Below W.heap.size W W'):BalS w W' g p n S t :=
 ⟨h.tree.below hb h.tree.lt,h.rb.later hb,h.nd,h.sub,h.fr.trans (Fr.of_below hb)⟩
theorem BalS.turn (h:BalS w W g p n S t)(hs:(addrs t').Perm (addrs t))(hr:RBAt W' t')(hf:Fr (fun x=>x∈addrs t) W W'):BalS w W' g p n S t' :=
 ⟨h.tree.fr hf (RBAt.typed h.tree (by decide) h.rb),hr,hs.nodup_iff.2 h.nd,fun x hx=>h.sub x (hs.mem_iff.1 hx),h.fr.trans (hf.weak fun x _ hx=>h.sub x hx)⟩
end
def BalR (w:World)(g:Nat)(p:Value)(n:Int)(S:List Nat)(o:Option RB)(v:Value)(W:World):Prop:=∃ t,o=some t∧v=ptrV t∧BalS w W g p n S t
def Cnd (P:Prop)(w:World)(v:Value)(W:World):Prop:=∃ b:Bool,v=.bool b∧(b=true↔P)∧W=w
theorem is_eq (t:RB)(b:Bool)(hb:isR t=b)(w:World)(h:RBAt w t):Calls Tryz.prog 153 #[ptrV t] w fun e w'=>e=.returned (.bool b)∧w=w':=hb ▸ is_any t w h
theorem balance_any (g:Nat)(p:Value)(n:Int)(t t':RB)(w:World)(hg:Blk w g 165 (treeC p n))(h:RBAt w t)(hn:(addrs t).Nodup)(e:bal t=some t') :
  Calls Tryz.prog 173 #[.pointer (some ⟨g,0,none⟩),ptrV t] w (TurnW w (addrs t) t'):=by
 unfold bal at e
 obtain⟨t1,e1,e⟩:=Option.bind_eq_some_iff.1 e
 obtain⟨t2,e2,e⟩:=Option.bind_eq_some_iff.1 e
 obtain⟨t3,e3,e4⟩:=Option.bind_eq_some_iff.1 e
 have H0:=Lib.hid (⟨hg,h,hn,fun _ hx=>hx,Fr.refl _ _⟩:BalS w w g p n (addrs t) t)
 have E:=Lib.hid (And.intro e1 (And.intro e2 (And.intro e3 e4)))
 have hne:t≠.nil:=by
  rintro rfl
  cases e1
  cases e2
  cases e3
  cases e4
 clear e e1 e2 e3 e4 hg h hn
 obtain⟨S,hS⟩:∃ S,S=addrs t:=⟨_,rfl⟩
 rw [← hS] at H0 ⊢
 clear hS
 cases t with
 | nil=>exact absurd rfl hne
 | node a k v s c l r =>
 clear hne
 have ev:ptrV (.node a k v s c l r)=.pointer (some ⟨a,0,none⟩):=rfl
 rw [ev]
 have EV:=Lib.hid ev
 clear ev
 go_enter Tryz.func173,Tryz.ntmps173
 go_upto_region 1 with fail
 go_cut [17] from 5 to 17 (fun vc wx=>Cnd (isR r=true∧isR l=false) w vc wx)
 case first =>
  have a6:=H0.out.rb.1.cell 6;have a7:=H0.out.rb.1.cell 7
  unfold nodeC at a6 a7
  simp only [lTA,lCZ,lCS] at a6 a7
  cases hr:isR r with
  | false =>
   have hir:=is_eq r _ hr w H0.out.rb.2.2;have HRR:=Lib.hid hr
   clear hr
   go_wp2_with fail
   refine hir.mono ?_
   rintro e w1 ⟨rfl,rfl⟩
   go_wp2_with fail
   go_meet
   exact⟨_,rfl,by rw [HRR.out];simp,rfl⟩
  | true =>
   have hir:=is_eq r _ hr w H0.out.rb.2.2;have HRR:=Lib.hid hr
   have hil:=is_eq l _ rfl w H0.out.rb.2.1
   clear hr
   go_wp2_with fail
   refine hir.mono ?_
   rintro e w1 ⟨rfl,rfl⟩
   go_wp2_with fail
   refine hil.mono ?_
   rintro e w1 ⟨rfl,rfl⟩
   go_wp2_with fail
   go_meet
   exact⟨_,rfl,by rw [HRR.out];simp,rfl⟩
 case rest =>
  obtain⟨cb,rfl,hcb,hwc⟩:=hcut
  rw [hwc]
  clear hwc
  have HC:=Lib.hid hcb
  clear hcb
  go_upto_if 17 with fail
  go_cut [1] from 18 to 20 (fun vx wx=>BalR w g p n S (bal1 (.node a k v s c l r)) vx wx)
  case first =>
   cases cb with
   | false =>
    have HB:=Lib.hid (show bal1 (.node a k v s c l r)=some (.node a k v s c l r) by unfold bal1;rw [rgt_node,lft_node,if_neg (fun hh=>by have:=HC.out.2 hh;cases this)])
    go_wp2_with fail
    go_meet
    exact⟨_,HB.out,EV.out.symm,H0.out⟩
   | true =>
    have HB:=Lib.hid (show bal1 (.node a k v s c l r)=rotL (.node a k v s c l r) by unfold bal1;rw [rgt_node,lft_node,if_pos (HC.out.1 rfl)])
    have hrot:=rotL_any g p n (.node a k v s c l r) t1 w H0.out.tree H0.out.rb H0.out.nd (by rw [← HB.out];exact E.out.1)
    rw [EV.out] at hrot
    go_wp2_with fail
    refine hrot.mono ?_
    clear hrot
    rintro e w1 ⟨rfl,hr1,hf1⟩
    have H1:=Lib.hid (H0.out.turn (rotL_same (by rw [← HB.out];exact E.out.1)).1.addr hr1 hf1)
    clear hr1 hf1
    go_wp2_with fail
    go_meet
    exact⟨_,E.out.1,rfl,H1.out⟩
  case rest =>
   obtain⟨t1',e1,rfl,hb1⟩:=hcut
   have e1':=E.out.1
   rw [e1'] at e1
   obtain rfl:t1=t1':=Option.some.inj e1
   obtain⟨W1,rfl⟩:∃ W,W=wc:=⟨_,rfl⟩
   have H1:=Lib.hid hb1
   clear hb1 e1 e1' H0 EV
   have hne:t1≠.nil:=by
    rintro rfl
    have e2:=E.out.2.1;have e3:=E.out.2.2.1;have e4:=E.out.2.2.2
    cases e2
    cases e3
    cases e4
   cases t1 with
   | nil=>exact absurd rfl hne
   | node a1 k1 v1 s1 c1 l1 r1 =>
   clear hne
   have ev:ptrV (.node a1 k1 v1 s1 c1 l1 r1)=.pointer (some ⟨a1,0,none⟩):=rfl
   rw [ev]
   have EV:=Lib.hid ev
   clear ev
   go_upto_region 3 with fail
   go_cut [35] from 21 to 35 (fun vc wx=>Cnd (isR l1=true∧isR (lft l1)=true) W1 vc wx)
   case first =>
    have a6:=H1.out.rb.1.cell 6
    unfold nodeC at a6
    simp only [lTA,lCZ,lCS] at a6
    cases hl:isR l1 with
    | false =>
     have hil:=is_eq l1 _ hl W1 H1.out.rb.2.1;have HRR:=Lib.hid hl
     clear hl
     go_wp2_with fail
     refine hil.mono ?_
     rintro e w1 ⟨rfl,rfl⟩
     go_wp2_with fail
     go_meet
     exact⟨_,rfl,by rw [HRR.out];simp,rfl⟩
    | true =>
     have hil:=is_eq l1 _ hl W1 H1.out.rb.2.1;have HRR:=Lib.hid hl
     cases l1 with
     | nil=>cases hl
     | node b k2 v2 s2 c2 ll lr =>
     have b6:=H1.out.rb.2.1.1.cell 6
     unfold nodeC at b6
     simp only [lTA,lCZ,lCS] at b6
     have el:ptrV (.node b k2 v2 s2 c2 ll lr)=.pointer (some ⟨b,0,none⟩):=rfl
     rw [el] at a6 hil
     clear el
     have hill:=is_eq ll _ rfl W1 H1.out.rb.2.1.2.1
     have HL:=Lib.hid hl
     clear hl
     go_wp2_with fail
     refine hil.mono ?_
     rintro e w1 ⟨rfl,rfl⟩
     go_wp2_with fail
     refine hill.mono ?_
     rintro e w1 ⟨rfl,rfl⟩
     go_wp2_with fail
     go_meet
     exact⟨_,rfl,⟨fun h=>⟨HL.out,h⟩,fun h=>h.2⟩,rfl⟩
   case rest =>
    obtain⟨cb,rfl,hcb,hwc⟩:=hcut
    rw [hwc]
    clear hwc
    have HC:=Lib.hid hcb
    clear hcb
    go_upto_if 35 with fail
    go_cut [1] from 36 to 38 (fun vx wx=>BalR w g p n S (bal2 (.node a1 k1 v1 s1 c1 l1 r1)) vx wx)
    case first =>
     cases cb with
     | false =>
      have HB:=Lib.hid (show bal2 (.node a1 k1 v1 s1 c1 l1 r1)=some (.node a1 k1 v1 s1 c1 l1 r1) by unfold bal2;rw [lft_node,if_neg (fun hh=>by have:=HC.out.2 hh;cases this)])
      go_wp2_with fail
      go_meet
      exact⟨_,HB.out,EV.out.symm,H1.out⟩
     | true =>
      have HB:=Lib.hid (show bal2 (.node a1 k1 v1 s1 c1 l1 r1)=rotR (.node a1 k1 v1 s1 c1 l1 r1) by unfold bal2;rw [lft_node,if_pos (HC.out.1 rfl)])
      have hrot:=rotR_any g p n (.node a1 k1 v1 s1 c1 l1 r1) t2 W1 H1.out.tree H1.out.rb H1.out.nd (by rw [← HB.out];exact E.out.2.1)
      rw [EV.out] at hrot
      go_wp2_with fail
      refine hrot.mono ?_
      clear hrot
      rintro e w1 ⟨rfl,hr1,hf1⟩
      have H2:=Lib.hid (H1.out.turn (rotR_same (by rw [← HB.out];exact E.out.2.1)).1.addr hr1 hf1)
      clear hr1 hf1
      go_wp2_with fail
      go_meet
      exact⟨_,E.out.2.1,rfl,H2.out⟩
    case rest =>
     obtain⟨t2',e1,rfl,hb1⟩:=hcut
     have e1':=E.out.2.1
     rw [e1'] at e1
     obtain rfl:t2=t2':=Option.some.inj e1
     obtain⟨W2,rfl⟩:∃ W,W=wc:=⟨_,rfl⟩
     have H2:=Lib.hid hb1
     clear hb1 e1 e1' H1 EV
     have hne:t2≠.nil:=by
      rintro rfl
      have e3:=E.out.2.2.1;have e4:=E.out.2.2.2
      cases e3
      cases e4
     cases t2 with
     | nil=>exact absurd rfl hne
     | node a2 k2 v2 s2 c2 l2 r2 =>
     clear hne
     have ev:ptrV (.node a2 k2 v2 s2 c2 l2 r2)=.pointer (some ⟨a2,0,none⟩):=rfl
     rw [ev]
     have EV:=Lib.hid ev
     clear ev
     go_upto_region 5 with fail
     go_cut [50] from 39 to 50 (fun vc wx=>Cnd (isR l2=true∧isR r2=true) W2 vc wx)
     case first =>
      have a6:=H2.out.rb.1.cell 6;have a7:=H2.out.rb.1.cell 7
      unfold nodeC at a6 a7
      simp only [lTA,lCZ,lCS] at a6 a7
      cases hr:isR l2 with
      | false =>
       have hir:=is_eq l2 _ hr W2 H2.out.rb.2.1;have HRR:=Lib.hid hr
       clear hr
       go_wp2_with fail
       refine hir.mono ?_
       rintro e w1 ⟨rfl,rfl⟩
       go_wp2_with fail
       go_meet
       exact⟨_,rfl,by rw [HRR.out];simp,rfl⟩
      | true =>
       have hir:=is_eq l2 _ hr W2 H2.out.rb.2.1;have HRR:=Lib.hid hr
       have hil:=is_eq r2 _ rfl W2 H2.out.rb.2.2
       clear hr
       go_wp2_with fail
       refine hir.mono ?_
       rintro e w1 ⟨rfl,rfl⟩
       go_wp2_with fail
       refine hil.mono ?_
       rintro e w1 ⟨rfl,rfl⟩
       go_wp2_with fail
       go_meet
       exact⟨_,rfl,by rw [HRR.out];simp,rfl⟩
     case rest =>
      obtain⟨cb,rfl,hcb,hwc⟩:=hcut
      rw [hwc]
      clear hwc
      have HC:=Lib.hid hcb
      clear hcb
      go_upto_if 50 with fail
      go_cut [] from 51 to 52 (fun wx=>BalR w g p n S (bal3 (.node a2 k2 v2 s2 c2 l2 r2)) (.pointer (some ⟨a2,0,none⟩)) wx)
      case first =>
       cases cb with
       | false =>
        have HB:=Lib.hid (show bal3 (.node a2 k2 v2 s2 c2 l2 r2)=some (.node a2 k2 v2 s2 c2 l2 r2) by unfold bal3;rw [lft_node,rgt_node,if_neg (fun hh=>by have:=HC.out.2 hh;cases this)])
        go_wp2_with fail
        go_meet
        exact⟨_,HB.out,EV.out.symm,H2.out⟩
       | true =>
        have HB:=Lib.hid (show bal3 (.node a2 k2 v2 s2 c2 l2 r2)=flipT (.node a2 k2 v2 s2 c2 l2 r2) by unfold bal3;rw [lft_node,rgt_node,if_pos (HC.out.1 rfl)])
        have hfl:=flip_any (.node a2 k2 v2 s2 c2 l2 r2) t3 W2 H2.out.rb H2.out.nd (by rw [← HB.out];exact E.out.2.2.1)
        rw [EV.out] at hfl
        have HP:=Lib.hid (show ptrV t3=.pointer (some ⟨a2,0,none⟩) by
         have e:=E.out.2.2.1
         rw [HB.out] at e
         cases l2 with
         | nil=>cases e
         | node=>cases r2 with
          | nil=>cases e
          | node=>cases e;rfl)
        go_wp2_with fail
        refine hfl.mono ?_
        clear hfl
        rintro e w1 ⟨rfl,hr1,hf1⟩
        have H3:=Lib.hid (H2.out.turn (flip_same (by rw [← HB.out];exact E.out.2.2.1)).1.addr hr1 hf1)
        clear hr1 hf1
        go_wp2_with fail
        go_meet
        exact⟨_,E.out.2.2.1,HP.out.symm,H3.out⟩
      case rest =>
       obtain⟨t3',e1,hp3,hb1⟩:=hcut
       have e1':=E.out.2.2.1
       rw [e1'] at e1
       obtain rfl:t3=t3':=Option.some.inj e1
       obtain⟨W3,rfl⟩:∃ W,W=wc:=⟨_,rfl⟩
       have H3:=Lib.hid hb1
       clear hb1 e1 e1' H2 EV
       cases t3 with
       | nil=>cases hp3
       | node a3 k3 v3 s3 c3 l3 r3 =>
       have ha:a2=a3:=by
        have:(Value.pointer (some ⟨a2,0,none⟩))=.pointer (some ⟨a3,0,none⟩):=hp3
        simpa using this
       subst ha
       clear hp3
       have ht:=total_any g a2 p n k3 v3 s3 c3 l3 r3 W3 H3.out.tree H3.out.rb
       obtain⟨x,hx⟩:∃ x,total k3 v3 l3 r3=x:=⟨_,rfl⟩
       rw [hx] at ht
       have HX:=Lib.hid hx
       clear hx
       go_wp2_with fail
       refine ht.mono ?_
       clear ht
       rintro e W4 ⟨rfl,hb4⟩
       have H4:=Lib.hid (H3.out.later hb4)
       clear hb4 H3
       have a3':=H4.out.rb.1.cell 3;have a4':=H4.out.rb.1.cell 4;have f3:=H4.out.rb.1.frozen 3;have f4:=H4.out.rb.1.frozen 4
       unfold nodeC at a3' a4'
       simp only [lTA,lCZ,lCS] at a3' a4'
       go_wp2
       go_ret
       have e4:=E.out.2.2.2
       cases e4
       have hA:=((H4.out.rb.1.set_ 3 (.int .u64 x.1)).set_ 4 (.int .i64 x.2))
       have hnd:=H4.out.nd
       have hal:a2 ∉ addrs l3:=fun hm=>(List.nodup_cons.1 hnd).1 (List.mem_append.2 (.inl hm))
       have har:a2 ∉ addrs r3:=fun hm=>(List.nodup_cons.1 hnd).1 (List.mem_append.2 (.inr hm))
       have hk:∀ {t:RB},RBAt W4 t→a2 ∉ addrs t→RBAt ((W4.setCell ⟨a2,3,none⟩ (.int .u64 x.1)).setCell ⟨a2,4,none⟩ (.int .i64 x.2)) t:=fun ht hn=>ht.kept fun q hq =>
        (Below.heap_setCell _ ⟨a2,4,none⟩ _ q fun e=>hn (show a2∈addrs _ from (show q=a2 from e) ▸ hq)).trans (Below.heap_setCell _ ⟨a2,3,none⟩ _ q fun e=>hn (show a2∈addrs _ from (show q=a2 from e) ▸ hq))
       refine⟨rfl,⟨?_,hk H4.out.rb.2.1 hal,hk H4.out.rb.2.2 har⟩,H4.out.fr.trans ((Fr.set (H4.out.sub a2 (.head _))).trans (Fr.set (H4.out.sub a2 (.head _))))⟩
       rw [HX.out]
       exact hA
end
section
open Go.RowKit
attribute [local go_sem ↓] Go.wp_at_zero Go.wp_at_succ
attribute [local go_sem] quietR quietAtR quietUponR midAt midUpon
theorem put_addr (a:Nat)(k:Ky)(v:Int):∀ (t t':RB),putR a k v t=some t'→(addrs t').Perm (a :: addrs t)
 | .nil,t',h=>by cases h;exact .refl _
 | .node b k2 v2 s c l r,t',h=>by
  unfold putR at h
  split at h
  ·obtain⟨l',h1,h2⟩:=Option.bind_eq_some_iff.1 h
   refine (bal_same h2).1.addr.trans ?_
   show (b :: (addrs l' ++ addrs r)).Perm (a :: b :: (addrs l ++ addrs r))
   exact (List.Perm.cons b ((put_addr a k v l l' h1).append_right _)).trans (.swap a b _)
  ·obtain⟨r',h1,h2⟩:=Option.bind_eq_some_iff.1 h
   refine (bal_same h2).1.addr.trans ?_
   show (b :: (addrs l ++ addrs r')).Perm (a :: b :: (addrs l ++ addrs r))
   exact (List.Perm.cons b (((put_addr a k v r r' h1).append_left _).trans List.perm_middle)).trans (.swap a b _)
def PutW (w:World)(k:Ky)(v:Int)(t:RB)(e:Ending)(w':World):Prop :=
 ∃ a t',e=.returned (ptrV t')∧w.heap.size≤a∧putR a k v t=some t'∧RBAt w' t'∧Fr (fun x=>x∈addrs t) w w'
structure PutS (W:World)(g:Nat)(p:Value)(n:Int)(kb:Nat)(k:Ky)(t:RB):Prop where
 tree:Blk W g 165 (treeC p n)
 rb:RBAt W t
 nd:(addrs t).Nodup
 key:Blk W kb 147 #[.int .u64 k.1,.int .i64 k.2]
theorem PutS.later {W W':World} {g:Nat} {p:Value} {n:Int} {kb:Nat} {k:Ky} {t:RB} (h:PutS W g p n kb k t)(hb:Below W.heap.size W W'):PutS W' g p n kb k t :=
 ⟨h.tree.below hb h.tree.lt,h.rb.later hb,h.nd,h.key.below hb h.key.lt⟩
theorem nd_left {b:Nat} {k2:Ky} {v2:Int} {s:Ky} {c:Bool} {l r:RB} (h:(addrs (.node b k2 v2 s c l r)).Nodup):(addrs l).Nodup:=by
 simp only [addrs,List.nodup_cons,List.nodup_append] at h
 exact h.2.1
theorem put_left {W W':World} {g:Nat} {p:Value} {n:Int} {kb x b:Nat} {k k2:Ky} {v2:Int} {s:Ky} {c:Bool} {l l' r:RB} {q:Option Addr} (h:PutS W g p n kb k (.node b k2 v2 s c l r))(hx:W.heap.size≤x)(hp:(addrs l').Perm (x :: addrs l))(hr:RBAt W' l')(hf:Fr (fun y=>y∈addrs l) W W')(hq:.pointer q=ptrV l') :
  BalS W (W'.setCell ⟨b,6,none⟩ (.pointer q)) g p n (x :: addrs (.node b k2 v2 s c l r)) (.node b k2 v2 s c l' r)∧Blk W' b 193 (nodeC k2 v2 s c l r):=by
 have hnd:=h.nd
 simp only [addrs,List.nodup_cons,List.nodup_append,List.mem_append,not_or] at hnd
 obtain⟨⟨hbl,hbr⟩,hnl,hnr,hlr⟩:=hnd
 have hlt:=fun y hy=>RBAt.lt h.rb y hy
 have hxb:b≠x:=by have:=hlt b (.head _);omega
 have hB':=h.rb.1.fr hf hbl
 have hk:∀ y,y≠b→(W'.setCell ⟨b,6,none⟩ (.pointer q)).heap[y]?=W'.heap[y]?:=fun y hy=>Below.heap_setCell W' ⟨b,6,none⟩ _ y hy
 have hbl':b ∉ addrs l':=fun hm=>by
  rcases List.mem_cons.1 (hp.mem_iff.1 hm) with e | e
  ·exact hxb e
  ·exact hbl e
 have hoth:=h.rb.2.2.fr hf (fun y hy hy2=>hlr y hy2 y hy rfl)
 have hperm:(addrs (.node b k2 v2 s c l' r)).Perm (x :: addrs (.node b k2 v2 s c l r)):=(List.Perm.cons b (hp.append_right _)).trans (.swap x b _)
 have hset:=hB'.set_ 6 (.pointer q)
 refine⟨⟨(hk g (node_ne h.tree h.rb.1 (by decide))).trans (h.tree.fr hf (RBAt.typed h.tree (by decide) h.rb.2.1)),⟨?_,hr.kept fun y hy=>hk y fun e=>hbl' (e ▸ hy),hoth.kept fun y hy=>hk y fun e=>hbr (e ▸ hy)⟩,?_,fun y hy=>hperm.mem_iff.1 hy,?_⟩,hB'⟩
 ·rw [show nodeC k2 v2 s c l' r=(nodeC k2 v2 s c l r).setIfInBounds 6 (.pointer q) by rw [hq];rfl]
  exact hset
 ·refine hperm.nodup_iff.2 (List.nodup_cons.2 ⟨fun hm=>?_,h.nd⟩)
  have:=hlt x hm;omega
 ·exact (hf.weak fun y _ hy=>List.mem_cons.2 (.inr (List.mem_cons.2 (.inr (List.mem_append.2 (.inl hy)))))).trans (Fr.set (List.mem_cons.2 (.inr (.head _))))
theorem nd_right {b:Nat} {k2:Ky} {v2:Int} {s:Ky} {c:Bool} {l r:RB} (h:(addrs (.node b k2 v2 s c l r)).Nodup):(addrs r).Nodup:=by
 simp only [addrs,List.nodup_cons,List.nodup_append] at h
 exact h.2.2.1
theorem put_right {W W':World} {g:Nat} {p:Value} {n:Int} {kb x b:Nat} {k k2:Ky} {v2:Int} {s:Ky} {c:Bool} {l l' r:RB} {q:Option Addr} (h:PutS W g p n kb k (.node b k2 v2 s c l r))(hx:W.heap.size≤x)(hp:(addrs l').Perm (x :: addrs r))(hr:RBAt W' l')(hf:Fr (fun y=>y∈addrs r) W W')(hq:.pointer q=ptrV l') :
  BalS W (W'.setCell ⟨b,7,none⟩ (.pointer q)) g p n (x :: addrs (.node b k2 v2 s c l r)) (.node b k2 v2 s c l l')∧Blk W' b 193 (nodeC k2 v2 s c l r):=by
 have hnd:=h.nd
 simp only [addrs,List.nodup_cons,List.nodup_append,List.mem_append,not_or] at hnd
 obtain⟨⟨hbl,hbr⟩,hnl,hnr,hlr⟩:=hnd
 have hlt:=fun y hy=>RBAt.lt h.rb y hy
 have hxb:b≠x:=by have:=hlt b (.head _);omega
 have hB':=h.rb.1.fr hf hbr
 have hk:∀ y,y≠b→(W'.setCell ⟨b,7,none⟩ (.pointer q)).heap[y]?=W'.heap[y]?:=fun y hy=>Below.heap_setCell W' ⟨b,7,none⟩ _ y hy
 have hbl':b ∉ addrs l':=fun hm=>by
  rcases List.mem_cons.1 (hp.mem_iff.1 hm) with e | e
  ·exact hxb e
  ·exact hbr e
 have hoth:=h.rb.2.1.fr hf (fun y hy hy2=>hlr y hy y hy2 rfl)
 have hperm:(addrs (.node b k2 v2 s c l l')).Perm (x :: addrs (.node b k2 v2 s c l r)):=(List.Perm.cons b ((hp.append_left _).trans List.perm_middle)).trans (.swap x b _)
 have hset:=hB'.set_ 7 (.pointer q)
 refine⟨⟨(hk g (node_ne h.tree h.rb.1 (by decide))).trans (h.tree.fr hf (RBAt.typed h.tree (by decide) h.rb.2.2)),⟨?_,hoth.kept fun y hy=>hk y fun e=>hbl (e ▸ hy),hr.kept fun y hy=>hk y fun e=>hbl' (e ▸ hy)⟩,?_,fun y hy=>hperm.mem_iff.1 hy,?_⟩,hB'⟩
 ·rw [show nodeC k2 v2 s c l l'=(nodeC k2 v2 s c l r).setIfInBounds 7 (.pointer q) by rw [hq];rfl]
  exact hset
 ·refine hperm.nodup_iff.2 (List.nodup_cons.2 ⟨fun hm=>?_,h.nd⟩)
  have:=hlt x hm;omega
 ·exact (hf.weak fun y _ hy=>List.mem_cons.2 (.inr (List.mem_cons.2 (.inr (List.mem_append.2 (.inr hy)))))).trans (Fr.set (List.mem_cons.2 (.inr (.head _))))
theorem put_any (g:Nat)(p:Value)(n:Int)(k:Ky)(v:Int):∀ (t:RB)(w:World),Blk w g 165 (treeC p n)→RBAt w t→(addrs t).Nodup→(∀ a,∃ t',putR a k v t=some t') →
  Calls Tryz.prog 152 #[.pointer (some ⟨g,0,none⟩),ptrV t,.agg #[.int .u64 k.1,.int .i64 k.2],.int .u64 v] w (PutW w k v t):=by
 intro t
 induction t with
 | nil =>
  intro w hg _ _ _
  have hb0:=(Below.refl w.heap.size w).alloc (Nat.le_refl _) (.cells #[.int .u64 k.1,.int .i64 k.2] 147)
  have hk0:=Blk.new w 147 #[.int .u64 k.1,.int .i64 k.2]
  have H0:=Lib.hid (And.intro (hg.below hb0 hg.lt) hk0)
  have HB0:=Lib.hid hb0
  clear hg hb0 hk0
  have ev:ptrV .nil=.pointer none:=rfl
  rw [ev]
  clear ev
  go_enter Tryz.func152,Tryz.ntmps152
  go_upto_region 3 with fail
  obtain⟨kb,hkb⟩:∃ q,q=w.heap.size:=⟨_,rfl⟩
  rw [← hkb] at H0 ⊢
  clear hkb
  generalize w.alloc (.cells #[.int .u64 k.1,.int .i64 k.2] 147)=W1 at H0 HB0 ⊢
  have og:=fun e=>(over_cell (w:=W1) (e:=e) (o:=0) H0.out.1.lt).trans (H0.out.1.cell 0)
  have ok0:=fun e=>(over_cell (w:=W1) (e:=e) (o:=0) H0.out.2.lt).trans (H0.out.2.cell 0)
  have ok1:=fun e=>(over_cell (w:=W1) (e:=e) (o:=1) H0.out.2.lt).trans (H0.out.2.cell 1)
  unfold treeC at og
  simp only [lTA,lCZ,lCS] at og ok0 ok1
  refine wp_region_over_tail 9 (by kernel_rfl) (by kernel_rfl) ?_
  simp only [List.take_succ_cons,List.take_zero,List.drop_succ_cons,List.drop_zero]
  repeat (first | go_big_quiet_skip | (go_big_quiet_want;go_big_quiet_op;first | go_big_quiet_on | (apply Exists.intro;refine⟨fun e=>?_,?_⟩;(focus (go_at_call 78;with_reducible exact calls_over (own_any k v _)));go_big_quiet_on)))
  refine wpQuiet_nil ?_
  rintro W2 ⟨e,he⟩
  have hb2:=over_below W1 e
  rw [← he] at hb2
  have HB:=Lib.hid (HB0.out.trans (hb2.mono HB0.out.size))
  clear he og ok0 ok1 hb2 H0 HB0
  obtain⟨o,ho⟩:∃ o,ownK k v=o:=⟨_,rfl⟩
  rw [ho]
  have HO:=Lib.hid ho
  clear ho
  go_wp2
  go_ret
  have hnb:=Blk.new W2 193 (nodeC k v o true .nil .nil)
  refine⟨W2.heap.size,.node W2.heap.size k v o true .nil .nil,rfl,HB.out.size,by rw [← HO.out];rfl,⟨hnb,trivial,trivial⟩,?_⟩
  exact (Fr.of_below HB.out).trans (Fr.alloc _)
 | node b k2 v2 s c l r ihl ihr =>
  intro w hg h hn hs
  have hb0:=(Below.refl w.heap.size w).alloc (Nat.le_refl _) (.cells #[.int .u64 k.1,.int .i64 k.2] 147)
  have hk0:=Blk.new w 147 #[.int .u64 k.1,.int .i64 k.2]
  obtain⟨kb,hkb⟩:∃ q,q=w.heap.size:=⟨_,rfl⟩
  rw [← hkb] at hk0
  have H0:=Lib.hid (And.intro (⟨hg.below hb0 hg.lt,h.later hb0,hn,hk0⟩:PutS _ g p n kb k (.node b k2 v2 s c l r)) hb0)
  have HS:=Lib.hid hs
  have HKB:=Lib.hid hkb
  clear hg h hn hs hb0 hk0 hkb
  have ev:ptrV (.node b k2 v2 s c l r)=.pointer (some ⟨b,0,none⟩):=rfl
  rw [ev]
  clear ev
  go_enter Tryz.func152,Tryz.ntmps152
  go_upto_region 4 with fail
  rw [← HKB.out]
  generalize w.alloc (.cells #[.int .u64 k.1,.int .i64 k.2] 147)=W1 at H0 ⊢
  have ok0:=fun e=>(over_cell (w:=W1) (e:=e) (o:=0) H0.out.1.key.lt).trans (H0.out.1.key.cell 0)
  have ok1:=fun e=>(over_cell (w:=W1) (e:=e) (o:=1) H0.out.1.key.lt).trans (H0.out.1.key.cell 1)
  have ob0:=fun e=>(over_cell (w:=W1) (e:=e) (o:=0) H0.out.1.rb.1.lt).trans (H0.out.1.rb.1.cell 0)
  have ob1:=fun e=>(over_cell (w:=W1) (e:=e) (o:=1) H0.out.1.rb.1.lt).trans (H0.out.1.rb.1.cell 1)
  unfold nodeC at ob0 ob1
  simp only [lTA,lCZ,lCS] at ok0 ok1 ob0 ob1
  refine wp_region_over_tail 5 (by kernel_rfl) (by kernel_rfl) ?_
  simp only [List.take_succ_cons,List.take_zero,List.drop_succ_cons,List.drop_zero]
  repeat (first | go_big_quiet_skip | (go_big_quiet_want;go_big_quiet_op;go_big_quiet_on))
  refine wpQuiet_nil ?_
  rintro W2 ⟨e,he⟩
  have hb2:=over_below W1 e
  rw [← he] at hb2
  have H2:=Lib.hid (And.intro (H0.out.1.later hb2) (H0.out.2.trans (hb2.mono H0.out.2.size)))
  clear he ok0 ok1 ob0 ob1 hb2 H0
  have hless:=less_any k k2 W2
  go_wp2_with fail
  cases hlt:lessK k k2 with
  | true =>
   rw [hlt] at hless
   have HLT:=Lib.hid hlt
   clear hlt
   refine hless.mono ?_
   clear hless
   rintro e W3 ⟨rfl,hb3⟩
   have H3:=Lib.hid (And.intro (H2.out.1.later hb3) (H2.out.2.trans (hb3.mono H2.out.2.size)))
   clear hb3 H2
   have hrec:∀ a,∃ l',putR a k v l=some l'∧∃ t',putR a k v (.node b k2 v2 s c l r)=some t'∧bal (.node b k2 v2 s c l' r)=some t':=fun a=>by
    obtain⟨t',ht⟩:=HS.out a
    have ht2:=ht
    unfold putR at ht
    rw [if_pos HLT.out] at ht
    obtain⟨l',h1,h2⟩:=Option.bind_eq_some_iff.1 ht
    exact⟨l',h1,t',ht2,h2⟩
   have HREC:=Lib.hid hrec
   clear hrec HLT
   go_upto_region 5 with fail
   have o1:=fun e=>(over_cell (w:=W3) (e:=e) (o:=6) H3.out.1.rb.1.lt).trans (H3.out.1.rb.1.cell 6)
   unfold nodeC at o1
   simp only [lTA,lCZ,lCS] at o1
   have ok0:=fun e=>(over_cell (w:=W3) (e:=e) (o:=0) H3.out.1.key.lt).trans (H3.out.1.key.cell 0)
   have ok1:=fun e=>(over_cell (w:=W3) (e:=e) (o:=1) H3.out.1.key.lt).trans (H3.out.1.key.cell 1)
   simp only [lTA,lCZ,lCS] at ok0 ok1
   refine wp_region_late (w:=W3) 8 4 0 [] [] [] rfl (by kernel_rfl) (by kernel_rfl) (by kernel_rfl) (by kernel_rfl) (fun _ _ _ _ _ h=>h) trivial ?_
   intro LL hL
   have HL:=Lib.hid hL
   clear hL
   simp only [List.take_succ_cons,List.take_zero,putL]
   iterate 8 (first | refine wpHead_skip (by decide) ?_ | (refine wpHead_step (by decide) (fun K hK=>?_);go_simp;(refine hK _ ?_;clear hK K)))
   refine wpHead_nil (HL.out _ trivial ?_)
   intro vs W4 hb4 hf
   clear hf HL
   change wpList _ _ _ _ _ _
   simp only [List.drop_succ_cons,List.drop_zero,List.take_succ_cons,List.take_zero,putHd]
   have H4:=Lib.hid (And.intro (H3.out.1.later hb4) (H3.out.2.trans (hb4.mono H3.out.2.size)))
   clear o1 ok0 ok1 hb4
   have hput:=ihl W4 H4.out.1.tree H4.out.1.rb.2.1 (nd_left H4.out.1.nd) (fun a=>by obtain⟨l',h1,_⟩:=HREC.out a;exact⟨l',h1⟩)
   clear H3
   go_wp2_with fail
   refine hput.mono ?_
   clear hput
   rintro e W5 ⟨x,l',rfl,hx,hxl,hr5,hf5⟩
   obtain⟨pl,hpp⟩:∃ q,ptrV l'=.pointer q:=⟨_,rfl⟩
   obtain⟨hbs,hblk⟩:=put_left H4.out.1 hx (put_addr x k v _ _ hxl) hr5 hf5 hpp.symm
   rw [hpp]
   have H5:=Lib.hid hbs
   have HX:=Lib.hid (And.intro hx hxl)
   have c6:=hblk.cell 6;have f6:=hblk.frozen 6
   unfold nodeC at c6
   simp only [lTA,lCZ,lCS] at c6
   obtain⟨pq,hpq⟩:∃ q,ptrV l=.pointer q:=⟨_,rfl⟩
   rw [hpq] at c6
   clear hpp hx hxl hr5 hf5 hbs hblk hpq
   go_upto_region 6 with fail
   generalize W5.setCell ⟨b,6,none⟩ (.pointer pl)=W6 at H5 ⊢
   clear c6 f6
   obtain⟨l2,e2,t',e3,e4⟩:=HREC.out x
   rw [HX.out.2] at e2
   obtain rfl:l'=l2:=Option.some.inj e2
   have hbal:=balance_any g p n (.node b k2 v2 s c l' r) t' W6 H5.out.tree H5.out.rb H5.out.nd e4
   have ev2:ptrV (.node b k2 v2 s c l' r)=.pointer (some ⟨b,0,none⟩):=rfl
   rw [ev2] at hbal
   have HE:=Lib.hid e3
   clear e2 e3 e4 ev2
   go_wp2_with fail
   refine hbal.mono ?_
   clear hbal
   rintro e W7 ⟨rfl,hr7,hf7⟩
   have HF:=Lib.hid (And.intro hr7 hf7)
   clear hr7 hf7
   go_wp2_with fail
   go_ret
   refine⟨x,t',rfl,Nat.le_trans H4.out.2.size HX.out.1,HE.out,HF.out.1,?_⟩
   have f1:Fr (fun y=>y∈addrs (.node b k2 v2 s c l r)) w W4:=Fr.of_below H4.out.2
   refine f1.trans ((H5.out.fr.trans (HF.out.2.weak fun y _ hy=>H5.out.sub y hy)).weak fun y hy1 hy2=>?_)
   rcases List.mem_cons.1 hy2 with rfl | hy2
   ·have:=HX.out.1;omega
   ·exact hy2
  | false =>
   rw [hlt] at hless
   have HLT:=Lib.hid hlt
   clear hlt
   refine hless.mono ?_
   clear hless
   rintro e W3 ⟨rfl,hb3⟩
   have H3:=Lib.hid (And.intro (H2.out.1.later hb3) (H2.out.2.trans (hb3.mono H2.out.2.size)))
   clear hb3 H2
   have hrec:∀ a,∃ l',putR a k v r=some l'∧∃ t',putR a k v (.node b k2 v2 s c l r)=some t'∧bal (.node b k2 v2 s c l l')=some t':=fun a=>by
    obtain⟨t',ht⟩:=HS.out a
    have ht2:=ht
    unfold putR at ht
    rw [if_neg (by rw [HLT.out];simp)] at ht
    obtain⟨l',h1,h2⟩:=Option.bind_eq_some_iff.1 ht
    exact⟨l',h1,t',ht2,h2⟩
   have HREC:=Lib.hid hrec
   clear hrec HLT
   go_upto_region 1 with fail
   have o1:=fun e=>(over_cell (w:=W3) (e:=e) (o:=7) H3.out.1.rb.1.lt).trans (H3.out.1.rb.1.cell 7)
   unfold nodeC at o1
   simp only [lTA,lCZ,lCS] at o1
   have ok0:=fun e=>(over_cell (w:=W3) (e:=e) (o:=0) H3.out.1.key.lt).trans (H3.out.1.key.cell 0)
   have ok1:=fun e=>(over_cell (w:=W3) (e:=e) (o:=1) H3.out.1.key.lt).trans (H3.out.1.key.cell 1)
   simp only [lTA,lCZ,lCS] at ok0 ok1
   refine wp_region_late (w:=W3) 8 4 0 [] [] [] rfl (by kernel_rfl) (by kernel_rfl) (by kernel_rfl) (by kernel_rfl) (fun _ _ _ _ _ h=>h) trivial ?_
   intro LL hL
   have HL:=Lib.hid hL
   clear hL
   simp only [List.take_succ_cons,List.take_zero,putL]
   iterate 8 (first | refine wpHead_skip (by decide) ?_ | (refine wpHead_step (by decide) (fun K hK=>?_);go_simp;(refine hK _ ?_;clear hK K)))
   refine wpHead_nil (HL.out _ trivial ?_)
   intro vs W4 hb4 hf
   clear hf HL
   change wpList _ _ _ _ _ _
   simp only [List.drop_succ_cons,List.drop_zero,List.take_succ_cons,List.take_zero,putHd]
   have H4:=Lib.hid (And.intro (H3.out.1.later hb4) (H3.out.2.trans (hb4.mono H3.out.2.size)))
   clear o1 ok0 ok1 hb4
   have hput:=ihr W4 H4.out.1.tree H4.out.1.rb.2.2 (nd_right H4.out.1.nd) (fun a=>by obtain⟨l',h1,_⟩:=HREC.out a;exact⟨l',h1⟩)
   clear H3
   go_wp2_with fail
   refine hput.mono ?_
   clear hput
   rintro e W5 ⟨x,l',rfl,hx,hxl,hr5,hf5⟩
   obtain⟨pl,hpp⟩:∃ q,ptrV l'=.pointer q:=⟨_,rfl⟩
   obtain⟨hbs,hblk⟩:=put_right H4.out.1 hx (put_addr x k v _ _ hxl) hr5 hf5 hpp.symm
   rw [hpp]
   have H5:=Lib.hid hbs
   have HX:=Lib.hid (And.intro hx hxl)
   have c6:=hblk.cell 7;have f6:=hblk.frozen 7
   unfold nodeC at c6
   simp only [lTA,lCZ,lCS] at c6
   obtain⟨pq,hpq⟩:∃ q,ptrV r=.pointer q:=⟨_,rfl⟩
   rw [hpq] at c6
   clear hpp hx hxl hr5 hf5 hbs hblk hpq
   go_upto_region 6 with fail
   generalize W5.setCell ⟨b,7,none⟩ (.pointer pl)=W6 at H5 ⊢
   clear c6 f6
   obtain⟨l2,e2,t',e3,e4⟩:=HREC.out x
   rw [HX.out.2] at e2
   obtain rfl:l'=l2:=Option.some.inj e2
   have hbal:=balance_any g p n (.node b k2 v2 s c l l') t' W6 H5.out.tree H5.out.rb H5.out.nd e4
   have ev2:ptrV (.node b k2 v2 s c l l')=.pointer (some ⟨b,0,none⟩):=rfl
   rw [ev2] at hbal
   have HE:=Lib.hid e3
   clear e2 e3 e4 ev2
   go_wp2_with fail
   refine hbal.mono ?_
   clear hbal
   rintro e W7 ⟨rfl,hr7,hf7⟩
   have HF:=Lib.hid (And.intro hr7 hf7)
   clear hr7 hf7
   go_wp2_with fail
   go_ret
   refine⟨x,t',rfl,Nat.le_trans H4.out.2.size HX.out.1,HE.out,HF.out.1,?_⟩
   have f1:Fr (fun y=>y∈addrs (.node b k2 v2 s c l r)) w W4:=Fr.of_below H4.out.2
   refine f1.trans ((H5.out.fr.trans (HF.out.2.weak fun y _ hy=>H5.out.sub y hy)).weak fun y hy1 hy2=>?_)
   rcases List.mem_cons.1 hy2 with rfl | hy2
   ·have:=HX.out.1;omega
   ·exact hy2
end
section
open Go.RowKit
attribute [local go_sem ↓] Go.wp_at_zero Go.wp_at_succ
attribute [local go_sem] quietR quietAtR quietUponR midAt midUpon
theorem child_left {w W W':World} {g:Nat} {p:Value} {n:Int} {S:List Nat} {b:Nat} {k2:Ky} {v2:Int} {s:Ky} {c:Bool} {l l' r:RB} {q:Option Addr} (h:BalS w W g p n S (.node b k2 v2 s c l r))(hn:(addrs l').Nodup)(hs:∀ y∈addrs l',y∈addrs l)(hr:RBAt W' l')(hf:Fr (fun y=>y∈addrs l) W W')(hq:.pointer q=ptrV l') :
  BalS w (W'.setCell ⟨b,6,none⟩ (.pointer q)) g p n S (.node b k2 v2 s c l' r)∧Blk W' b 193 (nodeC k2 v2 s c l r):=by
 have hnd:=h.nd
 simp only [addrs,List.nodup_cons,List.nodup_append,List.mem_append,not_or] at hnd
 obtain⟨⟨hbl,hbr⟩,hnl,hnr,hlr⟩:=hnd
 have hB':=h.rb.1.fr hf hbl
 have hk:∀ y,y≠b→(W'.setCell ⟨b,6,none⟩ (.pointer q)).heap[y]?=W'.heap[y]?:=fun y hy=>Below.heap_setCell W' ⟨b,6,none⟩ _ y hy
 have hbl':b ∉ addrs l':=fun hm=>hbl (hs b hm)
 have hoth:=h.rb.2.2.fr hf (fun y hy hy2=>hlr y hy2 y hy rfl)
 have hset:=hB'.set_ 6 (.pointer q)
 refine⟨⟨(hk g (node_ne h.tree h.rb.1 (by decide))).trans (h.tree.fr hf (RBAt.typed h.tree (by decide) h.rb.2.1)),⟨?_,hr.kept fun y hy=>hk y fun e=>hbl' (e ▸ hy),hoth.kept fun y hy=>hk y fun e=>hbr (e ▸ hy)⟩,?_,fun y hy=>?_,?_⟩,hB'⟩
 ·rw [show nodeC k2 v2 s c l' r=(nodeC k2 v2 s c l r).setIfInBounds 6 (.pointer q) by rw [hq];rfl]
  exact hset
 ·simp only [addrs,List.nodup_cons,List.nodup_append,List.mem_append,not_or]
  exact⟨⟨hbl',hbr⟩,hn,hnr,fun y hy z hz=>hlr y (hs y hy) z hz⟩
 ·rcases List.mem_cons.1 hy with rfl | hy
  ·exact h.sub y (.head _)
  ·rcases List.mem_append.1 hy with hy | hy
   ·exact h.sub y (List.mem_cons.2 (.inr (List.mem_append.2 (.inl (hs y hy)))))
   ·exact h.sub y (List.mem_cons.2 (.inr (List.mem_append.2 (.inr hy))))
 ·exact h.fr.trans ((hf.weak fun y _ hy=>h.sub y (List.mem_cons.2 (.inr (List.mem_append.2 (.inl hy))))).trans (Fr.set (h.sub b (.head _))))
theorem child_right {w W W':World} {g:Nat} {p:Value} {n:Int} {S:List Nat} {b:Nat} {k2:Ky} {v2:Int} {s:Ky} {c:Bool} {l l' r:RB} {q:Option Addr} (h:BalS w W g p n S (.node b k2 v2 s c l r))(hn:(addrs l').Nodup)(hs:∀ y∈addrs l',y∈addrs r)(hr:RBAt W' l')(hf:Fr (fun y=>y∈addrs r) W W')(hq:.pointer q=ptrV l') :
  BalS w (W'.setCell ⟨b,7,none⟩ (.pointer q)) g p n S (.node b k2 v2 s c l l')∧Blk W' b 193 (nodeC k2 v2 s c l r):=by
 have hnd:=h.nd
 simp only [addrs,List.nodup_cons,List.nodup_append,List.mem_append,not_or] at hnd
 obtain⟨⟨hbl,hbr⟩,hnl,hnr,hlr⟩:=hnd
 have hB':=h.rb.1.fr hf hbr
 have hk:∀ y,y≠b→(W'.setCell ⟨b,7,none⟩ (.pointer q)).heap[y]?=W'.heap[y]?:=fun y hy=>Below.heap_setCell W' ⟨b,7,none⟩ _ y hy
 have hbl':b ∉ addrs l':=fun hm=>hbr (hs b hm)
 have hoth:=h.rb.2.1.fr hf (fun y hy hy2=>hlr y hy y hy2 rfl)
 have hset:=hB'.set_ 7 (.pointer q)
 refine⟨⟨(hk g (node_ne h.tree h.rb.1 (by decide))).trans (h.tree.fr hf (RBAt.typed h.tree (by decide) h.rb.2.2)),⟨?_,hoth.kept fun y hy=>hk y fun e=>hbl (e ▸ hy),hr.kept fun y hy=>hk y fun e=>hbl' (e ▸ hy)⟩,?_,fun y hy=>?_,?_⟩,hB'⟩
 ·rw [show nodeC k2 v2 s c l l'=(nodeC k2 v2 s c l r).setIfInBounds 7 (.pointer q) by rw [hq];rfl]
  exact hset
 ·simp only [addrs,List.nodup_cons,List.nodup_append,List.mem_append,not_or]
  exact⟨⟨hbl,hbl'⟩,hnl,hn,fun y hy z hz=>hlr y hy z (hs z hz)⟩
 ·rcases List.mem_cons.1 hy with rfl | hy
  ·exact h.sub y (.head _)
  ·rcases List.mem_append.1 hy with hy | hy
   ·exact h.sub y (List.mem_cons.2 (.inr (List.mem_append.2 (.inl hy))))
   ·exact h.sub y (List.mem_cons.2 (.inr (List.mem_append.2 (.inr (hs y hy)))))
 ·exact h.fr.trans ((hf.weak fun y _ hy=>h.sub y (List.mem_cons.2 (.inr (List.mem_append.2 (.inr hy))))).trans (Fr.set (h.sub b (.head _))))
theorem flip_ptr {t t':RB} (h:flipT t=some t'):ptrV t'=ptrV t:=by
 cases t with
 | nil=>cases h
 | node a k v s c l r =>
  cases l with
  | nil=>cases h
  | node=>cases r with
   | nil=>cases h
   | node=>cases h;rfl
theorem node_of {t:RB} (h:t≠.nil):∃ a k v s c l r,t=.node a k v s c l r:=by
 cases t with
 | nil=>exact absurd rfl h
 | node a k v s c l r=>exact⟨a,k,v,s,c,l,r,rfl⟩
theorem BalS.done {w W:World} {g:Nat} {p:Value} {n:Int} {t t':RB} (h:BalS w W g p n (addrs t) t'):TurnW w (addrs t) t' (.returned (ptrV t')) W:=⟨rfl,h.rb,h.fr⟩
theorem redL_walk (g:Nat)(p:Value)(n:Int)(a:Nat)(k:Ky)(v:Int)(s:Ky)(c:Bool)(b:Nat)(k2:Ky)(v2:Int)(s2:Ky)(c2:Bool)(l2 r2:RB)(d:Nat)(k3:Ky)(v3:Int)(s3:Ky)(c3:Bool)(l3 r3:RB)(t':RB)(w:World)
  (h0:BalS w w g p n (addrs (.node a k v s c (.node b k2 v2 s2 c2 l2 r2) (.node d k3 v3 s3 c3 l3 r3))) (.node a k v s c (.node b k2 v2 s2 c2 l2 r2) (.node d k3 v3 s3 c3 l3 r3))) (e:redL (.node a k v s c (.node b k2 v2 s2 c2 l2 r2) (.node d k3 v3 s3 c3 l3 r3))=some t') :
  Calls Tryz.prog 174 #[.pointer (some ⟨g,0,none⟩),.pointer (some ⟨a,0,none⟩)] w (TurnW w (addrs (.node a k v s c (.node b k2 v2 s2 c2 l2 r2) (.node d k3 v3 s3 c3 l3 r3))) t'):=by
 have e1:flipT (.node a k v s c (.node b k2 v2 s2 c2 l2 r2) (.node d k3 v3 s3 c3 l3 r3))=some (.node a k v s (!c) (.node b k2 v2 s2 (!c2) l2 r2) (.node d k3 v3 s3 (!c3) l3 r3)):=rfl
 unfold redL at e
 rw [e1] at e
 have e:(if isR l3=true then (rotR (.node d k3 v3 s3 (!c3) l3 r3)).bind fun r=>(rotL (.node a k v s (!c) (.node b k2 v2 s2 (!c2) l2 r2) r)).bind flipT else some (.node a k v s (!c) (.node b k2 v2 s2 (!c2) l2 r2) (.node d k3 v3 s3 (!c3) l3 r3)))=some t':=e
 have hf:=flip_walk a k v s c b k2 v2 s2 c2 l2 r2 d k3 v3 s3 c3 l3 r3 w h0.rb h0.nd
 have H0:=Lib.hid h0
 have HF:=Lib.hid (flip_same e1).1.addr
 obtain⟨S,hS⟩:∃ S,S=addrs (.node a k v s c (.node b k2 v2 s2 c2 l2 r2) (.node d k3 v3 s3 c3 l3 r3)):=⟨_,rfl⟩
 rw [← hS] at H0 ⊢
 have HSE:=Lib.hid hS
 have E:=Lib.hid e
 clear e e1 h0 hS
 go_enter Tryz.func174,Tryz.ntmps174
 go_wp2_with fail
 refine hf.mono ?_
 clear hf
 rintro e W1 ⟨rfl,hr1,hf1⟩
 have H1:=Lib.hid (H0.out.turn HF.out hr1 hf1)
 clear hr1 hf1 H0 HF
 generalize (!c)=c' at H1 E
 generalize (!c2)=c2' at H1 E
 generalize (!c3)=c3' at H1 E
 have a7:=H1.out.rb.1.cell 7;have d6:=H1.out.rb.2.2.1.cell 6
 unfold nodeC at a7 d6
 simp only [lTA,lCZ,lCS] at a7 d6
 have ed:ptrV (.node d k3 v3 s3 c3' l3 r3)=.pointer (some ⟨d,0,none⟩):=rfl
 rw [ed] at a7
 cases hl:isR l3 with
 | false =>
  have hir:=is_eq l3 _ hl W1 H1.out.rb.2.2.2.1
  have e:=E.out
  rw [hl] at e
  cases e
  clear hl ed
  go_wp2_with fail
  refine hir.mono ?_
  rintro e w1 ⟨rfl,rfl⟩
  go_wp2_with fail
  go_ret
  rw [HSE.out] at H1 ⊢
  exact H1.out.done
 | true =>
  have hir:=is_eq l3 _ hl W1 H1.out.rb.2.2.2.1
  have e:=E.out
  rw [hl,if_pos rfl] at e
  obtain⟨r',e1,e⟩:=Option.bind_eq_some_iff.1 e
  obtain⟨t3,e2,e3⟩:=Option.bind_eq_some_iff.1 e
  have hrot:=rotR_any g p n _ _ W1 H1.out.tree H1.out.rb.2.2 (nd_right H1.out.nd) e1
  rw [ed] at hrot
  have hs1:=rotR_same e1
  have HE:=Lib.hid (And.intro hs1.1.addr (And.intro e2 e3))
  clear hl e e1 e2 e3 ed E hs1
  go_wp2_with fail
  refine hir.mono ?_
  clear hir d6
  rintro e w1 ⟨rfl,rfl⟩
  go_wp2_with fail
  refine hrot.mono ?_
  clear hrot
  rintro e W2 ⟨rfl,hr2,hf2⟩
  obtain⟨q,hq⟩:∃ q,ptrV r'=.pointer q:=⟨_,rfl⟩
  obtain⟨hb2,hB2⟩:=child_right H1.out (HE.out.1.nodup_iff.2 (nd_right H1.out.nd)) (fun y hy=>HE.out.1.mem_iff.1 hy) hr2 hf2 hq.symm
  rw [hq]
  have H2:=Lib.hid hb2
  have c7:=hB2.cell 7;have f7:=hB2.frozen 7
  unfold nodeC at c7
  simp only [lTA,lCZ,lCS] at c7
  have ed:ptrV (.node d k3 v3 s3 c3' l3 r3)=.pointer (some ⟨d,0,none⟩):=rfl
  rw [ed] at c7
  clear hr2 hf2 hq hb2 hB2 ed a7
  go_upto_region 4 with fail
  generalize W2.setCell ⟨a,7,none⟩ (.pointer q)=W3 at H2 ⊢
  clear c7 f7 H1
  have hrot:=rotL_any g p n _ _ W3 H2.out.tree H2.out.rb H2.out.nd HE.out.2.1
  have ea:ptrV (.node a k v s c' (.node b k2 v2 s2 c2' l2 r2) r')=.pointer (some ⟨a,0,none⟩):=rfl
  rw [ea] at hrot
  clear ea
  go_wp2_with fail
  refine hrot.mono ?_
  clear hrot
  rintro e W4 ⟨rfl,hr4,hf4⟩
  have H4:=Lib.hid (H2.out.turn (rotL_same HE.out.2.1).1.addr hr4 hf4)
  clear hr4 hf4 H2
  have hfl:=flip_any t3 t' W4 H4.out.rb H4.out.nd HE.out.2.2
  go_wp2_with fail
  refine hfl.mono ?_
  clear hfl
  rintro e W5 ⟨rfl,hr5,hf5⟩
  have H5:=Lib.hid (H4.out.turn (flip_same HE.out.2.2).1.addr hr5 hf5)
  clear hr5 hf5 H4
  go_wp2_with fail
  go_ret
  rw [HSE.out] at H5 ⊢
  rw [← flip_ptr HE.out.2.2]
  exact H5.out.done
theorem redL_any (g:Nat)(p:Value)(n:Int)(t t':RB)(w:World)(h:BalS w w g p n (addrs t) t)(e:redL t=some t') :
  Calls Tryz.prog 174 #[.pointer (some ⟨g,0,none⟩),ptrV t] w (TurnW w (addrs t) t'):=by
 cases t with
 | nil=>cases e
 | node a k v s c l r =>
  cases l with
  | nil=>cases e
  | node b k2 v2 s2 c2 l2 r2 =>
   cases r with
   | nil=>cases e
   | node d k3 v3 s3 c3 l3 r3=>exact redL_walk g p n a k v s c b k2 v2 s2 c2 l2 r2 d k3 v3 s3 c3 l3 r3 t' w h e
theorem redRt_walk (g:Nat)(p:Value)(n:Int)(a:Nat)(k:Ky)(v:Int)(s:Ky)(c:Bool)(b:Nat)(k2:Ky)(v2:Int)(s2:Ky)(c2:Bool)(l2 r2:RB)(d:Nat)(k3:Ky)(v3:Int)(s3:Ky)(c3:Bool)(l3 r3:RB)(t':RB)(w:World)
  (h0:BalS w w g p n (addrs (.node a k v s c (.node b k2 v2 s2 c2 l2 r2) (.node d k3 v3 s3 c3 l3 r3))) (.node a k v s c (.node b k2 v2 s2 c2 l2 r2) (.node d k3 v3 s3 c3 l3 r3))) (e:redRt (.node a k v s c (.node b k2 v2 s2 c2 l2 r2) (.node d k3 v3 s3 c3 l3 r3))=some t') :
  Calls Tryz.prog 176 #[.pointer (some ⟨g,0,none⟩),.pointer (some ⟨a,0,none⟩)] w (TurnW w (addrs (.node a k v s c (.node b k2 v2 s2 c2 l2 r2) (.node d k3 v3 s3 c3 l3 r3))) t'):=by
 have e1:flipT (.node a k v s c (.node b k2 v2 s2 c2 l2 r2) (.node d k3 v3 s3 c3 l3 r3))=some (.node a k v s (!c) (.node b k2 v2 s2 (!c2) l2 r2) (.node d k3 v3 s3 (!c3) l3 r3)):=rfl
 unfold redRt at e
 rw [e1] at e
 have e:(if isR l2=true then (rotR (.node a k v s (!c) (.node b k2 v2 s2 (!c2) l2 r2) (.node d k3 v3 s3 (!c3) l3 r3))).bind flipT else some (.node a k v s (!c) (.node b k2 v2 s2 (!c2) l2 r2) (.node d k3 v3 s3 (!c3) l3 r3)))=some t':=e
 have hf:=flip_walk a k v s c b k2 v2 s2 c2 l2 r2 d k3 v3 s3 c3 l3 r3 w h0.rb h0.nd
 have H0:=Lib.hid h0
 have HF:=Lib.hid (flip_same e1).1.addr
 obtain⟨S,hS⟩:∃ S,S=addrs (.node a k v s c (.node b k2 v2 s2 c2 l2 r2) (.node d k3 v3 s3 c3 l3 r3)):=⟨_,rfl⟩
 rw [← hS] at H0 ⊢
 have HSE:=Lib.hid hS
 have E:=Lib.hid e
 clear e e1 h0 hS
 go_enter Tryz.func176,Tryz.ntmps176
 go_wp2_with fail
 refine hf.mono ?_
 clear hf
 rintro e W1 ⟨rfl,hr1,hf1⟩
 have H1:=Lib.hid (H0.out.turn HF.out hr1 hf1)
 clear hr1 hf1 H0 HF
 generalize (!c)=c' at H1 E
 generalize (!c2)=c2' at H1 E
 generalize (!c3)=c3' at H1 E
 have a6:=H1.out.rb.1.cell 6;have b6:=H1.out.rb.2.1.1.cell 6
 unfold nodeC at a6 b6
 simp only [lTA,lCZ,lCS] at a6 b6
 have eb:ptrV (.node b k2 v2 s2 c2' l2 r2)=.pointer (some ⟨b,0,none⟩):=rfl
 rw [eb] at a6
 clear eb
 cases hl:isR l2 with
 | false =>
  have hir:=is_eq l2 _ hl W1 H1.out.rb.2.1.2.1
  have e:=E.out
  rw [hl] at e
  cases e
  clear hl
  go_wp2_with fail
  refine hir.mono ?_
  rintro e w1 ⟨rfl,rfl⟩
  go_wp2_with fail
  go_ret
  rw [HSE.out] at H1 ⊢
  exact H1.out.done
 | true =>
  have hir:=is_eq l2 _ hl W1 H1.out.rb.2.1.2.1
  have e:=E.out
  rw [hl,if_pos rfl] at e
  obtain⟨t3,e2,e3⟩:=Option.bind_eq_some_iff.1 e
  have HE:=Lib.hid (And.intro e2 e3)
  have hrot:=rotR_any g p n _ _ W1 H1.out.tree H1.out.rb H1.out.nd e2
  have ea:ptrV (.node a k v s c' (.node b k2 v2 s2 c2' l2 r2) (.node d k3 v3 s3 c3' l3 r3))=.pointer (some ⟨a,0,none⟩):=rfl
  rw [ea] at hrot
  clear hl e e2 e3 E ea
  go_wp2_with fail
  refine hir.mono ?_
  clear hir a6 b6
  rintro e w1 ⟨rfl,rfl⟩
  go_wp2_with fail
  refine hrot.mono ?_
  clear hrot
  rintro e W4 ⟨rfl,hr4,hf4⟩
  have H4:=Lib.hid (H1.out.turn (rotR_same HE.out.1).1.addr hr4 hf4)
  clear hr4 hf4 H1
  have hfl:=flip_any t3 t' W4 H4.out.rb H4.out.nd HE.out.2
  go_wp2_with fail
  refine hfl.mono ?_
  clear hfl
  rintro e W5 ⟨rfl,hr5,hf5⟩
  have H5:=Lib.hid (H4.out.turn (flip_same HE.out.2).1.addr hr5 hf5)
  clear hr5 hf5 H4
  go_wp2_with fail
  go_ret
  rw [HSE.out] at H5 ⊢
  rw [← flip_ptr HE.out.2]
  exact H5.out.done
theorem redRt_any (g:Nat)(p:Value)(n:Int)(t t':RB)(w:World)(h:BalS w w g p n (addrs t) t)(e:redRt t=some t') :
  Calls Tryz.prog 176 #[.pointer (some ⟨g,0,none⟩),ptrV t] w (TurnW w (addrs t) t'):=by
 cases t with
 | nil=>cases e
 | node a k v s c l r =>
  cases l with
  | nil=>cases e
  | node b k2 v2 s2 c2 l2 r2 =>
   cases r with
   | nil=>cases e
   | node d k3 v3 s3 c3 l3 r3=>exact redRt_walk g p n a k v s c b k2 v2 s2 c2 l2 r2 d k3 v3 s3 c3 l3 r3 t' w h e
end
end Go.Proofs.YtmmeopjemkjllaaGreat
