/- Lemmas of the claim. No conditions beyond those that each states. -/
import Derived.Test.YtmmeopjemkjllaaGreatPT29
set_option linter.unusedVariables false
set_option linter.unusedSimpArgs false
set_option maxRecDepth 100000
set_option maxHeartbeats 8000000
namespace Go.Proofs.YtmmeopjemkjllaaGreat
section
open Go.RowKit Go.Maps
attribute [local go_sem ↓] Go.wp_at_zero Go.wp_at_succ
attribute [local go_sem] quietR quietAtR quietUponR midAt midUpon plain plainUpon
theorem within1_any (B:Nat)(v:Int)(h:Ky)(w:World)(hB:Blk w B 28 #[.int .u64 v]) :
  Calls Tryz.prog 99 #[.agg #[.int .u64 h.1,.int .i64 h.2],.pointer (some ⟨B,0,none⟩)] w fun e w'=>e=.returned (.bool (decide (h.1≤v)))∧Below w.heap.size w w':=by
 have hb0:=(Below.refl w.heap.size w).alloc (Nat.le_refl _) (.cells #[.int .u64 h.1,.int .i64 h.2] 116)
 have c0:=(hB.below hb0 hB.lt).cell 0
 simp only [lTA,lCZ,lCS] at c0
 have HB:=Lib.hid hb0
 clear hb0 hB
 by_cases hle:h.1≤v
 ·rw [decide_eq_true hle]
  go_enter Tryz.func99,Tryz.ntmps99
  go_wp2
  go_ret
  exact⟨rfl,HB.out⟩
 ·rw [decide_eq_false hle]
  go_enter Tryz.func99,Tryz.ntmps99
  go_wp2
  go_ret
  exact⟨rfl,HB.out⟩
theorem ok_nil (B:Nat)(W:World):(binOp .eql 151 (.func (.func 99) #[] #[.pointer (some ⟨B,0,none⟩)]) .nilFunc).run Tryz.prog W=.ok (.bool false) W:=by kernel_rfl
theorem within_l0 (v0:Int)(a:Nat)(k:Ky)(v:Int)(s:Ky)(c:Bool)(r:RB):withinT v0 (.node a k v s c .nil r)=if v≤v0 then some k else withinT v0 r:=rfl
theorem within_l1 (v0:Int)(a:Nat)(k:Ky)(v:Int)(s:Ky)(c:Bool)(b:Nat)(k2:Ky)(v2:Int)(sl:Ky)(c2:Bool)(l2 r2 r:RB):withinT v0 (.node a k v s c (.node b k2 v2 sl c2 l2 r2) r)=if sl.1≤v0 then withinT v0 (.node b k2 v2 sl c2 l2 r2) else if v≤v0 then some k else withinT v0 r:=rfl
def FindW (w:World)(o:Option Ky)(e:Ending)(w':World):Prop:=e=.returned (.tuple #[.agg #[.int .u64 (o.getD (0,0)).1,.int .i64 (o.getD (0,0)).2],.bool o.isSome])∧Below w.heap.size w w'
structure FndS (W0 W:World)(g B:Nat)(p:Value)(n v0:Int)(T:Nat)(u:RB):Prop where
 tree:Blk W g 165 (treeC p n)
 box:Blk W B 28 #[.int .u64 v0]
 res:Blk W T 147 #[.int .u64 0,.int .i64 0]
 rb:RBAt W u
 below:Below W0.heap.size W0 W
theorem FndS.later {W0 W W':World} {g B:Nat} {p:Value} {n v0:Int} {T:Nat} {u:RB} (h:FndS W0 W g B p n v0 T u)(hb:Below W.heap.size W W'):FndS W0 W' g B p n v0 T u :=
 ⟨h.tree.below hb h.tree.lt,h.box.below hb h.box.lt,h.res.below hb h.res.lt,h.rb.later hb,h.below.trans (hb.mono h.below.size)⟩
theorem find_any (g B:Nat)(n v0:Int)(t:RB)(w:World)(hg:Blk w g 165 (treeC (ptrV t) n))(hr:RBAt w t)(hB:Blk w B 28 #[.int .u64 v0]) :
  Calls Tryz.prog 98 #[.pointer (some ⟨g,0,none⟩),.func (.func 99) #[] #[.pointer (some ⟨B,0,none⟩)]] w (FindW w (withinT v0 t)):=by
 have hb0:=(Below.refl w.heap.size w).alloc (Nat.le_refl _) (.cells #[.int .u64 0,.int .i64 0] 147)
 have h0:FndS w (w.alloc (.cells #[.int .u64 0,.int .i64 0] 147)) g B (ptrV t) n v0 w.heap.size t:=⟨hg.below hb0 hg.lt,hB.below hb0 hB.lt,Blk.new w _ _,hr.later hb0,hb0⟩
 have hnone:=none_any g _ _ _ h0.tree
 have hok:=ok_nil B
 have H0:=Lib.hid h0
 have c2:=h0.tree.cell 2
 unfold treeC at c2
 simp only [lTA,lCZ,lCS] at c2
 clear hg hr hB hb0 h0
 go_enter Tryz.func98,Tryz.ntmps98
 go_upto_region 1 with fail
 generalize w.alloc (.cells #[.int .u64 0,.int .i64 0] 147)=W0 at H0 hnone c2 ⊢
 obtain⟨T,hT⟩:∃ T,T=w.heap.size:=⟨_,rfl⟩
 rw [← hT] at H0 ⊢
 have HT:=Lib.hid hT
 clear hT
 go_wp2_with fail
 refine hnone.mono ?_
 clear hnone
 rintro e w1 ⟨rfl,rfl⟩
 go_wp2_with fail
 clear c2 hok
 go_loopg [6] (sizeT t) (fun k v6 wr=>∃ u,sizeT u=k∧v6=ptrV u∧withinT v0 u=withinT v0 t∧FndS w wr g B (ptrV t) n v0 T u)
 case atStart=>exact⟨t,rfl,rfl,rfl,H0.out⟩
 case round =>
  clear H0
  obtain⟨u,hsz,rfl,hfu,hus⟩:=hrel
  have HF:=Lib.hid hfu
  have HU:=Lib.hid hus
  clear hfu
  cases u with
  | nil =>
   have e1:ptrV .nil=.pointer none:=rfl
   rw [e1]
   have HF2:=Lib.hid (show withinT v0 t=none from HF.out.symm.trans rfl)
   clear e1 hsz hus
   have s0:=HU.out.res.cell 0;have s1:=HU.out.res.cell 1;have f0:=HU.out.res.frozen 0;have f1:=HU.out.res.frozen 1
   simp only [lTA,lCZ,lCS] at s0 s1
   have hres:=(HU.out.res.set_ 0 (.int .u64 0)).set_ 1 (.int .i64 0)
   have hb9:=(HU.out.below.setCell (p:=⟨T,0,none⟩) (Nat.le_of_eq HT.out.symm) (.int .u64 0)).setCell (p:=⟨T,1,none⟩) (Nat.le_of_eq HT.out.symm) (.int .i64 0)
   have e0:=hres.cell 0;have e1:=hres.cell 1
   simp at e0 e1
   have HB9:=Lib.hid hb9
   clear hb9 hres
   go_wp2_with fail
   exact bodyPost_ret (v:=.tuple #[.agg #[.int .u64 0,.int .i64 0],.bool false]) (by simp [results,Tryz.results98,go_sem,e0,e1]) rfl ⟨by rw [HF2.out];rfl,HB9.out⟩
  | node a k v s c l r =>
   have e1:ptrV (.node a k v s c l r)=.pointer (some ⟨a,0,none⟩):=rfl
   rw [e1]
   have HSZ:=Lib.hid hsz
   have a6:=HU.out.rb.1.cell 6
   unfold nodeC at a6
   simp only [lTA,lCZ,lCS] at a6
   clear hus hsz e1
   cases l with
   | nil =>
    have e1:ptrV .nil=.pointer none:=rfl
    rw [e1] at a6
    go_upto_region 8 with fail
    clear a6 e1
    have og:=fun e=>(over_cell (w:=wr) (e:=e) (o:=0) HU.out.tree.lt).trans (HU.out.tree.cell 0)
    have oa0:=fun e=>(over_cell (w:=wr) (e:=e) (o:=0) HU.out.rb.1.lt).trans (HU.out.rb.1.cell 0)
    have oa1:=fun e=>(over_cell (w:=wr) (e:=e) (o:=1) HU.out.rb.1.lt).trans (HU.out.rb.1.cell 1)
    have oa2:=fun e=>(over_cell (w:=wr) (e:=e) (o:=2) HU.out.rb.1.lt).trans (HU.out.rb.1.cell 2)
    unfold treeC at og
    unfold nodeC at oa0 oa1 oa2
    simp only [lTA,lCZ,lCS] at og oa0 oa1 oa2
    have hcl:=fun e=>within1_any B v0 (ownK k v) (over wr e) (HU.out.later (over_below wr e)).box
    refine wp_region_over (by kernel_rfl) (by kernel_rfl) ?_
    repeat (first | go_big_quiet_skip | (go_big_quiet_want;go_big_quiet_op;first | go_big_quiet_on | (apply Exists.intro;refine⟨fun e=>?_,?_⟩;(focus (first | (go_at_call 78;with_reducible exact calls_over (own_any k v _)) | (go_at_call 99;with_reducible exact calls_over (hcl _))));go_big_quiet_on)))
    refine wpQuiet_nil ?_
    rintro W3 ⟨e,he⟩
    have hb3:=over_below wr e
    rw [← he] at hb3
    have H3:=Lib.hid (HU.out.later hb3)
    clear he og oa0 oa1 oa2 hb3 hcl HU
    have HU:=H3
    clear H3
    have hov:(ownK k v).1=v:=rfl
    rw [hov]
    clear hov
    by_cases hv:v≤v0
    ·have HF2:=Lib.hid (show withinT v0 t=some k by rw [← HF.out];rw [within_l0,if_pos hv])
     rw [decide_eq_true hv]
     clear hv
     have a0:=HU.out.rb.1.cell 0;have a1:=HU.out.rb.1.cell 1
     unfold nodeC at a0 a1
     simp only [lTA,lCZ,lCS] at a0 a1
     have s0:=HU.out.res.cell 0;have s1:=HU.out.res.cell 1;have f0:=HU.out.res.frozen 0;have f1:=HU.out.res.frozen 1
     simp only [lTA,lCZ,lCS] at s0 s1
     have hres:=(HU.out.res.set_ 0 (.int .u64 k.1)).set_ 1 (.int .i64 k.2)
     have hb9:=(HU.out.below.setCell (p:=⟨T,0,none⟩) (Nat.le_of_eq HT.out.symm) (.int .u64 k.1)).setCell (p:=⟨T,1,none⟩) (Nat.le_of_eq HT.out.symm) (.int .i64 k.2)
     have e0:=hres.cell 0;have e1:=hres.cell 1
     simp at e0 e1
     have HB9:=Lib.hid hb9
     clear hb9 hres
     go_wp2_with fail
     exact bodyPost_ret (v:=.tuple #[.agg #[.int .u64 k.1,.int .i64 k.2],.bool true]) (by simp [results,Tryz.results98,go_sem,e0,e1]) rfl ⟨by rw [HF2.out];rfl,HB9.out⟩
    ·have HF2:=Lib.hid (show withinT v0 r=withinT v0 t by rw [← HF.out];rw [within_l0,if_neg hv])
     rw [decide_eq_false hv]
     clear hv
     have a7:=HU.out.rb.1.cell 7
     unfold nodeC at a7
     simp only [lTA,lCZ,lCS] at a7
     go_wp2_with fail
     go_roundg (sizeT r)
     case measure=>have:=HSZ.out;simp only [sizeT] at this;omega
     case rel=>exact⟨r,rfl,rfl,HF2.out,{ HU.out with rb:=HU.out.rb.2.2 }⟩
   | node b kl vl sl cl ll rl =>
    have e1:ptrV (.node b kl vl sl cl ll rl)=.pointer (some ⟨b,0,none⟩):=rfl
    rw [e1] at a6
    have b3:=HU.out.rb.2.1.1.cell 3;have b4:=HU.out.rb.2.1.1.cell 4
    unfold nodeC at b3 b4
    simp only [lTA,lCZ,lCS] at b3 b4
    have hcl:=within1_any B v0 sl wr HU.out.box
    go_wp2_with fail
    refine hcl.mono ?_
    clear hcl a6 b3 b4
    rintro e W4 ⟨rfl,hb4⟩
    have H4:=Lib.hid (HU.out.later hb4)
    clear hb4 HU e1
    have HU:=H4
    clear H4
    by_cases hs:sl.1≤v0
    ·have HF2:=Lib.hid (show withinT v0 (.node b kl vl sl cl ll rl)=withinT v0 t by rw [← HF.out];rw [within_l1,if_pos hs])
     rw [decide_eq_true hs]
     clear hs
     have a6:=HU.out.rb.1.cell 6
     unfold nodeC at a6
     simp only [lTA,lCZ,lCS] at a6
     go_wp2_with fail
     go_roundg (sizeT (.node b kl vl sl cl ll rl))
     case measure=>have:=HSZ.out;simp only [sizeT] at this ⊢;omega
     case rel=>exact⟨_,rfl,rfl,HF2.out,{ HU.out with rb:=HU.out.rb.2.1 }⟩
    ·rw [decide_eq_false hs]
     go_upto_region 8 with fail
     have og:=fun e=>(over_cell (w:=W4) (e:=e) (o:=0) HU.out.tree.lt).trans (HU.out.tree.cell 0)
     have oa0:=fun e=>(over_cell (w:=W4) (e:=e) (o:=0) HU.out.rb.1.lt).trans (HU.out.rb.1.cell 0)
     have oa1:=fun e=>(over_cell (w:=W4) (e:=e) (o:=1) HU.out.rb.1.lt).trans (HU.out.rb.1.cell 1)
     have oa2:=fun e=>(over_cell (w:=W4) (e:=e) (o:=2) HU.out.rb.1.lt).trans (HU.out.rb.1.cell 2)
     unfold treeC at og
     unfold nodeC at oa0 oa1 oa2
     simp only [lTA,lCZ,lCS] at og oa0 oa1 oa2
     have hcl:=fun e=>within1_any B v0 (ownK k v) (over W4 e) (HU.out.later (over_below W4 e)).box
     refine wp_region_over (by kernel_rfl) (by kernel_rfl) ?_
     repeat (first | go_big_quiet_skip | (go_big_quiet_want;go_big_quiet_op;first | go_big_quiet_on | (apply Exists.intro;refine⟨fun e=>?_,?_⟩;(focus (first | (go_at_call 78;with_reducible exact calls_over (own_any k v _)) | (go_at_call 99;with_reducible exact calls_over (hcl _))));go_big_quiet_on)))
     refine wpQuiet_nil ?_
     rintro W3 ⟨e,he⟩
     have hb3:=over_below W4 e
     rw [← he] at hb3
     have H3:=Lib.hid (HU.out.later hb3)
     clear he og oa0 oa1 oa2 hb3 hcl HU
     have HU:=H3
     clear H3
     have hov:(ownK k v).1=v:=rfl
     rw [hov]
     clear hov
     by_cases hv:v≤v0
     ·have HF2:=Lib.hid (show withinT v0 t=some k by rw [← HF.out];rw [within_l1,if_neg (show ¬ sl.1≤v0 by omega),if_pos hv])
      rw [decide_eq_true hv]
      clear hv
      have a0:=HU.out.rb.1.cell 0;have a1:=HU.out.rb.1.cell 1
      unfold nodeC at a0 a1
      simp only [lTA,lCZ,lCS] at a0 a1
      have s0:=HU.out.res.cell 0;have s1:=HU.out.res.cell 1;have f0:=HU.out.res.frozen 0;have f1:=HU.out.res.frozen 1
      simp only [lTA,lCZ,lCS] at s0 s1
      have hres:=(HU.out.res.set_ 0 (.int .u64 k.1)).set_ 1 (.int .i64 k.2)
      have hb9:=(HU.out.below.setCell (p:=⟨T,0,none⟩) (Nat.le_of_eq HT.out.symm) (.int .u64 k.1)).setCell (p:=⟨T,1,none⟩) (Nat.le_of_eq HT.out.symm) (.int .i64 k.2)
      have e0:=hres.cell 0;have e1:=hres.cell 1
      simp at e0 e1
      have HB9:=Lib.hid hb9
      clear hb9 hres
      go_wp2_with fail
      exact bodyPost_ret (v:=.tuple #[.agg #[.int .u64 k.1,.int .i64 k.2],.bool true]) (by simp [results,Tryz.results98,go_sem,e0,e1]) rfl ⟨by rw [HF2.out];rfl,HB9.out⟩
     ·have HF2:=Lib.hid (show withinT v0 r=withinT v0 t by rw [← HF.out];rw [within_l1,if_neg (show ¬ sl.1≤v0 by omega),if_neg hv])
      rw [decide_eq_false hv]
      clear hv
      have a7:=HU.out.rb.1.cell 7
      unfold nodeC at a7
      simp only [lTA,lCZ,lCS] at a7
      go_wp2_with fail
      go_roundg (sizeT r)
      case measure=>have:=HSZ.out;simp only [sizeT] at this;omega
      case rel=>exact⟨r,rfl,rfl,HF2.out,{ HU.out with rb:=HU.out.rb.2.2 }⟩
def OptW (w:World)(o:Option Int)(e:Ending)(w':World):Prop:=e=.returned (.tuple #[.int .i64 (o.getD 0),.bool o.isSome])∧Below w.heap.size w w'
theorem awithin_any (q g m:Nat)(v0:Int)(t:RB)(M:List (Int × Ky))(w:World)(h:AugAt w q g m t M) :
  Calls Tryz.prog 52 #[.pointer (some ⟨q,0,none⟩),.int .u64 v0] w (OptW w (withinV (listT t) v0)):=by
 have hb0:=(Below.refl w.heap.size w).alloc (Nat.le_refl _) (.cells #[.int .u64 v0] 28)
 have hB:=Blk.new w 28 #[.int .u64 v0]
 have h0:=h.later hb0
 have h1:=of_any q g _ _ h0.aug
 have h2:=find_any g w.heap.size _ v0 t _ h0.tr.tree h0.tr.rb hB
 have ho:withinV (listT t) v0=(withinT v0 t).map (·.2):=by
  rw [within_ok v0 t h.tr.well.2.2.1]
  unfold withinV
  cases (listT t).find? fun e=>decide (e.2≤v0) <;> rfl
 rw [ho]
 clear ho
 unfold FindW at h2
 generalize withinT v0 t=o at h2 ⊢
 obtain⟨k,hk⟩:∃ k,o.getD (0,0)=k:=⟨_,rfl⟩
 rw [hk] at h2
 have e3:(o.map (·.2)).getD 0=k.2:=by rw [← hk];cases o <;> rfl
 have e4:(o.map (·.2)).isSome=o.isSome:=by cases o <;> rfl
 have HE3:=Lib.hid (And.intro e3 e4)
 have HB0:=Lib.hid hb0
 clear e3 e4 hk h hB h0 hb0
 go_enter Tryz.func52,Tryz.ntmps52
 go_wp2_with fail
 refine h1.mono ?_
 clear h1
 rintro e w1 ⟨rfl,rfl⟩
 go_wp2_with fail
 refine h2.mono ?_
 clear h2
 rintro e w2 ⟨rfl,hb⟩
 have HB:=Lib.hid (HB0.out.trans (hb.mono HB0.out.size))
 clear hb
 go_wp2_with fail
 go_ret2
 refine⟨by rw [HE3.out.1,HE3.out.2];rfl,?_⟩
 exact HB.out.alloc HB.out.size _
theorem lowV_root {t:RB} {a:Nat} {k:Ky} {v:Int} {s:Ky} {c:Bool} {l r:RB} (h:SumOk t)(he:t=.node a k v s c l r):lowV (listT t)=some s.1:=by
 have hl:=SumOk.least h he
 obtain⟨e,hem,hes⟩:=List.mem_map.1 hl.1
 cases hv:lowV (listT t) with
 | none=>rw [lowV_none.1 hv] at hem;cases hem
 | some m =>
  obtain⟨⟨y,hy,hym⟩,hmin⟩:=lowV_spec hv
  have h1:=hmin e hem
  have h2:=hl.2 (ownE y) (List.mem_map.2 ⟨y,hy,rfl⟩)
  have h3:e.2=s.1:=by rw [← hes];rfl
  have h4:(ownE y).1=m:=hym
  have h5:¬ (ownE y).1 < s.1:=fun hlt=>by rw [lessK_iff.2 (.inl hlt)] at h2;cases h2
  congr 1
  omega
def AllW (w:World)(o:Option Ky)(e:Ending)(w':World):Prop:=e=.returned (.tuple #[.agg #[.int .u64 (o.getD (0,0)).1,.int .i64 (o.getD (0,0)).2],.bool o.isSome])∧Below w.heap.size w w'
def sumT:RB→Option Ky
 | .nil=>none
 | .node _ _ _ s _ _ _=>some s
theorem all_any (g:Nat)(n:Int)(t:RB)(w:World)(hg:Blk w g 165 (treeC (ptrV t) n))(hr:RBAt w t) :
  Calls Tryz.prog 111 #[.pointer (some ⟨g,0,none⟩)] w (AllW w (sumT t)):=by
 have hb0:=(Below.refl w.heap.size w).alloc (Nat.le_refl _) (.cells #[.int .u64 0,.int .i64 0] 116)
 have hR0:=Blk.new w 116 #[.int .u64 0,.int .i64 0]
 have hg0:=hg.below hb0 hg.lt
 have hr0:=hr.later hb0
 have hnone:=none_any g _ _ _ hg0
 have c2:=hg0.cell 2
 unfold treeC at c2
 simp only [lTA,lCZ,lCS] at c2
 have H0:=Lib.hid (And.intro hb0 (And.intro hR0 hr0))
 clear hg hr hb0 hR0 hg0 hr0
 go_enter Tryz.func111,Tryz.ntmps111
 go_upto_region 1 with fail
 generalize w.alloc (.cells #[.int .u64 0,.int .i64 0] 116)=W0 at H0 hnone c2 ⊢
 obtain⟨T,hT⟩:∃ T,T=w.heap.size:=⟨_,rfl⟩
 rw [← hT] at H0 ⊢
 have HT:=Lib.hid hT
 clear hT
 cases t with
 | nil =>
  have e1:ptrV .nil=.pointer none:=rfl
  rw [e1] at c2
  have hb1:=(Below.refl W0.heap.size W0).alloc (Nat.le_refl _) (.cells #[.int .u64 0,.int .i64 0] 116)
  have hR1:=H0.out.2.1.below hb1 H0.out.2.1.lt
  have s0:=hR1.cell 0;have s1:=hR1.cell 1;have f0:=hR1.frozen 0;have f1:=hR1.frozen 1
  simp only [lTA,lCZ,lCS] at s0 s1
  have hres:=(hR1.set_ 0 (.int .u64 0)).set_ 1 (.int .i64 0)
  have hbw:Below T w (W0.alloc (.cells #[.int .u64 0,.int .i64 0] 116)):=H0.out.1.trans (hb1.mono (by rw [HT.out];exact H0.out.1.size))
  have hb9:=(hbw.setCell (p:=⟨T,0,none⟩) (Nat.le_refl _) (.int .u64 0)).setCell (p:=⟨T,1,none⟩) (Nat.le_refl _) (.int .i64 0)
  have e0:=hres.cell 0;have e1:=hres.cell 1
  simp at e0 e1
  have HB9:=Lib.hid hb9
  clear hb9 hres hbw hb1 hR1
  go_wp2_with fail
  refine hnone.mono ?_
  clear hnone
  rintro e w1 ⟨rfl,rfl⟩
  go_wp2_with fail
  exact bodyPost_ret (v:=.tuple #[.agg #[.int .u64 0,.int .i64 0],.bool false]) (by simp [results,Tryz.results111,go_sem,e0,e1]) rfl ⟨rfl,by rw [← HT.out];exact HB9.out⟩
 | node a k v s c l r =>
  have e1:ptrV (.node a k v s c l r)=.pointer (some ⟨a,0,none⟩):=rfl
  rw [e1] at c2
  have b3:=H0.out.2.2.1.cell 3;have b4:=H0.out.2.2.1.cell 4
  unfold nodeC at b3 b4
  have s0:=H0.out.2.1.cell 0;have s1:=H0.out.2.1.cell 1;have f0:=H0.out.2.1.frozen 0;have f1:=H0.out.2.1.frozen 1
  simp only [lTA,lCZ,lCS] at s0 s1 b3 b4
  have hres:=(H0.out.2.1.set_ 0 (.int .u64 s.1)).set_ 1 (.int .i64 s.2)
  have hb9:=(H0.out.1.setCell (p:=⟨T,0,none⟩) (Nat.le_refl _) (.int .u64 s.1)).setCell (p:=⟨T,1,none⟩) (Nat.le_refl _) (.int .i64 s.2)
  have e0:=hres.cell 0;have e9:=hres.cell 1
  simp at e0 e9
  have HB9:=Lib.hid hb9
  clear hb9 hres e1
  go_wp2_with fail
  refine hnone.mono ?_
  clear hnone
  rintro e w1 ⟨rfl,rfl⟩
  go_wp2_with fail
  exact bodyPost_ret (v:=.tuple #[.agg #[.int .u64 s.1,.int .i64 s.2],.bool true]) (by simp [results,Tryz.results111,go_sem,e0,e9]) rfl ⟨rfl,by rw [← HT.out];exact HB9.out⟩
def LowW (w:World)(o:Option Int)(e:Ending)(w':World):Prop:=e=.returned (.tuple #[.int .u64 (o.getD 0),.bool o.isSome])∧Below w.heap.size w w'
theorem alowest_any (q g m:Nat)(t:RB)(M:List (Int × Ky))(w:World)(h:AugAt w q g m t M) :
  Calls Tryz.prog 68 #[.pointer (some ⟨q,0,none⟩)] w (LowW w (lowV (listT t))):=by
 have h1:=of_any q g _ _ h.aug
 have h2:=all_any g _ t w h.tr.tree h.tr.rb
 have ho:lowV (listT t)=(sumT t).map (·.1):=by
  cases t with
  | nil=>rfl
  | node a k v s c l r=>exact lowV_root h.tr.well.2.2.1 rfl
 rw [ho]
 clear ho h
 unfold AllW at h2
 generalize sumT t=o at h2 ⊢
 obtain⟨k,hk⟩:∃ k,o.getD (0,0)=k:=⟨_,rfl⟩
 rw [hk] at h2
 have e3:(o.map (·.1)).getD 0=k.1:=by rw [← hk];cases o <;> rfl
 have e4:(o.map (·.1)).isSome=o.isSome:=by cases o <;> rfl
 have HE3:=Lib.hid (And.intro e3 e4)
 clear e3 e4 hk
 go_enter Tryz.func68,Tryz.ntmps68
 go_wp2_with fail
 refine h1.mono ?_
 clear h1
 rintro e w1 ⟨rfl,rfl⟩
 go_wp2_with fail
 refine h2.mono ?_
 clear h2
 rintro e w2 ⟨rfl,hb⟩
 have HB:=Lib.hid hb
 clear hb
 go_wp2_with fail
 go_ret2
 exact⟨by rw [HE3.out.1,HE3.out.2];rfl,HB.out.alloc HB.out.size _⟩
end
section
def statP (P:Pk)(j:Int):Option (Int × Bool × Bool × Int):=(lookM P j).map fun c=>(c.pa,c.lf,c.sh,c.un)
theorem pa_of_stat {P Q:Pk} {j:Int} (h:statP Q j=statP P j):paP Q j=paP P j:=by
 have e:∀ R:Pk,paP R j=(statP R j).map (·.1):=fun R=>by
  unfold paP statP
  cases lookM R j <;> rfl
 rw [e,e,h]
theorem stat_back {P Q:Pk} {j:Int} {c':Cls} (h:statP Q j=statP P j)(hc:lookM Q j=some c'):∃ c,lookM P j=some c∧c'.pa=c.pa∧c'.lf=c.lf∧c'.sh=c.sh∧c'.un=c.un:=by
 unfold statP at h
 rw [hc] at h
 cases hp:lookM P j with
 | none=>rw [hp] at h;cases h
 | some c =>
  rw [hp] at h
  have h:=Option.some.inj h
  simp only [Prod.mk.injEq] at h
  exact⟨c,rfl,h.1,h.2.1,h.2.2.1,h.2.2.2⟩
theorem stat_upd {P:Pk} {q:Int} {f:Cls→Cls} (hf:∀ c,(f c).pa=c.pa∧(f c).lf=c.lf∧(f c).sh=c.sh∧(f c).un=c.un)(j:Int):statP (updP P q f) j=statP P j:=by
 unfold statP
 rw [look_upd]
 by_cases e:j=q
 ·subst e
  rw [if_pos rfl]
  cases lookM P j with
  | none=>rfl
  | some c =>
   obtain⟨h1,h2,h3,h4⟩:=hf c
   show some ((f c).pa,(f c).lf,(f c).sh,(f c).un)=_
   rw [h1,h2,h3,h4];rfl
 ·rw [if_neg e]
theorem NotedBut.weak {ow:Option Rn→Int→Int} {P:Pk} {X Y:Int→Prop} (h:NotedBut ow P X)(hXY:∀ j,0 < j→X j→Y j):NotedBut ow P Y :=
 fun id c p hid hY hc hp=>h id c p hid (fun hX=>hY (hXY id hid hX)) hc hp
theorem NotedBut.upd {ow:Option Rn→Int→Int} {P:Pk} {X:Int→Prop} {q:Int} {f:Cls→Cls} (h:NotedBut ow P X)(hf:Mild f)(hm:∀ j,¬ X j→memP (updP P q f) j=memP P j)(hc:X q∨∀ c,fitC ow (f c)=fitC ow c):NotedBut ow (updP P q f) X:=by
 intro id c' p' hid hX hc' hp'
 obtain⟨c,hcc,hfit,hpa⟩:∃ c,lookM P id=some c∧fitC ow c'=fitC ow c∧c'.pa=c.pa:=by
  rw [look_upd] at hc'
  by_cases e:id=q
  ·rw [if_pos e] at hc'
   obtain⟨c,h1,rfl⟩:=Option.map_eq_some_iff.1 hc'
   refine⟨c,e ▸ h1,?_,hf.pa c⟩
   rcases hc with hc | hc
   ·exact absurd (e ▸ hc) hX
   ·exact hc c
  ·rw [if_neg e] at hc'
   exact⟨c',hc',rfl,rfl⟩
 obtain⟨p,hpp,htr⟩:∃ p,lookM P c.pa=some p∧p'.tr=p.tr:=by
  rw [hpa,look_upd] at hp'
  by_cases e:c.pa=q
  ·rw [if_pos e] at hp'
   obtain⟨p,h1,rfl⟩:=Option.map_eq_some_iff.1 hp'
   exact⟨p,e ▸ h1,hf.tr p⟩
  ·rw [if_neg e] at hp'
   exact⟨p',hp',rfl⟩
 rw [htr,awP_congr (hm id hX),vP_congr (hm id hX),hfit]
 exact h id c p hid hX hcc hpp
inductive Up (P:Pk):Int→List Int→Prop
 | root:Up P 0 []
 | step {id q:Int} {l:List Int}:0 < id→paP P id=some q→Up P q l→Up P id (id :: l)
theorem Up.congr {P Q:Pk} (h:∀ j,paP Q j=paP P j):∀ {id:Int} {l:List Int},Up P id l→Up Q id l
 | _,_,.root=>.root
 | _,_,.step h1 h2 h3=>.step h1 ((h _).trans h2) (h3.congr h)
theorem Up.pos {P:Pk}:∀ {id:Int} {l:List Int},Up P id l→∀ j∈l,0 < j
 | _,_,.root,j,hj=>by cases hj
 | _,_,.step h1 h2 h3,j,hj=>by
  rcases List.mem_cons.1 hj with rfl | hj
  ·exact h1
  ·exact h3.pos j hj
theorem Up.is {P:Pk}:∀ {id:Int} {l:List Int},Up P id l→∀ j∈l,∃ q,paP P j=some q∧(q=0∨q∈l)
 | _,_,.root,j,hj=>by cases hj
 | _,_,.step h1 h2 h3,j,hj=>by
  rcases List.mem_cons.1 hj with rfl | hj
  ·refine⟨_,h2,?_⟩
   cases h3 with
   | root=>exact .inl rfl
   | step k1 k2 k3=>exact .inr (.tail _ (.head _))
  ·obtain⟨q,hq,h⟩:=h3.is j hj
   exact⟨q,hq,h.imp id fun h=>.tail _ h⟩
theorem Up.dp {dp:Int→Nat} {P:Pk} (hW:WfP dp P):∀ {id:Int} {l:List Int},Up P id l→∀ j∈l,dp j≤dp id
 | _,_,.root,j,hj=>by cases hj
 | _,_,.step h1 h2 h3,j,hj=>by
  rcases List.mem_cons.1 hj with rfl | hj
  ·exact Nat.le_refl _
  ·have:=h3.dp hW j hj
   obtain⟨c,hc,rfl⟩:=paP_some h2
   obtain⟨p,_,_,hd⟩:=hW.par _ c hc (by omega)
   omega
theorem Up.fresh {dp:Int→Nat} {P:Pk} (hW:WfP dp P) {id:Int} {l:List Int} (h:Up P id (id :: l)):id ∉ l:=by
 cases h with
 | step h1 h2 h3 =>
  intro hm
  have:=h3.dp hW id hm
  obtain⟨c,hc,rfl⟩:=paP_some h2
  obtain⟨p,_,_,hd⟩:=hW.par _ c hc (by omega)
  omega
theorem Up.fresh_head {dp:Int→Nat} {P:Pk} (hW:WfP dp P) {id k:Int} {l:List Int} (h:Up P id (k :: l)):k ∉ l:=by
 have e:k=id:=by cases h;rfl
 subst e
 exact h.fresh hW
def kf (P:Pk)(q j:Int):Bool:=((famP P q).bind fun f=>lookM f.m j).isSome
theorem kf_upd {P:Pk} {id:Int} {f:Cls→Cls} (hf:∀ c j,(lookM (f c).fam.m j).isSome=(lookM c.fam.m j).isSome)(q j:Int):kf (updP P id f) q j=kf P q j:=by
 unfold kf famP
 rw [look_upd]
 by_cases e:q=id
 ·subst e
  rw [if_pos rfl]
  cases lookM P q with
  | none=>rfl
  | some c=>exact hf c j
 ·rw [if_neg e]
def KeepK (g:Fam→Fam):Prop:=∀ f j,(lookM (g f).m j).isSome=(lookM f.m j).isSome
structure Moved (ow:Option Rn→Int→Int)(dp:Int→Nat)(X:Int→Prop)(P P':Pk):Prop where
 wf:WfP dp P→WfP dp P'
 noted:NotedBut ow P X→NotedBut ow P' X
 stat:∀ j,statP P' j=statP P j
 mem:∀ j,¬ X j→memP P' j=memP P j
 keys:∀ q j,kf P' q j=kf P q j
theorem Moved.refl (ow:Option Rn→Int→Int)(dp:Int→Nat)(X:Int→Prop)(P:Pk):Moved ow dp X P P:=⟨id,id,fun _=>rfl,fun _ _=>rfl,fun _ _=>rfl⟩
theorem Moved.trans {ow:Option Rn→Int→Int} {dp:Int→Nat} {X:Int→Prop} {P Q R:Pk} (h:Moved ow dp X P Q)(k:Moved ow dp X Q R):Moved ow dp X P R :=
 ⟨fun w=>k.wf (h.wf w),fun n=>k.noted (h.noted n),fun j=>(k.stat j).trans (h.stat j),fun j hj=>(k.mem j hj).trans (h.mem j hj),fun q j=>(k.keys q j).trans (h.keys q j)⟩
theorem Moved.pa {ow:Option Rn→Int→Int} {dp:Int→Nat} {X:Int→Prop} {P Q:Pk} (h:Moved ow dp X P Q)(j:Int):paP Q j=paP P j:=pa_of_stat (h.stat j)
def shP (P:Pk)(id:Int):Bool:=match lookM P id with
 | none=>false
 | some c=>c.sh
def lfP (P:Pk)(id:Int):Bool:=match lookM P id with
 | none=>false
 | some c=>c.lf
theorem sh_of_stat {P Q:Pk} {j:Int} (h:statP Q j=statP P j):shP Q j=shP P j:=by
 have e:∀ R:Pk,shP R j=((statP R j).map (·.2.2.1)).getD false:=fun R=>by
  unfold shP statP
  cases lookM R j <;> rfl
 rw [e,e,h]
theorem lf_of_stat {P Q:Pk} {j:Int} (h:statP Q j=statP P j):lfP Q j=lfP P j:=by
 have e:∀ R:Pk,lfP R j=((statP R j).map (·.2.1)).getD false:=fun R=>by
  unfold lfP statP
  cases lookM R j <;> rfl
 rw [e,e,h]
def updF (P:Pk)(id:Int)(g:Fam→Fam):Pk:=match paP P id with
 | none=>P
 | some q=>updP P q fun p=>{ p with fam:=g p.fam }
def OnlyM (id:Int)(g:Fam→Fam):Prop:=∀ f j,j≠id→lookM (g f).m j=lookM f.m j
theorem updF_moved {ow:Option Rn→Int→Int} {dp:Int→Nat} {X:Int→Prop} {P:Pk} {id:Int} {g:Fam→Fam} (hg:OnlyM id g)(hk:KeepK g)(hX:X id):Moved ow dp X P (updF P id g):=by
 unfold updF
 cases hq:paP P id with
 | none=>exact Moved.refl _ _ _ _
 | some q =>
  dsimp only
  have hmild:Mild fun p:Cls=>{ p with fam:=g p.fam }:=⟨fun _=>rfl,fun _=>rfl,fun _=>rfl⟩
  have hm:∀ j,¬ X j→memP (updP P q fun p=>{ p with fam:=g p.fam }) j=memP P j:=fun j hj=>by
   refine memP_congr (paP_upd hmild.pa j) fun r hr=>?_
   unfold famP
   rw [look_upd]
   by_cases e:r=q
   ·subst e
    rw [if_pos rfl]
    cases lookM P r with
    | none=>rfl
    | some p =>
     show lookM (g p.fam).m j=lookM p.fam.m j
     exact hg _ _ fun e=>hj (e ▸ hX)
   ·rw [if_neg e]
  exact⟨fun w=>w.mild q hmild,fun n=>n.upd hmild hm (.inr fun _=>rfl),fun j=>stat_upd (by intro c;exact⟨rfl,rfl,rfl,rfl⟩) j,hm,fun q j=>kf_upd (fun c j=>hk c.fam j) q j⟩
theorem memP_is {P:Pk} {id:Int} {c p:Cls} (hc:lookM P id=some c)(hp:lookM P c.pa=some p):memP P id=lookM p.fam.m id:=by
 unfold memP
 rw [paP_of hc]
 show (famP P c.pa).bind _=_
 unfold famP
 rw [hp];rfl
theorem memP_updF {P:Pk} {id:Int} {g:Fam→Fam} {c p:Cls} (hc:lookM P id=some c)(hp:lookM P c.pa=some p):memP (updF P id g) id=lookM (g p.fam).m id:=by
 have h1:updF P id g=updP P c.pa fun p=>{ p with fam:=g p.fam }:=by unfold updF;rw [paP_of hc]
 unfold memP
 rw [h1,paP_upd (by intro c;rfl) id,paP_of hc]
 show (famP _ c.pa).bind _=_
 unfold famP
 rw [look_upd,if_pos rfl,hp];rfl
theorem upd_moved {ow:Option Rn→Int→Int} {dp:Int→Nat} {X:Int→Prop} {P:Pk} {id:Int} {f:Cls→Cls} (hf:Mild f)(hs:∀ c,(f c).sh=c.sh∧(f c).un=c.un∧(f c).fam=c.fam)(hX:X id):Moved ow dp X P (updP P id f) :=
 ⟨fun w=>w.mild id hf,fun n=>n.upd hf (fun j _=>memP_upd hf.pa (fun c=>(hs c).2.2) j) (.inl hX),fun j=>stat_upd (fun c=>⟨hf.pa c,hf.lf c,(hs c).1,(hs c).2.1⟩) j,fun j _=>memP_upd hf.pa (fun c=>(hs c).2.2) j,fun q j=>kf_upd (fun c j=>by rw [(hs c).2.2]) q j⟩
theorem notes_all {ow : Option Rn → Int → Int} {dp : Int → Nat} : ∀ {l : List Int} {id : Int} {P : Pk}, Up P id l → WfP dp P → NotedBut ow P (· ∈ l) → WfP dp (l.foldl (noteP ow) P) ∧ NotedBut ow (l.foldl (noteP ow) P) (fun _ => False) ∧ (∀ j, memP (l.foldl (noteP ow) P) j = memP P j) ∧ (∀ j, paP (l.foldl (noteP ow) P) j = paP P j)
  | [], id, P, hU, hW, hN => ⟨hW, hN.weak (fun j _ h => (by cases h)), fun _ => rfl, fun _ => rfl⟩
  | k :: l, id, P, hU, hW, hN => by
    cases hU with
    | step h1 h2 h3 =>
      obtain ⟨c, hc, hcq⟩ := paP_some h2
      obtain ⟨a1, a2, a3, a4⟩ := note_step (ow := ow) hW hN h1 hc
      have hU2 := h3.congr a4
      rw [hcq] at a2
      have hN2 : NotedBut ow (noteP ow P k) (· ∈ l) := a2.weak fun j hj h => by
        rcases h with ⟨hm, hne⟩ | h
        · rcases List.mem_cons.1 hm with hm | hm
          · exact absurd hm hne
          · exact hm
        · cases h3 with
          | root => omega
          | step k1 k2 k3 => rw [h]; exact .head _
      obtain ⟨b1, b2, b3, b4⟩ := notes_all hU2 a1 hN2
      exact ⟨b1, b2, fun j => (b3 j).trans (a3 j), fun j => (b4 j).trans (a4 j)⟩
theorem note_stat (ow:Option Rn→Int→Int)(P:Pk)(id j:Int):statP (noteP ow P id) j=statP P j:=by
 unfold noteP
 cases paP P id with
 | none=>rfl
 | some q=>exact stat_upd (by intro c;exact⟨rfl,rfl,rfl,rfl⟩) j
theorem notes_stat (ow:Option Rn→Int→Int):∀ (l:List Int)(P:Pk)(j:Int),statP (l.foldl (noteP ow) P) j=statP P j
 | [],_,_=>rfl
 | k :: l,P,j=>(notes_stat ow l _ j).trans (note_stat ow P k j)
theorem note_keys (ow:Option Rn→Int→Int)(P:Pk)(id q j:Int):kf (noteP ow P id) q j=kf P q j:=by
 unfold noteP
 cases paP P id with
 | none=>rfl
 | some q=>exact kf_upd (f:=fun p=>{ p with tr:=if awP P id=true then putI p.tr id (vP P id) (fitP ow P id) else dropI p.tr id }) (fun c j=>rfl) _ j
theorem notes_keys (ow:Option Rn→Int→Int):∀ (l:List Int)(P:Pk)(q j:Int),kf (l.foldl (noteP ow) P) q j=kf P q j
 | [],_,_,_=>rfl
 | k :: l,P,q,j=>(notes_keys ow l _ q j).trans (note_keys ow P k q j)
end
section
def leastL:List Int→Int
 | []=>0
 | [a]=>a
 | a :: b :: l=>min a (leastL (b :: l))
def greatL:List Int→Int
 | []=>0
 | [a]=>a
 | a :: b :: l=>max a (greatL (b :: l))
def upV (f:Fam):List Int:=(f.m.filter fun q=>q.2.aw).map fun q=>q.2.v
def startV (f:Fam)(m:Mem):Int:=if upV f=[] then max m.v f.mark else max m.v (leastL (upV f)+(greatL (upV f) - leastL (upV f)) / 2)
def wakeF (id:Int)(f:Fam):Fam:=match lookM f.m id with
 | none=>f
 | some m=>if m.aw=true then f else ⟨putM f.m id ⟨m.tot,startV f m,startR m.rn (startV f m) m.tot,true⟩,max f.mark (startV f m)⟩
def sleepF (id:Int)(f:Fam):Fam:=match lookM f.m id with
 | none=>f
 | some m=>⟨putM f.m id { m with aw:=false },f.mark⟩
section
variable (rc : Rn → Int → Int)
def gainF (id n:Int)(f:Fam):Fam:=match lookM f.m id with
 | none=>f
 | some m=>if m.aw=true then ⟨putM f.m id { m with tot:=m.tot+min n (capC - m.tot),v:=rc m.rn (m.tot+min n (capC - m.tot)) },max f.mark (rc m.rn (m.tot+min n (capC - m.tot)))⟩
  else ⟨putM f.m id { m with tot:=m.tot+min n (capC - m.tot) },f.mark⟩
end
theorem only_wake (id:Int):OnlyM id (wakeF id):=fun f j hj=>by
 unfold wakeF
 cases lookM f.m id with
 | none=>rfl
 | some m =>
  dsimp only
  by_cases h:m.aw=true
  ·rw [if_pos h]
  ·rw [if_neg h];exact look_put_other _ hj _
theorem only_sleep (id:Int):OnlyM id (sleepF id):=fun f j hj=>by
 unfold sleepF
 cases lookM f.m id with
 | none=>rfl
 | some m=>exact look_put_other _ hj _
theorem only_gain (rc:Rn→Int→Int)(id n:Int):OnlyM id (gainF rc id n):=fun f j hj=>by
 unfold gainF
 cases lookM f.m id with
 | none=>rfl
 | some m =>
  dsimp only
  by_cases h:m.aw=true
  ·rw [if_pos h];exact look_put_other _ hj _
  ·rw [if_neg h];exact look_put_other _ hj _
theorem put_keeps {α:Type} {M:List (Int × α)} {id:Int} {m m':α} (h:lookM M id=some m)(j:Int):(lookM (putM M id m') j).isSome=(lookM M j).isSome:=by
 by_cases e:j=id
 ·subst e;rw [look_put_same,h];rfl
 ·rw [look_put_other _ e]
theorem keep_wake (id:Int):KeepK (wakeF id):=fun f j=>by
 unfold wakeF
 cases h:lookM f.m id with
 | none=>rfl
 | some m =>
  dsimp only
  by_cases ha:m.aw=true
  ·rw [if_pos ha]
  ·rw [if_neg ha];exact put_keeps h j
theorem keep_sleep (id:Int):KeepK (sleepF id):=fun f j=>by
 unfold sleepF
 cases h:lookM f.m id with
 | none=>rfl
 | some m=>exact put_keeps h j
theorem keep_gain (rc:Rn→Int→Int)(id n:Int):KeepK (gainF rc id n):=fun f j=>by
 unfold gainF
 cases h:lookM f.m id with
 | none=>rfl
 | some m =>
  dsimp only
  by_cases ha:m.aw=true
  ·rw [if_pos ha];exact put_keeps h j
  ·rw [if_neg ha];exact put_keeps h j
theorem wake_is {id:Int} {f:Fam} {m:Mem} (h:lookM f.m id=some m):∃ m',lookM (wakeF id f).m id=some m'∧m'.aw=true:=by
 unfold wakeF
 rw [h]
 dsimp only
 by_cases ha:m.aw=true
 ·rw [if_pos ha];exact⟨m,h,ha⟩
 ·rw [if_neg ha];exact⟨_,look_put_same _ _ _,rfl⟩
theorem sleep_is {id:Int} {f:Fam}:(lookM (sleepF id f).m id).map (·.aw)=(lookM f.m id).map (fun _=>false):=by
 unfold sleepF
 cases h:lookM f.m id with
 | none =>
  dsimp only
  rw [h];rfl
 | some m =>
  dsimp only
  rw [look_put_same];rfl
theorem gain_is {rc:Rn→Int→Int} {id n:Int} {f:Fam}:(lookM (gainF rc id n f).m id).map (·.aw)=(lookM f.m id).map (·.aw):=by
 unfold gainF
 cases h:lookM f.m id with
 | none =>
  dsimp only
  rw [h]
 | some m =>
  dsimp only
  by_cases ha:m.aw=true
  ·rw [if_pos ha,look_put_same];rfl
  ·rw [if_neg ha,look_put_same];rfl
theorem awP_map {P Q:Pk} {id:Int} (h:(memP Q id).map (·.aw)=(memP P id).map (·.aw)):awP Q id=awP P id:=by
 have e:∀ R:Pk,awP R id=(decide (0 < id) && (((memP R id).map (·.aw)).getD false)):=fun R=>by
  unfold awP
  cases memP R id <;> rfl
 rw [e,e,h]
section
variable (ow : Option Rn → Int → Int) (rc : Rn → Int → Int)
def wake1 (now:Int)(P:Pk)(id:Int):Pk:=if awP P id=true∨shP P id=false then P else updP (updF P id (wakeF id)) id fun c=>{ c with lim:=c.lim.map fun r=>startR r now c.tot }
def wakeP (now leaf:Int)(l:List Int)(P:Pk):Pk:=if lfP P leaf=true∧shP P leaf=true then l.foldl (noteP ow) (l.foldl (wake1 now) P) else P
def sent1 (n:Int)(P:Pk)(id:Int):Pk:=updF (updP P id fun c=>{ c with tot:=c.tot+min n (capC - c.tot) }) id (gainF rc id n)
def trP (P:Pk)(id:Int):List En:=match lookM P id with
 | none=>[]
 | some c=>c.tr
def sent2 (sl:Bool)(P:Pk)(id:Int):Pk:=noteP ow (if sl=true∧(lfP P id=true∨trP P id=[]) then updF P id (sleepF id) else P) id
def sentP (leaf n:Int)(more:Bool)(l:List Int)(P:Pk):Pk:=if lfP P leaf=true then l.foldl (sent2 ow (!more && awP (l.foldl (sent1 rc n) P) leaf)) (l.foldl (sent1 rc n) P) else P
end
section
variable {ow : Option Rn → Int → Int} {rc : Rn → Int → Int} {dp : Int → Nat}
theorem wake1_moved {X:Int→Prop} {P:Pk} {now id:Int} (hX:X id):Moved ow dp X P (wake1 now P id):=by
 unfold wake1
 by_cases h:awP P id=true∨shP P id=false
 ·rw [if_pos h];exact Moved.refl _ _ _ _
 ·rw [if_neg h]
  exact (updF_moved (only_wake id) (keep_wake id) hX).trans (upd_moved ⟨fun _=>rfl,fun _=>rfl,fun _=>rfl⟩ (by intro c;exact⟨rfl,rfl,rfl⟩) hX)
theorem sent1_moved {X:Int→Prop} {P:Pk} {n id:Int} (hX:X id):Moved ow dp X P (sent1 rc n P id) :=
 (upd_moved (f:=fun c:Cls=>{ c with tot:=c.tot+min n (capC - c.tot) }) ⟨fun _=>rfl,fun _=>rfl,fun _=>rfl⟩ (by intro c;exact⟨rfl,rfl,rfl⟩) hX).trans (updF_moved (only_gain rc id n) (keep_gain rc id n) hX)
def MemsP (P:Pk):Prop:=∀ id,0 < id→(lookM P id).isSome=true→(memP P id).isSome=shP P id
theorem awP_pos {P:Pk} {id:Int} (h:awP P id=true):0 < id:=by
 unfold awP at h
 simp only [Bool.and_eq_true,decide_eq_true_eq] at h
 exact h.1
theorem wake1_is {P:Pk} {now id:Int} (hW:WfP dp P)(hid:0 < id)(hs:(lookM P id).isSome=true)(hm:(memP P id).isSome=shP P id)(hsh:shP P id=true):awP (wake1 now P id) id=true∧(memP (wake1 now P id) id).isSome=true:=by
 unfold wake1
 by_cases h:awP P id=true∨shP P id=false
 ·rw [if_pos h]
  rcases h with h | h
  ·exact⟨h,by rw [hm,hsh]⟩
  ·rw [hsh] at h;cases h
 ·rw [if_neg h]
  obtain⟨c,hc⟩:=Option.isSome_iff_exists.1 hs
  obtain⟨p,hp,_,_⟩:=hW.par id c hc (by omega)
  rw [hsh] at hm
  obtain⟨m,hm⟩:=Option.isSome_iff_exists.1 hm
  rw [memP_is hc hp] at hm
  obtain⟨m',h1,h2⟩:=wake_is hm
  have h3:=memP_updF (g:=wakeF id) hc hp
  rw [h1] at h3
  have h4:memP (updP (updF P id (wakeF id)) id fun c=>{ c with lim:=c.lim.map fun r=>startR r now c.tot }) id=some m':=by
   rw [memP_upd (by intro c;rfl) (by intro c;rfl) id];exact h3
  refine⟨?_,by rw [h4];rfl⟩
  unfold awP
  rw [h4]
  simp [hid,h2]
theorem wakes_all {now : Int} : ∀ {l : List Int} {id : Int} {P : Pk} {X : Int → Prop}, Up P id l → WfP dp P → (∀ j ∈ l, X j) → (∀ j ∈ l, (lookM P j).isSome = true ∧ (memP P j).isSome = shP P j ∧ shP P j = true) →
    Moved ow dp X P (l.foldl (wake1 now) P) ∧ ∀ j ∈ l, awP (l.foldl (wake1 now) P) j = true ∧ (memP (l.foldl (wake1 now) P) j).isSome = true
  | [], id, P, X, hU, hW, hX, hl => ⟨Moved.refl _ _ _ _, fun j hj => by cases hj⟩
  | k :: l, id, P, X, hU, hW, hX, hl => by
    have hfr := hU.fresh_head hW
    cases hU with
    | step h1 h2 h3 =>
      obtain ⟨a1, a2, a3⟩ := hl k (.head _)
      have hm1 : Moved ow dp X P (wake1 now P k) := wake1_moved (hX k (.head _))
      have hmo : Moved ow dp (· = k) P (wake1 now P k) := wake1_moved rfl
      obtain ⟨b1, b2⟩ := wake1_is (now := now) hW h1 a1 a2 a3
      have look_is : ∀ j, (lookM (wake1 now P k) j).isSome = (lookM P j).isSome := fun j => by
        have := hm1.stat j
        unfold statP at this
        cases e1 : lookM (wake1 now P k) j <;> cases e2 : lookM P j <;> rw [e1, e2] at this <;> first | rfl | cases this
      have hl2 : ∀ j ∈ l, (lookM (wake1 now P k) j).isSome = true ∧ (memP (wake1 now P k) j).isSome = shP (wake1 now P k) j ∧ shP (wake1 now P k) j = true := fun j hj => by
        obtain ⟨c1, c2, c3⟩ := hl j (.tail _ hj)
        have hne : j ≠ k := fun e => hfr (e ▸ hj)
        rw [look_is, hmo.mem j hne, sh_of_stat (hm1.stat j)]
        exact ⟨c1, c2, c3⟩
      obtain ⟨d1, d2⟩ := wakes_all (X := X) (h3.congr hm1.pa) (hm1.wf hW) (fun j hj => hX j (.tail _ hj)) hl2
      obtain ⟨e1, _⟩ := wakes_all (X := (· ∈ l)) (h3.congr hm1.pa) (hm1.wf hW) (fun j hj => hj) hl2
      refine ⟨hm1.trans d1, fun j hj => ?_⟩
      rcases List.mem_cons.1 hj with rfl | hj
      · have := e1.mem j hfr
        show awP (l.foldl (wake1 now) (wake1 now P j)) j = true ∧ (memP (l.foldl (wake1 now) (wake1 now P j)) j).isSome = true
        rw [awP_congr this, this]
        exact ⟨b1, b2⟩
      · exact d2 j hj
end
end
section
structure AwkP (P:Pk)(wt:Int→Bool):Prop where
 leaf:∀ id,0 < id→(lookM P id).isSome=true→lfP P id=true→awP P id=(shP P id && wt id)
 inner:∀ id,0 < id→(lookM P id).isSome=true→lfP P id=false→(awP P id=true↔∃ k,paP P k=some id∧awP P k=true)
 innersh:∀ id,0 < id→(lookM P id).isSome=true→lfP P id=false→shP P id=true
 mems:MemsP P
structure PInv (ow:Option Rn→Int→Int)(dp:Int→Nat)(P:Pk)(wt:Int→Bool):Prop where
 wf:WfP dp P
 noted:NotedBut ow P fun _=>False
 awk:AwkP P wt
theorem look_of_stat {P Q:Pk} {j:Int} (h:statP Q j=statP P j):(lookM Q j).isSome=(lookM P j).isSome:=by
 unfold statP at h
 cases e1:lookM Q j <;> cases e2:lookM P j <;> rw [e1,e2] at h <;> first | rfl | cases h
theorem lookSome_of_pa {P:Pk} {j q:Int} (h:paP P j=some q):(lookM P j).isSome=true:=by
 obtain⟨c,hc,_⟩:=paP_some h
 rw [hc];rfl
section
variable {ow : Option Rn → Int → Int} {rc : Rn → Int → Int} {dp : Int → Nat}
theorem Up.look {P:Pk} {id:Int} {l:List Int} (h:Up P id l):∀ j∈l,(lookM P j).isSome=true:=fun j hj=>by
 obtain⟨q,hq,_⟩:=h.is j hj
 exact lookSome_of_pa hq
theorem Up.pred {P:Pk}:∀ {id:Int} {l:List Int},Up P id l→∀ j∈l,j≠id→∃ k∈l,paP P k=some j
 | _,_,.root,j,hj,_=>by cases hj
 | _,_,@Up.step _ i q l h1 h2 h3,j,hj,hne=>by
  rcases List.mem_cons.1 hj with hj | hj
  ·exact absurd hj hne
  ·by_cases e:j=q
   ·exact⟨i,.head _,e ▸ h2⟩
   ·obtain⟨k,hk,h⟩:=h3.pred j hj e
    exact⟨k,.tail _ hk,h⟩
theorem lfP_of {P:Pk} {id:Int} {c:Cls} (h:lookM P id=some c):lfP P id=c.lf:=by unfold lfP;rw [h]
theorem shP_of {P:Pk} {id:Int} {c:Cls} (h:lookM P id=some c):shP P id=c.sh:=by unfold shP;rw [h]
theorem inner_of_kid {P:Pk} (hW:WfP dp P) {k j:Int} (h:paP P k=some j)(hk:k≠0):lfP P j=false:=by
 obtain⟨c,hc,rfl⟩:=paP_some h
 obtain⟨p,hp,hl,_⟩:=hW.par k c hc hk
 rw [lfP_of hp,hl]
theorem Up.inner {P:Pk} (hW:WfP dp P) {id:Int} {l:List Int} (h:Up P id l):∀ j∈l,j≠id→lfP P j=false:=fun j hj hne=>by
 obtain⟨k,hk,hp⟩:=h.pred j hj hne
 have:=h.pos k hk
 exact inner_of_kid hW hp (by omega)
theorem wake_inv {P : Pk} {wt : Int → Bool} (h : PInv ow dp P wt) {leaf now : Int} {l : List Int} (hU : Up P leaf l) (hlf : lfP P leaf = true) (hl0 : 0 < leaf) :
    PInv ow dp (wakeP ow now leaf l P) (fun j => if j = leaf then true else wt j) ∧ (∀ j, statP (wakeP ow now leaf l P) j = statP P j) ∧ ∀ q j, kf (wakeP ow now leaf l P) q j = kf P q j := by
  obtain ⟨l', rfl⟩ : ∃ l', l = leaf :: l' := by
    cases hU with
    | root => omega
    | step h1 h2 h3 => exact ⟨_, rfl⟩
  unfold wakeP
  by_cases hsh : shP P leaf = true
  rotate_left
  · rw [if_neg (fun hh => hsh hh.2)]
    refine ⟨⟨h.wf, h.noted, ⟨fun id hid hs hf => ?_, h.awk.inner, h.awk.innersh, h.awk.mems⟩⟩, fun _ => rfl, fun _ _ => rfl⟩
    rw [h.awk.leaf id hid hs hf]
    by_cases e : id = leaf
    · subst e
      have : shP P id = false := by simpa using hsh
      rw [this]; rfl
    · rw [if_neg e]
  rw [if_pos ⟨hlf, hsh⟩]
  have hall : ∀ j ∈ leaf :: l', (lookM P j).isSome = true ∧ (memP P j).isSome = shP P j ∧ shP P j = true := fun j hj => by
    have hs := hU.look j hj
    refine ⟨hs, h.awk.mems j (hU.pos j hj) hs, ?_⟩
    by_cases e : j = leaf
    · rw [e]; exact hsh
    · exact h.awk.innersh j (hU.pos j hj) hs (hU.inner h.wf j hj e)
  obtain ⟨m1, a1⟩ := wakes_all (ow := ow) (now := now) (X := (· ∈ leaf :: l')) hU h.wf (fun j hj => hj) hall
  generalize hP1 : List.foldl (wake1 now) P (leaf :: l') = P1 at m1 a1
  have hW1 := m1.wf h.wf
  have hN1 : NotedBut ow P1 (· ∈ leaf :: l') := m1.noted (h.noted.weak fun j _ h => h.elim)
  obtain ⟨b1, b2, b3, b4⟩ := notes_all (hU.congr m1.pa) hW1 hN1
  have bs := notes_stat ow (leaf :: l') P1
  have bk := notes_keys ow (leaf :: l') P1
  generalize List.foldl (noteP ow) P1 (leaf :: l') = P2 at b1 b2 b3 b4 bs bk
  have hst : ∀ j, statP P2 j = statP P j := fun j => (bs j).trans (m1.stat j)
  have hky : ∀ q j, kf P2 q j = kf P q j := fun q j => (bk q j).trans (m1.keys q j)
  have haw : ∀ j, awP P2 j = awP P1 j := fun j => awP_congr (b3 j)
  have hfar : ∀ j, j ∉ leaf :: l' → awP P2 j = awP P j := fun j hj => (haw j).trans (awP_congr (m1.mem j hj))
  have hon : ∀ j ∈ leaf :: l', awP P2 j = true := fun j hj => (haw j).trans (a1 j hj).1
  refine ⟨⟨b1, b2, ⟨fun id hid hs hf => ?_, fun id hid hs hf => ?_, fun id hid hs hf => ?_, fun id hid hs => ?_⟩⟩, hst, hky⟩
  · rw [look_of_stat (hst id)] at hs
    rw [lf_of_stat (hst id)] at hf
    rw [sh_of_stat (hst id)]
    by_cases hm : id ∈ leaf :: l'
    · have e : id = leaf := by
        by_cases e : id = leaf
        · exact e
        · rw [hU.inner h.wf id hm e] at hf; cases hf
      rw [hon id hm, if_pos e, e, hsh]; rfl
    · have e : id ≠ leaf := fun e => hm (e ▸ .head _)
      rw [hfar id hm, if_neg e]
      exact h.awk.leaf id hid hs hf
  · rw [look_of_stat (hst id)] at hs
    rw [lf_of_stat (hst id)] at hf
    by_cases hm : id ∈ leaf :: l'
    · have e : id ≠ leaf := fun e => by rw [e, hlf] at hf; cases hf
      obtain ⟨k, hk, hp⟩ := hU.pred id hm e
      exact ⟨fun _ => ⟨k, by rw [pa_of_stat (hst k)]; exact hp, hon k hk⟩, fun _ => hon id hm⟩
    · rw [hfar id hm, h.awk.inner id hid hs hf]
      have key : ∀ k, paP P k = some id → k ∉ leaf :: l' := fun k hp hk => by
        obtain ⟨q, hq, h0⟩ := hU.is k hk
        rw [hp] at hq
        cases hq
        rcases h0 with h0 | h0
        · omega
        · exact hm h0
      constructor
      · rintro ⟨k, hp, hk⟩
        exact ⟨k, by rw [pa_of_stat (hst k)]; exact hp, by rw [hfar k (key k hp)]; exact hk⟩
      · rintro ⟨k, hp, hk⟩
        rw [pa_of_stat (hst k)] at hp
        exact ⟨k, hp, by rw [← hfar k (key k hp)]; exact hk⟩
  · rw [look_of_stat (hst id)] at hs
    rw [lf_of_stat (hst id)] at hf
    rw [sh_of_stat (hst id)]
    exact h.awk.innersh id hid hs hf
  · rw [look_of_stat (hst id)] at hs
    rw [sh_of_stat (hst id), b3 id]
    by_cases hm : id ∈ leaf :: l'
    · rw [(a1 id hm).2, (hall id hm).2.2]
    · rw [m1.mem id hm]
      exact h.awk.mems id hid hs
theorem sent1_aw {P : Pk} {n id : Int} (j : Int) : (memP (sent1 rc n P id) j).map (·.aw) = (memP P j).map (·.aw) := by
  have hm : Moved (fun _ _ => 0) (fun _ => 0) (· = id) P (sent1 rc n P id) := sent1_moved rfl
  by_cases e : j = id
  · subst e
    unfold sent1
    have h0 : ∀ i, memP (updP P j fun c => { c with tot := c.tot + min n (capC - c.tot) }) i = memP P i := memP_upd (by intro c; rfl) (by intro c; rfl)
    rw [← h0 j]
    generalize updP P j (fun c => { c with tot := c.tot + min n (capC - c.tot) }) = Q
    cases hc : paP Q j with
    | none => unfold updF; rw [hc]
    | some q =>
      have h1 : updF Q j (gainF rc j n) = updP Q q fun p => { p with fam := gainF rc j n p.fam } := by unfold updF; rw [hc]
      unfold memP
      rw [h1, paP_upd (by intro c; rfl) j, hc]
      show ((famP _ q).bind _).map _ = ((famP Q q).bind _).map _
      unfold famP
      rw [look_upd, if_pos rfl]
      cases lookM Q q with
      | none => rfl
      | some p => exact gain_is
  · rw [hm.mem j e]
theorem sents_all {n:Int}:∀ (l:List Int)(P:Pk) {X:Int→Prop},(∀ j∈l,X j)→Moved ow dp X P (l.foldl (sent1 rc n) P)∧∀ j,(memP (l.foldl (sent1 rc n) P) j).map (·.aw)=(memP P j).map (·.aw)
 | [],P,X,hX=>⟨Moved.refl _ _ _ _,fun _=>rfl⟩
 | k :: l,P,X,hX=>by
  obtain⟨h1,h2⟩:=sents_all l (sent1 rc n P k) (X:=X) fun j hj=>hX j (.tail _ hj)
  exact⟨(sent1_moved (hX k (.head _))).trans h1,fun j=>(h2 j).trans (sent1_aw j)⟩
structure SlpW (ow:Option Rn→Int→Int)(dp:Int→Nat)(P Q:Pk)(l:List Int):Prop where
 wf:WfP dp Q
 noted:NotedBut ow Q fun _=>False
 stat:∀ j,statP Q j=statP P j
 mem:∀ j,j ∉ l→memP Q j=memP P j
 is:∀ j,(memP Q j).isSome=(memP P j).isSome
 leaf:∀ j∈l,lfP P j=true→awP Q j=false
 inner:∀ i,0 < i→(lookM Q i).isSome=true→lfP Q i=false→(awP Q i=true↔∃ k,paP Q k=some i∧awP Q k=true)
 keys:∀ q j,kf Q q j=kf P q j
theorem sleeps_all : ∀ {l : List Int} {id : Int} {P : Pk}, Up P id l → WfP dp P → NotedBut ow P (· ∈ l) → (∀ j ∈ l, awP P j = true) →
    (∀ i, 0 < i → (lookM P i).isSome = true → lfP P i = false → i ∉ l → (awP P i = true ↔ ∃ k, paP P k = some i ∧ awP P k = true)) → SlpW ow dp P (l.foldl (sent2 ow true) P) l
  | [], id, P, hU, hW, hN, ha, hI => ⟨hW, hN.weak (fun j _ h => (by cases h)), fun _ => rfl, fun _ _ => rfl, fun _ => rfl, fun j hj => (by cases hj), fun i hi hs hf => hI i hi hs hf (by simp), fun _ _ => rfl⟩
  | k :: l, id, P, hU, hW, hN, ha, hI => by
    have hfr := hU.fresh_head hW
    have hdp := hU.dp hW
    have hU0 := hU
    cases hU with
    | step h1 h2 h3 =>
      obtain ⟨c, hc, hcq⟩ := paP_some h2
      obtain ⟨p, hp, hpl, hpd⟩ := hW.par k c hc (by omega)
      obtain ⟨cnd, hcnd⟩ : ∃ b : Bool, b = true ↔ (lfP P k = true ∨ trP P k = []) := ⟨decide (lfP P k = true ∨ trP P k = []), by simp⟩
      -- the one sleeps, or not
      obtain ⟨Pa, hPa⟩ : ∃ Q, Q = (if cnd = true then updF P k (sleepF k) else P) := ⟨_, rfl⟩
      have hstep : sent2 ow true P k = noteP ow Pa k := by
        unfold sent2
        rw [hPa]
        by_cases hb : cnd = true
        · rw [if_pos hb, if_pos ⟨rfl, hcnd.1 hb⟩]
        · rw [if_neg hb, if_neg (fun h => hb (hcnd.2 h.2))]
      have hm : ∀ {X : Int → Prop}, X k → Moved ow dp X P Pa := fun hX => by
        rw [hPa]
        split
        · exact updF_moved (only_sleep k) (keep_sleep k) hX
        · exact Moved.refl _ _ _ _
      have hWa := (hm (X := (· = k)) rfl).wf hW
      have hNa : NotedBut ow Pa (· ∈ k :: l) := (hm (X := (· ∈ k :: l)) (.head _)).noted hN
      have hsa := (hm (X := (· = k)) rfl).stat
      have hma := (hm (X := (· = k)) rfl).mem
      have hkk := (hm (X := (· = k)) rfl).keys
      have hka : (memP Pa k).map (·.aw) = if cnd = true then (memP P k).map (fun _ => false) else (memP P k).map (·.aw) := by
        rw [hPa]
        by_cases hb : cnd = true
        · rw [if_pos hb, if_pos hb, memP_updF hc hp, memP_is hc hp]
          exact sleep_is
        · rw [if_neg hb, if_neg hb]
      have hawk : awP Pa k = !cnd := by
        have e : ∀ R : Pk, awP R k = (((memP R k).map (·.aw)).getD false) := fun R => by
          unfold awP
          rw [decide_eq_true h1]
          cases memP R k <;> rfl
        have h0 := ha k (.head _)
        rw [e] at h0 ⊢
        rw [hka]
        cases hmk : memP P k with
        | none => rw [hmk] at h0; cases h0
        | some m =>
          rw [hmk] at h0
          cases cnd with
          | true => rfl
          | false => exact h0
      have hisa : ∀ j, (memP Pa j).isSome = (memP P j).isSome := fun j => by
        by_cases e : j = k
        · subst e
          have := congrArg Option.isSome hka
          rw [Option.isSome_map] at this
          rw [this]
          split <;> rw [Option.isSome_map]
        · rw [hma j e]
      have hca : ∃ ca, lookM Pa k = some ca := Option.isSome_iff_exists.1 (by rw [look_of_stat (hsa k), hc]; rfl)
      obtain ⟨ca, hca⟩ := hca
      obtain ⟨c0, hc0, hcpa, _⟩ := stat_back (hsa k) hca
      rw [hc] at hc0
      cases hc0
      -- it is noted
      obtain ⟨a1, a2, a3, a4⟩ := note_step (ow := ow) hWa hNa h1 hca
      have asx := note_stat ow Pa k
      have akx := note_keys ow Pa k
      rw [hcpa, hcq] at a2
      rw [← hstep] at a1 a2 a3 a4 asx akx
      have hst1 : ∀ j, statP (sent2 ow true P k) j = statP P j := fun j => (asx j).trans (hsa j)
      have hmem1 : ∀ j, j ≠ k → memP (sent2 ow true P k) j = memP P j := fun j hj => (a3 j).trans (hma j hj)
      have haw1 : ∀ j, j ≠ k → awP (sent2 ow true P k) j = awP P j := fun j hj => awP_congr (hmem1 j hj)
      have hawk1 : awP (sent2 ow true P k) k = !cnd := (awP_congr (a3 k)).trans hawk
      generalize hP1 : sent2 ow true P k = P1 at a1 a2 a3 a4 asx akx hst1 hmem1 haw1 hawk1
      have hN1 : NotedBut ow P1 (· ∈ l) := a2.weak fun j hj h => by
        rcases h with ⟨hm, hne⟩ | h
        · rcases List.mem_cons.1 hm with hm | hm
          · exact absurd hm hne
          · exact hm
        · cases h3 with
          | root => omega
          | step k1 k2 k3 => rw [h]; exact .head _
      have hpa1 : ∀ j, paP P1 j = paP P j := fun j => pa_of_stat (hst1 j)
      have hne_l : ∀ j ∈ l, j ≠ k := fun j hj e => hfr (e ▸ hj)
      have hI1 : ∀ i, 0 < i → (lookM P1 i).isSome = true → lfP P1 i = false → i ∉ l → (awP P1 i = true ↔ ∃ j, paP P1 j = some i ∧ awP P1 j = true) := fun i hi hs hf hil => by
        rw [look_of_stat (hst1 i)] at hs
        rw [lf_of_stat (hst1 i)] at hf
        by_cases hik : i = k
        · subst hik
          rw [hawk1]
          have htr : trP P i = c.tr := by unfold trP; rw [hc]
          have hkid : ∀ j, paP P j = some i → 0 < j → j ≠ i ∧ awP P1 j = awP P j ∧ getE c.tr j = (if awP P j = true then some ((vP P j, j), fitP ow P j) else none) := fun j hj hj0 => by
            obtain ⟨cj, hcj, hcp⟩ := paP_some hj
            obtain ⟨pj, _, _, hdj⟩ := hW.par j cj hcj (by omega)
            rw [hcp] at hdj
            have hji : j ≠ i := fun e => by rw [e] at hdj; omega
            have hjl : j ∉ i :: l := fun hm => by have := hdp j hm; omega
            have hn := hN j cj c hj0 hjl hcj (by rw [hcp]; exact hc)
            refine ⟨hji, haw1 j hji, ?_⟩
            rw [hn]
            unfold fitP
            rw [hcj]
          constructor
          · intro hb
            have hnc : ¬ cnd = true := by simpa using hb
            have hne : trP P i ≠ [] := fun h => hnc (hcnd.2 (.inr h))
            rw [htr] at hne
            obtain ⟨e, he⟩ := List.exists_mem_of_ne_nil _ hne
            obtain ⟨he0, hep⟩ := hW.kids i c e hc he
            obtain ⟨_, k2, k3⟩ := hkid _ hep he0
            rw [getE_mem (hW.inv i c hc).ids he] at k3
            refine ⟨e.1.2, by rw [hpa1]; exact hep, ?_⟩
            rw [k2]
            by_cases hx : awP P e.1.2 = true
            · exact hx
            · rw [if_neg hx] at k3; cases k3
          · rintro ⟨j, hj, haj⟩
            rw [hpa1] at hj
            have hj0 := awP_pos haj
            obtain ⟨k1, k2, k3⟩ := hkid j hj hj0
            rw [k2] at haj
            rw [if_pos haj] at k3
            have hnc : ¬ cnd = true := fun hb => by
              rcases hcnd.1 hb with h | h
              · rw [hf] at h; cases h
              · rw [htr] at h
                rw [h] at k3
                cases k3
            simpa using hnc
        · rw [haw1 i hik, hI i hi hs hf (fun hm => by
            rcases List.mem_cons.1 hm with hm | hm
            · exact hik hm
            · exact hil hm)]
          have hnk : paP P k ≠ some i := fun e => by
            rw [h2] at e
            cases e
            cases h3 with
            | root => omega
            | step k1 k2 k3 => exact hil (.head _)
          constructor
          · rintro ⟨j, hj, haj⟩
            exact ⟨j, by rw [hpa1]; exact hj, by rw [haw1 j (fun e => hnk (e ▸ hj))]; exact haj⟩
          · rintro ⟨j, hj, haj⟩
            rw [hpa1] at hj
            exact ⟨j, hj, by rw [← haw1 j (fun e => hnk (e ▸ hj))]; exact haj⟩
      have hrec := sleeps_all (h3.congr hpa1) a1 hN1 (fun j hj => by rw [haw1 j (hne_l j hj)]; exact ha j (.tail _ hj)) hI1
      have hfold : (k :: l).foldl (sent2 ow true) P = l.foldl (sent2 ow true) P1 := by rw [← hP1]; rfl
      rw [hfold]
      refine ⟨hrec.wf, hrec.noted, fun j => (hrec.stat j).trans (hst1 j), fun j hj => ?_, fun j => (hrec.is j).trans ((congrArg Option.isSome (a3 j)).trans (hisa j)), fun j hj hf => ?_, hrec.inner, fun q j => (hrec.keys q j).trans ((akx q j).trans (hkk q j))⟩
      · rw [hrec.mem j (fun h => hj (.tail _ h)), hmem1 j (fun e => hj (e ▸ .head _))]
      · rcases List.mem_cons.1 hj with rfl | hj
        · rw [awP_congr (hrec.mem j hfr), hawk1]
          have := hcnd.2 (.inl hf)
          rw [this]; rfl
        · exact hrec.leaf j hj (by rw [lf_of_stat (hst1 j)]; exact hf)
theorem sent_inv {P : Pk} {wt : Int → Bool} (h : PInv ow dp P wt) {leaf n : Int} {more : Bool} {l : List Int} (hU : Up P leaf l) (hlf : lfP P leaf = true) (hl0 : 0 < leaf) (hwt : wt leaf = true) :
    PInv ow dp (sentP ow rc leaf n more l P) (fun j => if j = leaf then more else wt j) ∧ (∀ j, statP (sentP ow rc leaf n more l P) j = statP P j) ∧ ∀ q j, kf (sentP ow rc leaf n more l P) q j = kf P q j := by
  obtain ⟨l', rfl⟩ : ∃ l', l = leaf :: l' := by
    cases hU with
    | root => omega
    | step h1 h2 h3 => exact ⟨_, rfl⟩
  unfold sentP
  rw [if_pos hlf]
  obtain ⟨m1, g1⟩ := sents_all (ow := ow) (rc := rc) (dp := dp) (n := n) (leaf :: l') P (X := (· ∈ leaf :: l')) fun j hj => hj
  generalize List.foldl (sent1 rc n) P (leaf :: l') = P1 at m1 g1
  have hW1 := m1.wf h.wf
  have hN1 : NotedBut ow P1 (· ∈ leaf :: l') := m1.noted (h.noted.weak fun j _ h => h.elim)
  have haw : ∀ j, awP P1 j = awP P j := fun j => awP_map (g1 j)
  have his : ∀ j, (memP P1 j).isSome = (memP P j).isSome := fun j => by
    have := congrArg Option.isSome (g1 j)
    rwa [Option.isSome_map, Option.isSome_map] at this
  have hU1 := hU.congr m1.pa
  have hls := hU.look leaf (.head _)
  have hleaf := h.awk.leaf leaf hl0 hls hlf
  rw [hwt, Bool.and_true] at hleaf
  have hI : ∀ i, 0 < i → (lookM P1 i).isSome = true → lfP P1 i = false → (awP P1 i = true ↔ ∃ k, paP P1 k = some i ∧ awP P1 k = true) := fun i hi hs hf => by
    rw [look_of_stat (m1.stat i)] at hs
    rw [lf_of_stat (m1.stat i)] at hf
    rw [haw i, h.awk.inner i hi hs hf]
    constructor
    · rintro ⟨k, hk, ha⟩; exact ⟨k, by rw [m1.pa]; exact hk, by rw [haw]; exact ha⟩
    · rintro ⟨k, hk, ha⟩; exact ⟨k, by rw [← m1.pa]; exact hk, by rw [← haw]; exact ha⟩
  cases hsl : (!more && awP P1 leaf) with
  | false =>
    have hfun : sent2 ow false = noteP ow := by
      funext Q i
      unfold sent2
      rw [if_neg (fun h => by cases h.1)]
    rw [hfun]
    obtain ⟨b1, b2, b3, b4⟩ := notes_all hU1 hW1 hN1
    have bs := notes_stat ow (leaf :: l') P1
    have bk := notes_keys ow (leaf :: l') P1
    generalize List.foldl (noteP ow) P1 (leaf :: l') = P2 at b1 b2 b3 b4 bs bk
    have hst : ∀ j, statP P2 j = statP P j := fun j => (bs j).trans (m1.stat j)
    have hky : ∀ q j, kf P2 q j = kf P q j := fun q j => (bk q j).trans (m1.keys q j)
    have hA : ∀ j, awP P2 j = awP P j := fun j => (awP_congr (b3 j)).trans (haw j)
    refine ⟨⟨b1, b2, ⟨fun id hid hs hf => ?_, fun id hid hs hf => ?_, fun id hid hs hf => ?_, fun id hid hs => ?_⟩⟩, hst, hky⟩
    · rw [look_of_stat (hst id)] at hs
      rw [lf_of_stat (hst id)] at hf
      rw [hA, sh_of_stat (hst id), h.awk.leaf id hid hs hf]
      by_cases e : id = leaf
      · subst e
        rw [if_pos rfl, hwt]
        cases more with
        | true => rfl
        | false =>
          rw [haw, hleaf] at hsl
          have : shP P id = false := by simpa using hsl
          rw [this]; rfl
      · rw [if_neg e]
    · have := hI id hid (by rw [look_of_stat (bs id)] at hs; exact hs) (by rw [lf_of_stat (bs id)] at hf; exact hf)
      rw [awP_congr (b3 id), this]
      constructor
      · rintro ⟨k, hk, ha⟩; exact ⟨k, by rw [b4]; exact hk, by rw [awP_congr (b3 k)]; exact ha⟩
      · rintro ⟨k, hk, ha⟩; exact ⟨k, by rw [← b4]; exact hk, by rw [← awP_congr (b3 k)]; exact ha⟩
    · rw [look_of_stat (hst id)] at hs
      rw [lf_of_stat (hst id)] at hf
      rw [sh_of_stat (hst id)]
      exact h.awk.innersh id hid hs hf
    · rw [look_of_stat (hst id)] at hs
      rw [sh_of_stat (hst id), b3 id, his]
      exact h.awk.mems id hid hs
  | true =>
    simp only [Bool.and_eq_true, Bool.not_eq_true'] at hsl
    obtain ⟨hmore, hal⟩ := hsl
    have hall : ∀ {i : Int} {m : List Int}, Up P1 i m → (∀ x, m.head? = some x → awP P1 x = true) → ∀ j ∈ m, awP P1 j = true := by
      intro i m hu
      induction hu with
      | root => intro _ j hj; cases hj
      | @step i q m k1 k2 k3 ih =>
        intro hh j hj
        have hi := hh i rfl
        rcases List.mem_cons.1 hj with rfl | hj
        · exact hi
        · refine ih (fun x hx => ?_) j hj
          have hxq : x = q := by
            cases k3 with
            | root => cases hx
            | step _ _ _ => cases hx; rfl
          rw [hxq] at hx ⊢
          have hq0 : 0 < q := k3.pos q (List.mem_of_mem_head? hx)
          have hqs : (lookM P1 q).isSome = true := k3.look q (List.mem_of_mem_head? hx)
          exact (hI q hq0 hqs (inner_of_kid hW1 k2 (by omega))).2 ⟨i, k2, hi⟩
    have hS := sleeps_all hU1 hW1 hN1 (hall hU1 fun x hx => by cases hx; exact hal) fun i hi hs hf _ => hI i hi hs hf
    generalize List.foldl (sent2 ow true) P1 (leaf :: l') = P2 at hS
    have hst : ∀ j, statP P2 j = statP P j := fun j => (hS.stat j).trans (m1.stat j)
    refine ⟨⟨hS.wf, hS.noted, ⟨fun id hid hs hf => ?_, hS.inner, fun id hid hs hf => ?_, fun id hid hs => ?_⟩⟩, hst, fun q j => (hS.keys q j).trans (m1.keys q j)⟩
    · rw [look_of_stat (hst id)] at hs
      have hf2 := hf
      rw [lf_of_stat (hst id)] at hf
      rw [sh_of_stat (hst id)]
      by_cases e : id = leaf
      · subst e
        rw [if_pos rfl, hmore, Bool.and_false]
        exact hS.leaf id (.head _) (by rw [lf_of_stat (m1.stat id)]; exact hf)
      · have hm : id ∉ leaf :: l' := fun hm => by rw [hU.inner h.wf id hm e] at hf; cases hf
        rw [if_neg e, awP_congr (hS.mem id hm), haw]
        exact h.awk.leaf id hid hs hf
    · rw [look_of_stat (hst id)] at hs
      rw [lf_of_stat (hst id)] at hf
      rw [sh_of_stat (hst id)]
      exact h.awk.innersh id hid hs hf
    · rw [look_of_stat (hst id)] at hs
      rw [sh_of_stat (hst id), hS.is, his]
      exact h.awk.mems id hid hs
end
end
end Go.Proofs.YtmmeopjemkjllaaGreat
