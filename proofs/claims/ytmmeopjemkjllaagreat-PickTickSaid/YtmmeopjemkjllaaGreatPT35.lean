/- Lemmas of the claim. No conditions beyond those that each states. -/
import Derived.Test.YtmmeopjemkjllaaGreatPT34
set_option linter.unusedVariables false
set_option linter.unusedSimpArgs false
set_option maxRecDepth 100000
set_option maxHeartbeats 8000000
namespace Go.Proofs.YtmmeopjemkjllaaGreat
section
open Go.RowKit Go.Maps
theorem leastL_spec:∀ {l:List Int},l≠[]→leastL l∈l∧∀ x∈l,leastL l≤x
 | [],h=>absurd rfl h
 | [a],_=>⟨.head _,fun x hx=>by rw [List.mem_singleton.1 hx];exact Int.le_refl _⟩
 | a :: b :: l,_=>by
  obtain⟨h1,h2⟩:=leastL_spec (l:=b :: l) (by simp)
  show min a (leastL (b :: l))∈_∧∀ x∈_,min a (leastL (b :: l))≤x
  refine⟨?_,fun x hx=>?_⟩
  ·by_cases h:a≤leastL (b :: l)
   ·rw [Int.min_eq_left h];exact .head _
   ·rw [Int.min_eq_right (by omega)];exact .tail _ h1
  ·rcases List.mem_cons.1 hx with rfl | hx
   ·omega
   ·have:=h2 x hx;omega
theorem greatL_spec:∀ {l:List Int},l≠[]→greatL l∈l∧∀ x∈l,x≤greatL l
 | [],h=>absurd rfl h
 | [a],_=>⟨.head _,fun x hx=>by rw [List.mem_singleton.1 hx];exact Int.le_refl _⟩
 | a :: b :: l,_=>by
  obtain⟨h1,h2⟩:=greatL_spec (l:=b :: l) (by simp)
  show max a (greatL (b :: l))∈_∧∀ x∈_,x≤max a (greatL (b :: l))
  refine⟨?_,fun x hx=>?_⟩
  ·by_cases h:greatL (b :: l)≤a
   ·rw [Int.max_eq_left h];exact .head _
   ·rw [Int.max_eq_right (by omega)];exact .tail _ h1
  ·rcases List.mem_cons.1 hx with rfl | hx
   ·omega
   ·have:=h2 x hx;omega
theorem fold_min (v:Int→Int):∀ (xs:List Int)(a:Int),xs.foldl (fun a x=>min a (v x)) a≤a∧(∀ x∈xs,xs.foldl (fun a x=>min a (v x)) a≤v x)∧(xs.foldl (fun a x=>min a (v x)) a=a∨∃ x∈xs,xs.foldl (fun a x=>min a (v x)) a=v x)
 | [],a=>⟨Int.le_refl _,fun x hx=>(by cases hx),.inl rfl⟩
 | y :: xs,a=>by
  obtain⟨h1,h2,h3⟩:=fold_min v xs (min a (v y))
  refine⟨?_,fun x hx=>?_,?_⟩
  ·show xs.foldl _ (min a (v y))≤a
   omega
  ·rcases List.mem_cons.1 hx with rfl | hx
   ·show xs.foldl _ (min a (v x))≤v x
    omega
   ·exact h2 x hx
  ·show xs.foldl _ (min a (v y))=a∨_
   rcases h3 with h3 | ⟨x,hx,h3⟩
   ·by_cases h:a≤v y
    ·exact .inl (by omega)
    ·exact .inr ⟨y,.head _,by show xs.foldl _ (min a (v y))=_;omega⟩
   ·exact .inr ⟨x,.tail _ hx,h3⟩
theorem fold_max (v:Int→Int):∀ (xs:List Int)(a:Int),a≤xs.foldl (fun a x=>max a (v x)) a∧(∀ x∈xs,v x≤xs.foldl (fun a x=>max a (v x)) a)∧(xs.foldl (fun a x=>max a (v x)) a=a∨∃ x∈xs,xs.foldl (fun a x=>max a (v x)) a=v x)
 | [],a=>⟨Int.le_refl _,fun x hx=>(by cases hx),.inl rfl⟩
 | y :: xs,a=>by
  obtain⟨h1,h2,h3⟩:=fold_max v xs (max a (v y))
  refine⟨?_,fun x hx=>?_,?_⟩
  ·show a≤xs.foldl _ (max a (v y))
   omega
  ·rcases List.mem_cons.1 hx with rfl | hx
   ·show v x≤xs.foldl _ (max a (v x))
    omega
   ·exact h2 x hx
  ·show xs.foldl _ (max a (v y))=a∨_
   rcases h3 with h3 | ⟨x,hx,h3⟩
   ·by_cases h:v y≤a
    ·exact .inl (by omega)
    ·exact .inr ⟨y,.head _,by show xs.foldl _ (max a (v y))=_;omega⟩
   ·exact .inr ⟨x,.tail _ hx,h3⟩
theorem mem_of_lookK {α:Type} {k:Int} {v:α}:∀ {M:List (Int × α)},lookM M k=some v→(k,v)∈M
 | [],h=>by cases h
 | p :: r,h=>by
  unfold lookM at h
  by_cases e:p.1=k
  ·rw [if_pos e] at h
   cases h
   rw [← e];exact .head _
  ·rw [if_neg e] at h
   exact .tail _ (mem_of_lookK h)
theorem awk_mem {F:Fam} (hR:Rising F.m) {xs:List Int} (hA:Awk F.m xs)(v:Int):(∃ x∈xs,fvF F x=v)↔v∈upV F:=by
 unfold upV
 constructor
 ·rintro ⟨x,hx,rfl⟩
  obtain⟨m,hm,ha⟩:=(hA.2 x).1 hx
  unfold fvF
  rw [hm]
  exact List.mem_map.2 ⟨(x,m),List.mem_filter.2 ⟨mem_of_lookK hm,ha⟩,rfl⟩
 ·intro h
  obtain⟨q,hq,rfl⟩:=List.mem_map.1 h
  obtain⟨hq,ha⟩:=List.mem_filter.1 hq
  have hl:=look_of_mem (k:=q.1) (c:=q.2) hR hq
  exact⟨q.1,(hA.2 q.1).2 ⟨q.2,hl,ha⟩,by unfold fvF;rw [hl]⟩
theorem startU_eq {F:Fam} (hR:Rising F.m)(hv:∀ x m,lookM F.m x=some m→0≤m.v∧m.v≤9223372036854775808)(m:Mem) {xs:List Int} (hA:Awk F.m xs):startU F m xs=startV F m:=by
 have hmem:=awk_mem hR hA
 have hb:∀ v∈upV F,0≤v∧v≤9223372036854775808:=fun v h=>by
  unfold upV at h
  obtain⟨q,hq,rfl⟩:=List.mem_map.1 h
  exact hv q.1 q.2 (look_of_mem (k:=q.1) (c:=q.2) hR (List.mem_filter.1 hq).1)
 obtain⟨a1,a2,a3⟩:=fold_min (fvF F) xs 9223372036854775808
 obtain⟨b1,b2,b3⟩:=fold_max (fvF F) xs 0
 unfold startU startV
 by_cases hn:upV F=[]
 ·have hx:xs=[]:=by
   cases xs with
   | nil=>rfl
   | cons x r =>
    have:=(hmem (fvF F x)).1 ⟨x,.head _,rfl⟩
    rw [hn] at this;cases this
  rw [if_pos hn,hx]
  rfl
 ·rw [if_neg hn]
  obtain⟨c1,c2⟩:=leastL_spec hn
  obtain⟨d1,d2⟩:=greatL_spec hn
  have hl:loU F xs=leastL (upV F):=by
   obtain⟨x,hx,e⟩:=(hmem _).2 c1
   have h1:loU F xs≤leastL (upV F):=by rw [← e];exact a2 x hx
   have h2:leastL (upV F)≤loU F xs:=by
    rcases a3 with a3 | ⟨y,hy,a3⟩
    ·have:=(hb _ c1).2
     show leastL (upV F)≤xs.foldl _ _
     omega
    ·show leastL (upV F)≤xs.foldl _ _
     rw [a3]
     exact c2 _ ((hmem _).1 ⟨y,hy,rfl⟩)
   omega
  have hg:hiU F xs=greatL (upV F):=by
   obtain⟨x,hx,e⟩:=(hmem _).2 d1
   have h1:greatL (upV F)≤hiU F xs:=by rw [← e];exact b2 x hx
   have h2:hiU F xs≤greatL (upV F):=by
    rcases b3 with b3 | ⟨y,hy,b3⟩
    ·have:=(hb _ d1).1
     show xs.foldl _ _≤greatL (upV F)
     omega
    ·show xs.foldl _ _≤greatL (upV F)
     rw [b3]
     exact d2 _ ((hmem _).1 ⟨y,hy,rfl⟩)
   omega
  rw [hl,hg,if_neg]
  have:=c2 _ d1
  omega
theorem startV_bound {F:Fam} (hR:Rising F.m)(hv:∀ x m,lookM F.m x=some m→0≤m.v∧m.v≤9223372036854775808)(hk:0≤F.mark∧F.mark≤9223372036854775808) {id:Int} {m:Mem} (hm:lookM F.m id=some m):0≤startV F m∧startV F m≤9223372036854775808:=by
 have hb:∀ v∈upV F,0≤v∧v≤9223372036854775808:=fun v h=>by
  unfold upV at h
  obtain⟨q,hq,rfl⟩:=List.mem_map.1 h
  exact hv q.1 q.2 (look_of_mem (k:=q.1) (c:=q.2) hR (List.mem_filter.1 hq).1)
 have h0:=hv id m hm
 unfold startV
 by_cases hn:upV F=[]
 ·rw [if_pos hn];omega
 ·rw [if_neg hn]
  have c:=leastL_spec hn
  have d:=greatL_spec hn
  have:=hb _ c.1
  have:=hb _ d.1
  have:=c.2 _ d.1
  omega
end
section
open Go.RowKit Go.Maps
attribute [local go_sem ↓] Go.wp_at_zero Go.wp_at_succ
attribute [local go_sem] quietR quietAtR quietUponR midAt midUpon
structure FamN (F:Fam):Prop where
 v:∀ x m,lookM F.m x=some m→0≤m.v∧m.v≤9223372036854775808
 tot:∀ x m,lookM F.m x=some m→0≤m.tot∧m.tot≤4611686018427387904
 few:∀ x m,lookM F.m x=some m→m.rn.A.length < 800000
 mark:0≤F.mark∧F.mark≤9223372036854775808
 len:F.m.length < 100000
section
variable {w0 W W' : World} {A : Nat → Prop} {f mb r : Nat} {ps : Int → Nat} {F : Fam} {id mark mark' : Int} {m m' : Mem} {S : Nat → Prop} {cs cs' : Array Value} {x x' : Rn} {v v' : Value}
theorem Sx.foc_fam (h:Sx w0 A W (FocX f mb ps id r cs x mark F)):Blk W f 112 (famC mb mark):=(Sx.swap2 h).swap.box
theorem Sx.foc_set (h:Sx w0 A W (FocX f mb ps id r cs x mark F))(i:Nat)(he:cs.setIfInBounds i v=cs'):Sx w0 A (W.setCell ⟨ps id,i,none⟩ v) (FocX f mb ps id r cs' x mark F):=h.set good_foc1 he
theorem Sx.foc_mark (h:Sx w0 A W (FocX f mb ps id r cs x mark F)):Sx w0 A (W.setCell ⟨f,1,none⟩ (.int .u64 mark')) (FocX f mb ps id r cs x mark' F) :=
 (((Sx.swap2 h).swap.set (cs':=famC mb mark') ((good_box _ _ _).star ((good_run _ _).star (good_restF _ _ _ _))) rfl).swap).swap2
theorem Sx.foc_run {φ:Ending→Prop} {fn:FuncId} {args:Array Value} {prog:Program} (h:Sx w0 A W (FocX f mb ps id r cs x mark F))(ha:Acts φ (RunO r x) (RunO r x') fn args prog W):Calls prog fn args W fun e W'=>φ e∧Sx w0 A W' (FocX f mb ps id r cs x' mark F) :=
 (h.swap.act (good_run _ _) ((good_box _ _ _).star good_foc2) ha).mono fun e W' ⟨h1,h2⟩=>⟨h1,h2.swap⟩
theorem Sx.foc_getRun (h:Sx w0 A W (FocX f mb ps id r cs x mark F)):∃ S,RunO r x W S:=h.rest.first
theorem Sx.foc_ne (h:Sx w0 A W (FocX f mb ps id r cs x mark F)):¬ ps id=f:=fun e=>by
 have h1:=h.box
 have h2:=h.foc_fam
 rw [e] at h1
 have:=h1.symm.trans h2
 simp only [Option.some.injEq,Obj.cells.injEq] at this
 exact absurd this.2.1 (by decide)
end
theorem made_any (p f mb r:Nat)(m:Mem)(mark v:Int)(w:World)(h1:Blk w p 139 (memC m r))(h2:Blk w f 112 (famC mb mark))(hne:¬ p=f) :
  Calls Tryz.prog 86 #[.pointer (some ⟨f,0,none⟩),.pointer (some ⟨p,0,none⟩),.int .u64 v] w fun e w'=>e=.returned (.tuple #[])∧(w.setCell ⟨p,1,none⟩ (.int .u64 v)).setCell ⟨f,1,none⟩ (.int .u64 (max mark v))=w':=by
 have c1:=h1.cell 1;have f1:=h1.frozen 1
 have g1:=h2.cell 1;have e1:=h2.frozen 1
 have hne2:¬ f=p:=fun e=>hne e.symm
 unfold memC at c1
 unfold famC at g1
 simp only [lTA,lCZ,lCS] at c1 g1
 clear h1 h2
 go_enter Tryz.func86,Tryz.ntmps86
 go_wp2_with fail
 go_returns
 exact⟨rfl,rfl⟩
theorem fo_wake {W:World} {f:Nat} {F:Fam} (id:Int)(hid:(Lit.int .i64 id).wf=true)(hN:FamN F) :
  Acts (fun e=>e=.returned (.tuple #[])) (FamO f F) (FamO f (wakeF id F)) 43 #[.pointer (some ⟨f,0,none⟩),.int .i64 id] Tryz.prog W:=fun A ⟨mb,ps,h⟩=>by
 have ha:=vat_any id hid h
 have hR:=h.rising
 unfold mpV at ha
 unfold wakeF
 cases hl:lookM F.m id with
 | none =>
  rw [hl] at ha
  dsimp only at ha ⊢
  have H:=Lib.hid h
  clear h hR hN
  go_enter Tryz.func43,Tryz.ntmps43
  go_wp2_with (go_at_call 84;refine ha.mono ?_;rintro e w1 ⟨rfl,rfl⟩)
  go_returns
  exact⟨rfl,A,⟨mb,ps,H.out⟩,Went.refl _ _⟩
 | some m =>
  rw [hl] at ha
  have hst:=vstart_any f mb ps F id m W A h hl hN.v
  have hsb:=startV_bound hR hN.v hN.mark hl
  have hse:∀ xs,Awk F.m xs→startU F m xs=startV F m:=fun xs hx=>startU_eq hR hN.v m hx
  obtain⟨r,hs⟩:=(Sx.start (P:=FamX f mb ps F) h).focus hl
  have htb:=hN.tot id m hl
  have hfw:=hN.few id m hl
  have c3:=hs.box.cell 3
  unfold memC at c3
  simp only [lTA,lCZ,lCS] at c3
  dsimp only at ha ⊢
  have H:=Lib.hid hs
  have HL:=Lib.hid hl
  have H0:=Lib.hid h
  have HST:=Lib.hid hst
  have HSE:=Lib.hid hse
  have HFW:=Lib.hid hfw
  clear h hs hl hst hse hR hN hfw
  cases haw:m.aw with
  | true =>
   rw [if_pos rfl]
   rw [haw] at c3
   clear haw
   go_enter Tryz.func43,Tryz.ntmps43
   go_wp2_with (go_at_call 84;refine ha.mono ?_;rintro e w1 ⟨rfl,rfl⟩)
   go_returns
   exact⟨rfl,A,⟨mb,ps,H0.out⟩,Went.refl _ _⟩
  | false =>
   rw [if_neg (by decide)]
   rw [haw] at c3
   obtain⟨v',hv'⟩:∃ v',v'=startV F m:=⟨_,rfl⟩
   rw [← hv'] at hsb HSE ⊢
   clear haw hv'
   go_enter Tryz.func43,Tryz.ntmps43
   go_upto_region 3 with (first
    | (go_at_call 84;refine ha.mono ?_;rintro e w1 ⟨rfl,rfl⟩)
    | (go_at_call 87;refine HST.out.mono ?_;rintro e w1 ⟨xs,hxs,rfl,hb1⟩;rw [HSE.out xs hxs];have H1:=Lib.hid (H.out.later good_foc hb1);clear hxs hb1)
    | (go_at_call 86;refine (made_any _ f mb r m F.mark v' _ H1.out.box H1.out.foc_fam H1.out.foc_ne).mono ?_;rintro e w2 ⟨rfl,rfl⟩))
   have h2:=(H1.out.foc_set (v:=.int .u64 v') 1 (cs':=memC ⟨m.tot,v',m.rn,m.aw⟩ r) rfl).foc_mark (mark':=max F.mark v')
   have H2:=Lib.hid h2
   clear h2 H1 c3
   generalize (w1.setCell ⟨ps id,1,none⟩ (.int .u64 v')).setCell ⟨f,1,none⟩ (.int .u64 (max F.mark v'))=w2 at H2 ⊢
   have o0:=fun e=>(over_cell (w:=w2) (e:=e) (o:=0) H2.out.box.lt).trans (H2.out.box.cell 0)
   have o1:=fun e=>(over_cell (w:=w2) (e:=e) (o:=1) H2.out.box.lt).trans (H2.out.box.cell 1)
   have o2:=fun e=>(over_cell (w:=w2) (e:=e) (o:=2) H2.out.box.lt).trans (H2.out.box.cell 2)
   unfold memC at o0 o1 o2
   simp only [lTA,lCZ,lCS] at o0 o1 o2
   refine wp_region_over_tail 12 (by kernel_rfl) (by kernel_rfl) ?_
   simp only [List.take_succ_cons,List.take_zero,List.drop_succ_cons,List.drop_zero]
   repeat (first | go_big_quiet_skip | (go_big_quiet_want;go_big_quiet_op;go_big_quiet_on))
   refine wpQuiet_nil ?_
   rintro W3 ⟨e,he⟩
   have hb3:=over_below w2 e
   rw [← he] at hb3
   have H3:=Lib.hid (H2.out.later good_foc hb3)
   clear he o0 o1 o2 hb3 H2
   have hU1:U v':=by unfold U;omega
   have hU2:U m.tot:=by unfold U;omega
   have HU:=Lib.hid (And.intro hU1 hU2)
   clear hU1 hU2
   go_wp2_with (go_at_call 88;refine (H3.out.foc_run (ro_start v' m.tot HU.out.1 HU.out.2 (by have:=HFW.out;omega))).mono ?_;rintro e w4 ⟨rfl,h4⟩;have c3:=h4.box.cell 3;have f3:=h4.box.frozen 3;unfold memC at c3;simp only [lTA,lCZ,lCS] at c3;have H4:=Lib.hid h4;clear h4)
   go_returns
   exact⟨rfl,(Sx.unfocus (m':=⟨m.tot,v',startR m.rn v' m.tot,true⟩) (H4.out.foc_set 3 rfl) HL.out).done⟩
end
section
open Go.RowKit Go.Maps
attribute [local go_sem ↓] Go.wp_at_zero Go.wp_at_succ
attribute [local go_sem] quietR quietAtR quietUponR midAt midUpon
theorem fo_gain {W:World} {f:Nat} {F:Fam} (id n:Int)(hid:(Lit.int .i64 id).wf=true)(hn:U n)(hN:FamN F) :
  Acts (fun e=>e=.returned (.tuple #[])) (FamO f F) (FamO f (gainF reachR id n F)) 56 #[.pointer (some ⟨f,0,none⟩),.int .i64 id,.int .u64 n] Tryz.prog W:=fun A ⟨mb,ps,h⟩=>by
 have ha:=vat_any id hid h
 unfold mpV at ha
 unfold gainF
 cases hl:lookM F.m id with
 | none =>
  rw [hl] at ha
  dsimp only at ha ⊢
  have H:=Lib.hid h
  clear h hN
  go_enter Tryz.func56,Tryz.ntmps56
  go_wp2_with (go_at_call 84;refine ha.mono ?_;rintro e w1 ⟨rfl,rfl⟩)
  go_returns
  exact⟨rfl,A,⟨mb,ps,H.out⟩,Went.refl _ _⟩
 | some m =>
  rw [hl] at ha
  obtain⟨r,hs⟩:=(Sx.start (P:=FamX f mb ps F) h).focus hl
  have htb:=hN.tot id m hl
  obtain⟨n0,n1⟩:=hn
  have c0:=hs.box.cell 0
  have f0:=hs.box.frozen 0
  unfold memC at c0
  simp only [lTA,lCZ,lCS] at c0
  dsimp only at ha ⊢
  obtain⟨t',ht'⟩:∃ t',t'=m.tot+min n (capC - m.tot):=⟨_,rfl⟩
  rw [← ht']
  have htn:m.tot+min n (4611686018427387904 - m.tot)=t':=ht'.symm
  have hsub:0≤4611686018427387904 - m.tot:=by omega
  have hU:U t':=by unfold U;omega
  have H:=Lib.hid hs
  have HL:=Lib.hid hl
  have HU:=Lib.hid hU
  clear h hs hl hN hU ht'
  cases haw:m.aw with
  | false =>
   rw [if_neg (by decide)]
   go_enter Tryz.func56,Tryz.ntmps56
   go_upto_region 2 with (go_at_call 84;refine ha.mono ?_;rintro e w1 ⟨rfl,rfl⟩)
   go_region
   have h1:=(H.out.foc_set (v:=.int .u64 t') 0 (cs':=memC ⟨t',m.v,m.rn,m.aw⟩ r) rfl).later good_foc ((Below.refl _ _).drew)
   have H1:=Lib.hid h1
   clear h1 H c0 f0 htn hsub n0 n1 htb
   generalize (W.setCell ⟨ps id,0,none⟩ (.int .u64 t')).drew=w1 at H1 ⊢
   have c3:=H1.out.box.cell 3
   unfold memC at c3
   simp only [lTA,lCZ,lCS] at c3
   rw [haw] at c3 H1
   go_wp2_with fail
   go_returns
   exact⟨rfl,(Sx.unfocus (m':=⟨t',m.v,m.rn,false⟩) H1.out HL.out).done⟩
  | true =>
   rw [if_pos rfl]
   go_enter Tryz.func56,Tryz.ntmps56
   go_upto_region 2 with (go_at_call 84;refine ha.mono ?_;rintro e w1 ⟨rfl,rfl⟩)
   go_region
   have h1:=(H.out.foc_set (v:=.int .u64 t') 0 (cs':=memC ⟨t',m.v,m.rn,m.aw⟩ r) rfl).later good_foc ((Below.refl _ _).drew)
   have H1:=Lib.hid h1
   clear h1 H c0 f0 htn hsub n0 n1 htb
   generalize (W.setCell ⟨ps id,0,none⟩ (.int .u64 t')).drew=w1 at H1 ⊢
   have c3:=H1.out.box.cell 3
   unfold memC at c3
   simp only [lTA,lCZ,lCS] at c3
   rw [haw] at c3 H1
   go_upto_region 4 with fail
   clear c3
   have H3:=Lib.hid (H1.out.later good_foc ((Below.refl _ w1).drew))
   have o0:=H1.out.box.cell 0
   have o2:=H1.out.box.cell 2
   unfold memC at o0 o2
   simp only [lTA,lCZ,lCS] at o0 o2
   obtain⟨S3,hS3⟩:=H3.out.foc_getRun
   have HR:=Lib.hid (ro_reach hS3 t' HU.out)
   clear hS3 H1
   go_region_with (first
    | (go_at_call 102;refine HR.out.mono ?_;rintro e w4 ⟨rfl,hb4⟩;have H4:=Lib.hid (H3.out.later good_foc hb4);clear hb4)
    | (go_at_call 86;refine (made_any _ f mb r ⟨t',m.v,m.rn,true⟩ F.mark (reachR m.rn t') _ H4.out.box H4.out.foc_fam H4.out.foc_ne).mono ?_;rintro e w5 ⟨rfl,rfl⟩))
   all_goals
    go_wp2_with fail
    go_returns
    exact⟨rfl,(Sx.unfocus (m':=⟨t',reachR m.rn t',m.rn,true⟩) ((H4.out.foc_set (v:=.int .u64 (reachR m.rn t')) 1 (cs':=memC ⟨t',reachR m.rn t',m.rn,true⟩ r) rfl).foc_mark (mark':=max F.mark (reachR m.rn t'))) HL.out).done⟩
end
section
open Go.RowKit Go.Maps
attribute [local go_sem ↓] Go.wp_at_zero Go.wp_at_succ
attribute [local go_sem] quietR quietAtR quietUponR midAt midUpon
@[go_sem] theorem vmap_nil (m:Nat)(W:World):(binOp .eql 110 (.map (some m)) (.map none)).run Tryz.prog W=.ok (.bool false) W:=by kernel_rfl
theorem Sx.turn {w0 W W':World} {A:Nat→Prop} {mb:Nat} {L L':List (Int × Value)} {R:Ob} (hR:Good R)(h:Sx w0 A W (Star (MapO mb L) R))(hm:MapI Tryz.prog 3 W' mb L')(ht:W.mapTurned W' mb):Sx w0 A W' (Star (MapO mb L') R):=by
 obtain⟨S,⟨A1,B1,hS,hd,⟨hp,hA1⟩,hr⟩,hw0⟩:=h
 obtain⟨S',hs,hw2⟩:=Star.step (good_map mb L) hR hS hd ⟨hp,hA1⟩ hr (Q:=MapO mb L') (A':=A1) ⟨hm,hA1⟩ ⟨Fr.of_grown ht.grown fun b e=>by cases e;exact (hA1 mb).2 rfl,fun b h=>.inl h⟩
 exact⟨S',hs,hw0.trans hw2⟩
theorem fo_new (w:World):Calls Tryz.prog 31 #[] w (NewO w fun f=>FamO f fam0):=by
 have hmm:=@run_makeMap Tryz.prog
 go_enter Tryz.func31,Tryz.ntmps31
 go_wp2_with fail
 go_ret
 have h1:Sx w (fun _=>False) (w.alloc (.map #[] 0)) (Star (MapO w.heap.size []) Emp) :=
  (Sx.start (P:=Emp) (fun b h=>h)).made (S:=fun b=>b=w.heap.size) good_emp (good_map _ _) ((Below.refl w.heap.size w).alloc (Nat.le_refl _) (.map #[] 0)) ⟨MapI.made w,fun b=>Iff.rfl⟩ fun b hb=>by rw [hb];exact Nat.le_refl _
 have h2:=h1.alloc ((good_map _ _).star good_emp) #[.map (some w.heap.size),.int .u64 0] 112
 rw [World.size_alloc] at h2
 obtain⟨S,hs,hw⟩:=h2
 refine⟨_,rfl,⟨hw.fr.os,hw.fr.tape,hw.fr.output,hw.fr.size,fun b hb=>hw.fr.block b hb fun h=>h⟩,S,⟨w.heap.size,fun _=>0,hs⟩,fun b hb=>(hw.own b hb).elim (fun h=>h.elim) id⟩
theorem fo_drop {W:World} {f:Nat} {F:Fam} (id:Int)(hid:(Lit.int .i64 id).wf=true) :
  Acts (fun e=>∃ b,e=.returned (.bool b)) (FamO f F) (FamO f (outF id F)) 130 #[.pointer (some ⟨f,0,none⟩),.int .i64 id] Tryz.prog W:=fun A ⟨mb,ps,h⟩=>by
 have ha:=vat_any id hid h
 unfold mpV at ha
 have c0:=h.box.cell 0
 simp only [lTA,lCZ,lCS] at c0
 have hR:=h.rising
 have hdel:=fun ty=>h.map.drop (k:=id) (E:=136) (T:=110) Tryz.underlying3 Tryz.underlying110 hid ty
 have H:=Lib.hid h
 clear h
 cases hl:lookM F.m id with
 | none =>
  rw [hl] at ha
  dsimp only at ha
  have HL:=Lib.hid hl
  clear hdel hl
  go_enter Tryz.func130,Tryz.ntmps130
  go_wp2_with (go_at_call 84;refine ha.mono ?_;rintro e w1 ⟨rfl,rfl⟩)
  go_ret
  have:outF id F=F:=by unfold outF;rw [del_none HL.out]
  rw [this]
  exact⟨⟨_,rfl⟩,A,⟨mb,ps,H.out⟩,Went.refl _ _⟩
 | some m =>
  rw [hl] at ha
  dsimp only at ha
  obtain⟨W2,hr,hm2,htn⟩:=hdel 0
  have HD:=Lib.hid (And.intro hm2 (And.intro htn (And.intro hl hR)))
  clear hdel hm2 htn hl hR
  go_enter Tryz.func130,Tryz.ntmps130
  go_wp2_with (go_at_call 84;refine ha.mono ?_;rintro e w1 ⟨rfl,rfl⟩)
  go_ret
  obtain⟨hm2,htn,hl,hR⟩:=HD.out
  have h0:Sx W A W (Star (MapO mb (ptV ps F.m)) (Star (BoxO f 112 #[.map (some mb),.int .u64 F.mark]) (StarL (fun q=>memB (ps q.1) q.2) F.m))):=(Sx.start (P:=FamX f mb ps F) H.out).swap
  have h1:=h0.turn ((good_box _ _ _).star (good_starL (fun q=>good_mem _ _) _)) hm2 htn
  rw [← del_pt] at h1
  have h2:=h1.weak fun h=>h.under fun h=>h.under fun h=>(starL_look hR hl).1 h
  have h3:=h2.swap2.swap.rest.swap
  exact⟨⟨_,rfl⟩,(h3.weak fun h=>⟨mb,ps,h⟩).done⟩
theorem fam_added {w0 W W':World} {A:Nat→Prop} {f mb r p:Nat} {ps:Int→Nat} {F:Fam} {id:Int} {c:Int × Int × Int} (hn:lookM F.m id=none)
  (h:Sx w0 A W (Star (BoxO p 139 (memC (mem0 c) r)) (Star (RunO r (rn0 c)) (FamX f mb ps F))))(hm:MapI Tryz.prog 3 W' mb (putM (ptV ps F.m) id (.pointer (some ⟨p,0,none⟩))))(ht:W.mapTurned W' mb):Sx w0 A W' (FamO f (addF id c F)):=by
 have h1:Sx w0 A W (Star (MapO mb (ptV ps F.m)) (Star (BoxO p 139 (memC (mem0 c) r)) (Star (RunO r (rn0 c)) (Star (BoxO f 112 #[.map (some mb),.int .u64 F.mark]) (StarL (fun q=>memB (ps q.1) q.2) F.m))))):=(Sx.swap3 h).swap2.swap
 have hR:Rising F.m:=by
  obtain⟨S,hs⟩:=h1.first
  exact rising_pt.1 (hs.1.rising (int_keyed Tryz.underlying3))
 have h2:=(h1.turn ((good_box _ _ _).star ((good_run _ _).star ((good_box _ _ _).star (good_starL (fun q=>good_mem _ _) _)))) hm ht).swap.swap2
 refine h2.weak fun {S} h=>?_
 have h3:Star (memB p (mem0 c)) (Star (MapO mb (putM (ptV ps F.m) id (.pointer (some ⟨p,0,none⟩)))) (Star (BoxO f 112 #[.map (some mb),.int .u64 F.mark]) (StarL (fun q=>memB (ps q.1) q.2) F.m))) W' S:=(Star.unassoc h).over fun h=>⟨r,h⟩
 have h4:=Star.swap ((Star.swap h3).under Star.swap)
 have hne:∀ q∈F.m,q.1≠id:=look_none.1 hn
 refine⟨mb,fun k=>if k=id then p else ps k,h4.under fun h=>?_⟩
 have e1:ptV (fun k=>if k=id then p else ps k) (putM F.m id (mem0 c))=putM (ptV ps F.m) id (.pointer (some ⟨p,0,none⟩)):=by
  rw [put_pt (ps:=ps) hR fun q hq hk=>if_neg hk,if_pos rfl]
 refine (h.over fun h=>?_).under fun h=>?_
 ·show MapO mb (ptV _ (putM F.m id (mem0 c))) _ _
  rw [e1];exact h
 ·refine (starL_put hR).2 ?_
  rw [del_none hn]
  refine (h.over fun h=>?_).under fun h=>starL_congr (fun q hq S hs=>?_) h
  ·show memB (if id=id then p else ps id) (mem0 c) _ _
   rw [if_pos rfl];exact h
  ·show memB (if q.1=id then p else ps q.1) q.2 _ _
   rw [if_neg (hne q hq)];exact hs
theorem fo_add {W:World} {f:Nat} {F:Fam} (id:Int)(c:Int × Int × Int)(hid:(Lit.int .i64 id).wf=true)(hn:lookM F.m id=none)(g0:0≤c.1)(g1:0≤c.2.1)(g2:0≤c.2.2)(hmay:mayB c.1 c.2.1 c.2.2=true)(hlen:F.m.length < 100000) :
  Acts (fun e=>e=.returned (.bool true)) (FamO f F) (FamO f (addF id c F)) 37 #[.pointer (some ⟨f,0,none⟩),.int .i64 id,.agg #[.int .u64 c.1,.int .u64 c.2.1,.int .u64 c.2.2]] Tryz.prog W:=fun A ⟨mb,ps,h⟩=>by
 obtain⟨F1,L1,R1⟩:=c
 dsimp only at g0 g1 g2 hmay ⊢
 have hb0:=(Below.refl W.heap.size W).alloc (Nat.le_refl _) (.cells #[.int .u64 F1,.int .u64 L1,.int .u64 R1] 30)
 have hX:=Blk.new W 30 #[.int .u64 F1,.int .u64 L1,.int .u64 R1]
 have H:=Lib.hid (And.intro ((Sx.start (P:=FamX f mb ps F) h).later (good_famX _ _ _ _) hb0) hX)
 have HN:=Lib.hid (And.intro hn (And.intro hmay (And.intro g0 (And.intro g1 (And.intro g2 hlen)))))
 clear h hb0 hX hn hmay g0 g1 g2 hlen
 go_enter Tryz.func37,Tryz.ntmps37
 go_upto_region 1 with fail
 generalize hW1:W.alloc (.cells #[.int .u64 F1,.int .u64 L1,.int .u64 R1] 30)=W1 at H ⊢
 obtain⟨B,hB⟩:∃ B,B=W.heap.size:=⟨_,rfl⟩
 rw [← hB] at H ⊢
 clear hB hW1
 obtain⟨S1,hS1,hw1⟩:=H.out.1
 have ha:=vat_any id hid hS1
 unfold mpV at ha
 rw [HN.out.1] at ha
 dsimp only at ha
 have c0:=hS1.box.cell 0
 have k0:=H.out.2.cell 0;have k1:=H.out.2.cell 1;have k2:=H.out.2.cell 2
 simp only [lTA,lCZ,lCS] at c0 k0 k1 k2
 have hmc:=may_any F1 L1 R1 W1 HN.out.2.2.2.1
 rw [HN.out.2.1] at hmc
 clear hS1 hw1
 go_upto_region 3 with (first
  | (go_at_call 84;refine ha.mono ?_;rintro e w1 ⟨rfl,rfl⟩)
  | (go_at_call 82;refine hmc.mono ?_;rintro e w2 ⟨rfl,hb2⟩;have H2:=Lib.hid (And.intro (H.out.1.later (good_famX _ _ _ _) hb2) (H.out.2.below hb2 H.out.2.lt));clear hb2))
 clear ha hmc c0 k0 k1 k2
 have c0:=H2.out.1.box.cell 0
 have k0:=H2.out.2.cell 0;have k1:=H2.out.2.cell 1;have k2:=H2.out.2.cell 2
 simp only [lTA,lCZ,lCS] at c0 k0 k1 k2
 have HF:=Lib.hid (H2.out.1.later (good_famX _ _ _ _) ((Below.refl _ w2).drew))
 have HRN:=Lib.hid (run_newO (F1,L1,R1) w2.drew HN.out.2.2.1 HN.out.2.2.2.1 HN.out.2.2.2.2.1 HN.out.2.1)
 have hadd:∀ e w4,NewO w2.drew (fun r=>RunO r (rn0 (F1,L1,R1))) e w4→∃ r W6,e=.returned (.pointer (some ⟨r,0,none⟩))∧w4.cell? ⟨f,0,none⟩=some (.map (some mb))∧¬ f=w4.heap.size∧(w4.alloc (.cells #[.int .u64 0,.int .u64 0,.pointer (some ⟨r,0,none⟩),.bool false] 139)).cell? ⟨f,0,none⟩=some (.map (some mb))∧(Instr.mapUpdate 110 (.map (some mb)) (.int .i64 id) (.pointer (some ⟨w4.heap.size,0,none⟩))).run Tryz.prog (w4.alloc (.cells #[.int .u64 0,.int .u64 0,.pointer (some ⟨r,0,none⟩),.bool false] 139))=.ok () W6∧Sx W A W6 (FamO f (addF id (F1,L1,R1) F)):=fun e w4 hw4=>by
  obtain⟨r,rfl,h4⟩:=HF.out.new (good_famX _ _ _ _) (fun q=>good_run q _) hw4
  have c4:=h4.rest.box.cell 0
  have h5:=h4.alloc ((good_run _ _).star (good_famX _ _ _ _)) (memC (mem0 (F1,L1,R1)) r) 139
  obtain⟨S5,hS5⟩:=(Sx.swap3 h5).swap2.swap.first
  obtain⟨W6,hr6,hm6,ht6⟩:=hS5.1.store (k:=id) (E:=136) (T:=110) Tryz.underlying3 Tryz.underlying110 hid (by unfold ptV;rw [List.length_map];have:=HN.out.2.2.2.2.2;unfold maxLen;omega) (.pointer (some ⟨w4.heap.size,0,none⟩))
  exact⟨r,W6,rfl,c4,by have:=h4.rest.box.lt;omega,h5.rest.rest.box.cell 0,hr6,fam_added HN.out.1 h5 hm6 ht6⟩
 have HA:=Lib.hid hadd
 clear hadd H2 H HF
 go_region_with (go_at_call 83;refine HRN.out.mono ?_;rintro e w4 hw4;obtain⟨r,W6,rfl,c4,hf4,c5,hr6,h6⟩:=HA.out e w4 hw4;have H6:=Lib.hid h6;clear h6 hw4)
 all_goals
  clear c0 k0 k1 k2
  go_wp2_with fail
  go_ret
  exact⟨rfl,H6.out.done⟩
end
section
open Go.RowKit Go.Maps
attribute [local go_sem ↓] Go.wp_at_zero Go.wp_at_succ
attribute [local go_sem] quietR quietAtR quietUponR midAt midUpon
def LimX:Option Nat→Option Rn→Ob
 | none,o=>fun W S=>o=none∧Emp W S
 | some l,o=>LimO l o
def limV:Option Nat→Value
 | none=>.pointer none
 | some l=>.pointer (some ⟨l,0,none⟩)
theorem good_limX:∀ (l:Option Nat)(o:Option Rn),Good (LimX l o)
 | none,o=>⟨fun ⟨_,h⟩ b hb=>absurd hb (h b),fun h _ _=>h⟩
 | some l,o=>good_lim l o
def clsC (c:Cls)(l:Option Nat)(f q:Nat):Array Value:=#[.int .i64 c.pa,.bool c.lf,.bool c.sh,.int .u64 c.tot,limV l,.pointer (some ⟨f,0,none⟩),.pointer (some ⟨q,0,none⟩),.int .i64 c.un]
def ClsX (p:Nat)(cs:Array Value)(l:Option Nat)(f q:Nat)(lim:Option Rn)(fam:Fam)(tr:List En):Ob:=Star (BoxO p 65 cs) (Star (LimX l lim) (Star (FamO f fam) (TrO q tr)))
theorem good_clsX (p:Nat)(cs:Array Value)(l:Option Nat)(f q:Nat)(lim:Option Rn)(fam:Fam)(tr:List En):Good (ClsX p cs l f q lim fam tr):=(good_box _ _ _).star ((good_limX _ _).star ((good_fam _ _).star (good_tr _ _)))
def ClsO (p:Nat)(c:Cls):Ob:=fun W S=>∃ l f q,ClsX p (clsC c l f q) l f q c.lim c.fam c.tr W S
theorem good_cls (p:Nat)(c:Cls):Good (ClsO p c) :=
 ⟨fun ⟨l,f,q,h⟩ b hb=>(good_clsX _ _ _ _ _ _ _ _).lt h b hb,fun ⟨l,f,q,h⟩ hs hk=>⟨l,f,q,(good_clsX _ _ _ _ _ _ _ _).kept h hs hk⟩⟩
def PkX (k mb:Nat)(ps:Int→Nat)(P:Pk):Ob:=Star (BoxO k 68 #[.map (some mb)]) (Star (MapO mb (ptV ps P)) (StarL (fun q=>ClsO (ps q.1) q.2) P))
theorem good_pkX (k mb:Nat)(ps:Int→Nat)(P:Pk):Good (PkX k mb ps P):=(good_box _ _ _).star ((good_map _ _).star (good_starL (fun q=>good_cls _ _) _))
def PkO (k:Nat)(P:Pk):Ob:=fun W S=>∃ mb ps,PkX k mb ps P W S
theorem good_pk (k:Nat)(P:Pk):Good (PkO k P) :=
 ⟨fun ⟨mb,ps,h⟩ b hb=>(good_pkX _ _ _ _).lt h b hb,fun ⟨mb,ps,h⟩ hs hk=>⟨mb,ps,(good_pkX _ _ _ _).kept h hs hk⟩⟩
structure ClsR (W:World)(p:Nat)(c:Cls)(l:Option Nat)(f q:Nat):Prop where
 blk:Blk W p 65 (clsC c l f q)
 lim:∃ S,LimX l c.lim W S
 fam:∃ mb ps S,FamX f mb ps c.fam W S
 tr:∃ S,TrO q c.tr W S
structure PkB (P:Pk):Prop where
 ids:∀ id c,lookM P id=some c→0≤id∧id≤65535
 par:∀ id c,lookM P id=some c→id≠0→∃ p,lookM P c.pa=some p
theorem wf_small {i:Int} (h0:0≤i)(h1:i≤65535):(Lit.int .i64 i).wf=true:=by
 simp [Lit.wf,IntKind.min,IntKind.max,IntKind.bits,IntKind.signed];omega
section
variable {W : World} {k mb : Nat} {ps : Int → Nat} {P : Pk} {S : Nat → Prop}
theorem PkX.map (h:PkX k mb ps P W S):MapI Tryz.prog 3 W mb (ptV ps P):=by
 obtain⟨_,B,_,_,_,C,_,_,_,hm,_⟩:=h
 exact hm.1
theorem PkX.box (h:PkX k mb ps P W S):Blk W k 68 #[.map (some mb)]:=by
 obtain⟨_,B,_,_,hp,_⟩:=h
 exact hp.1
theorem PkX.rising (h:PkX k mb ps P W S):Rising P:=rising_pt.1 (h.map.rising (int_keyed Tryz.underlying3))
theorem PkX.cls (h:PkX k mb ps P W S) {id:Int} {c:Cls} (hc:lookM P id=some c):∃ l f q,ClsR W (ps id) c l f q:=by
 have hr:=h.rising
 obtain⟨_,B,_,_,hp,_,D,_,_,_,hl⟩:=h
 obtain⟨B',l,f,q,_,_,_,_,hb,_,_,_,_,h1,_,_,_,_,⟨mb',ps',h2⟩,h3⟩:=starL_mem hr hc hl
 exact⟨l,f,q,⟨hb.1,⟨_,h1⟩,⟨_,_,_,h2⟩,⟨_,h3⟩⟩⟩
theorem PkX.look (h:PkX k mb ps P W S) {id:Int} (hid:(Lit.int .i64 id).wf=true) :
  (Instr.lookup 66 (.map (some mb)) (.int .i64 id) false).run Tryz.prog W=.ok (((lookM P id).map fun _=>Value.pointer (some ⟨ps id,0,none⟩)).getD (.pointer none)) W:=by
 have hq:=h.map.look (k:=id) (E:=58) (T:=66) (z:=.pointer none) Tryz.underlying3 Tryz.underlying66 (by exact Tryz.zeroValue58 _) hid
 rw [look_pt] at hq
 exact hq
def cpV (ps:Int→Nat)(P:Pk)(id:Int):Value:=match lookM P id with
 | none=>.pointer none
 | some _=>.pointer (some ⟨ps id,0,none⟩)
theorem pat_any (id:Int)(hid:(Lit.int .i64 id).wf=true)(h:PkX k mb ps P W S) :
  Calls Tryz.prog 34 #[.pointer (some ⟨k,0,none⟩),.int .i64 id] W fun e W'=>e=.returned (cpV ps P id)∧W=W':=by
 have hq:=h.look hid
 have hz:((lookM P id).map fun _=>Value.pointer (some ⟨ps id,0,none⟩)).getD (.pointer none)=cpV ps P id:=by
  unfold cpV
  cases lookM P id <;> rfl
 rw [hz] at hq
 have c0:=h.box.cell 0
 simp only [lTA,lCZ,lCS] at c0
 clear h hz
 go_enter Tryz.func34,Tryz.ntmps34
 go_wp2_with fail
 go_ret
 exact⟨rfl,rfl⟩
theorem awP_fam {id:Int} {c p:Cls} (h0:0 < id)(hc:lookM P id=some c)(hp:lookM P c.pa=some p):awP P id=fawF p.fam id:=by
 unfold awP fawF
 rw [memP_is hc hp,decide_eq_true h0,Bool.true_and]
 cases lookM p.fam.m id <;> rfl
theorem vP_fam {id:Int} {c p:Cls} (h0:0 < id)(hc:lookM P id=some c)(hp:lookM P c.pa=some p):vP P id=fvF p.fam id:=by
 unfold vP fvF
 rw [memP_is hc hp,if_pos h0]
 cases lookM p.fam.m id <;> rfl
theorem awP_none {id:Int} (hc:lookM P id=none):awP P id=false:=by
 unfold awP memP paP
 rw [hc]
 simp
theorem vP_none {id:Int} (hc:lookM P id=none):vP P id=0:=by
 unfold vP memP paP
 rw [hc]
 simp
theorem pv_any (id:Int)(hid:(Lit.int .i64 id).wf=true)(h:PkX k mb ps P W S)(hB:PkB P) :
  Calls Tryz.prog 30 #[.pointer (some ⟨k,0,none⟩),.int .i64 id] W fun e W'=>e=.returned (.int .u64 (vP P id))∧Below W.heap.size W W':=by
 have ha:=pat_any id hid h
 by_cases h0:id < 1
 ·have:vP P id=0:=by unfold vP;rw [if_neg (by omega)]
  rw [this]
  clear h
  go_enter Tryz.func30,Tryz.ntmps30
  go_wp2_with (go_at_call 34;refine ha.mono ?_;rintro e w1 ⟨rfl,rfl⟩)
  go_ret
  exact⟨rfl,Below.refl _ _⟩
 ·unfold cpV at ha
  cases hl:lookM P id with
  | none =>
   rw [hl] at ha
   rw [vP_none hl]
   dsimp only at ha
   clear h
   go_enter Tryz.func30,Tryz.ntmps30
   go_wp2_with (go_at_call 34;refine ha.mono ?_;rintro e w1 ⟨rfl,rfl⟩)
   go_ret
   exact⟨rfl,Below.refl _ _⟩
  | some c =>
   rw [hl] at ha
   dsimp only at ha
   obtain⟨p,hp⟩:=hB.par id c hl (by omega)
   rw [vP_fam (by omega) hl hp]
   obtain⟨l,f,q,hcr⟩:=h.cls hl
   obtain⟨l2,f2,q2,hpr⟩:=h.cls hp
   obtain⟨mb',ps',S',hf⟩:=hpr.fam
   have hd:PkX k mb ps P W.drew S:=(good_pkX _ _ _ _).kept h (Nat.le_refl _) fun _ _=>rfl
   have hfd:FamX f2 mb' ps' p.fam W.drew S':=(good_famX _ _ _ _).kept hf (Nat.le_refl _) fun _ _=>rfl
   have hv:=vv_any id hid hfd
   have hlk:=hd.look (wf_small (hB.ids _ _ hp).1 (hB.ids _ _ hp).2)
   rw [hp] at hlk
   dsimp only [Option.map_some,Option.getD_some] at hlk
   have c0:=h.box.cell 0
   have d0:=hcr.blk.cell 0
   have e5:=hpr.blk.cell 5
   unfold clsC at d0 e5
   simp only [lTA,lCZ,lCS] at c0 d0 e5
   clear h hcr hpr hf hd hfd
   go_enter Tryz.func30,Tryz.ntmps30
   go_wp2_with (first
    | (go_at_call 34;refine ha.mono ?_;rintro e w1 ⟨rfl,rfl⟩))
   go_region_with (go_at_call 76;refine hv.mono ?_;rintro e w1 ⟨rfl,rfl⟩)
   all_goals
    go_wp2_with fail
    go_ret
    exact⟨rfl,(Below.refl _ W).drew⟩
end
end
section
open Go.RowKit
def leastTo (zs:List Int):Nat→Int
 | 0=>zs[0]?.getD 0
 | n+1=>min (leastTo zs n) (zs[n+1]?.getD 0)
theorem ret_intU {k:IntKind} {a b:Int} (h:a=b):Ending.returned (.int k a)=.returned (.int k b):=by rw [h]
theorem val_intU {k:IntKind} {a b:Int} (h:a=b):Value.int k a=.int k b:=by rw [h]
theorem min_any (b off len cap:Nat)(zs:List Int)(w:World)(h1:1≤len)(hbig:len≤9223372036854775807)
  (hc:∀ j,j < len→w.cell? ⟨b,off+j,none⟩=some (.int .u64 (zs.getD j 0))) :
  Calls Tryz.prog 136 #[.slice (some ⟨b,off,none⟩) len cap] w fun e w'=>e=.returned (.int .u64 (leastTo zs (len - 1)))∧w=w':=by
 have h0:w.cell? ⟨b,off,none⟩=some (.int .u64 (zs.getD 0 0)):=by have:=hc 0 (by omega);simpa using this
 go_enter Tryz.func136,Tryz.ntmps136
 go_wp2
 go_loop [3,4] (fun m i=>∃ k:Nat,k+1≤len∧i=.int .i64 (k+1:Nat)∧m=.int .u64 (leastTo zs k)) (fun _ i=>len - (Go.RowKit.intOf i).toNat)
 case atStart=>exact⟨0,by omega,rfl,rfl⟩
 case round =>
  obtain⟨k,hk,rfl,rfl⟩:=hrel
  by_cases hlt:k+1 < len
  ·have hcell:w.cell? ⟨b,off+(k+1),none⟩=some (.int .u64 (zs.getD (k+1) 0)):=hc _ (by omega)
   go_wp2
   go_round
   case rel=>exact⟨k+1,by omega,by go_num,val_intU (by simp only [leastTo];split <;> omega)⟩
   case measure=>simp [Go.RowKit.intOf];omega
  ·go_wp2
   go_ret
   exact⟨ret_intU (by rw [show len - 1=k by omega]),rfl⟩
theorem inner_some (o:Int)(b off len cap:Nat)(zs:List Int)(w:World)(h1:1≤len)(hbig:len≤9223372036854775807)
  (hc:∀ j,j < len→w.cell? ⟨b,off+j,none⟩=some (.int .u64 (zs.getD j 0))) :
  Calls Tryz.prog 113 #[.int .u64 o,.slice (some ⟨b,off,none⟩) len cap] w fun e w'=>e=.returned (.int .u64 (max o (leastTo zs (len - 1))))∧w=w':=by
 have HC:=Lib.hid hc
 clear hc
 go_enter Tryz.func113,Tryz.ntmps113
 go_wp2_with (go_at_call 136;refine (min_any _ _ _ _ _ _ h1 hbig HC.out).mono ?_;rintro e w' ⟨rfl,rfl⟩)
 all_goals go_ret
 all_goals exact⟨ret_intU (by omega),rfl⟩
end
section
open Go.RowKit Go.Maps
attribute [local go_sem ↓] Go.wp_at_zero Go.wp_at_succ
attribute [local go_sem] quietR quietAtR quietUponR midAt midUpon
section
variable {W : World} {k mb : Nat} {ps : Int → Nat} {P : Pk} {S : Nat → Prop}
theorem pawake_any (id:Int)(hid:(Lit.int .i64 id).wf=true)(h:PkX k mb ps P W S)(hB:PkB P) :
  Calls Tryz.prog 23 #[.pointer (some ⟨k,0,none⟩),.int .i64 id] W fun e W'=>e=.returned (.bool (awP P id))∧Below W.heap.size W W':=by
 have ha:=pat_any id hid h
 by_cases h0:id≤0
 ·have:awP P id=false:=by unfold awP;rw [decide_eq_false (by omega)];rfl
  rw [this]
  have hd:decide (0 < id)=false:=decide_eq_false (by omega)
  generalize hcv:cpV ps P id=cv at ha
  clear h hcv
  go_enter Tryz.func23,Tryz.ntmps23
  go_upto_region 2 with (go_at_call 34;refine ha.mono ?_;rintro e w1 ⟨rfl,rfl⟩)
  refine wp_region_over (by kernel_rfl) (by kernel_rfl) ?_
  repeat (first | go_big_quiet_skip | (go_big_quiet_want;go_big_quiet_op;go_big_quiet_on))
  refine wpQuiet_nil ?_
  rintro w3 ⟨e,rfl⟩
  go_wp2_with fail
  go_ret
  exact⟨rfl,over_below _ _⟩
 ·have h1:0 < id:=by omega
  unfold cpV at ha
  cases hl:lookM P id with
  | none =>
   rw [hl] at ha
   rw [awP_none hl]
   dsimp only at ha
   clear h
   go_enter Tryz.func23,Tryz.ntmps23
   go_upto_region 2 with (go_at_call 34;refine ha.mono ?_;rintro e w1 ⟨rfl,rfl⟩)
   have hd:decide (0 < id)=true:=decide_eq_true h1
   refine wp_region_over (by kernel_rfl) (by kernel_rfl) ?_
   repeat (first | go_big_quiet_skip | (go_big_quiet_want;go_big_quiet_op;go_big_quiet_on))
   refine wpQuiet_nil ?_
   rintro w3 ⟨e,rfl⟩
   go_wp2_with fail
   go_ret
   exact⟨rfl,over_below _ _⟩
  | some c =>
   rw [hl] at ha
   dsimp only at ha
   obtain⟨p,hp⟩:=hB.par id c hl (by omega)
   rw [awP_fam (by omega) hl hp]
   obtain⟨l,f,q,hcr⟩:=h.cls hl
   obtain⟨l2,f2,q2,hpr⟩:=h.cls hp
   obtain⟨mb',ps',S',hf⟩:=hpr.fam
   have ho:∀ e,PkX k mb ps P (over W e) S:=fun e=>(good_pkX _ _ _ _).kept h (over_below W e).size fun b hb=>over_heap W e b ((good_pkX _ _ _ _).lt h b hb)
   have hfo:∀ e,FamX f2 mb' ps' p.fam (over W e) S':=fun e=>(good_famX _ _ _ _).kept hf (over_below W e).size fun b hb=>over_heap W e b ((good_famX _ _ _ _).lt hf b hb)
   have hv:=fun e=>vawake_any id hid (hfo e)
   have hlk:∀ e,(Instr.lookup 66 (.map (some mb)) (.int .i64 c.pa) false).run Tryz.prog (over W e)=.ok (.pointer (some ⟨ps c.pa,0,none⟩)) (over W e):=fun e=>by
    have:=(ho e).look (wf_small (hB.ids _ _ hp).1 (hB.ids _ _ hp).2)
    rw [hp] at this
    exact this
   have c0:=fun e=>(over_cell (w:=W) (e:=e) (o:=0) h.box.lt).trans (h.box.cell 0)
   have d0:=fun e=>(over_cell (w:=W) (e:=e) (o:=0) hcr.blk.lt).trans (hcr.blk.cell 0)
   have e5:=fun e=>(over_cell (w:=W) (e:=e) (o:=5) hpr.blk.lt).trans (hpr.blk.cell 5)
   unfold clsC at d0 e5
   simp only [lTA,lCZ,lCS] at c0 d0 e5
   have HV:=Lib.hid hv
   clear h hcr hpr hf ho hfo hv
   go_enter Tryz.func23,Tryz.ntmps23
   go_upto_region 2 with (go_at_call 34;refine ha.mono ?_;rintro e w1 ⟨rfl,rfl⟩)
   have hd:decide (0 < id)=true:=decide_eq_true h1
   refine wp_region_over (by kernel_rfl) (by kernel_rfl) ?_
   repeat (first | go_big_quiet_skip | (go_big_quiet_want;go_big_quiet_op;first | go_big_quiet_on | (apply Exists.intro;refine⟨fun e=>?_,?_⟩;(focus (go_at_call 71;with_reducible exact calls_over_same (HV.out e)));go_big_quiet_on)))
   refine wpQuiet_nil ?_
   rintro w3 ⟨e,rfl⟩
   go_wp2_with fail
   go_ret
   exact⟨rfl,over_below _ _⟩
end
end
section
open Go.RowKit Go.Maps
attribute [local go_sem ↓] Go.wp_at_zero Go.wp_at_succ
attribute [local go_sem] quietR quietAtR quietUponR midAt midUpon
theorem one_cell (w:World)(lo:Int):∀ j,j < 1→(w.alloc (.cells #[.int .u64 lo] 28)).cell? ⟨w.heap.size,0+j,none⟩=some (.int .u64 ([lo].getD j 0)):=fun j hj=>by
 obtain rfl:j=0:=by omega
 exact (Blk.new w 28 #[.int .u64 lo]).cell 0
theorem lbound_nil (w:World) :
  Calls Tryz.prog 89 #[.pointer none] w fun e w'=>e=.returned (.pointer none)∧Below w.heap.size w w':=by
 go_enter Tryz.func89,Tryz.ntmps89
 go_wp2
 go_ret
 exact⟨rfl,Below.refl _ _⟩
theorem lfit_nil (w:World)(y:Int) :
  Calls Tryz.prog 112 #[.pointer none,.int .u64 y] w fun e w'=>e=.returned (.int .u64 0)∧Below w.heap.size w w':=by
 go_enter Tryz.func112,Tryz.ntmps112
 go_wp2_with (go_at_call 89;refine (lbound_nil _).mono ?_;rintro e w1 ⟨rfl,hb1⟩)
 go_ret
 exact⟨rfl,hb1⟩
theorem lx_fit {W:World} {l:Option Nat} {o:Option Rn} {S:Nat→Prop} (h:LimX l o W S)(y:Int)(hy:U y) :
  Calls Tryz.prog 112 #[limV l,.int .u64 y] W fun e W'=>e=.returned (.int .u64 (owL o y))∧Below W.heap.size W W':=by
 cases l with
 | none =>
  obtain⟨rfl,_⟩:=h
  exact lfit_nil W y
 | some l=>exact lo_fit h y hy
section
variable {W : World} {p f q : Nat} {l : Option Nat} {c : Cls}
theorem ClsR.over (h:ClsR W p c l f q) {W':World} (hb:Below W.heap.size W W'):ClsR W' p c l f q:=by
 obtain⟨h1,⟨S1,h2⟩,⟨mb,ps,S2,h3⟩,⟨S3,h4⟩⟩:=h
 have kp:∀ {Q:Ob} {S:Nat→Prop},Good Q→Q W S→Q W' S:=fun hQ hq=>hQ.kept hq hb.size fun b hb2=>hb.block b (hQ.lt hq b hb2)
 exact⟨h1.below hb h1.lt,⟨S1,kp (good_limX _ _) h2⟩,⟨mb,ps,S2,kp (good_famX _ _ _ _) h3⟩,⟨S3,kp (good_tr _ _) h4⟩⟩
theorem cfit_any (h:ClsR W p c l f q)(hU:U c.tot) :
  Calls Tryz.prog 72 #[.pointer (some ⟨p,0,none⟩)] W fun e W'=>e=.returned (.int .u64 (fitC owL c))∧Below W.heap.size W W':=by
 have ho:∀ e,ClsR (over W e) p c l f q:=fun e=>h.over (over_below W e)
 have hl:∀ e,Calls Tryz.prog 112 #[limV l,.int .u64 c.tot] (over W e) fun r W'=>r=.returned (.int .u64 (owL c.lim c.tot))∧Below (over W e).heap.size (over W e) W':=fun e=>by
  obtain⟨S,hS⟩:=(ho e).lim
  exact lx_fit hS _ hU
 have c3:=fun e=>(over_cell (w:=W) (e:=e) (o:=3) h.blk.lt).trans (h.blk.cell 3)
 have c4:=fun e=>(over_cell (w:=W) (e:=e) (o:=4) h.blk.lt).trans (h.blk.cell 4)
 unfold clsC at c3 c4
 simp only [lTA,lCZ,lCS] at c3 c4
 have H:=Lib.hid h
 have HL:=Lib.hid hl
 obtain⟨o,hoo⟩:∃ o,o=owL c.lim c.tot:=⟨_,rfl⟩
 unfold fitC
 rw [← hoo] at HL ⊢
 generalize limV l=lv at HL c4
 clear h ho hl hoo
 cases hlf:c.lf with
 | true =>
  rw [if_pos rfl]
  go_enter Tryz.func72,Tryz.ntmps72
  go_upto_region 1 with fail
  refine wp_region_over (by kernel_rfl) (by kernel_rfl) ?_
  repeat (first | go_big_quiet_skip | (go_big_quiet_want;go_big_quiet_op;first | go_big_quiet_on | (apply Exists.intro;refine⟨fun e=>?_,?_⟩;(focus (go_at_call 112;with_reducible exact calls_over (HL.out e)));go_big_quiet_on)))
  refine wpQuiet_nil ?_
  rintro w3 ⟨e,he⟩
  have hb3:=over_below W e
  rw [← he] at hb3
  have H3:=Lib.hid (And.intro (H.out.over hb3) hb3)
  have d1:=H3.out.1.blk.cell 1
  unfold clsC at d1
  rw [hlf] at d1
  simp only [lTA,lCZ,lCS] at d1
  clear he hb3 c3 c4 hlf
  go_wp2_with fail
  go_ret
  exact⟨rfl,H3.out.2⟩
 | false =>
  rw [if_neg (by decide)]
  cases hlw:lowV c.tr with
  | none =>
   dsimp only
   go_enter Tryz.func72,Tryz.ntmps72
   go_upto_region 1 with fail
   refine wp_region_over (by kernel_rfl) (by kernel_rfl) ?_
   repeat (first | go_big_quiet_skip | (go_big_quiet_want;go_big_quiet_op;first | go_big_quiet_on | (apply Exists.intro;refine⟨fun e=>?_,?_⟩;(focus (go_at_call 112;with_reducible exact calls_over (HL.out e)));go_big_quiet_on)))
   refine wpQuiet_nil ?_
   rintro w3 ⟨e,he⟩
   have hb3:=over_below W e
   rw [← he] at hb3
   have h3:=H.out.over hb3
   have H3:=Lib.hid (And.intro h3 hb3)
   have d1:=h3.blk.cell 1
   have d6:=h3.blk.cell 6
   obtain⟨S3,hS3⟩:=h3.tr
   have htl:=tr_lowest hS3
   unfold LowW at htl
   unfold clsC at d1 d6
   rw [hlf] at d1
   simp only [lTA,lCZ,lCS] at d1 d6
   clear he hb3 c3 c4 hlf h3 hS3
   rw [hlw] at htl
   dsimp only [Option.getD,Option.isSome] at htl
   go_wp2_with (go_at_call 68;refine htl.mono ?_;rintro e w4 ⟨rfl,hb4⟩)
   go_returns
   exact⟨rfl,H3.out.2.trans (hb4.mono H3.out.2.size)⟩
  | some lo =>
   dsimp only
   go_enter Tryz.func72,Tryz.ntmps72
   go_upto_region 1 with fail
   refine wp_region_over (by kernel_rfl) (by kernel_rfl) ?_
   repeat (first | go_big_quiet_skip | (go_big_quiet_want;go_big_quiet_op;first | go_big_quiet_on | (apply Exists.intro;refine⟨fun e=>?_,?_⟩;(focus (go_at_call 112;with_reducible exact calls_over (HL.out e)));go_big_quiet_on)))
   refine wpQuiet_nil ?_
   rintro w3 ⟨e,he⟩
   have hb3:=over_below W e
   rw [← he] at hb3
   have h3:=H.out.over hb3
   have H3:=Lib.hid (And.intro h3 hb3)
   have d1:=h3.blk.cell 1
   have d6:=h3.blk.cell 6
   obtain⟨S3,hS3⟩:=h3.tr
   have htl:=tr_lowest hS3
   unfold LowW at htl
   unfold clsC at d1 d6
   rw [hlf] at d1
   simp only [lTA,lCZ,lCS] at d1 d6
   clear he hb3 c3 c4 hlf h3 hS3
   rw [hlw] at htl
   dsimp only [Option.getD,Option.isSome] at htl
   go_wp2_with (first
    | (go_at_call 68;refine htl.mono ?_;rintro e w4 ⟨rfl,hb4⟩)
    | (go_at_call 113;refine (inner_some o _ _ 1 1 [lo] _ (by omega) (by omega) (one_cell w4 lo)).mono ?_;rintro e w5 ⟨rfl,rfl⟩))
   go_returns
   exact⟨rfl,H3.out.2.trans ((hb4.alloc (Nat.le_of_lt_succ (Nat.lt_succ_of_le hb4.size)) _).mono H3.out.2.size)⟩
end
end
section
open Go.RowKit Go.Maps
attribute [local go_sem ↓] Go.wp_at_zero Go.wp_at_succ
attribute [local go_sem] quietR quietAtR quietUponR midAt midUpon
def tickP (P:Pk):Int:=match lookM P 0 with
 | none=>nevC
 | some c=>(lowV c.tr).getD nevC
def totP (P:Pk)(id:Int):Int:=if 0 < id then (match lookM P id with
 | none=>0
 | some c=>c.tot) else 0
section
variable {W : World} {k mb : Nat} {ps : Int → Nat} {P : Pk} {S : Nat → Prop}
theorem ptick_any {c:Cls} (h:PkX k mb ps P W S)(hc:lookM P 0=some c) :
  Calls Tryz.prog 21 #[.pointer (some ⟨k,0,none⟩)] W fun e W'=>e=.returned (.int .u64 (tickP P))∧Below W.heap.size W W':=by
 have ha:=pat_any 0 (by decide) h
 unfold cpV at ha
 rw [hc] at ha
 dsimp only at ha
 obtain⟨l,f,q,hr⟩:=h.cls hc
 have c6:=hr.blk.cell 6
 unfold clsC at c6
 simp only [lTA,lCZ,lCS] at c6
 obtain⟨S2,hS2⟩:=hr.tr
 have htl:=tr_lowest hS2
 unfold LowW at htl
 unfold tickP
 rw [hc]
 dsimp only
 clear h hr hS2 hc
 cases hlw:lowV c.tr with
 | none =>
  rw [hlw] at htl
  dsimp only [Option.getD,Option.isSome] at htl ⊢
  clear hlw
  go_enter Tryz.func21,Tryz.ntmps21
  go_wp2_with (first
   | (go_at_call 34;refine ha.mono ?_;rintro e w1 ⟨rfl,rfl⟩)
   | (go_at_call 68;refine htl.mono ?_;rintro e w2 ⟨rfl,hb2⟩))
  go_returns
  exact⟨rfl,hb2⟩
 | some lo =>
  rw [hlw] at htl
  dsimp only [Option.getD,Option.isSome] at htl ⊢
  clear hlw
  go_enter Tryz.func21,Tryz.ntmps21
  go_wp2_with (first
   | (go_at_call 34;refine ha.mono ?_;rintro e w1 ⟨rfl,rfl⟩)
   | (go_at_call 68;refine htl.mono ?_;rintro e w2 ⟨rfl,hb2⟩))
  go_returns
  exact⟨rfl,hb2⟩
theorem ptotal_any (id:Int)(hid:(Lit.int .i64 id).wf=true)(h:PkX k mb ps P W S) :
  Calls Tryz.prog 27 #[.pointer (some ⟨k,0,none⟩),.int .i64 id] W fun e W'=>e=.returned (.int .u64 (totP P id))∧Below W.heap.size W W':=by
 have ha:=pat_any id hid h
 unfold totP
 by_cases h0:0 < id
 ·rw [if_pos h0]
  unfold cpV at ha
  cases hl:lookM P id with
  | none =>
   rw [hl] at ha
   dsimp only at ha ⊢
   clear h
   go_enter Tryz.func27,Tryz.ntmps27
   go_wp2_with (go_at_call 34;refine ha.mono ?_;rintro e w1 ⟨rfl,rfl⟩)
   go_returns
   exact⟨rfl,Below.refl _ _⟩
  | some c =>
   rw [hl] at ha
   dsimp only at ha ⊢
   obtain⟨l,f,q,hr⟩:=h.cls hl
   have c3:=hr.blk.cell 3
   unfold clsC at c3
   simp only [lTA,lCZ,lCS] at c3
   clear h hr hl
   go_enter Tryz.func27,Tryz.ntmps27
   go_wp2_with (go_at_call 34;refine ha.mono ?_;rintro e w1 ⟨rfl,rfl⟩)
   go_returns
   exact⟨rfl,Below.refl _ _⟩
 ·rw [if_neg h0]
  generalize cpV ps P id=cv at ha
  clear h
  go_enter Tryz.func27,Tryz.ntmps27
  go_wp2_with (go_at_call 34;refine ha.mono ?_;rintro e w1 ⟨rfl,rfl⟩)
  go_returns
  exact⟨rfl,Below.refl _ _⟩
end
end
section
open Go.RowKit Go.Maps
attribute [local go_sem ↓] Go.wp_at_zero Go.wp_at_succ
attribute [local go_sem] quietR quietAtR quietUponR midAt midUpon
inductive Desc (P:Pk)(now:Int):Int→Option Int→Nat→Prop
 | leaf {id:Int} {c:Cls}:lookM P id=some c→c.lf=true→Desc P now id (some id) 0
 | stop {id:Int} {c:Cls}:lookM P id=some c→c.lf=false→withinV c.tr now=none→Desc P now id none 0
 | go {id j:Int} {c:Cls} {r:Option Int} {n:Nat}:lookM P id=some c→c.lf=false→withinV c.tr now=some j→Desc P now j r n→Desc P now id r (n+1)
theorem Desc.look {P:Pk} {now id:Int} {r:Option Int} {n:Nat} (h:Desc P now id r n):∃ c,lookM P id=some c:=by
 cases h with
 | leaf h _=>exact⟨_,h⟩
 | stop h _ _=>exact⟨_,h⟩
 | go h _ _ _=>exact⟨_,h⟩
section
variable {W : World} {k mb : Nat} {ps : Int → Nat} {P : Pk} {S : Nat → Prop}
theorem pnext_any {now:Int} {r:Option Int} {n:Nat} (h:PkX k mb ps P W S)(hB:PkB P)(hd:Desc P now 0 r n) :
  Calls Tryz.prog 13 #[.pointer (some ⟨k,0,none⟩),.int .u64 now] W (OptW W r):=by
 have ha:=pat_any 0 (by decide) h
 unfold cpV at ha
 obtain⟨c0,hc0⟩:=hd.look
 rw [hc0] at ha
 dsimp only at ha
 have H:=Lib.hid (And.intro h (And.intro hB hd))
 clear h hB hd hc0
 go_enter Tryz.func13,Tryz.ntmps13
 go_wp2_with (go_at_call 34;refine ha.mono ?_;rintro e w1 ⟨rfl,rfl⟩)
 go_loopg [6,7,8,9] n (fun m v6 v7 v8 v9 wr=>∃ id,v6=.int .i64 id∧v7=.pointer (some ⟨ps id,0,none⟩)∧Desc P now id r m∧Below W.heap.size W wr)
 case atStart=>exact⟨0,rfl,rfl,H.out.2.2,Below.refl _ _⟩
 case round =>
  obtain⟨id,rfl,rfl,hd,hb⟩:=hrel
  have hk:PkX k mb ps P wr S:=(good_pkX _ _ _ _).kept H.out.1 hb.size fun b hb2=>hb.block b ((good_pkX _ _ _ _).lt H.out.1 b hb2)
  have HB:=Lib.hid hb
  have HK:=Lib.hid hk
  clear ha hb
  cases hd with
  | leaf hc hlf =>
   obtain⟨l,f,q,hr⟩:=hk.cls hc
   have c1:=hr.blk.cell 1
   have c6:=hr.blk.cell 6
   unfold clsC at c1 c6
   rw [hlf] at c1
   simp only [lTA,lCZ,lCS] at c1 c6
   obtain⟨S2,hS2⟩:=hr.tr
   have hwi:=tr_within hS2 now
   unfold OptW at hwi
   clear hk hr hS2 hwi hc hlf
   go_wp2_with fail
   go_returns
   exact⟨rfl,HB.out⟩
  | stop hc hlf hwn =>
   obtain⟨l,f,q,hr⟩:=hk.cls hc
   have c1:=hr.blk.cell 1
   have c6:=hr.blk.cell 6
   unfold clsC at c1 c6
   rw [hlf] at c1
   simp only [lTA,lCZ,lCS] at c1 c6
   obtain⟨S2,hS2⟩:=hr.tr
   have hwi:=tr_within hS2 now
   unfold OptW at hwi
   rw [hwn] at hwi
   dsimp only [Option.getD,Option.isSome] at hwi
   clear hk hr hS2 hc hlf hwn
   go_wp2_with (go_at_call 52;refine hwi.mono ?_;rintro e w2 ⟨rfl,hb2⟩)
   go_returns
   exact⟨rfl,HB.out.trans (hb2.mono HB.out.size)⟩
  | @go _ j c _ m hc hlf hwn hd =>
   obtain⟨l,f,q,hr⟩:=hk.cls hc
   have c1:=hr.blk.cell 1
   have c6:=hr.blk.cell 6
   unfold clsC at c1 c6
   rw [hlf] at c1
   simp only [lTA,lCZ,lCS] at c1 c6
   obtain⟨S2,hS2⟩:=hr.tr
   have hwi:=tr_within hS2 now
   unfold OptW at hwi
   rw [hwn] at hwi
   dsimp only [Option.getD,Option.isSome] at hwi
   obtain⟨cj,hcj⟩:=hd.look
   have HJ:=Lib.hid (And.intro hcj hd)
   clear hk hr hS2 hc hlf hwn hcj hd
   go_upto_region 6 with (go_at_call 52;refine hwi.mono ?_;rintro e w2 ⟨rfl,hb2⟩)
   have hk2:PkX k mb ps P w2 S:=(good_pkX _ _ _ _).kept HK.out hb2.size fun b hb3=>hb2.block b ((good_pkX _ _ _ _).lt HK.out b hb3)
   have hlk:∀ e,(Instr.lookup 66 (.map (some mb)) (.int .i64 j) false).run Tryz.prog (over w2 e)=.ok (.pointer (some ⟨ps j,0,none⟩)) (over w2 e):=fun e=>by
    have ho:PkX k mb ps P (over w2 e) S:=(good_pkX _ _ _ _).kept hk2 (over_below w2 e).size fun b hb=>over_heap w2 e b ((good_pkX _ _ _ _).lt hk2 b hb)
    have:=ho.look (wf_small (H.out.2.1.ids _ _ HJ.out.1).1 (H.out.2.1.ids _ _ HJ.out.1).2)
    rw [HJ.out.1] at this
    exact this
   have o1:=fun e=>(over_cell (w:=w2) (e:=e) (o:=0) hk2.box.lt).trans (hk2.box.cell 0)
   simp only [lTA,lCZ,lCS] at o1
   have HB2:=Lib.hid (HB.out.trans (hb2.mono HB.out.size))
   clear hk2 hb2 c1 c6 hwi
   refine wp_region_over (by kernel_rfl) (by kernel_rfl) ?_
   repeat (first | go_big_quiet_skip | (go_big_quiet_want;go_big_quiet_op;go_big_quiet_on))
   refine wpQuiet_nil ?_
   rintro w3 ⟨e,rfl⟩
   clear o1 hlk
   go_wp2_with fail
   go_roundg m
   case measure=>omega
   case rel=>exact⟨j,rfl,rfl,HJ.out.2,HB2.out.trans ((over_below w2 e).mono HB2.out.size)⟩
end
end
section
open Go.RowKit Go.Maps
attribute [local go_sem ↓] Go.wp_at_zero Go.wp_at_succ
attribute [local go_sem] quietR quietAtR quietUponR midAt midUpon
section
variable {w0 W W' : World} {A : Nat → Prop} {P1 P2 P3 P Q R : Ob} {φ : Ending → Prop} {f : FuncId} {args : Array Value} {prog : Program}
theorem Sx.act2 (hP1:Good P1)(hP:Good P)(hR:Good R)(h:Sx w0 A W (Star P1 (Star P R)))(ha:Acts φ P Q f args prog W):Calls prog f args W fun e W'=>φ e∧Sx w0 A W' (Star P1 (Star Q R)) :=
 (h.swap.act hP (hP1.star hR) ha).mono fun e W' ⟨h1,h2⟩=>⟨h1,h2.swap⟩
theorem Sx.act3 (hP1:Good P1)(hP2:Good P2)(hP:Good P)(hR:Good R)(h:Sx w0 A W (Star P1 (Star P2 (Star P R))))(ha:Acts φ P Q f args prog W):Calls prog f args W fun e W'=>φ e∧Sx w0 A W' (Star P1 (Star P2 (Star Q R))) :=
 (h.swap2.act2 hP1 hP (hP2.star hR) ha).mono fun e W' ⟨h1,h2⟩=>⟨h1,h2.swap2⟩
theorem Sx.act4 (hP1:Good P1)(hP2:Good P2)(hP3:Good P3)(hP:Good P)(hR:Good R)(h:Sx w0 A W (Star P1 (Star P2 (Star P3 (Star P R)))))(ha:Acts φ P Q f args prog W):Calls prog f args W fun e W'=>φ e∧Sx w0 A W' (Star P1 (Star P2 (Star P3 (Star Q R)))) :=
 (h.swap3.act3 hP1 hP2 hP (hP3.star hR) ha).mono fun e W' ⟨h1,h2⟩=>⟨h1,h2.swap3⟩
end
def RestP (k mb:Nat)(ps:Int→Nat)(P:Pk)(id:Int):Ob:=Star (BoxO k 68 #[.map (some mb)]) (Star (MapO mb (ptV ps P)) (StarL (fun q=>ClsO (ps q.1) q.2) (delM P id)))
theorem good_restP (k mb:Nat)(ps:Int→Nat)(P:Pk)(id:Int):Good (RestP k mb ps P id):=(good_box _ _ _).star ((good_map _ _).star (good_starL (fun q=>good_cls _ _) _))
def FocC (k mb:Nat)(ps:Int→Nat)(P:Pk)(id:Int)(l:Option Nat)(f q:Nat)(cs:Array Value)(lim:Option Rn)(fam:Fam)(tr:List En):Ob :=
 Star (BoxO (ps id) 65 cs) (Star (LimX l lim) (Star (FamO f fam) (Star (TrO q tr) (RestP k mb ps P id))))
section
variable {w0 W W' : World} {A : Nat → Prop} {k mb f q : Nat} {ps : Int → Nat} {P : Pk} {id : Int} {l : Option Nat} {c c' : Cls} {cs cs' : Array Value} {lim : Option Rn} {fam : Fam} {tr : List En}
theorem good_focC3:Good (Star (TrO q tr) (RestP k mb ps P id)):=(good_tr _ _).star (good_restP _ _ _ _ _)
theorem good_focC2:Good (Star (FamO f fam) (Star (TrO q tr) (RestP k mb ps P id))):=(good_fam _ _).star good_focC3
theorem good_focC1:Good (Star (LimX l lim) (Star (FamO f fam) (Star (TrO q tr) (RestP k mb ps P id)))):=(good_limX _ _).star good_focC2
theorem good_focC:Good (FocC k mb ps P id l f q cs lim fam tr):=(good_box _ _ _).star good_focC1
theorem Sx.pfocus (h:Sx w0 A W (PkX k mb ps P))(hc:lookM P id=some c):∃ l f q,Sx w0 A W (FocC k mb ps P id l f q (clsC c l f q) c.lim c.fam c.tr):=by
 obtain⟨S,hf,hw⟩:=h
 have hR:=hf.rising
 have h1:Star (BoxO k 68 #[.map (some mb)]) (Star (MapO mb (ptV ps P)) (Star (ClsO (ps id) c) (StarL (fun q=>ClsO (ps q.1) q.2) (delM P id)))) W S :=
  hf.under fun h=>h.under fun h=>(starL_look hR hc).1 h
 have h2:Star (ClsO (ps id) c) (RestP k mb ps P id) W S:=Star.swap (h1.under Star.swap)
 obtain⟨A1,B,hS,hd,⟨l,f,q,hp⟩,hq⟩:=h2
 refine⟨l,f,q,S,?_,hw⟩
 have h3:Star (ClsX (ps id) (clsC c l f q) l f q c.lim c.fam c.tr) (RestP k mb ps P id) W S:=⟨A1,B,hS,hd,hp,hq⟩
 exact (Star.assoc h3).under fun h=>(Star.assoc h).under Star.assoc
theorem Sx.punfocus (h:Sx w0 A W (FocC k mb ps P id l f q (clsC c' l f q) c'.lim c'.fam c'.tr))(hc:lookM P id=some c):Sx w0 A W (PkX k mb ps (putM P id c')):=by
 have hR:Rising P:=by
  obtain⟨S,hs⟩:=h.rest.rest.rest.rest.rest.first
  exact rising_pt.1 (hs.1.rising (int_keyed Tryz.underlying3))
 refine h.weak fun {S} h=>?_
 have h3:Star (ClsX (ps id) (clsC c' l f q) l f q c'.lim c'.fam c'.tr) (RestP k mb ps P id) W S:=Star.unassoc (Star.under h fun h=>Star.unassoc (h.under Star.unassoc))
 have h2:Star (ClsO (ps id) c') (RestP k mb ps P id) W S:=h3.over fun h=>⟨l,f,q,h⟩
 have h1:Star (BoxO k 68 #[.map (some mb)]) (Star (MapO mb (ptV ps P)) (Star (ClsO (ps id) c') (StarL (fun q=>ClsO (ps q.1) q.2) (delM P id)))) W S:=(Star.swap h2).under Star.swap
 refine h1.under fun h=>(h.under fun h=>(starL_put hR).2 h).over fun h=>?_
 have:ptV ps (putM P id c')=ptV ps P:=by
  rw [put_pt (ps:=ps) hR fun _ _ _=>rfl]
  exact put_look (rising_pt.2 hR) (by rw [look_pt,hc];rfl)
 rw [this]
 exact h
end
structure PkN (P:Pk):Prop extends PkB P where
 tot:∀ id c,lookM P id=some c→U c.tot
 few:∀ id c,lookM P id=some c→c.tr.length < 800000
theorem po_note {W:World} {k mb:Nat} {ps:Int→Nat} {P:Pk} (id:Int) {c:Cls} (h0:0 < id)(hc:lookM P id=some c)(hN:PkN P) :
  Acts (fun e=>e=.returned (.tuple #[])) (PkX k mb ps P) (PkX k mb ps (noteP owL P id)) 46 #[.pointer (some ⟨k,0,none⟩),.int .i64 id] Tryz.prog W:=fun A h=>by
 have hB:=hN.toPkB
 have hid:=wf_small (hB.ids _ _ hc).1 (hB.ids _ _ hc).2
 obtain⟨p,hp⟩:=hB.par id c hc (by omega)
 have hfp:fitP owL P id=fitC owL c:=by unfold fitP;rw [hc]
 have hno:noteP owL P id=putM P c.pa { p with tr:=if awP P id=true then putI p.tr id (vP P id) (fitC owL c) else dropI p.tr id }:=by
  unfold noteP
  rw [paP_of hc]
  show updP P c.pa _=_
  unfold updP
  rw [hp,hfp]
 rw [hno]
 clear hno hfp
 obtain⟨t,ht⟩:∃ t,t=if awP P id=true then putI p.tr id (vP P id) (fitC owL c) else dropI p.tr id:=⟨_,rfl⟩
 rw [← ht]
 have HT:=Lib.hid ht
 clear ht
 obtain⟨l,f,q,hs⟩:=(Sx.start (P:=PkX k mb ps P) h).pfocus hp
 have ho:∀ e,PkX k mb ps P (over W e) A:=fun e=>(good_pkX _ _ _ _).kept h (over_below W e).size fun b hb=>over_heap W e b ((good_pkX _ _ _ _).lt h b hb)
 have hlk0:=h.look hid
 rw [hc] at hlk0
 dsimp only [Option.map_some,Option.getD_some] at hlk0
 have hlk:∀ e,(Instr.lookup 66 (.map (some mb)) (.int .i64 c.pa) false).run Tryz.prog (over W e)=.ok (.pointer (some ⟨ps c.pa,0,none⟩)) (over W e):=fun e=>by
  have:=(ho e).look (wf_small (hB.ids _ _ hp).1 (hB.ids _ _ hp).2)
  rw [hp] at this
  exact this
 obtain⟨l1,f1,q1,hcr⟩:=h.cls hc
 have k0:=h.box.cell 0
 have c0:=fun e=>(over_cell (w:=W) (e:=e) (o:=0) h.box.lt).trans (h.box.cell 0)
 have d0:=fun e=>(over_cell (w:=W) (e:=e) (o:=0) hcr.blk.lt).trans (hcr.blk.cell 0)
 have e6:=fun e=>(over_cell (w:=W) (e:=e) (o:=6) hs.box.lt).trans (hs.box.cell 6)
 unfold clsC at d0 e6
 simp only [lTA,lCZ,lCS] at k0 c0 d0 e6
 have H:=Lib.hid (And.intro h hs)
 have HC:=Lib.hid (And.intro hc (And.intro hp (And.intro hN hB)))
 have HID:=Lib.hid hid
 clear h hs ho hcr hc hp hN hB
 go_enter Tryz.func46,Tryz.ntmps46
 go_upto_region 1 with fail
 refine wp_region_over (by kernel_rfl) (by kernel_rfl) ?_
 repeat (first | go_big_quiet_skip | (go_big_quiet_want;go_big_quiet_op;go_big_quiet_on))
 refine wpQuiet_nil ?_
 rintro w1 ⟨e,he⟩
 have hb1:=over_below W e
 rw [← he] at hb1
 have h1:PkX k mb ps P w1 A:=(good_pkX _ _ _ _).kept H.out.1 hb1.size fun b hb=>hb1.block b ((good_pkX _ _ _ _).lt H.out.1 b hb)
 have H1:=Lib.hid (And.intro h1 (H.out.2.later good_focC hb1))
 have haw:=pawake_any id HID.out h1 HC.out.2.2.2
 clear he hb1 k0 c0 d0 e6 hlk hlk0 H h1
 have hkp:∀ w w':World,Below w.heap.size w w'→PkX k mb ps P w A→PkX k mb ps P w' A:=fun w w' hb hp=>(good_pkX _ _ _ _).kept hp hb.size fun b hb2=>hb.block b ((good_pkX _ _ _ _).lt hp b hb2)
 have HK:=Lib.hid hkp
 clear hkp
 cases hw:awP P id with
 | true =>
  have ht:t=putI p.tr id (vP P id) (fitC owL c):=by rw [HT.out,if_pos hw]
  have HT2:=Lib.hid ht
  rw [hw] at haw
  clear hw ht HT
  go_wp2_with (first
   | (go_at_call 23;refine haw.mono ?_;rintro e w2 ⟨rfl,hb2⟩;have H2:=Lib.hid (And.intro (HK.out _ _ hb2 H1.out.1) (H1.out.2.later good_focC hb2));clear hb2)
   | (go_at_call 30;refine (pv_any id HID.out H2.out.1 HC.out.2.2.2).mono ?_;rintro e w3 ⟨rfl,hb3⟩;have H3:=Lib.hid (And.intro (HK.out _ _ hb3 H2.out.1) (H2.out.2.later good_focC hb3));clear hb3)
   | (go_at_call 72;obtain⟨l1,f1,q1,hcr⟩:=H3.out.1.cls HC.out.1;refine (cfit_any hcr (HC.out.2.2.1.tot _ _ HC.out.1)).mono ?_;rintro e w4 ⟨rfl,hb4⟩;have H4:=Lib.hid (And.intro (HK.out _ _ hb4 H3.out.1) (H3.out.2.later good_focC hb4));clear hb4 hcr)
   | (go_at_call 90;refine (H4.out.2.act4 (good_box _ _ _) (good_limX _ _) (good_fam _ _) (good_tr _ _) (good_restP _ _ _ _ _) (tr_put id _ _ HID.out (by have:=HC.out.2.2.1.few _ _ HC.out.2.1;omega))).mono ?_;rintro e w5 ⟨rfl,h5⟩;have H5:=Lib.hid h5;clear h5))
  go_returns
  rw [HT2.out]
  exact⟨rfl,(Sx.punfocus (c':={ p with tr:=putI p.tr id (vP P id) (fitC owL c) }) H5.out HC.out.2.1).done⟩
 | false =>
  have ht:t=dropI p.tr id:=by rw [HT.out,if_neg (by rw [hw];decide)]
  have HT2:=Lib.hid ht
  rw [hw] at haw
  clear hw ht HT
  go_wp2_with (first
   | (go_at_call 23;refine haw.mono ?_;rintro e w2 ⟨rfl,hb2⟩;have H2:=Lib.hid (And.intro (HK.out _ _ hb2 H1.out.1) (H1.out.2.later good_focC hb2));clear hb2)
   | (go_at_call 91;refine (H2.out.2.act4 (good_box _ _ _) (good_limX _ _) (good_fam _ _) (good_tr _ _) (good_restP _ _ _ _ _) (tr_drop id HID.out (by have:=HC.out.2.2.1.few _ _ HC.out.2.1;omega))).mono ?_;rintro e w5 ⟨⟨b5,rfl⟩,h5⟩;have H5:=Lib.hid h5;clear h5))
  go_returns
  rw [HT2.out]
  exact⟨rfl,(Sx.punfocus (c':={ p with tr:=dropI p.tr id }) H5.out HC.out.2.1).done⟩
end
end Go.Proofs.YtmmeopjemkjllaaGreat
