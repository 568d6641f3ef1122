/- Lemmas of the claim. No conditions beyond those that each states. -/
import Derived.Test.YtmmeopjemkjllaaGreatPT34
import Derived.Test.YtmmeopjemkjllaaGreatPT28
import Derived.Test.YtmmeopjemkjllaaGreatPT25
import Derived.Test.YtmmeopjemkjllaaGreatPT7
set_option linter.unusedVariables false
set_option linter.unusedSimpArgs false
set_option maxRecDepth 100000
set_option maxHeartbeats 8000000
namespace Go.Proofs.YtmmeopjemkjllaaGreat
section
open Go.RowKit Go.Maps
noncomputable def reachR (r:Rn)(y:Int):Int:=qR r.F r.L r.R r.x r.A y
noncomputable def owL (l:Option Rn)(y:Int):Int:=match l with
 | none=>0
 | some r=>reachR r y
def RunM (W:World)(r g:Nat)(x:Rn):Prop:=RunAt W r g x.F x.L x.R x.x x.A
def runOwn (W:World)(r g b:Nat):Prop:=b=r∨b=g∨∃ v,W.cell? ⟨g,6,none⟩=some v∧v.ownBlock=some b
def RunO (r:Nat)(x:Rn):Ob:=fun W S=>∃ g,RunM W r g x∧∀ b,S b↔runOwn W r g b
theorem run_row {W:World} {r g:Nat} {x:Rn} (h:RunM W r g x) {v:Value} {b:Nat} (hv:W.cell? ⟨g,6,none⟩=some v)(hb:v.ownBlock=some b):g < b∧b < W.heap.size:=by
 rcases h with ⟨h1,h2,h3⟩ | ⟨h1,⟨K,h2⟩,h3⟩
 ·obtain⟨p,q,hB,_⟩:=h2.blk
  have:=Option.some.inj (hv.symm.trans (hB.cell 6))
  rw [this] at hb
  cases hb
 ·obtain⟨v',hB,hr⟩:=h2.at_
  have:=Option.some.inj (hv.symm.trans (hB.cell 6))
  rw [this] at hb
  have:=hr.lt b hb
  exact⟨this.1,this.2⟩
theorem run_lt {W:World} {r g:Nat} {x:Rn} (h:RunM W r g x) {b:Nat} (hb:runOwn W r g b):b < W.heap.size:=by
 have:=h.lt
 rcases hb with rfl | rfl | ⟨v,hv,hb⟩
 ·omega
 ·omega
 ·exact (run_row h hv hb).2
theorem run_heap {W W':World} {r g:Nat} {x:Rn} (h:RunM W r g x)(hk:∀ b,runOwn W r g b→W'.heap[b]?=W.heap[b]?):RunM W' r g x∧∀ b,runOwn W' r g b↔runOwn W r g b:=by
 have hr:=hk r (.inl rfl)
 have hg:=hk g (.inr (.inl rfl))
 have hc:W'.cell? ⟨g,6,none⟩=W.cell? ⟨g,6,none⟩:=World.cell?_of_block (w:=W) (w':=W') (a:=⟨g,6,none⟩) hg
 refine⟨?_,fun b=>by unfold runOwn;rw [hc]⟩
 rcases h with ⟨h1,h2,h3⟩ | ⟨h1,⟨K,h2⟩,h3⟩
 ·obtain⟨p,q,hB,hrest⟩:=h2.blk
  exact .inl ⟨hr.trans h1,⟨⟨p,q,hg.trans hB,hrest⟩,h2.may,h2.lt_,h2.num,h2.x0,h2.x1,h2.few⟩,h3⟩
 ·obtain⟨v,hB,hrow⟩:=h2.at_
  refine .inr ⟨hr.trans h1,⟨K,⟨v,hg.trans hB,?_⟩,h2.may,h2.le,h2.run,h2.num,h2.x0,h2.x1,h2.few,h2.one⟩,h3⟩
  exact owns_heapH hrow fun b hb=>hk b (.inr (.inr ⟨v,hB.cell 6,hb⟩))
theorem good_run (r:Nat)(x:Rn):Good (RunO r x):=by
 refine⟨fun ⟨g,h,hS⟩ b hb=>run_lt h ((hS b).1 hb),fun ⟨g,h,hS⟩ _ hk=>?_⟩
 obtain⟨h1,h2⟩:=run_heap h fun b hb=>hk b ((hS b).2 hb)
 exact⟨g,h1,fun b=>(hS b).trans (h2 b).symm⟩
theorem made_run {w w':World} {F L R:Int} {e:Ending} (h:Made w F L R e w'):∃ r,e=.returned (.pointer (some ⟨r,0,none⟩))∧Below w.heap.size w w'∧∃ S,RunO r (rn0 (F,L,R)) w' S∧∀ b,S b→w.heap.size≤b:=by
 obtain⟨r,g,he,hg,hr,hb⟩:=h
 have hr:RunM w' r g (rn0 (F,L,R)):=hr
 refine⟨r,he,hb,fun b=>runOwn w' r g b,⟨g,hr,fun b=>Iff.rfl⟩,fun b hb2=>?_⟩
 have:=hr.lt
 rcases hb2 with rfl | rfl | ⟨v,hv,hb2⟩
 ·omega
 ·exact hg
 ·have:=(run_row hr hv hb2).1;omega
theorem run_started {W W':World} {r g:Nat} {x x':Rn} (h:RunM W r g x)(h':RunM W' r g x')(hg:W.grownBy W' (some g))(hn:NewRow W W' g) {A:Nat→Prop} (hA:∀ b,A b↔runOwn W r g b):∃ A',RunO r x' W' A'∧Went W W' A A':=by
 refine⟨fun b=>runOwn W' r g b,⟨g,h',fun b=>Iff.rfl⟩,Fr.of_grown hg fun b e=>by cases e;exact (hA g).2 (.inr (.inl rfl)),fun b hb=>?_⟩
 rcases hb with rfl | rfl | ⟨v,hv,hb⟩
 ·exact .inl ((hA _).2 (.inl rfl))
 ·exact .inl ((hA _).2 (.inr (.inl rfl)))
 ·exact .inr (hn v b hv hb)
theorem ro_start {W:World} {r:Nat} {x:Rn} (t y:Int)(ht:U t)(hy:U y)(hfew:x.A.length < 900000) :
  Acts (fun e=>e=.returned (.tuple #[])) (RunO r x) (RunO r (startR x t y)) 88 #[.pointer (some ⟨r,0,none⟩),.int .u64 t,.int .u64 y] Tryz.prog W:=fun A ⟨g,h,hA⟩ =>
 (run_start_own h t y _ _ ht hy rfl rfl hfew).mono fun e W' ⟨h1,h2,h3,h4⟩=>⟨h1,run_started (x:=x) (x':=startR x t y) h h2 h3 h4 hA⟩
theorem ro_reach {W:World} {r:Nat} {x:Rn} {S:Nat→Prop} (h:RunO r x W S)(y:Int)(hy:U y) :
  Calls Tryz.prog 102 #[.pointer (some ⟨r,0,none⟩),.int .u64 y] W fun e W'=>e=.returned (.int .u64 (reachR x y))∧Below W.heap.size W W':=by
 obtain⟨g,h,_⟩:=h
 exact urun_reach h y hy
def LimO (l:Nat):Option Rn→Ob
 | none=>fun W S=>LFree W l∧∀ b,S b↔b=l
 | some x=>fun W S=>∃ r g,LimAt W l r g x.F x.L x.R x.x x.A∧∀ b,S b↔b=l∨runOwn W r g b
theorem good_lim (l:Nat):∀ o,Good (LimO l o)
 | none=>⟨fun ⟨h,hS⟩ b hb=>by rw [(hS b).1 hb];exact h.lt,fun ⟨h,hS⟩ _ hk=>⟨(hk l ((hS l).2 rfl)).trans h,hS⟩⟩
 | some x=>by
  refine⟨fun ⟨r,g,h,hS⟩ b hb=>?_,fun ⟨r,g,h,hS⟩ _ hk=>?_⟩
  ·rcases (hS b).1 hb with rfl | hb
   ·exact h.1.lt
   ·exact run_lt (x:=x) h.2.1 hb
  ·obtain⟨h1,h2⟩:=run_heap (x:=x) h.2.1 fun b hb=>hk b ((hS b).2 (.inr hb))
   exact⟨r,g,⟨(hk l ((hS l).2 (.inl rfl))).trans h.1,h1,h.2.2⟩,fun b=>(hS b).trans (or_congr Iff.rfl (h2 b).symm)⟩
theorem lo_fit {W:World} {l:Nat} {o:Option Rn} {S:Nat→Prop} (h:LimO l o W S)(y:Int)(hy:U y) :
  Calls Tryz.prog 112 #[.pointer (some ⟨l,0,none⟩),.int .u64 y] W fun e W'=>e=.returned (.int .u64 (owL o y))∧Below W.heap.size W W':=by
 cases o with
 | none=>exact lfit_free y h.1
 | some x =>
  obtain⟨r,g,h,_⟩:=h
  have hr:=fun W (hr:RunM W r g x)=>urun_reach hr y hy
  have H:=Lib.hid h
  have HR:=Lib.hid hr
  clear h hr
  show Calls Tryz.prog _ _ W fun e W'=>e=.returned (.int .u64 (reachR x y))∧_
  unfold reachR
  go_enter Tryz.func112,Tryz.ntmps112
  go_wp2_with (first
   | (go_at_call 89;refine (lbound_some H.out).mono ?_;rintro e w0 ⟨rfl,hb0⟩;have hq:=H.out.below hb0;clear H;have H:=Lib.hid hq;clear hq)
   | (go_at_call 102;refine (HR.out _ H.out.2.1).mono ?_;rintro e w1 ⟨rfl,hb1⟩))
  go_ret
  exact⟨rfl,hb0.trans (hb1.mono hb0.size)⟩
def wakeL (o:Option Rn)(now tot:Int):Option Rn:=o.map fun r=>startR r now tot
theorem lo_wake {W:World} {l:Nat} {o:Option Rn} (now tot:Int)(ht:U now)(hy:U tot)(hfew:∀ x,o=some x→x.A.length < 900000) :
  Acts (fun e=>e=.returned (.tuple #[])) (LimO l o) (LimO l (wakeL o now tot)) 44 #[.pointer (some ⟨l,0,none⟩),.int .u64 now,.int .u64 tot] Tryz.prog W:=fun A hA=>by
 cases o with
 | none =>
  have H:=Lib.hid hA
  clear hA
  go_enter Tryz.func44,Tryz.ntmps44
  go_wp2_with (go_at_call 89;refine (lbound_free H.out.1).mono ?_;rintro e w0 ⟨rfl,hb0⟩)
  go_returns
  exact⟨rfl,A,⟨H.out.1.below hb0 H.out.1.lt,H.out.2⟩,Fr.of_below hb0,fun b hb=>.inl hb⟩
 | some x =>
  obtain⟨r,g,h,hS⟩:=hA
  have hw:=fun W (hr:RunM W r g x)=>run_start_own hr now tot _ _ ht hy rfl rfl (hfew x rfl)
  have H:=Lib.hid h
  have HW:=Lib.hid hw
  have HS:=Lib.hid hS
  clear h hw hS hfew
  go_enter Tryz.func44,Tryz.ntmps44
  go_wp2_with (first
   | (go_at_call 89;refine (lbound_some H.out).mono ?_;rintro e w0 ⟨rfl,hb0⟩;have H1:=Lib.hid (And.intro (H.out.below hb0) hb0);clear hb0)
   | (go_at_call 88;refine (HW.out _ H1.out.1.2.1).mono ?_;rintro e w1 ⟨rfl,hr1,hg1,hn1⟩;have H2:=Lib.hid (And.intro hr1 (And.intro hg1 hn1));clear hr1 hg1 hn1))
  go_returns
  obtain⟨hr1,hg1,hn1⟩:=H2.out
  have hown:∀ b,runOwn w0 r g b↔runOwn W r g b:=(run_heap (x:=x) H.out.2.1 fun b hb=>H1.out.2.block b (run_lt (x:=x) H.out.2.1 hb)).2
  obtain⟨A',⟨g',hm,hA'⟩,hwent⟩:=run_started (x:=x) (x':=startR x now tot) H1.out.1.2.1 hr1 hg1 hn1 (A:=fun b=>runOwn w0 r g b) fun b=>Iff.rfl
  have hl1:LimAt w1 l r g (startR x now tot).F (startR x now tot).L (startR x now tot).R (startR x now tot).x (startR x now tot).A:=⟨H1.out.1.1.grown hg1 (by have:=H.out.glt;simp;omega),hr1,H.out.2.2⟩
  refine⟨rfl,fun b=>b=l∨runOwn w1 r g b,⟨r,g,hl1,fun b=>Iff.rfl⟩,?_,fun b hb=>?_⟩
  ·refine (Fr.of_below H1.out.2).trans (Fr.of_grown hg1 fun b e=>?_)
   cases e
   exact (HS.out g).2 (.inr (.inr (.inl rfl)))
  ·rcases hb with rfl | rfl | rfl | ⟨v,hv,hb⟩
   ·exact .inl ((HS.out _).2 (.inl rfl))
   ·exact .inl ((HS.out _).2 (.inr (.inl rfl)))
   ·exact .inl ((HS.out _).2 (.inr (.inr (.inl rfl))))
   ·exact .inr (Nat.le_trans H1.out.2.size (hn1 v b hv hb))
end
section
open Go.RowKit Go.Maps
def TrO (q:Nat)(L:List En):Ob:=fun W S=>∃ g m t M,AugAt W q g m t M∧listT t=L∧∀ b,S b↔ownA q g m t b
theorem good_tr (q:Nat)(L:List En):Good (TrO q L) :=
 ⟨fun ⟨g,m,t,M,h,_,hS⟩ b hb=>h.lt b ((hS b).1 hb),fun ⟨g,m,t,M,h,hL,hS⟩ _ hk=>⟨g,m,t,M,⟨(hk q ((hS q).2 (.inl rfl))).trans h.aug,⟨(hk g ((hS g).2 (.inr (.inl rfl)))).trans h.tr.tree,h.tr.rb.kept fun a ha=>hk a ((hS a).2 (.inr (.inr (.inr ha)))),h.tr.nd,h.tr.well⟩,h.map.heap (hk m ((hS m).2 (.inr (.inr (.inl rfl))))),h.inv,h.look,h.len⟩,hL,hS⟩⟩
theorem tr_went {W W':World} {q g m:Nat} {t t':RB} {M:List (Int × Ky)} {L:List En} (ha:AugAt W' q g m t' M)(hl:listT t'=L)(hx:∀ x∈addrs t',x∈addrs t∨W.heap.size≤x)(hf:Fr (ownA q g m t) W W') {A:Nat→Prop} (hA:∀ b,A b↔ownA q g m t b):∃ A',TrO q L W' A'∧Went W W' A A':=by
 refine⟨fun b=>ownA q g m t' b,⟨g,m,t',M,ha,hl,fun b=>Iff.rfl⟩,hf.weak fun b _ hb=>(hA b).2 hb,fun b hb=>?_⟩
 rcases hb with rfl | rfl | rfl | hb
 ·exact .inl ((hA _).2 (.inl rfl))
 ·exact .inl ((hA _).2 (.inr (.inl rfl)))
 ·exact .inl ((hA _).2 (.inr (.inr (.inl rfl))))
 ·exact (hx b hb).imp (fun h=>(hA b).2 (.inr (.inr (.inr h)))) id
section
variable {W : World} {q : Nat} {L : List En}
theorem tr_put (i a b:Int)(hi:(Lit.int .i64 i).wf=true)(hfew:L.length < 900000) :
  Acts (fun e=>e=.returned (.tuple #[])) (TrO q L) (TrO q (putI L i a b)) 90 #[.pointer (some ⟨q,0,none⟩),.int .i64 i,.int .u64 a,.int .u64 b] Tryz.prog W:=fun A ⟨g,m,t,M,h,hL,hA⟩ =>
 (aput_any q g m i a b t M W h hi (by rw [hL];exact hfew)).mono fun e W' ⟨t',M',he,ha,hl,hx,hf⟩=>⟨he,tr_went ha (by rw [hl,hL]) hx hf hA⟩
theorem tr_drop (i:Int)(hi:(Lit.int .i64 i).wf=true)(hfew:L.length < 900000) :
  Acts (fun e=>∃ b,e=.returned (.bool b)) (TrO q L) (TrO q (dropI L i)) 91 #[.pointer (some ⟨q,0,none⟩),.int .i64 i] Tryz.prog W:=fun A ⟨g,m,t,M,h,hL,hA⟩ =>
 (adrop_any q g m i t M W h hi (by rw [hL];omega)).mono fun e W' ⟨t',M',he,ha,hl,hx,hf⟩=>⟨⟨_,he⟩,tr_went ha (by rw [hl,hL]) hx hf hA⟩
theorem tr_len {S:Nat→Prop} (h:TrO q L W S):Calls Tryz.prog 58 #[.pointer (some ⟨q,0,none⟩)] W fun e W'=>e=.returned (.int .i64 L.length)∧W=W':=by
 obtain⟨g,m,t,M,h,rfl,_⟩:=h
 exact alen_any q g m t M W h
theorem tr_within {S:Nat→Prop} (h:TrO q L W S)(v:Int):Calls Tryz.prog 52 #[.pointer (some ⟨q,0,none⟩),.int .u64 v] W (OptW W (withinV L v)):=by
 obtain⟨g,m,t,M,h,rfl,_⟩:=h
 exact awithin_any q g m v t M W h
theorem tr_lowest {S:Nat→Prop} (h:TrO q L W S):Calls Tryz.prog 68 #[.pointer (some ⟨q,0,none⟩)] W (LowW W (lowV L)):=by
 obtain⟨g,m,t,M,h,rfl,_⟩:=h
 exact alowest_any q g m t M W h
end
def NewO (w:World)(P:Nat→Ob)(e:Ending)(w':World):Prop:=∃ q,e=.returned (.pointer (some ⟨q,0,none⟩))∧Below w.heap.size w w'∧∃ S,P q w' S∧∀ b,S b→w.heap.size≤b
theorem tr_new (w:World):Calls Tryz.prog 32 #[] w (NewO w fun q=>TrO q []) :=
 (augnew_any w).mono fun e w' ⟨q,g,m,he,h,hb,hlo⟩=>⟨q,he,hb,fun b=>ownA q g m .nil b,⟨g,m,.nil,[],h,rfl,fun b=>Iff.rfl⟩,hlo⟩
theorem run_newO (c:Int × Int × Int)(w:World)(h0:0≤c.1)(h1:0≤c.2.1)(h2:0≤c.2.2)(hm:mayB c.1 c.2.1 c.2.2=true) :
  Calls Tryz.prog 83 #[.agg #[.int .u64 c.1,.int .u64 c.2.1,.int .u64 c.2.2]] w (NewO w fun r=>RunO r (rn0 c)) :=
 (run_new c.1 c.2.1 c.2.2 w h0 h1 h2 hm).mono fun e w' h=>by
  obtain⟨r,he,hb,S,hr,hlo⟩:=made_run h
  exact⟨r,he,hb,S,hr,hlo⟩
def limN (u:Int × Int × Int):Option Rn:=if (u.1=0∧u.2.1=0∧u.2.2=0)∨mayB u.1 u.2.1 u.2.2=false then none else some (rn0 u)
theorem lim_newO (u:Int × Int × Int)(w:World)(h0:0≤u.1)(h1:0≤u.2.1)(h2:0≤u.2.2) :
  Calls Tryz.prog 36 #[.agg #[.int .u64 u.1,.int .u64 u.2.1,.int .u64 u.2.2]] w (NewO w fun l=>LimO l (limN u)):=by
 unfold limN
 by_cases h:(u.1=0∧u.2.1=0∧u.2.2=0)∨mayB u.1 u.2.1 u.2.2=false
 ·rw [if_pos h]
  exact (lnew_free u.1 u.2.1 u.2.2 w h1 h).mono fun e w' ⟨l,he,hl,hf,hb⟩=>⟨l,he,hb,fun b=>b=l,⟨hf,fun b=>Iff.rfl⟩,fun b hb=>by rw [hb];exact hl⟩
 ·rw [if_neg h]
  have hm:mayB u.1 u.2.1 u.2.2=true:=by
   cases hm:mayB u.1 u.2.1 u.2.2 with
   | true=>rfl
   | false=>exact absurd (.inr hm) h
  refine (lnew_some u.1 u.2.1 u.2.2 w h0 h1 h2 (fun h3=>h (.inl h3)) hm).mono fun e w' ⟨l,r,g,he,hg,hl,hb⟩=>⟨l,he,hb,fun b=>b=l∨runOwn w' r g b,⟨r,g,hl,fun b=>Iff.rfl⟩,fun b hb2=>?_⟩
  have hlt:=hl.2.1.lt
  have hlr:=hl.2.2
  rcases hb2 with rfl | rfl | rfl | ⟨v,hv,hb2⟩
  ·omega
  ·omega
  ·exact hg
  ·have:=(run_row (x:=rn0 u) hl.2.1 hv hb2).1;omega
end
end Go.Proofs.YtmmeopjemkjllaaGreat
