/- Lemmas of the claim. No conditions beyond those that each states. -/
import Derived.Test.YtmmeopjemkjllaaGreatPU33
import Derived.Test.YtmmeopjemkjllaaGreatPU27
import Derived.Test.YtmmeopjemkjllaaGreatPU24
set_option linter.unusedVariables false
set_option linter.unusedSimpArgs false
set_option maxRecDepth 100000
set_option maxHeartbeats 8000000
namespace Go.Proofs.YtmmeopjemkjllaaGreat
section
open Go.RowKit Go.Maps
noncomputable def reachR (r:Rn)(y:Int):Int:=qR r.F r.L r.R r.x r.A y
noncomputable def owL (l:Option Rn)(y:Int):Int:=match l with
 | none=>0
 | some r=>reachR r y
def RunM (W:World)(r g:Nat)(x:Rn):Prop:=RunAt W r g x.F x.L x.R x.x x.A
def runOwn (W:World)(r g b:Nat):Prop:=b=r∨b=g∨∃ v,W.cell? ⟨g,6,none⟩=some v∧v.ownBlock=some b
def RunO (r:Nat)(x:Rn):Ob:=fun W S=>∃ g,RunM W r g x∧∀ b,S b↔runOwn W r g b
theorem run_row {W:World} {r g:Nat} {x:Rn} (h:RunM W r g x) {v:Value} {b:Nat} (hv:W.cell? ⟨g,6,none⟩=some v)(hb:v.ownBlock=some b):g < b∧b < W.heap.size:=by
 rcases h with ⟨h1,h2,h3⟩ | ⟨h1,⟨K,h2⟩,h3⟩
 ·obtain⟨p,q,hB,_⟩:=h2.blk
  have:=Option.some.inj (hv.symm.trans (hB.cell 6))
  rw [this] at hb
  cases hb
 ·obtain⟨v',hB,hr⟩:=h2.at_
  have:=Option.some.inj (hv.symm.trans (hB.cell 6))
  rw [this] at hb
  have:=hr.lt b hb
  exact⟨this.1,this.2⟩
theorem run_lt {W:World} {r g:Nat} {x:Rn} (h:RunM W r g x) {b:Nat} (hb:runOwn W r g b):b < W.heap.size:=by
 have:=h.lt
 rcases hb with rfl | rfl | ⟨v,hv,hb⟩
 ·omega
 ·omega
 ·exact (run_row h hv hb).2
theorem run_heap {W W':World} {r g:Nat} {x:Rn} (h:RunM W r g x)(hk:∀ b,runOwn W r g b→W'.heap[b]?=W.heap[b]?):RunM W' r g x∧∀ b,runOwn W' r g b↔runOwn W r g b:=by
 have hr:=hk r (.inl rfl)
 have hg:=hk g (.inr (.inl rfl))
 have hc:W'.cell? ⟨g,6,none⟩=W.cell? ⟨g,6,none⟩:=World.cell?_of_block (w:=W) (w':=W') (a:=⟨g,6,none⟩) hg
 refine⟨?_,fun b=>by unfold runOwn;rw [hc]⟩
 rcases h with ⟨h1,h2,h3⟩ | ⟨h1,⟨K,h2⟩,h3⟩
 ·obtain⟨p,q,hB,hrest⟩:=h2.blk
  exact .inl ⟨hr.trans h1,⟨⟨p,q,hg.trans hB,hrest⟩,h2.may,h2.lt_,h2.num,h2.x0,h2.x1,h2.few⟩,h3⟩
 ·obtain⟨v,hB,hrow⟩:=h2.at_
  refine .inr ⟨hr.trans h1,⟨K,⟨v,hg.trans hB,?_⟩,h2.may,h2.le,h2.run,h2.num,h2.x0,h2.x1,h2.few,h2.one⟩,h3⟩
  exact owns_heapH hrow fun b hb=>hk b (.inr (.inr ⟨v,hB.cell 6,hb⟩))
theorem good_run (r:Nat)(x:Rn):Good (RunO r x):=by
 refine⟨fun ⟨g,h,hS⟩ b hb=>run_lt h ((hS b).1 hb),fun ⟨g,h,hS⟩ _ hk=>?_⟩
 obtain⟨h1,h2⟩:=run_heap h fun b hb=>hk b ((hS b).2 hb)
 exact⟨g,h1,fun b=>(hS b).trans (h2 b).symm⟩
theorem made_run {w w':World} {F L R:Int} {e:Ending} (h:Made w F L R e w'):∃ r,e=.returned (.pointer (some ⟨r,0,none⟩))∧Below w.heap.size w w'∧∃ S,RunO r (rn0 (F,L,R)) w' S∧∀ b,S b→w.heap.size≤b:=by
 obtain⟨r,g,he,hg,hr,hb⟩:=h
 have hr:RunM w' r g (rn0 (F,L,R)):=hr
 refine⟨r,he,hb,fun b=>runOwn w' r g b,⟨g,hr,fun b=>Iff.rfl⟩,fun b hb2=>?_⟩
 have:=hr.lt
 rcases hb2 with rfl | rfl | ⟨v,hv,hb2⟩
 ·omega
 ·exact hg
 ·have:=(run_row hr hv hb2).1;omega
theorem run_started {W W':World} {r g:Nat} {x x':Rn} (h:RunM W r g x)(h':RunM W' r g x')(hg:W.grownBy W' (some g))(hn:NewRow W W' g) {A:Nat→Prop} (hA:∀ b,A b↔runOwn W r g b):∃ A',RunO r x' W' A'∧Went W W' A A':=by
 refine⟨fun b=>runOwn W' r g b,⟨g,h',fun b=>Iff.rfl⟩,Fr.of_grown hg fun b e=>by cases e;exact (hA g).2 (.inr (.inl rfl)),fun b hb=>?_⟩
 rcases hb with rfl | rfl | ⟨v,hv,hb⟩
 ·exact .inl ((hA _).2 (.inl rfl))
 ·exact .inl ((hA _).2 (.inr (.inl rfl)))
 ·exact .inr (hn v b hv hb)
theorem ro_start {W:World} {r:Nat} {x:Rn} (t y:Int)(ht:U t)(hy:U y)(hfew:x.A.length < 900000) :
  Acts (fun e=>e=.returned (.tuple #[])) (RunO r x) (RunO r (startR x t y)) 88 #[.pointer (some ⟨r,0,none⟩),.int .u64 t,.int .u64 y] Tryz.prog W:=fun A ⟨g,h,hA⟩ =>
 (run_start_own h t y _ _ ht hy rfl rfl hfew).mono fun e W' ⟨h1,h2,h3,h4⟩=>⟨h1,run_started (x:=x) (x':=startR x t y) h h2 h3 h4 hA⟩
theorem ro_reach {W:World} {r:Nat} {x:Rn} {S:Nat→Prop} (h:RunO r x W S)(y:Int)(hy:U y) :
  Calls Tryz.prog 102 #[.pointer (some ⟨r,0,none⟩),.int .u64 y] W fun e W'=>e=.returned (.int .u64 (reachR x y))∧Below W.heap.size W W':=by
 obtain⟨g,h,_⟩:=h
 exact urun_reach h y hy
def LimO (l:Nat):Option Rn→Ob
 | none=>fun W S=>LFree W l∧∀ b,S b↔b=l
 | some x=>fun W S=>∃ r g,LimAt W l r g x.F x.L x.R x.x x.A∧∀ b,S b↔b=l∨runOwn W r g b
theorem good_lim (l:Nat):∀ o,Good (LimO l o)
 | none=>⟨fun ⟨h,hS⟩ b hb=>by rw [(hS b).1 hb];exact h.lt,fun ⟨h,hS⟩ _ hk=>⟨(hk l ((hS l).2 rfl)).trans h,hS⟩⟩
 | some x=>by
  refine⟨fun ⟨r,g,h,hS⟩ b hb=>?_,fun ⟨r,g,h,hS⟩ _ hk=>?_⟩
  ·rcases (hS b).1 hb with rfl | hb
   ·exact h.1.lt
   ·exact run_lt (x:=x) h.2.1 hb
  ·obtain⟨h1,h2⟩:=run_heap (x:=x) h.2.1 fun b hb=>hk b ((hS b).2 (.inr hb))
   exact⟨r,g,⟨(hk l ((hS l).2 (.inl rfl))).trans h.1,h1,h.2.2⟩,fun b=>(hS b).trans (or_congr Iff.rfl (h2 b).symm)⟩
theorem lo_fit {W:World} {l:Nat} {o:Option Rn} {S:Nat→Prop} (h:LimO l o W S)(y:Int)(hy:U y) :
  Calls Tryz.prog 112 #[.pointer (some ⟨l,0,none⟩),.int .u64 y] W fun e W'=>e=.returned (.int .u64 (owL o y))∧Below W.heap.size W W':=by
 cases o with
 | none=>exact lfit_free y h.1
 | some x =>
  obtain⟨r,g,h,_⟩:=h
  have hr:=fun W (hr:RunM W r g x)=>urun_reach hr y hy
  have H:=Lib.hid h
  have HR:=Lib.hid hr
  clear h hr
  show Calls Tryz.prog _ _ W fun e W'=>e=.returned (.int .u64 (reachR x y))∧_
  unfold reachR
  go_enter Tryz.func112,Tryz.ntmps112
  go_wp2_with (first
   | (go_at_call 89;refine (lbound_some H.out).mono ?_;rintro e w0 ⟨rfl,hb0⟩;have hq:=H.out.below hb0;clear H;have H:=Lib.hid hq;clear hq)
   | (go_at_call 102;refine (HR.out _ H.out.2.1).mono ?_;rintro e w1 ⟨rfl,hb1⟩))
  go_ret
  exact⟨rfl,hb0.trans (hb1.mono hb0.size)⟩
def wakeL (o:Option Rn)(now tot:Int):Option Rn:=o.map fun r=>startR r now tot
theorem lo_wake {W:World} {l:Nat} {o:Option Rn} (now tot:Int)(ht:U now)(hy:U tot)(hfew:∀ x,o=some x→x.A.length < 900000) :
  Acts (fun e=>e=.returned (.tuple #[])) (LimO l o) (LimO l (wakeL o now tot)) 44 #[.pointer (some ⟨l,0,none⟩),.int .u64 now,.int .u64 tot] Tryz.prog W:=fun A hA=>by
 cases o with
 | none =>
  have H:=Lib.hid hA
  clear hA
  go_enter Tryz.func44,Tryz.ntmps44
  go_wp2_with (go_at_call 89;refine (lbound_free H.out.1).mono ?_;rintro e w0 ⟨rfl,hb0⟩)
  go_returns
  exact⟨rfl,A,⟨H.out.1.below hb0 H.out.1.lt,H.out.2⟩,Fr.of_below hb0,fun b hb=>.inl hb⟩
 | some x =>
  obtain⟨r,g,h,hS⟩:=hA
  have hw:=fun W (hr:RunM W r g x)=>run_start_own hr now tot _ _ ht hy rfl rfl (hfew x rfl)
  have H:=Lib.hid h
  have HW:=Lib.hid hw
  have HS:=Lib.hid hS
  clear h hw hS hfew
  go_enter Tryz.func44,Tryz.ntmps44
  go_wp2_with (first
   | (go_at_call 89;refine (lbound_some H.out).mono ?_;rintro e w0 ⟨rfl,hb0⟩;have H1:=Lib.hid (And.intro (H.out.below hb0) hb0);clear hb0)
   | (go_at_call 88;refine (HW.out _ H1.out.1.2.1).mono ?_;rintro e w1 ⟨rfl,hr1,hg1,hn1⟩;have H2:=Lib.hid (And.intro hr1 (And.intro hg1 hn1));clear hr1 hg1 hn1))
  go_returns
  obtain⟨hr1,hg1,hn1⟩:=H2.out
  have hown:∀ b,runOwn w0 r g b↔runOwn W r g b:=(run_heap (x:=x) H.out.2.1 fun b hb=>H1.out.2.block b (run_lt (x:=x) H.out.2.1 hb)).2
  obtain⟨A',⟨g',hm,hA'⟩,hwent⟩:=run_started (x:=x) (x':=startR x now tot) H1.out.1.2.1 hr1 hg1 hn1 (A:=fun b=>runOwn w0 r g b) fun b=>Iff.rfl
  have hl1:LimAt w1 l r g (startR x now tot).F (startR x now tot).L (startR x now tot).R (startR x now tot).x (startR x now tot).A:=⟨H1.out.1.1.grown hg1 (by have:=H.out.glt;simp;omega),hr1,H.out.2.2⟩
  refine⟨rfl,fun b=>b=l∨runOwn w1 r g b,⟨r,g,hl1,fun b=>Iff.rfl⟩,?_,fun b hb=>?_⟩
  ·refine (Fr.of_below H1.out.2).trans (Fr.of_grown hg1 fun b e=>?_)
   cases e
   exact (HS.out g).2 (.inr (.inr (.inl rfl)))
  ·rcases hb with rfl | rfl | rfl | ⟨v,hv,hb⟩
   ·exact .inl ((HS.out _).2 (.inl rfl))
   ·exact .inl ((HS.out _).2 (.inr (.inl rfl)))
   ·exact .inl ((HS.out _).2 (.inr (.inr (.inl rfl))))
   ·exact .inr (Nat.le_trans H1.out.2.size (hn1 v b hv hb))
end
section
open Go.RowKit Go.Maps
def ownD (c:Nat)(vx vy:Value)(b:Nat):Prop:=b=c∨vx.ownBlock=some b∨vy.ownBlock=some b
def NewOr (w:World)(v v':Value):Prop:=∀ b,v'.ownBlock=some b→v.ownBlock=some b∨w.heap.size≤b
def MidO (w wx:World)(c base:Nat)(F L R X:Int)(A:List (Int × Int))(vx vy:Value):Prop :=
 ∃ g cp,Blk wx c 191 #[.int .u64 F,.int .u64 L,.int .u64 R,.slice (some ⟨g,0,none⟩) (A.length+1) cp,vy]∧RowU wx base (.slice (some ⟨g,0,none⟩) (A.length+1) cp) (A.map (·.1) ++ [X])∧RowU wx base vy (A.map (·.2))∧vy.ownBlock≠some g∧Fr (ownD c vx vy) w wx∧(vx.ownBlock=some g∨w.heap.size≤g)
def EndO (w wx:World)(c base:Nat)(F L R X Y:Int)(A:List (Int × Int))(vx vy:Value):Prop :=
 ∃ vx' vy',Blk wx c 191 #[.int .u64 F,.int .u64 L,.int .u64 R,vx',vy']∧RowU wx base vx' ((A ++ [(X,Y)]).map (·.1))∧RowU wx base vy' ((A ++ [(X,Y)]).map (·.2))∧(vx'.ownBlock=none∨vx'.ownBlock≠vy'.ownBlock)∧Fr (ownD c vx vy) w wx∧NewOr w vx vx'∧NewOr w vy vy'
theorem mid_own {w W w2:World} {c base g cp:Nat} {F L R X:Int} {A:List (Int × Int)} {vx vy:Value}
  (hB:Blk w c 191 #[.int .u64 F,.int .u64 L,.int .u64 R,vx,vy]) (hx:RowU w base vx (A.map (·.1))) (hy:RowU w base vy (A.map (·.2))) (hd:vx.ownBlock=none∨vx.ownBlock≠vy.ownBlock)
  (hb:Below w.heap.size w W) (hown:w2.ownsRow base 28 1 (.slice (some ⟨g,0,none⟩) (A.length+1) cp) (A.length+1) ((A.map (·.1)).map (Value.int .u64) ++ [.int .u64 X])) (hgr:W.grownBy w2 vx.ownBlock) (hat:vx.ownBlock=some g∨g=W.heap.size) :
  MidO w (w2.setCell ⟨c,3,none⟩ (.slice (some ⟨g,0,none⟩) (A.length+1) cp)) c base F L R X A vx vy:=by
 have hxW:=hx.below hb
 have hyW:=hy.below hb
 have hBW:=hB.below hb hB.lt
 have hB2:=hBW.grown hgr (row_blk hxW hBW (by decide))
 have hrow:=RowU.more (xs:=A.map (·.1)) (by simp) hown
 have hyd:vy.ownBlock=none∨vy.ownBlock≠vx.ownBlock:=by
  rcases hd with hd | hd
  ·rw [hd];cases h:vy.ownBlock with
   | none=>exact .inl rfl
   | some k=>exact .inr (by simp)
  ·exact .inr (Ne.symm hd)
 have hy2:RowU w2 base vy (A.map (·.2)):=hyW.kept hgr hyd
 have hset:=World.grownBy_setCell w2 ⟨c,3,none⟩ (.slice (some ⟨g,0,none⟩) (A.length+1) cp)
 refine⟨g,cp,hB2.set_ 3 _,hrow.kept hset (.inr ?_),hy2.kept hset (.inr ?_),?_,?_,hat.imp id fun h=>by rw [h];exact hb.size⟩
 ·exact Ne.symm (row_blk hrow hB2 (by decide))
 ·exact Ne.symm (row_blk hy2 hB2 (by decide))
 ·intro he
  rcases hat with hat | hat
  ·rcases hd with hd | hd
   ·rw [hd] at hat;cases hat
   ·exact hd (hat.trans he.symm)
  ·have:=hyW.blk_lt he
   omega
 ·exact (Fr.of_below hb).trans ((Fr.of_grown hgr fun b e=>.inr (.inl e)).trans (Fr.of_grown hset fun b e=>.inl (by simpa using e.symm)))
theorem end_own {w wx W w2:World} {c base g cp g2 cp2:Nat} {F L R X Y:Int} {A:List (Int × Int)} {vy:Value}
  (hB:Blk wx c 191 #[.int .u64 F,.int .u64 L,.int .u64 R,.slice (some ⟨g,0,none⟩) (A.length+1) cp,vy]) (hx:RowU wx base (.slice (some ⟨g,0,none⟩) (A.length+1) cp) (A.map (·.1) ++ [X])) (hy:RowU wx base vy (A.map (·.2))) {vx:Value} (hne:vy.ownBlock≠some g) (hg:Fr (ownD c vx vy) w wx) (hgn:vx.ownBlock=some g∨w.heap.size≤g)
  (hb:Below wx.heap.size wx W) (hown:w2.ownsRow base 28 1 (.slice (some ⟨g2,0,none⟩) (A.length+1) cp2) (A.length+1) ((A.map (·.2)).map (Value.int .u64) ++ [.int .u64 Y])) (hgr:W.grownBy w2 vy.ownBlock) (hat:vy.ownBlock=some g2∨g2=W.heap.size) :
  EndO w (w2.setCell ⟨c,4,none⟩ (.slice (some ⟨g2,0,none⟩) (A.length+1) cp2)) c base F L R X Y A vx vy:=by
 have hxW:=hx.below hb
 have hyW:=hy.below hb
 have hBW:=hB.below hb hB.lt
 have hB2:=hBW.grown hgr (row_blk hyW hBW (by decide))
 have hrow:=RowU.more (xs:=A.map (·.2)) (by simp) hown
 have hx2:RowU w2 base (.slice (some ⟨g,0,none⟩) (A.length+1) cp) (A.map (·.1) ++ [X]):=hxW.kept hgr (.inr (Ne.symm hne))
 have hset:=World.grownBy_setCell w2 ⟨c,4,none⟩ (.slice (some ⟨g2,0,none⟩) (A.length+1) cp2)
 refine⟨_,_,hB2.set_ 4 _,?_,?_,.inr ?_,?_,fun b hb2=>by cases hb2;exact hgn,fun b hb2=>by cases hb2;exact hat.imp id fun h=>by rw [h];exact Nat.le_trans hg.size hb.size⟩
 ·rw [List.map_append]
  exact hx2.kept hset (.inr (Ne.symm (row_blk hx2 hB2 (by decide))))
 ·rw [List.map_append]
  exact hrow.kept hset (.inr (Ne.symm (row_blk hrow hB2 (by decide))))
 ·have hgl:=hx.blk_lt (k:=g) rfl
  have hbs:=hb.size
  simp only [Value.ownBlock,ne_eq,Option.some.injEq]
  rintro rfl
  rcases hat with hat | hat
  ·exact hne hat
  ·omega
 ·exact hg.trans ((Fr.of_below hb).trans ((Fr.of_grown hgr fun b e=>.inr (.inr e)).trans (Fr.of_grown hset fun b e=>.inl (by simpa using e.symm))))
section
variable {w : World} {c base : Nat} {F L R x : Int} {A : List (Int × Int)} {vx vy : Value}
theorem copies_own (hB:Blk w c 191 #[.int .u64 F,.int .u64 L,.int .u64 R,vx,vy])(hx:RowU w base vx (A.map (·.1)))(hy:RowU w base vy (A.map (·.2)))(hd:vx.ownBlock=none∨vx.ownBlock≠vy.ownBlock)(hbs:base≤w.heap.size)(hN:Nums x A)(t y X Y:Int)(hX:X=max (min t 9223372036854775808) x)(hY:Y=min y 4611686018427387904)(hfew:A.length < 900000) :
  Calls Tryz.prog 126 #[.pointer (some ⟨c,0,none⟩),.int .u64 t,.int .u64 y] w fun e w'=>e=.returned (.tuple #[])∧EndO w w' c base F L R X Y A vx vy:=by
 obtain⟨mn,hmn⟩:∃ mn,(if 9223372036854775808 < t then (9223372036854775808:Int) else t)=mn:=⟨_,rfl⟩
 have hX1:(if mn < x then x else mn)=X:=by rw [hX];split at hmn <;> split <;> omega
 have hY1:(if 4611686018427387904 < y then (4611686018427387904:Int) else y)=Y:=by rw [hY];split <;> omega
 have hX2:max (min t 9223372036854775808) x=X:=hX.symm
 have hY2:min y 4611686018427387904=Y:=hY.symm
 have HY2:=Lib.hid hY2
 have hlast:=fun (W:World) (hb:Below w.heap.size w W)=>copies_last (A:=A) ⟨vx,vy,hB.below hb hB.lt,hx.below hb,hy.below hb⟩ hN.few
 rw [hN.last] at hlast
 have HB:=Lib.hid hB;have HX:=Lib.hid hx;have HY:=Lib.hid hy;have HD:=Lib.hid hd;have HL:=Lib.hid hlast;have HY1:=Lib.hid hY1
 have c3:=hB.cell 3;have z3:=hB.frozen 3
 simp only [lTA,lCZ,lCS] at c3
 have hlx:(A.map fun a:Int × Int=>a.1).length=A.length:=by simp
 have hly:(A.map fun a:Int × Int=>a.2).length=A.length:=by simp
 have HLX:=Lib.hid hlx;have HLY:=Lib.hid hly
 have hcl:=hB.lt
 have hcne:¬ c=w.heap.size:=by omega
 have hcne':¬ w.heap.size=c:=by omega
 have cA:∀ n o,((w.drewN n).alloc o).cell? ⟨c,3,none⟩=some vx:=fun n o=>((drewN_below w n).alloc (drewN_below w n).size o).cell (p:=⟨c,3,none⟩) hcl |>.trans c3
 obtain⟨i0,hi0,hz0,hz1,hz2⟩:=info_parts info_u64
 clear hB hx hy hd hN hX hY hlast hlx hly hY1 hY2
 go_enter Tryz.func126,Tryz.ntmps126
 go_upto_region 1 with fail
 go_cut [17] (fun s17 wx=>MidO w wx c base F L R X A vx vy)
 case first =>
  have hown:=fun (W:World) (hb:Below w.heap.size w W)=>(show W.ownsRow base 28 1 vx A.length ((A.map fun a:Int × Int=>a.1).map (Value.int .u64)) from HLX.out ▸ HX.out.below hb)
  have HO:=Lib.hid hown;clear hown
  go_region_law (first
   | (go_simp;go_at_call 155;refine (HL.out _ (by go_grown <;> exact below_drewN (Below.refl _ _) _)).mono ?_;rintro e w' ⟨rfl,n,rfl⟩)
   | (refine step_append_lies _ rfl (.tmp 10) (.tmp 16) 23 rfl base 28 i0 (.int .u64 0) 1 8 Tryz.underlying23 hi0 hz0 hz1 hz2 rfl (by decide) vx A.length _ rfl (HO.out _ (by go_grown <;> exact below_drewN (Below.refl _ _) _)) ⟨_,0,none⟩ 1 1 [.int .u64 X] rfl rfl (World.news_of_block (heap_alloc_new _ _)) (by simp [Value.oneCell']) (by decide) (by unfold maxLen;omega) (by omega) (by simp;omega) _ rfl ?_;intro g cp w2 hown2 hgr2 hat2 hlt2;have hB2:=(HB.out.below (by go_grown <;> exact below_drewN (Below.refl _ _) _) HB.out.lt).grown hgr2 (row_blk HX.out HB.out (by decide));have d3:=hB2.cell 3;have y3:=hB2.frozen 3;simp only [lTA,lCZ,lCS] at d3))
  all_goals
   go_wp2
   go_meet
   exact mid_own HB.out HX.out HY.out HD.out (by go_grown <;> exact below_drewN (Below.refl _ _) _) hown2 hgr2 hat2
 case rest =>
  obtain⟨g,cp,hB,hx,hy,hne,hg,hgn⟩:=hcut
  have HGN:=Lib.hid hgn;clear hgn
  have d4:=hB.cell 4;have y4:=hB.frozen 4
  simp only [lTA,lCZ,lCS] at d4
  have hown:=(show (wc.alloc (.cells #[.int .u64 Y] 28)).ownsRow base 28 1 vy A.length ((A.map fun a:Int × Int=>a.2).map (Value.int .u64)) from HLY.out ▸ hy.below ((Below.refl _ _).alloc (Nat.le_refl _) _))
  have hb1:=(Below.refl wc.heap.size wc).alloc (Nat.le_refl _) (.cells #[.int .u64 Y] 28)
  have hBW:=hB.below hb1 hB.lt
  have hbs2:base≤wc.heap.size:=Nat.le_trans hbs hg.size
  have HB2:=Lib.hid hB;have HX2:=Lib.hid hx;have HYY:=Lib.hid hy;have HG:=Lib.hid hg;have HO:=Lib.hid hown;have HBW:=Lib.hid hBW;have HNE:=Lib.hid hne
  have hy1:=HY1.out;have hy2:=HY2.out
  clear hB hx hy hg hown hBW hne c3 z3 HB HX HD HL HY cA
  go_wp2_with (at_builtin;refine wpList_append_lies _ rfl _ _ 23 rfl base 28 i0 (.int .u64 0) 1 8 Tryz.underlying23 hi0 hz0 hz1 hz2 rfl (by decide) vy A.length _ rfl HO.out ⟨wc.heap.size,0,none⟩ 1 1 [.int .u64 Y] rfl rfl (World.news_of_block (heap_alloc_new wc _)) (by simp [Value.oneCell']) (by decide) (by unfold maxLen;omega) (by omega) (Nat.le_trans hbs2 (by simp)) _ rfl ?_;intro g2 cp2 w2 hown2 hgr2 hat2 hlt2;have hB2:=HBW.out.grown hgr2 (row_blk (HYY.out.below hb1) HBW.out (by decide));have e4:=hB2.cell 4;have f4:=hB2.frozen 4;simp only [lTA,lCZ,lCS] at e4)
  go_returns
  exact⟨rfl,end_own HB2.out HX2.out HYY.out HNE.out HG.out HGN.out hb1 hown2 hgr2 hat2⟩
end
def StartO (w wx:World)(r:Nat)(F L R X Y:Int)(A:List (Int × Int))(vx vy:Value):Prop :=
 ∃ vx' vy',Blk wx r 167 #[.int .u64 F,.int .u64 L,.int .u64 R,vx',vy']∧RowU wx 0 vx' ((A ++ [(X,Y)]).map (·.1))∧RowU wx 0 vy' ((A ++ [(X,Y)]).map (·.2))∧(vx'.ownBlock=none∨vx'.ownBlock≠vy'.ownBlock)∧Fr (ownD r vx vy) w wx∧NewOr w vx vx'∧NewOr w vy vy'
theorem ref_endO {w w1 w2 w3:World} {c r base:Nat} {F L R X Y:Int} {A:List (Int × Int)} {vx vy vx' vy':Value} (hB:Blk w r 167 #[.int .u64 F,.int .u64 L,.int .u64 R,vx,vy])(hb1:Below w.heap.size w w1)(hcl:w.heap.size≤c)(hg:Fr (ownD c vx vy) w1 w2)(hne:¬ ownD c vx vy r)
  (hx:RowU w2 base vx' ((A ++ [(X,Y)]).map (·.1))) (hy:RowU w2 base vy' ((A ++ [(X,Y)]).map (·.2))) (hw3:w3=(w2.setCell ⟨r,3,none⟩ vx').setCell ⟨r,4,none⟩ vy'∨w3=(w2.setCell ⟨r,4,none⟩ vy').setCell ⟨r,3,none⟩ vx') :
  Blk w3 r 167 #[.int .u64 F,.int .u64 L,.int .u64 R,vx',vy']∧RowU w3 base vx' ((A ++ [(X,Y)]).map (·.1))∧RowU w3 base vy' ((A ++ [(X,Y)]).map (·.2))∧Fr (ownD r vx vy) w w3:=by
 have hB1:=hB.below hb1 hB.lt
 have hB2:Blk w2 r 167 #[.int .u64 F,.int .u64 L,.int .u64 R,vx,vy]:=(hg.block r hB1.lt hne).trans hB1
 have hg0:Fr (ownD r vx vy) w w2:=⟨hg.os.trans hb1.os,hg.tape.trans hb1.tape,hg.output.trans hb1.output,Nat.le_trans hb1.size hg.size,fun k hk hn=>(hg.block k (Nat.lt_of_lt_of_le hk hb1.size) fun h=>h.elim (fun e=>by omega) fun h=>hn (.inr h)).trans (hb1.block k hk)⟩
 have key:∀ (w3:World),w2.grownBy w3 (some r)→Blk w3 r 167 #[.int .u64 F,.int .u64 L,.int .u64 R,vx',vy']→Blk w3 r 167 #[.int .u64 F,.int .u64 L,.int .u64 R,vx',vy']∧RowU w3 base vx' ((A ++ [(X,Y)]).map (·.1))∧RowU w3 base vy' ((A ++ [(X,Y)]).map (·.2))∧Fr (ownD r vx vy) w w3:=fun w3 hgr hB3 =>
  ⟨hB3,hx.kept hgr (.inr (Ne.symm (row_blk hx hB2 (by decide)))),hy.kept hgr (.inr (Ne.symm (row_blk hy hB2 (by decide)))),hg0.trans (Fr.of_grown hgr fun b e=>.inl (by simpa using e.symm))⟩
 rcases hw3 with rfl | rfl
 ·exact key _ (grown_trans (World.grownBy_setCell w2 ⟨r,3,none⟩ vx') (World.grownBy_setCell _ ⟨r,4,none⟩ vy')) (by simpa using (hB2.set_ 3 vx').set_ 4 vy')
 ·exact key _ (grown_trans (World.grownBy_setCell w2 ⟨r,4,none⟩ vy') (World.grownBy_setCell _ ⟨r,3,none⟩ vx')) (by simpa using (hB2.set_ 4 vy').set_ 3 vx')
theorem ref_startO {w:World} {r:Nat} {F L R x:Int} {A:List (Int × Int)} {vx vy:Value} (hB:Blk w r 167 #[.int .u64 F,.int .u64 L,.int .u64 R,vx,vy])(hx:RowU w 0 vx (A.map (·.1)))(hyy:RowU w 0 vy (A.map (·.2)))(hd:vx.ownBlock=none∨vx.ownBlock≠vy.ownBlock)(hn:Nums x A)(t y X Y:Int)(ht:U t)(hy:U y)(hX:X=max (min t 9223372036854775808) x)(hY:Y=min y 4611686018427387904)(hfew:A.length < 900000) :
  Calls Tryz.prog 95 #[.pointer (some ⟨r,0,none⟩),.int .u64 t,.int .u64 y] w fun e w'=>e=.returned (.tuple #[])∧StartO w w' r F L R X Y A vx vy:=by
 have hN:=hn.start t y X Y ht hy hX hY hfew
 have HN:=Lib.hid hN;have HB:=Lib.hid hB;have HX:=Lib.hid hx;have HY:=Lib.hid hyy;have HD:=Lib.hid hd;have HN0:=Lib.hid hn;have HXE:=Lib.hid hX;have HYE:=Lib.hid hY
 have hrl:=hB.lt
 clear hN hB hx hyy hd hn hX hY
 go_enter Tryz.func95,Tryz.ntmps95
 go_wp2_with (first
  | (go_at_call 125;refine (run_copies HX.out.slc HY.out.slc HB.out).mono ?_;rintro e w1 ⟨c,rfl,hcl,hcb,hb1⟩;have HCB:=Lib.hid hcb;clear hcb)
  | (go_at_call 126;refine (copies_own HCB.out (HX.out.below hb1) (HY.out.below hb1) HD.out (Nat.zero_le _) HN0.out t y X Y HXE.out HYE.out hfew).mono ?_;rintro e w2 ⟨rfl,vx',vy',hc2,hx2,hy2,hd2,hg2,hnx2,hny2⟩;obtain⟨ax2,nx2,cx2,rfl⟩:=hx2.slc;obtain⟨ay2,ny2,cy2,rfl⟩:=hy2.slc;have HC2:=Lib.hid hc2;have HX2:=Lib.hid hx2;have HY2:=Lib.hid hy2;have HD2:=Lib.hid hd2;have HG2:=Lib.hid hg2;have HNX:=Lib.hid hnx2;have HNY:=Lib.hid hny2;clear hc2 hx2 hy2 hd2 hg2 hnx2 hny2))
 have hrc:r≠c:=by omega
 have hcr:c≠r:=by omega
 have hno:¬ ownD c vx vy r:=fun h=>h.elim hrc fun h=>h.elim (fun h=>row_blk HX.out HB.out (by decide) h.symm) fun h=>row_blk HY.out HB.out (by decide) h.symm
 have HNO:=Lib.hid hno
 have hB2:Blk w2 r 167 #[.int .u64 F,.int .u64 L,.int .u64 R,vx,vy]:=(HG2.out.block r (HB.out.below hb1 HB.out.lt).lt hno).trans (HB.out.below hb1 HB.out.lt)
 clear hno
 have r3:=hB2.cell 3;have r4:=hB2.cell 4;have z3:=hB2.frozen 3;have z4:=hB2.frozen 4
 have c3:=HC2.out.cell 3;have c4:=HC2.out.cell 4
 simp only [lTA,lCZ,lCS] at r3 r4 c3 c4
 clear hB2
 go_region
 all_goals
  go_wp2
  go_returns
  refine⟨rfl,?_⟩
  first
   | (have hh:=ref_endO HB.out hb1 hcl HG2.out HNO.out HX2.out HY2.out (.inl rfl);exact⟨_,_,hh.1.below (by go_grown) hh.1.lt,hh.2.1.below (by go_grown),hh.2.2.1.below (by go_grown),HD2.out,hh.2.2.2.trans (Fr.of_below (by go_grown)),fun b e=>(HNX.out b e).imp id fun h=>Nat.le_trans hb1.size h,fun b e=>(HNY.out b e).imp id fun h=>Nat.le_trans hb1.size h⟩)
   | (have hh:=ref_endO HB.out hb1 hcl HG2.out HNO.out HX2.out HY2.out (.inr rfl);exact⟨_,_,hh.1.below (by go_grown) hh.1.lt,hh.2.1.below (by go_grown),hh.2.2.1.below (by go_grown),HD2.out,hh.2.2.2.trans (Fr.of_below (by go_grown)),fun b e=>(HNX.out b e).imp id fun h=>Nat.le_trans hb1.size h,fun b e=>(HNY.out b e).imp id fun h=>Nat.le_trans hb1.size h⟩)
def RfO (r:Nat)(x:Rn):Ob:=fun W S=>∃ vx vy,Blk W r 167 #[.int .u64 x.F,.int .u64 x.L,.int .u64 x.R,vx,vy]∧RowU W 0 vx (x.A.map (·.1))∧RowU W 0 vy (x.A.map (·.2))∧(vx.ownBlock=none∨vx.ownBlock≠vy.ownBlock)∧MayC x.F x.L x.R∧Nums x.x x.A∧∀ b,S b↔ownD r vx vy b
theorem RfO.ref {W:World} {r:Nat} {x:Rn} {S:Nat→Prop} (h:RfO r x W S):RefAt W r 0 x.F x.L x.R x.x x.A:=by
 obtain⟨vx,vy,h1,h2,h3,h4,h5,h6,_⟩:=h
 exact⟨⟨vx,vy,h1,h2,h3,h4⟩,h5,h6,Nat.zero_le _⟩
theorem rowU_heap {w w':World} {base:Nat} {v:Value} {xs:List Int} (h:RowU w base v xs)(hk:∀ b,v.ownBlock=some b→w'.heap[b]?=w.heap[b]?):RowU w' base v xs:=owns_heapH h hk
theorem good_rf (r:Nat)(x:Rn):Good (RfO r x):=by
 refine⟨fun ⟨vx,vy,h1,h2,h3,_,_,_,hS⟩ b hb=>?_,fun ⟨vx,vy,h1,h2,h3,h4,h5,h6,hS⟩ _ hk=>⟨vx,vy,(hk r ((hS r).2 (.inl rfl))).trans h1,rowU_heap h2 fun b hb=>hk b ((hS b).2 (.inr (.inl hb))),rowU_heap h3 fun b hb=>hk b ((hS b).2 (.inr (.inr hb))),h4,h5,h6,hS⟩⟩
 rcases (hS b).1 hb with rfl | hb | hb
 ·exact h1.lt
 ·exact h2.blk_lt hb
 ·exact h3.blk_lt hb
theorem rf_start {W:World} {r:Nat} {x:Rn} (t y:Int)(ht:U t)(hy:U y)(hfew:x.A.length < 900000) :
  Acts (fun e=>e=.returned (.tuple #[])) (RfO r x) (RfO r (startR x t y)) 95 #[.pointer (some ⟨r,0,none⟩),.int .u64 t,.int .u64 y] Tryz.prog W:=fun A ⟨vx,vy,h1,h2,h3,h4,h5,h6,hS⟩=>by
 refine (ref_startO h1 h2 h3 h4 h6 t y _ _ ht hy rfl rfl hfew).mono fun e W' ⟨he,vx',vy',k1,k2,k3,k4,hfr,hnx,hny⟩=>?_
 have hN:=h6.start t y _ _ ht hy rfl rfl hfew
 refine⟨he,fun b=>ownD r vx' vy' b,⟨vx',vy',k1,k2,k3,k4,h5,hN,fun b=>Iff.rfl⟩,hfr.weak fun b _ hb=>(hS b).2 hb,fun b hb=>?_⟩
 rcases hb with rfl | hb | hb
 ·exact .inl ((hS _).2 (.inl rfl))
 ·exact (hnx b hb).imp (fun h=>(hS b).2 (.inr (.inl h))) id
 ·exact (hny b hb).imp (fun h=>(hS b).2 (.inr (.inr h))) id
theorem rf_reach {W:World} {r:Nat} {x:Rn} {S:Nat→Prop} (h:RfO r x W S)(y:Int)(hy:U y) :
  Calls Tryz.prog 104 #[.pointer (some ⟨r,0,none⟩),.int .u64 y] W fun e W'=>e=.returned (.int .u64 (reachR x y))∧Below W.heap.size W W':=ref_reach h.ref y hy
theorem rf_of_ref {W:World} {n r:Nat} {x:Rn} (h:RefAt W r n x.F x.L x.R x.x x.A):∃ S,RfO r x W S∧∀ b,S b→n≤b:=by
 obtain⟨vx,vy,h1,h2,h3,h4⟩:=h.at_
 have z:∀ {v:Value} {xs:List Int},RowU W n v xs→RowU W 0 v xs:=fun h=>⟨h.1,h.2.imp id fun ⟨g,cap,cur,e,k1,k2⟩=>⟨g,cap,cur,e,Nat.zero_le _,k2⟩⟩
 refine⟨fun b=>ownD r vx vy b,⟨vx,vy,h1,z h2,z h3,h4,h.may,h.nums,fun b=>Iff.rfl⟩,fun b hb=>?_⟩
 rcases hb with rfl | hb | hb
 ·exact h.low
 ·exact (h2.lt b hb).1
 ·exact (h3.lt b hb).1
end
section
open Go.RowKit Go.Maps
def TrO (q:Nat)(L:List En):Ob:=fun W S=>∃ g m t M,AugAt W q g m t M∧listT t=L∧∀ b,S b↔ownA q g m t b
theorem good_tr (q:Nat)(L:List En):Good (TrO q L) :=
 ⟨fun ⟨g,m,t,M,h,_,hS⟩ b hb=>h.lt b ((hS b).1 hb),fun ⟨g,m,t,M,h,hL,hS⟩ _ hk=>⟨g,m,t,M,⟨(hk q ((hS q).2 (.inl rfl))).trans h.aug,⟨(hk g ((hS g).2 (.inr (.inl rfl)))).trans h.tr.tree,h.tr.rb.kept fun a ha=>hk a ((hS a).2 (.inr (.inr (.inr ha)))),h.tr.nd,h.tr.well⟩,h.map.heap (hk m ((hS m).2 (.inr (.inr (.inl rfl))))),h.inv,h.look,h.len⟩,hL,hS⟩⟩
theorem tr_went {W W':World} {q g m:Nat} {t t':RB} {M:List (Int × Ky)} {L:List En} (ha:AugAt W' q g m t' M)(hl:listT t'=L)(hx:∀ x∈addrs t',x∈addrs t∨W.heap.size≤x)(hf:Fr (ownA q g m t) W W') {A:Nat→Prop} (hA:∀ b,A b↔ownA q g m t b):∃ A',TrO q L W' A'∧Went W W' A A':=by
 refine⟨fun b=>ownA q g m t' b,⟨g,m,t',M,ha,hl,fun b=>Iff.rfl⟩,hf.weak fun b _ hb=>(hA b).2 hb,fun b hb=>?_⟩
 rcases hb with rfl | rfl | rfl | hb
 ·exact .inl ((hA _).2 (.inl rfl))
 ·exact .inl ((hA _).2 (.inr (.inl rfl)))
 ·exact .inl ((hA _).2 (.inr (.inr (.inl rfl))))
 ·exact (hx b hb).imp (fun h=>(hA b).2 (.inr (.inr (.inr h)))) id
section
variable {W : World} {q : Nat} {L : List En}
theorem tr_put (i a b:Int)(hi:(Lit.int .i64 i).wf=true)(hfew:L.length < 900000) :
  Acts (fun e=>e=.returned (.tuple #[])) (TrO q L) (TrO q (putI L i a b)) 90 #[.pointer (some ⟨q,0,none⟩),.int .i64 i,.int .u64 a,.int .u64 b] Tryz.prog W:=fun A ⟨g,m,t,M,h,hL,hA⟩ =>
 (aput_any q g m i a b t M W h hi (by rw [hL];exact hfew)).mono fun e W' ⟨t',M',he,ha,hl,hx,hf⟩=>⟨he,tr_went ha (by rw [hl,hL]) hx hf hA⟩
theorem tr_drop (i:Int)(hi:(Lit.int .i64 i).wf=true)(hfew:L.length < 900000) :
  Acts (fun e=>∃ b,e=.returned (.bool b)) (TrO q L) (TrO q (dropI L i)) 91 #[.pointer (some ⟨q,0,none⟩),.int .i64 i] Tryz.prog W:=fun A ⟨g,m,t,M,h,hL,hA⟩ =>
 (adrop_any q g m i t M W h hi (by rw [hL];omega)).mono fun e W' ⟨t',M',he,ha,hl,hx,hf⟩=>⟨⟨_,he⟩,tr_went ha (by rw [hl,hL]) hx hf hA⟩
theorem tr_len {S:Nat→Prop} (h:TrO q L W S):Calls Tryz.prog 58 #[.pointer (some ⟨q,0,none⟩)] W fun e W'=>e=.returned (.int .i64 L.length)∧W=W':=by
 obtain⟨g,m,t,M,h,rfl,_⟩:=h
 exact alen_any q g m t M W h
theorem tr_within {S:Nat→Prop} (h:TrO q L W S)(v:Int):Calls Tryz.prog 52 #[.pointer (some ⟨q,0,none⟩),.int .u64 v] W (OptW W (withinV L v)):=by
 obtain⟨g,m,t,M,h,rfl,_⟩:=h
 exact awithin_any q g m v t M W h
theorem tr_lowest {S:Nat→Prop} (h:TrO q L W S):Calls Tryz.prog 68 #[.pointer (some ⟨q,0,none⟩)] W (LowW W (lowV L)):=by
 obtain⟨g,m,t,M,h,rfl,_⟩:=h
 exact alowest_any q g m t M W h
end
def NewO (w:World)(P:Nat→Ob)(e:Ending)(w':World):Prop:=∃ q,e=.returned (.pointer (some ⟨q,0,none⟩))∧Below w.heap.size w w'∧∃ S,P q w' S∧∀ b,S b→w.heap.size≤b
theorem tr_new (w:World):Calls Tryz.prog 32 #[] w (NewO w fun q=>TrO q []) :=
 (augnew_any w).mono fun e w' ⟨q,g,m,he,h,hb,hlo⟩=>⟨q,he,hb,fun b=>ownA q g m .nil b,⟨g,m,.nil,[],h,rfl,fun b=>Iff.rfl⟩,hlo⟩
theorem run_newO (c:Int × Int × Int)(w:World)(h0:0≤c.1)(h1:0≤c.2.1)(h2:0≤c.2.2)(hm:mayB c.1 c.2.1 c.2.2=true) :
  Calls Tryz.prog 83 #[.agg #[.int .u64 c.1,.int .u64 c.2.1,.int .u64 c.2.2]] w (NewO w fun r=>RunO r (rn0 c)) :=
 (run_new c.1 c.2.1 c.2.2 w h0 h1 h2 hm).mono fun e w' h=>by
  obtain⟨r,he,hb,S,hr,hlo⟩:=made_run h
  exact⟨r,he,hb,S,hr,hlo⟩
def limN (u:Int × Int × Int):Option Rn:=if (u.1=0∧u.2.1=0∧u.2.2=0)∨mayB u.1 u.2.1 u.2.2=false then none else some (rn0 u)
theorem lim_newO (u:Int × Int × Int)(w:World)(h0:0≤u.1)(h1:0≤u.2.1)(h2:0≤u.2.2) :
  Calls Tryz.prog 36 #[.agg #[.int .u64 u.1,.int .u64 u.2.1,.int .u64 u.2.2]] w (NewO w fun l=>LimO l (limN u)):=by
 unfold limN
 by_cases h:(u.1=0∧u.2.1=0∧u.2.2=0)∨mayB u.1 u.2.1 u.2.2=false
 ·rw [if_pos h]
  exact (lnew_free u.1 u.2.1 u.2.2 w h1 h).mono fun e w' ⟨l,he,hl,hf,hb⟩=>⟨l,he,hb,fun b=>b=l,⟨hf,fun b=>Iff.rfl⟩,fun b hb=>by rw [hb];exact hl⟩
 ·rw [if_neg h]
  have hm:mayB u.1 u.2.1 u.2.2=true:=by
   cases hm:mayB u.1 u.2.1 u.2.2 with
   | true=>rfl
   | false=>exact absurd (.inr hm) h
  refine (lnew_some u.1 u.2.1 u.2.2 w h0 h1 h2 (fun h3=>h (.inl h3)) hm).mono fun e w' ⟨l,r,g,he,hg,hl,hb⟩=>⟨l,he,hb,fun b=>b=l∨runOwn w' r g b,⟨r,g,hl,fun b=>Iff.rfl⟩,fun b hb2=>?_⟩
  have hlt:=hl.2.1.lt
  have hlr:=hl.2.2
  rcases hb2 with rfl | rfl | rfl | ⟨v,hv,hb2⟩
  ·omega
  ·omega
  ·exact hg
  ·have:=(run_row (x:=rn0 u) hl.2.1 hv hb2).1;omega
end
end Go.Proofs.YtmmeopjemkjllaaGreat
