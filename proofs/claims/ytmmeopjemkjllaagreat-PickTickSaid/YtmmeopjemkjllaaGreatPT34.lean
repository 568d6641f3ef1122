/- Lemmas of the claim. No conditions beyond those that each states. -/
import Derived.Test.YtmmeopjemkjllaaGreatPT32
import Derived.Test.YtmmeopjemkjllaaGreatPT33
import Derived.ScopeJumps
import Derived.WalkMore
set_option linter.unusedVariables false
set_option linter.unusedSimpArgs false
set_option maxRecDepth 100000
set_option maxHeartbeats 8000000
namespace Go.Proofs.YtmmeopjemkjllaaGreat
section
open Go.RowKit Go.Maps Go.Sort Go.Shelf
def clC (c:Cl):Array Value:=#[.int .i64 c.1.id,.int .i64 c.1.pa,.bool c.1.lf,.int .u64 c.1.r.1,.int .u64 c.1.r.2.1,.int .u64 c.1.r.2.2,.int .u64 c.1.s.1,.int .u64 c.1.s.2.1,.int .u64 c.1.s.2.2,.int .u64 c.1.u.1,.int .u64 c.1.u.2.1,.int .u64 c.1.u.2.2,.int .i64 c.1.pk,.int .i64 c.1.by_,.int .i64 c.2]
def clV (c:Cl):Value:=.agg (clC c)
def sp0:Sp:=⟨0,0,false,(0,0,0),(0,0,0),(0,0,0),0,0⟩
def cl0:Cl:=(sp0,0)
def rowV (U:List (Int × Value))(k:Int):Value:=(lookM U k).getD (.slice none 0 0)
def own (ma mu:Nat)(U:List (Int × Value))(b:Nat):Prop:=b=ma∨b=mu∨∃ k,(rowV U k).ownBlock=some b
structure TreeX (W:World)(base g ma mu:Nat)(U:List (Int × Value))(M:Mp):Prop where
 blk:Blk W g 101 #[.map (some ma),.map (some mu)]
 all:MapI Tryz.prog 3 W ma (mapV clV M)
 und:MapI Tryz.prog 3 W mu U
 rows:∀ k,W.ownsRow base 3 1 (rowV U k) (kids M k).length ((kids M k).map (Value.int .i64))
 apart:∀ k k' b,k≠k'→(rowV U k).ownBlock=some b→(rowV U k').ownBlock=some b→False
 gb:base≤g
 ab:base≤ma
 ub:base≤mu
 ne:ma≠mu
 keys:∀ q∈U,0≤q.1∧q.1≤65535
 inv:InvT M
section
variable {W W' : World} {base g ma mu : Nat} {U : List (Int × Value)} {M : Mp}
theorem owns_laterH {w w':World} {base sz n:Nat} {e:TypeId} {v:Value} {xs:List Value} (h:w.ownsRow base e sz v n xs)(hb:Below w.heap.size w w'):w'.ownsRow base e sz v n xs :=
 h.kept (grown_noneH hb) (by cases hv:v.ownBlock <;> simp)
theorem owns_baseH {w:World} {b b' sz n:Nat} {e:TypeId} {v:Value} {xs:List Value} (h:w.ownsRow b e sz v n xs)(hb:b'≤b):w.ownsRow b' e sz v n xs :=
 ⟨h.1,h.2.imp id fun ⟨g,cap,cur,e,h1,h2⟩=>⟨g,cap,cur,e,Nat.le_trans hb h1,h2⟩⟩
theorem TreeX.later (h:TreeX W base g ma mu U M)(hb:Below W.heap.size W W'):TreeX W' base g ma mu U M :=
 ⟨h.blk.below hb h.blk.lt,h.all.kept (grown_noneH hb) (by simp),h.und.kept (grown_noneH hb) (by simp),fun k=>owns_laterH (h.rows k) hb,h.apart,h.gb,h.ab,h.ub,h.ne,h.keys,h.inv⟩
theorem TreeX.owned (h:TreeX W base g ma mu U M) {b:Nat} (hb:own ma mu U b):base≤b∧b < W.heap.size:=by
 rcases hb with rfl | rfl | ⟨k,hk⟩
 ·exact⟨h.ab,h.all.lt⟩
 ·exact⟨h.ub,h.und.lt⟩
 ·exact (h.rows k).lt b hk
theorem row_map {w:World} {base sz n m:Nat} {e K:TypeId} {v:Value} {xs:List Value} {N:List (Int × Value)} (h:w.ownsRow base e sz v n xs)(hm:MapI Tryz.prog K w m N):v.ownBlock=none∨v.ownBlock≠some m:=by
 rcases h.2 with ⟨rfl,_⟩ | ⟨g,c,cur,rfl,_,h2,_⟩
 ·exact .inl rfl
 ·right
  intro e
  have e:g=m:=by simpa [Value.ownBlock] using e
  subst e
  obtain⟨es,clock,hb,_⟩:=hm
  rw [hb] at h2
  cases h2
theorem blk_map {w:World} {g m:Nat} {t K:TypeId} {cs:Array Value} {N:List (Int × Value)} (h:Blk w g t cs)(hm:MapI Tryz.prog K w m N):g≠m:=by
 rintro rfl
 obtain⟨es,clock,hb,_⟩:=hm
 have:=hb.symm.trans h
 cases this
theorem keys_len:∀ (n:Nat) {U:List (Int × Value)} (a:Int),Rising U→(∀ q∈U,a≤q.1∧q.1 < a+n)→U.length≤n
 | n,[],a,_,_=>by simp
 | 0,q :: U,a,_,h=>by have:=h q (.head _);omega
 | n+1,q :: U,a,hr,h=>by
  have h1:=(List.pairwise_cons.1 hr).1
  have:=keys_len n (a+1) (List.pairwise_cons.1 hr).2 fun x hx=>by
   have:=h1 x hx
   have h2:=h q (.head _)
   have h3:=h x (.tail _ hx)
   omega
  rw [List.length_cons]
  omega
theorem TreeX.few (h:TreeX W base g ma mu U M):U.length≤65536:=keys_len 65536 0 (h.und.rising (int_keyed Tryz.underlying3)) fun q hq=>by have:=h.keys q hq;omega
end
theorem info_int:(Tryz.prog.info? 3).map (fun i=>(i.zero,i.size,i.bytes))=some (some (.int .i64 0),1,8):=by kernel_rfl
theorem htnone_no (g ma:Nat)(v:Value)(w:World)(h:Blk w g 101 #[.map (some ma),v]) :
  Calls Tryz.prog 69 #[.pointer (some ⟨g,0,none⟩)] w fun e w'=>e=.returned (.bool false)∧w=w':=by
 have c0:=h.cell 0
 simp only [lTA,lCZ,lCS] at c0
 have qT:∀ (w:World) (r:Option Nat),(binOp .eql 98 (.map r) (.map none)).run Tryz.prog w=.ok (.bool r.isNone) w:=fun w r=>run_eql_map_nil w _ _ _ r Tryz.underlying98
 go_enter Tryz.func69,Tryz.ntmps69
 go_wp2
 go_ret
 exact⟨rfl,rfl⟩
def TnewW (w:World)(e:Ending)(w':World):Prop:=∃ g ma mu,e=.returned (.pointer (some ⟨g,0,none⟩))∧TreeX w' w.heap.size g ma mu [] []∧Below w.heap.size w w'
theorem tnew_any (w:World):Calls Tryz.prog 66 #[] w (TnewW w):=by
 have m1:=MapI.made (P:=Tryz.prog) (K:=3) w
 have m2:=MapI.made (P:=Tryz.prog) (K:=3) (w.alloc (.map #[] 0))
 have m3:=m1.kept (World.grownBy_alloc (w.alloc (.map #[] 0)) (.map #[] 0) none) (by simp)
 have HM:=Lib.hid (And.intro m3 m2)
 clear m1 m2 m3
 have hmm:=@run_makeMap Tryz.prog
 go_enter Tryz.func66,Tryz.ntmps66
 go_wp2
 go_ret
 have hs:(w.alloc (.map #[] 0)).heap.size=w.heap.size+1:=Array.size_push _
 have hs2:((w.alloc (.map #[] 0)).alloc (.map #[] 0)).heap.size=w.heap.size+2:=by rw [World.alloc];exact (Array.size_push _).trans (by rw [hs])
 have hb:=(((Below.refl w.heap.size w).alloc (Nat.le_refl _) (.map #[] 0)).alloc (by omega) (.map #[] 0))
 have hB:=Blk.new ((w.alloc (.map #[] 0)).alloc (.map #[] 0)) 101 #[.map (some w.heap.size),.map (some (w.heap.size+1))]
 have k1:=HM.out.1.kept (World.grownBy_alloc ((w.alloc (.map #[] 0)).alloc (.map #[] 0)) (.cells #[.map (some w.heap.size),.map (some (w.heap.size+1))] 101) none) (by simp)
 have k2:=HM.out.2.kept (World.grownBy_alloc ((w.alloc (.map #[] 0)).alloc (.map #[] 0)) (.cells #[.map (some w.heap.size),.map (some (w.heap.size+1))] 101) none) (by simp)
 rw [hs] at k2
 rw [hs2] at hB
 refine⟨w.heap.size+2,w.heap.size,w.heap.size+1,rfl,⟨hB,k1,k2,fun k=>World.ownsRow_nil _ _ _ _,fun k k' b _ h=>(by cases h),by omega,Nat.le_refl _,by omega,by omega,fun q hq=>(by cases hq),inv_nil⟩,hb.alloc (by omega) _⟩
end
section
open Go.RowKit Go.Maps
abbrev Ob:=World→(Nat→Prop)→Prop
structure Good (P:Ob):Prop where
 lt:∀ {W:World} {S:Nat→Prop},P W S→∀ b,S b→b < W.heap.size
 kept:∀ {W W':World} {S:Nat→Prop},P W S→W.heap.size≤W'.heap.size→(∀ b,S b→W'.heap[b]?=W.heap[b]?)→P W' S
def Star (P Q:Ob):Ob:=fun W S=>∃ A B:Nat→Prop,(∀ b,S b↔A b∨B b)∧(∀ b,A b→¬ B b)∧P W A∧Q W B
def Emp:Ob:=fun _ S=>∀ b,¬ S b
theorem good_emp:Good Emp:=⟨fun h b hb=>absurd hb (h b),fun h _ _=>h⟩
theorem Good.star {P Q:Ob} (hP:Good P)(hQ:Good Q):Good (Star P Q):=by
 refine⟨fun ⟨A,B,hS,_,hp,hq⟩ b hb=>?_,fun ⟨A,B,hS,hd,hp,hq⟩ hs hk=>⟨A,B,hS,hd,hP.kept hp hs fun b hb=>hk b ((hS b).2 (.inl hb)),hQ.kept hq hs fun b hb=>hk b ((hS b).2 (.inr hb))⟩⟩
 rcases (hS b).1 hb with h | h
 ·exact hP.lt hp b h
 ·exact hQ.lt hq b h
theorem Star.comm {P Q:Ob} {W:World} {S:Nat→Prop} (h:Star P Q W S):Star Q P W S:=by
 obtain⟨A,B,hS,hd,hp,hq⟩:=h
 exact⟨B,A,fun b=>(hS b).trans Or.comm,fun b h1 h2=>hd b h2 h1,hq,hp⟩
theorem Star.swap {P Q R:Ob} {W:World} {S:Nat→Prop} (h:Star P (Star Q R) W S):Star Q (Star P R) W S:=by
 obtain⟨A,B,hS,hd,hp,C,D,hB,hd2,hq,hr⟩:=h
 refine⟨C,fun b=>A b∨D b,fun b=>?_,fun b hc=>?_,hq,A,D,fun b=>Iff.rfl,fun b ha hdd=>hd b ha ((hB b).2 (.inr hdd)),hp,hr⟩
 ·rw [hS b,hB b]
  constructor
  ·rintro (h | h | h)
   ·exact .inr (.inl h)
   ·exact .inl h
   ·exact .inr (.inr h)
  ·rintro (h | h | h)
   ·exact .inr (.inl h)
   ·exact .inl h
   ·exact .inr (.inr h)
 ·rintro (h | h)
  ·exact hd b h ((hB b).2 (.inl hc))
  ·exact hd2 b hc h
structure Went (W W':World)(S S':Nat→Prop):Prop where
 fr:Fr S W W'
 own:∀ b,S' b→S b∨W.heap.size≤b
theorem Star.step {P Q R:Ob} {W W':World} {S A B:Nat→Prop} (hP:Good P)(hR:Good R)(hS:∀ b,S b↔A b∨B b)(hd:∀ b,A b→¬ B b)(hp:P W A)(hr:R W B) {A':Nat→Prop} (hq:Q W' A')(hw:Went W W' A A'):∃ S',Star Q R W' S'∧Went W W' S S':=by
 refine⟨fun b=>A' b∨B b,⟨A',B,fun b=>Iff.rfl,fun b ha hb=>?_,hq,hR.kept hr hw.fr.size fun b hb=>hw.fr.block b (hR.lt hr b hb) fun ha=>hd b ha hb⟩,⟨hw.fr.weak fun b _ h=>(hS b).2 (.inl h),fun b hb=>?_⟩⟩
 ·rcases hw.own b ha with h | h
  ·exact hd b h hb
  ·have:=hR.lt hr b hb;omega
 ·rcases hb with hb | hb
  ·exact (hw.own b hb).imp (fun h=>(hS b).2 (.inl h)) id
  ·exact .inl ((hS b).2 (.inr hb))
def St (w0 W:World)(P:Ob):Prop:=Below w0.heap.size w0 W∧∃ S,P W S∧∀ b,S b→w0.heap.size≤b
def Acts (φ:Ending→Prop)(P Q:Ob)(f:FuncId)(args:Array Value)(prog:Program)(W:World):Prop:=∀ A,P W A→Calls prog f args W fun e W'=>φ e∧∃ A',Q W' A'∧Went W W' A A'
section
variable {w0 W W' : World} {P P1 P2 P3 Q R : Ob} {φ : Ending → Prop} {f : FuncId} {args : Array Value} {prog : Program}
end
def BoxO (g:Nat)(t:TypeId)(cs:Array Value):Ob:=fun W S=>Blk W g t cs∧∀ b,S b↔b=g
theorem good_box (g:Nat)(t:TypeId)(cs:Array Value):Good (BoxO g t cs) :=
 ⟨fun ⟨h,hS⟩ b hb=>by rw [(hS b).1 hb];exact h.lt,fun ⟨h,hS⟩ _ hk=>⟨(hk g ((hS g).2 rfl)).trans h,hS⟩⟩
def TO (g ma mu:Nat)(M:Mp):Ob:=fun W S=>∃ U,TreeX W 0 g ma mu U M∧∀ b,S b↔b=g∨own ma mu U b
theorem owns_heapH {w w':World} {base sz n:Nat} {e:TypeId} {v:Value} {xs:List Value} (h:w.ownsRow base e sz v n xs)(hk:∀ b,v.ownBlock=some b→w'.heap[b]?=w.heap[b]?):w'.ownsRow base e sz v n xs:=by
 refine⟨h.1,?_⟩
 rcases h.2 with h2 | ⟨g,c,cur,rfl,h1,h2,h3⟩
 ·exact .inl h2
 ·exact .inr ⟨g,c,cur,rfl,h1,(hk g rfl).trans h2,h3⟩
theorem TreeX.heap {W W':World} {base g ma mu:Nat} {U:List (Int × Value)} {M:Mp} (h:TreeX W base g ma mu U M)(hg:W'.heap[g]?=W.heap[g]?)(hk:∀ b,own ma mu U b→W'.heap[b]?=W.heap[b]?):TreeX W' base g ma mu U M :=
 ⟨hg.trans h.blk,h.all.heap (hk ma (.inl rfl)),h.und.heap (hk mu (.inr (.inl rfl))),fun k=>owns_heapH (h.rows k) fun b hb=>hk b (.inr (.inr ⟨k,hb⟩)),h.apart,h.gb,h.ab,h.ub,h.ne,h.keys,h.inv⟩
theorem good_tree (g ma mu:Nat)(M:Mp):Good (TO g ma mu M):=by
 refine⟨fun ⟨U,h,hS⟩ b hb=>?_,fun ⟨U,h,hS⟩ _ hk=>⟨U,h.heap (hk g ((hS g).2 (.inl rfl))) fun b hb=>hk b ((hS b).2 (.inr hb)),hS⟩⟩
 rcases (hS b).1 hb with rfl | h2
 ·exact h.blk.lt
 ·exact (h.owned h2).2
end
section
open Go.RowKit Go.Maps Go.Sort Go.Shelf
attribute [local go_sem ↓] Go.wp_at_zero Go.wp_at_succ
attribute [local go_sem] quietR quietAtR quietUponR midAt midUpon
theorem TreeX.look {W:World} {base g ma mu:Nat} {U:List (Int × Value)} {M:Mp} (h:TreeX W base g ma mu U M) {id:Int} (hid:(Lit.int .i64 id).wf=true) :
  (Instr.lookup 98 (.map (some ma)) (.int .i64 id) true).run Tryz.prog W=.ok (.tuple #[clV ((lookM M id).getD cl0),.bool (lookM M id).isSome]) W:=by
 have hq:=h.all.look_ok (k:=id) (E:=107) (T:=98) (z:=clV cl0) Tryz.underlying3 Tryz.underlying98 (by exact Tryz.zeroValue107 _) hid
 have hval:(lookM (mapV clV M) id).getD (clV cl0)=clV ((lookM M id).getD cl0):=by rw [look_map];cases lookM M id <;> rfl
 have hsm:(lookM (mapV clV M) id).isSome=(lookM M id).isSome:=by rw [look_map];cases lookM M id <;> rfl
 rw [hval,hsm] at hq
 exact hq
theorem TreeX.look1 {W:World} {base g ma mu:Nat} {U:List (Int × Value)} {M:Mp} (h:TreeX W base g ma mu U M) {id:Int} (hid:(Lit.int .i64 id).wf=true) :
  (Instr.lookup 98 (.map (some ma)) (.int .i64 id) false).run Tryz.prog W=.ok (clV ((lookM M id).getD cl0)) W:=by
 have hq:=h.all.look (k:=id) (E:=107) (T:=98) (z:=clV cl0) Tryz.underlying3 Tryz.underlying98 (by exact Tryz.zeroValue107 _) hid
 have hval:(lookM (mapV clV M) id).getD (clV cl0)=clV ((lookM M id).getD cl0):=by rw [look_map];cases lookM M id <;> rfl
 rw [hval] at hq
 exact hq
theorem TreeX.lookU {W:World} {base g ma mu:Nat} {U:List (Int × Value)} {M:Mp} (h:TreeX W base g ma mu U M) {id:Int} (hid:(Lit.int .i64 id).wf=true) :
  (Instr.lookup 99 (.map (some mu)) (.int .i64 id) false).run Tryz.prog W=.ok (rowV U id) W :=
 h.und.look (k:=id) (E:=51) (T:=99) (z:=.slice none 0 0) Tryz.underlying3 Tryz.underlying99 (by exact Tryz.zeroValue51 _) hid
def getS (M:Mp)(id:Int):Sp:=((lookM M id).getD cl0).1
def GetW (w:World)(M:Mp)(id:Int)(e:Ending)(w':World):Prop:=e=.returned (.tuple #[spV (getS M id),.bool (lookM M id).isSome])∧Below w.heap.size w w'
theorem tget_any (id:Int)(base g ma mu:Nat)(U:List (Int × Value))(M:Mp)(w:World)(hid:(Lit.int .i64 id).wf=true)(h:TreeX w base g ma mu U M) :
  Calls Tryz.prog 26 #[.pointer (some ⟨g,0,none⟩),.int .i64 id] w (GetW w M id):=by
 have hb0:=(Below.refl w.heap.size w).alloc (Nat.le_refl _) (.cells (spC sp0) 32)
 have h0:=h.later hb0
 have hn:=htnone_no g ma _ _ h0.blk
 have hlook:=h0.look hid
 have y0:=h0.blk.cell 0
 have hB:=Blk.new w 32 (spC sp0)
 unfold spC sp0 at *
 simp only [lTA,lCZ,lCS] at y0
 unfold GetW getS
 generalize (lookM M id).isSome=bs at hlook ⊢
 generalize (lookM M id).getD cl0=c at hlook ⊢
 obtain⟨⟨i1,i2,i3,⟨F1,L1,R1⟩,⟨F2,L2,R2⟩,⟨F3,L3,R3⟩,i4,i5⟩,d⟩:=c
 unfold spV spC
 unfold clV clC at hlook
 dsimp only at hlook hn y0 ⊢
 have HB:=Lib.hid hb0
 clear h h0 hb0 hB
 go_enter Tryz.func26,Tryz.ntmps26
 go_wp2_with (go_at_call 69;refine hn.mono ?_;rintro e w1 ⟨rfl,rfl⟩)
 have hE:=(Blk.new w 32 #[.int .i64 i1,.int .i64 i2,.bool i3,.int .u64 F1,.int .u64 L1,.int .u64 R1,.int .u64 F2,.int .u64 L2,.int .u64 R2,.int .u64 F3,.int .u64 L3,.int .u64 R3,.int .i64 i4,.int .i64 i5]).alloc (.cells #[.int .i64 i1,.int .i64 i2,.bool i3,.int .u64 F1,.int .u64 L1,.int .u64 R1,.int .u64 F2,.int .u64 L2,.int .u64 R2,.int .u64 F3,.int .u64 L3,.int .u64 R3,.int .i64 i4,.int .i64 i5,.int .i64 d] 107)
 have q0:=hE.cell 0;have q1:=hE.cell 1;have q2:=hE.cell 2;have q3:=hE.cell 3;have q4:=hE.cell 4;have q5:=hE.cell 5;have q6:=hE.cell 6;have q7:=hE.cell 7;have q8:=hE.cell 8;have q9:=hE.cell 9;have q10:=hE.cell 10;have q11:=hE.cell 11;have q12:=hE.cell 12;have q13:=hE.cell 13
 simp only [lTA,lCZ,lCS] at q0 q1 q2 q3 q4 q5 q6 q7 q8 q9 q10 q11 q12 q13
 refine bodyPost_ret (v:=.tuple #[.agg #[.int .i64 i1,.int .i64 i2,.bool i3,.int .u64 F1,.int .u64 L1,.int .u64 R1,.int .u64 F2,.int .u64 L2,.int .u64 R2,.int .u64 F3,.int .u64 L3,.int .u64 R3,.int .i64 i4,.int .i64 i5],.bool bs]) (by simp [results,Tryz.results26,go_sem,q0,q1,q2,q3,q4,q5,q6,q7,q8,q9,q10,q11,q12,q13]) rfl ⟨rfl,((Below.refl w.heap.size w).alloc (Nat.le_refl _) _).alloc (by simp) _⟩
end
section
open Go.RowKit Go.Maps Go.Sort Go.Shelf
theorem sortsI (m : Nat) : AnyZI.SortsIn Tryz.prog sortedI_ren Fence.wide m :=
  ⟨fun blk off cap ss W hH hblk hsz => callsIn_wide.2 (AnyM.slices_Sort_int sortI blk off cap ss W hH hblk hsz),
   fun p cap W => callsIn_wide.2 (AnyM.slices_Sort_int_none sortI p cap W)⟩
def IdsW (w:World)(l:List Int)(e:Ending)(w':World):Prop:=∃ v,e=.returned v∧w'.ownsRow w.heap.size 3 1 v l.length (l.map (Value.int .i64))∧Below w.heap.size w w'
theorem sorted_postH (M : Mp) (w : World) (m : Nat) (h : MapI Tryz.prog 3 w m (mapV clV M)) (e : Ending) (W : World) (hh : ∃ (v : Value) (ss : List Int), e = .returned v ∧ ss.Perm (intKeys (toD (mapV clV M))) ∧
      W.ownsRow (w.alloc (.cells #[.map (some m)] 98)).heap.size (sortedI_ren.t 26) 1 v ss.length ((ss.mergeSort (fun x y => decide (x ≤ y))).map encZ) ∧ (v = .slice none 0 0 ↔ ss = []) ∧ Below (w.alloc (.cells #[.map (some m)] 98)).heap.size (w.alloc (.cells #[.map (some m)] 98)) W) : IdsW w (M.map (·.1)) e W := by
  obtain ⟨v, ss, he, hS, hrow, hnil, hb⟩ := hh
  rw [intKeys_toD, mapV_keys] at hS
  have hr := h.rising (int_keyed Tryz.underlying3)
  have hks := sorted_keys hr (ss := ss) (by rw [mapV_keys]; exact hS)
  rw [mapV_keys] at hks
  rw [hks] at hrow
  have hl := hS.length_eq
  rw [hl] at hrow
  exact ⟨v, he, owns_baseH (show W.ownsRow _ 3 1 v (M.map (·.1)).length ((M.map (·.1)).map (Value.int .i64)) from hrow) (by simp), ((Below.refl _ w).alloc (Nat.le_refl _) _).trans (hb.mono (by simp))⟩
theorem tids_any (base g ma mu:Nat)(U:List (Int × Value))(M:Mp)(w:World)(h:TreeX w base g ma mu U M) :
  Calls Tryz.prog 25 #[.pointer (some ⟨g,0,none⟩)] w (IdsW w (M.map (·.1))):=by
 refine (callsIn_wide (n:=6)).1 ?_
 have hbl:=h.all.lt
 have c0:=h.blk.cell 0
 simp only [lTA,lCZ,lCS] at c0
 have hn0:=htnone_no g ma _ w h.blk
 have hfew:=h.inv.few
 have h1:=h.all.kept (World.grownBy_alloc w (.cells #[.map (some ma)] 98) none) (by simp)
 unfold MapI at h1
 have hseq:SeqGives Fence.wide 2 Tryz.prog 115 #[.pointer (some ⟨w.heap.size,0,none⟩)] encZ (fun ss=>ss.Perm (intKeys (toD (mapV clV M)))) (Maps.size (toD (mapV clV M))) (w.alloc (.cells #[.map (some ma)] 98)) :=
  AnyZI.keys_gives (ρ:=keysH_ren) { keysH with } Fence.wide _ trivial rfl (by omega) w.heap.size ma _ (toD (mapV clV M)) _ (by simp) (by simp) h1
 have cK:∀ mb W,CallsIn Fence.wide 5 Tryz.prog 74 #[.map mb] W fun e w'=>e=.returned (.func (.func 115) #[] #[.pointer (some ⟨W.heap.size,0,none⟩)])∧w'=W.alloc (.cells #[.map mb] 98):=fun mb W=>AnyZI.keys_in keysH Fence.wide 5 trivial rfl mb W
 have hsz:Maps.size (toD (mapV clV M)) < 1000000:=by rw [size_toD,mapV_length];omega
 have cS:=AnyZI.sorted_in sortedI Fence.wide 5 trivial trivial trivial trivial rfl (by omega) (sortsI _) (enters_of Tryz.func75 (by kernel_rfl) rfl) 115 #[.pointer (some ⟨w.heap.size,0,none⟩)] trivial (enters_of Tryz.func115 (by kernel_rfl) rfl) _ _ (by unfold maxLen;omega) (by omega) _ hseq
 change CallsIn _ _ Tryz.prog 73 _ _ _ at cS
 have hfK:Fence.wide.fn 74:=trivial
 have hfS:Fence.wide.fn 73:=trivial
 have hfN:Fence.wide.fn 69:=trivial
 have hnF:CallsIn Fence.wide 5 Tryz.prog 69 #[.pointer (some ⟨g,0,none⟩)] w _:=callsIn_wide.2 hn0
 have cS:=cS.mono (sorted_postH M w ma h.all)
 clear h1 hseq hn0 hsz h
 refine callsIn_of_wp Tryz.func25 rfl trivial ?_ rfl
 simp only [Tryz.ntmps25,List.size_toArray,List.length_cons,List.length_nil,Nat.reduceAdd,Nat.reduceSub,Array.replicate_succ,Array.replicate_zero,List.push_toArray,List.append_toArray,List.nil_append,List.cons_append]
 gi_wp2_with (first
  | (gi_at_call 69;refine hnF.mono ?_;rintro e w' ⟨rfl,rfl⟩)
  | (gi_at_call 74;refine (cK _ _).mono ?_;rintro e w' ⟨rfl,rfl⟩)
  | (gi_at_call 73;refine cS.mono ?_;rintro e W ⟨v,rfl,hrow,hb⟩))
 go_ret
 exact⟨_,rfl,hrow,hb⟩
theorem clone_int (base:Nat)(v:Value)(l:List Int)(w:World)(h:w.ownsRow base 3 1 v l.length (l.map (Value.int .i64)))(hl:l.length≤1000) :
  Calls Tryz.prog 70 #[v] w (IdsW w l):=by
 rcases h.2 with ⟨rfl,h0⟩ | ⟨g,cap,cur,rfl,h1,h2,h3,h4⟩
 ·obtain rfl:l=[]:=List.eq_nil_of_length_eq_zero h0
  refine (AnyE.slices_Clone_nil cloneI 0 0 w).mono ?_
  rintro e w' ⟨rfl,rfl⟩
  exact⟨_,rfl,World.ownsRow_nil _ _ _ _,Below.refl _ _⟩
 ·obtain⟨i0,hi0,hz0,hz1,hz2⟩:=info_parts info_int
  refine (AnyE.slices_Clone cloneI i0 (.int .i64 0) 1 8 hi0 hz0 hz1 hz2 rfl (by decide) (by exact Tryz.sizeOf3) g 0 l.length cap (l.map (Value.int .i64)) w (by simp) (by unfold maxLen;omega) (by omega) (fun j u hj=>?_) (fun u hu=>?_)).mono ?_
  ·rw [Nat.zero_add,h.cellAt j (by have:=(List.getElem?_eq_some_iff.1 hj).1;simp at this;omega)]
   exact hj
  ·obtain⟨x,_,rfl⟩:=List.mem_map.1 hu
   rfl
  ·rintro e w' ⟨v',rfl,hr,_,hb⟩
   exact⟨v',rfl,hr,hb⟩
theorem tunder_any (id:Int)(base g ma mu:Nat)(U:List (Int × Value))(M:Mp)(w:World)(hid:(Lit.int .i64 id).wf=true)(h:TreeX w base g ma mu U M) :
  Calls Tryz.prog 22 #[.pointer (some ⟨g,0,none⟩),.int .i64 id] w (IdsW w (kids M id)):=by
 have hn:=htnone_no g ma _ _ h.blk
 have hlook:=h.lookU hid
 have y1:=h.blk.cell 1
 simp only [lTA,lCZ,lCS] at y1
 have hc:=clone_int base (rowV U id) (kids M id) w (h.rows id) (by have:=h.inv.few;have:=kids_len M id;omega)
 generalize rowV U id=v at hlook hc
 clear h
 go_enter Tryz.func22,Tryz.ntmps22
 go_wp2_with (first | (go_at_call 69;refine hn.mono ?_;rintro e w' ⟨rfl,rfl⟩) | (go_at_call 70;refine hc.mono ?_;rintro e w' ⟨v',rfl,hrow,hb⟩))
 go_ret
 exact⟨_,rfl,hrow,hb⟩
end
section
open Go.RowKit Go.Maps Go.Sort Go.Shelf
attribute [local go_sem ↓] Go.wp_at_zero Go.wp_at_succ
attribute [local go_sem] quietR quietAtR quietUponR midAt midUpon
theorem depth_cases {M:Mp} (h:InvT M) {pa:Int} (h0:pa≠0):(lookM M pa=none∧depthM M pa=0)∨∃ c,lookM M pa=some c∧1≤c.2∧c.2≤8∧((c.1.lf=true∧depthM M pa=0)∨(c.1.lf=false∧8≤c.2∧depthM M pa=0)∨(c.1.lf=false∧¬ 8≤c.2∧depthM M pa=c.2+1)):=by
 cases e:lookM M pa with
 | none=>left;exact⟨rfl,by unfold depthM;rw [if_neg h0,e]⟩
 | some c =>
  right
  have o:=h.ok _ _ e
  refine⟨c,rfl,o.d1,o.d8,?_⟩
  have hd:depthM M pa=if c.1.lf=true∨8≤c.2 then 0 else c.2+1:=by unfold depthM;rw [if_neg h0,e]
  rw [hd]
  cases hl:c.1.lf
  ·by_cases h8:8≤c.2
   ·exact .inr (.inl ⟨rfl,h8,by simp [h8]⟩)
   ·exact .inr (.inr ⟨rfl,h8,by simp [h8]⟩)
  ·exact .inl ⟨rfl,by simp⟩
theorem tdepth_any (pa:Int)(base g ma mu:Nat)(U:List (Int × Value))(M:Mp)(w:World)(hid:(Lit.int .i64 pa).wf=true)(h:TreeX w base g ma mu U M) :
  Calls Tryz.prog 131 #[.pointer (some ⟨g,0,none⟩),.int .i64 pa] w fun e w'=>e=.returned (.int .i64 (depthM M pa))∧Below w.heap.size w w':=by
 by_cases h0:pa=0
 ·subst h0
  have hd:depthM M 0=1:=by unfold depthM;simp
  have HD:=Lib.hid hd
  clear h hd
  go_enter Tryz.func131,Tryz.ntmps131
  go_wp2_with fail
  go_ret
  exact⟨by rw [HD.out];rfl,Below.refl _ _⟩
 ·have hlook:=h.look hid
  have y0:=h.blk.cell 0
  simp only [lTA,lCZ,lCS] at y0
  have hcs:=depth_cases h.inv h0
  clear h
  have h0b:(pa == 0)=false:=by simpa using h0
  rcases hcs with ⟨e,hd⟩ | ⟨c,e,hd1,hd8,hcs⟩
  ·rw [e] at hlook
   unfold clV clC cl0 sp0 at hlook
   dsimp only [Option.getD,Option.isSome] at hlook
   have HD:=Lib.hid hd
   clear hd e
   go_enter Tryz.func131,Tryz.ntmps131
   go_wp2_with fail
   go_ret
   exact⟨by rw [HD.out];rfl,by go_grown⟩
  ·rw [e] at hlook
   obtain⟨⟨i1,i2,i3,⟨F1,L1,R1⟩,⟨F2,L2,R2⟩,⟨F3,L3,R3⟩,i4,i5⟩,d⟩:=c
   unfold clV clC at hlook
   dsimp only [Option.getD,Option.isSome] at hlook hcs hd1 hd8
   clear e
   rcases hcs with ⟨rfl,hd⟩ | ⟨rfl,h8,hd⟩ | ⟨rfl,h8,hd⟩
   all_goals
    have HD:=Lib.hid hd
    clear hd
    go_enter Tryz.func131,Tryz.ntmps131
    go_wp2_with fail
    go_ret
    exact⟨by rw [HD.out];first | rfl | simp,by go_grown⟩
end
end Go.Proofs.YtmmeopjemkjllaaGreat
