/- Lemmas of the claim. No conditions beyond those that each states. -/
import Derived.Test.YtmmeopjemkjllaaGreatPT4
import Derived.Test.YtmmeopjemkjllaaGreatPT18
import Derived.Test.YtmmeopjemkjllaaGreatPT19
import Derived.Outline
import Derived.Deep.RegionWith
set_option linter.unusedVariables false
set_option linter.unusedSimpArgs false
set_option maxRecDepth 100000
set_option maxHeartbeats 8000000
namespace Go.Proofs.YtmmeopjemkjllaaGreat
section
open Go.RowKit Go.Maps Go.Sort Go.Shelf
def clC (c:Cl):Array Value:=#[.int .i64 c.1.id,.int .i64 c.1.pa,.bool c.1.lf,.int .u64 c.1.r.1,.int .u64 c.1.r.2.1,.int .u64 c.1.r.2.2,.int .u64 c.1.s.1,.int .u64 c.1.s.2.1,.int .u64 c.1.s.2.2,.int .u64 c.1.u.1,.int .u64 c.1.u.2.1,.int .u64 c.1.u.2.2,.int .i64 c.1.pk,.int .i64 c.1.by_,.int .i64 c.2]
def clV (c:Cl):Value:=.agg (clC c)
def sp0:Sp:=⟨0,0,false,(0,0,0),(0,0,0),(0,0,0),0,0⟩
def cl0:Cl:=(sp0,0)
def rowV (U:List (Int × Value))(k:Int):Value:=(lookM U k).getD (.slice none 0 0)
def own (ma mu:Nat)(U:List (Int × Value))(b:Nat):Prop:=b=ma∨b=mu∨∃ k,(rowV U k).ownBlock=some b
structure TreeX (W:World)(base g ma mu:Nat)(U:List (Int × Value))(M:Mp):Prop where
 blk:Blk W g 101 #[.map (some ma),.map (some mu)]
 all:MapI Tryz.prog 3 W ma (mapV clV M)
 und:MapI Tryz.prog 3 W mu U
 rows:∀ k,W.ownsRow base 3 1 (rowV U k) (kids M k).length ((kids M k).map (Value.int .i64))
 apart:∀ k k' b,k≠k'→(rowV U k).ownBlock=some b→(rowV U k').ownBlock=some b→False
 gb:base≤g
 ab:base≤ma
 ub:base≤mu
 ne:ma≠mu
 keys:∀ q∈U,0≤q.1∧q.1≤65535
 inv:InvT M
section
variable {W W' : World} {base g ma mu : Nat} {U : List (Int × Value)} {M : Mp}
theorem owns_laterH {w w':World} {base sz n:Nat} {e:TypeId} {v:Value} {xs:List Value} (h:w.ownsRow base e sz v n xs)(hb:Below w.heap.size w w'):w'.ownsRow base e sz v n xs :=
 h.kept (grown_noneH hb)(by cases hv:v.ownBlock <;> simp)
theorem owns_baseH {w:World} {b b' sz n:Nat} {e:TypeId} {v:Value} {xs:List Value} (h:w.ownsRow b e sz v n xs)(hb:b'≤b):w.ownsRow b' e sz v n xs :=
 ⟨h.1,h.2.imp id fun ⟨g,cap,cur,e,h1,h2⟩=>⟨g,cap,cur,e,Nat.le_trans hb h1,h2⟩⟩
theorem TreeX.later (h:TreeX W base g ma mu U M)(hb:Below W.heap.size W W'):TreeX W' base g ma mu U M :=
 ⟨h.blk.below hb h.blk.lt,h.all.kept (grown_noneH hb) (by simp),h.und.kept (grown_noneH hb) (by simp),fun k=>owns_laterH (h.rows k) hb,h.apart,h.gb,h.ab,h.ub,h.ne,h.keys,h.inv⟩
theorem TreeX.owned (h:TreeX W base g ma mu U M) {b:Nat} (hb:own ma mu U b):base≤b∧b < W.heap.size:=by
 rcases hb with rfl | rfl | ⟨k,hk⟩
 ·exact⟨h.ab,h.all.lt⟩
 ·exact⟨h.ub,h.und.lt⟩
 ·exact (h.rows k).lt b hk
theorem row_map {w:World} {base sz n m:Nat} {e K:TypeId} {v:Value} {xs:List Value} {N:List (Int × Value)} (h:w.ownsRow base e sz v n xs)(hm:MapI Tryz.prog K w m N):v.ownBlock=none∨v.ownBlock≠some m:=by
 rcases h.2 with ⟨rfl,_⟩ | ⟨g,c,cur,rfl,_,h2,_⟩
 ·exact .inl rfl
 ·right
  intro e
  have e:g=m:=by simpa [Value.ownBlock] using e
  subst e
  obtain⟨es,clock,hb,_⟩:=hm
  rw [hb] at h2
  cases h2
theorem blk_map {w:World} {g m:Nat} {t K:TypeId} {cs:Array Value} {N:List (Int × Value)} (h:Blk w g t cs)(hm:MapI Tryz.prog K w m N):g≠m:=by
 rintro rfl
 obtain⟨es,clock,hb,_⟩:=hm
 have:=hb.symm.trans h
 cases this
theorem keys_len:∀ (n:Nat) {U:List (Int × Value)} (a:Int),Rising U→(∀ q∈U,a≤q.1∧q.1 < a+n)→U.length≤n
 | n,[],a,_,_=>by simp
 | 0,q :: U,a,_,h=>by have:=h q (.head _);omega
 | n+1,q :: U,a,hr,h=>by
  have h1:=(List.pairwise_cons.1 hr).1
  have:=keys_len n (a+1) (List.pairwise_cons.1 hr).2 fun x hx=>by
   have:=h1 x hx
   have h2:=h q (.head _)
   have h3:=h x (.tail _ hx)
   omega
  rw [List.length_cons]
  omega
theorem TreeX.few (h:TreeX W base g ma mu U M):U.length≤65536:=keys_len 65536 0 (h.und.rising (int_keyed Tryz.underlying3)) fun q hq=>by have:=h.keys q hq;omega
end
theorem info_int:(Tryz.prog.info? 3).map (fun i=>(i.zero,i.size,i.bytes))=some (some (.int .i64 0),1,8):=by kernel_rfl
theorem htnone_no (g ma:Nat)(v:Value)(w:World)(h:Blk w g 101 #[.map (some ma),v]) :
  Calls Tryz.prog 69 #[.pointer (some ⟨g,0,none⟩)] w fun e w'=>e=.returned (.bool false)∧w=w':=by
 have c0:=h.cell 0
 simp only [lTA,lCZ,lCS] at c0
 have qT:∀ (w:World)(r:Option Nat),(binOp .eql 98 (.map r) (.map none)).run Tryz.prog w=.ok (.bool r.isNone) w:=fun w r=>run_eql_map_nil w _ _ _ r Tryz.underlying98
 go_enter Tryz.func69,Tryz.ntmps69
 go_wp2
 go_ret
 exact⟨rfl,rfl⟩
def TnewW (w:World)(e:Ending)(w':World):Prop:=∃ g ma mu,e=.returned (.pointer (some ⟨g,0,none⟩))∧TreeX w' w.heap.size g ma mu [] []∧Below w.heap.size w w'
theorem tnew_any (w:World):Calls Tryz.prog 66 #[] w (TnewW w):=by
 have m1:=MapI.made (P:=Tryz.prog) (K:=3) w
 have m2:=MapI.made (P:=Tryz.prog) (K:=3) (w.alloc (.map #[] 0))
 have m3:=m1.kept (World.grownBy_alloc (w.alloc (.map #[] 0)) (.map #[] 0) none) (by simp)
 have HM:=Lib.hid (And.intro m3 m2)
 clear m1 m2 m3
 have hmm:=@run_makeMap Tryz.prog
 go_enter Tryz.func66,Tryz.ntmps66
 go_wp2
 go_ret
 have hs:(w.alloc (.map #[] 0)).heap.size=w.heap.size+1:=Array.size_push _
 have hs2:((w.alloc (.map #[] 0)).alloc (.map #[] 0)).heap.size=w.heap.size+2:=by rw [World.alloc];exact (Array.size_push _).trans (by rw [hs])
 have hb:=(((Below.refl w.heap.size w).alloc (Nat.le_refl _) (.map #[] 0)).alloc (by omega) (.map #[] 0))
 have hB:=Blk.new ((w.alloc (.map #[] 0)).alloc (.map #[] 0)) 101 #[.map (some w.heap.size),.map (some (w.heap.size+1))]
 have k1:=HM.out.1.kept (World.grownBy_alloc ((w.alloc (.map #[] 0)).alloc (.map #[] 0)) (.cells #[.map (some w.heap.size),.map (some (w.heap.size+1))] 101) none) (by simp)
 have k2:=HM.out.2.kept (World.grownBy_alloc ((w.alloc (.map #[] 0)).alloc (.map #[] 0)) (.cells #[.map (some w.heap.size),.map (some (w.heap.size+1))] 101) none) (by simp)
 rw [hs] at k2
 rw [hs2] at hB
 refine⟨w.heap.size+2,w.heap.size,w.heap.size+1,rfl,⟨hB,k1,k2,fun k=>World.ownsRow_nil _ _ _ _,fun k k' b _ h=>(by cases h),by omega,Nat.le_refl _,by omega,by omega,fun q hq=>(by cases hq),inv_nil⟩,hb.alloc (by omega) _⟩
end
section
open Go.RowKit Go.Maps
abbrev Ob:=World→(Nat→Prop)→Prop
structure Good (P:Ob):Prop where
 lt:∀ {W:World} {S:Nat→Prop},P W S→∀ b,S b→b < W.heap.size
 kept:∀ {W W':World} {S:Nat→Prop},P W S→W.heap.size≤W'.heap.size→(∀ b,S b→W'.heap[b]?=W.heap[b]?)→P W' S
def Star (P Q:Ob):Ob:=fun W S=>∃ A B:Nat→Prop,(∀ b,S b↔A b∨B b)∧(∀ b,A b→¬ B b)∧P W A∧Q W B
def Emp:Ob:=fun _ S=>∀ b,¬ S b
theorem good_emp:Good Emp:=⟨fun h b hb=>absurd hb (h b),fun h _ _=>h⟩
theorem Good.star {P Q:Ob} (hP:Good P)(hQ:Good Q):Good (Star P Q):=by
 refine⟨fun ⟨A,B,hS,_,hp,hq⟩ b hb=>?_,fun ⟨A,B,hS,hd,hp,hq⟩ hs hk=>⟨A,B,hS,hd,hP.kept hp hs fun b hb=>hk b ((hS b).2 (.inl hb)),hQ.kept hq hs fun b hb=>hk b ((hS b).2 (.inr hb))⟩⟩
 rcases (hS b).1 hb with h | h
 ·exact hP.lt hp b h
 ·exact hQ.lt hq b h
theorem Star.comm {P Q:Ob} {W:World} {S:Nat→Prop} (h:Star P Q W S):Star Q P W S:=by
 obtain⟨A,B,hS,hd,hp,hq⟩:=h
 exact⟨B,A,fun b=>(hS b).trans Or.comm,fun b h1 h2=>hd b h2 h1,hq,hp⟩
theorem Star.swap {P Q R:Ob} {W:World} {S:Nat→Prop} (h:Star P (Star Q R) W S):Star Q (Star P R) W S:=by
 obtain⟨A,B,hS,hd,hp,C,D,hB,hd2,hq,hr⟩:=h
 refine⟨C,fun b=>A b∨D b,fun b=>?_,fun b hc=>?_,hq,A,D,fun b=>Iff.rfl,fun b ha hdd=>hd b ha ((hB b).2 (.inr hdd)),hp,hr⟩
 ·rw [hS b,hB b]
  constructor
  ·rintro (h | h | h)
   ·exact .inr (.inl h)
   ·exact .inl h
   ·exact .inr (.inr h)
  ·rintro (h | h | h)
   ·exact .inr (.inl h)
   ·exact .inl h
   ·exact .inr (.inr h)
 ·rintro (h | h)
  ·exact hd b h ((hB b).2 (.inl hc))
  ·exact hd2 b hc h
structure Went (W W':World)(S S':Nat→Prop):Prop where
 fr:Fr S W W'
 own:∀ b,S' b→S b∨W.heap.size≤b
theorem Star.step {P Q R:Ob} {W W':World} {S A B:Nat→Prop} (hP:Good P)(hR:Good R)(hS:∀ b,S b↔A b∨B b)(hd:∀ b,A b→¬ B b)(hp:P W A)(hr:R W B) {A':Nat→Prop} (hq:Q W' A')(hw:Went W W' A A'):∃ S',Star Q R W' S'∧Went W W' S S':=by
 refine⟨fun b=>A' b∨B b,⟨A',B,fun b=>Iff.rfl,fun b ha hb=>?_,hq,hR.kept hr hw.fr.size fun b hb=>hw.fr.block b (hR.lt hr b hb) fun ha=>hd b ha hb⟩,⟨hw.fr.weak fun b _ h=>(hS b).2 (.inl h),fun b hb=>?_⟩⟩
 ·rcases hw.own b ha with h | h
  ·exact hd b h hb
  ·have:=hR.lt hr b hb;omega
 ·rcases hb with hb | hb
  ·exact (hw.own b hb).imp (fun h=>(hS b).2 (.inl h)) id
  ·exact .inl ((hS b).2 (.inr hb))
def St (w0 W:World)(P:Ob):Prop:=Below w0.heap.size w0 W∧∃ S,P W S∧∀ b,S b→w0.heap.size≤b
def Acts (φ:Ending→Prop)(P Q:Ob)(f:FuncId)(args:Array Value)(prog:Program)(W:World):Prop:=∀ A,P W A→Calls prog f args W fun e W'=>φ e∧∃ A',Q W' A'∧Went W W' A A'
section
variable {w0 W W' : World} {P P1 P2 P3 Q R : Ob} {φ : Ending → Prop} {f : FuncId} {args : Array Value} {prog : Program}
end
def BoxO (g:Nat)(t:TypeId)(cs:Array Value):Ob:=fun W S=>Blk W g t cs∧∀ b,S b↔b=g
theorem good_box (g:Nat)(t:TypeId)(cs:Array Value):Good (BoxO g t cs) :=
 ⟨fun ⟨h,hS⟩ b hb=>by rw [(hS b).1 hb];exact h.lt,fun ⟨h,hS⟩ _ hk=>⟨(hk g ((hS g).2 rfl)).trans h,hS⟩⟩
def TO (g ma mu:Nat)(M:Mp):Ob:=fun W S=>∃ U,TreeX W 0 g ma mu U M∧∀ b,S b↔b=g∨own ma mu U b
theorem owns_heapH {w w':World} {base sz n:Nat} {e:TypeId} {v:Value} {xs:List Value} (h:w.ownsRow base e sz v n xs)(hk:∀ b,v.ownBlock=some b→w'.heap[b]?=w.heap[b]?):w'.ownsRow base e sz v n xs:=by
 refine⟨h.1,?_⟩
 rcases h.2 with h2 | ⟨g,c,cur,rfl,h1,h2,h3⟩
 ·exact .inl h2
 ·exact .inr ⟨g,c,cur,rfl,h1,(hk g rfl).trans h2,h3⟩
theorem TreeX.heap {W W':World} {base g ma mu:Nat} {U:List (Int × Value)} {M:Mp} (h:TreeX W base g ma mu U M)(hg:W'.heap[g]?=W.heap[g]?)(hk:∀ b,own ma mu U b→W'.heap[b]?=W.heap[b]?):TreeX W' base g ma mu U M :=
 ⟨hg.trans h.blk,h.all.heap (hk ma (.inl rfl)),h.und.heap (hk mu (.inr (.inl rfl))),fun k=>owns_heapH (h.rows k) fun b hb=>hk b (.inr (.inr ⟨k,hb⟩)),h.apart,h.gb,h.ab,h.ub,h.ne,h.keys,h.inv⟩
theorem good_tree (g ma mu:Nat)(M:Mp):Good (TO g ma mu M):=by
 refine⟨fun ⟨U,h,hS⟩ b hb=>?_,fun ⟨U,h,hS⟩ _ hk=>⟨U,h.heap (hk g ((hS g).2 (.inl rfl))) fun b hb=>hk b ((hS b).2 (.inr hb)),hS⟩⟩
 rcases (hS b).1 hb with rfl | h2
 ·exact h.blk.lt
 ·exact (h.owned h2).2
end
section
def hasK (F L R:Int)(k:Int × Int)(t:Int):Int:=k.2+W F L R (t - k.1)
def lineK (R:Int)(k:Int × Int)(t:Int):Int:=k.2+R*(t - k.1)
def gapK (F L R u:Int):Int:=(R - F)*min u L
theorem W_gap (F L R u:Int):W F L R u=R*u - gapK F L R u:=by
 unfold W gapK
 rw [Int.mul_sub,Int.sub_mul]
 omega
theorem line_gap (F L R:Int)(k:Int × Int)(t:Int):lineK R k t=hasK F L R k t+gapK F L R (t - k.1):=by
 unfold lineK hasK
 rw [W_gap]
 omega
structure SagC (F L R:Int):Prop where
 may:MayC F L R
 sag:L=0∨F≤R
theorem gap_mono {F L R a b:Int} (h:SagC F L R)(hb:0≤b)(hab:b≤a):gapK F L R b≤gapK F L R a:=by
 unfold gapK
 rcases h.sag with h0 | h0
 ·rw [h0,Int.min_eq_right hb,Int.min_eq_right (Int.le_trans hb hab)];exact Int.le_refl _
 ·exact Int.mul_le_mul_of_nonneg_left (by omega) (by omega)
theorem gap_conc {F L R a b d:Int} (h:SagC F L R)(hb:0≤b)(hab:b≤a)(hd:0≤d):gapK F L R (a+d) - gapK F L R a≤gapK F L R (b+d) - gapK F L R b:=by
 unfold gapK
 rcases h.sag with h0 | h0
 ·rw [h0,Int.min_eq_right hb,Int.min_eq_right (Int.le_trans hb hab),Int.min_eq_right (by omega),Int.min_eq_right (by omega)];exact Int.le_refl _
 ·rw [← Int.mul_sub,← Int.mul_sub]
  exact Int.mul_le_mul_of_nonneg_left (by omega) (by omega)
theorem gap_nonneg {F L R a:Int} (h:SagC F L R)(ha:0≤a):0≤gapK F L R a:=by
 have:=gap_mono h (Int.le_refl 0) ha
 unfold gapK at *
 rw [Int.min_eq_left h.may.l0] at this
 omega
theorem gap_late {F L R a:Int} (h:SagC F L R)(ha:L≤a):gapK F L R a=(if L=0 then 0 else (R - F)*L):=by
 unfold gapK
 rw [Int.min_eq_right ha]
 split
 ·rename_i h1;rw [h1,Int.mul_zero]
 ·rfl
theorem line_add (R:Int)(k:Int × Int)(s t:Int):lineK R k t=lineK R k s+R*(t - s):=by
 unfold lineK
 have:R*(t - k.1)=R*(s - k.1)+R*(t - s):=by rw [← Int.mul_add];congr 1;omega
 omega
def Beats (F L R:Int)(a b:Int × Int)(s:Int):Prop:=∀ t,s≤t→hasK F L R a t≤hasK F L R b t∧lineK R a t≤lineK R b t
theorem Beats.refl {F L R:Int} (a:Int × Int)(s:Int):Beats F L R a a s:=fun _ _=>⟨Int.le_refl _,Int.le_refl _⟩
theorem Beats.trans {F L R s:Int} {a b c:Int × Int} (h:Beats F L R a b s)(k:Beats F L R b c s):Beats F L R a c s :=
 fun t ht=>⟨Int.le_trans (h t ht).1 (k t ht).1,Int.le_trans (h t ht).2 (k t ht).2⟩
theorem Beats.mono {F L R s s':Int} {a b:Int × Int} (h:Beats F L R a b s)(hs:s≤s'):Beats F L R a b s':=fun t ht=>h t (Int.le_trans hs ht)
theorem later_beats {F L R s:Int} {o k:Int × Int} (h:SagC F L R)(hok:o.1≤k.1)(hks:k.1≤s)(hh:hasK F L R k s≤hasK F L R o s):Beats F L R k o s:=by
 intro t ht
 have e1:=line_gap F L R k s;have e2:=line_gap F L R o s
 have e3:=line_gap F L R k t;have e4:=line_gap F L R o t
 have a1:=line_add R k s t;have a2:=line_add R o s t
 have c:=gap_conc (a:=s - o.1) (b:=s - k.1) (d:=t - s) h (by omega) (by omega) (by omega)
 have m:=gap_mono (a:=s - o.1) (b:=s - k.1) h (by omega) (by omega)
 rw [show s - o.1+(t - s)=t - o.1 by omega,show s - k.1+(t - s)=t - k.1 by omega] at c
 exact⟨by omega,by omega⟩
theorem earlier_beats {F L R s:Int} {o k:Int × Int} (h:SagC F L R)(hok:o.1≤k.1)(hks:k.1≤s)(hh:lineK R o s≤lineK R k s):Beats F L R o k s:=by
 intro t ht
 have e3:=line_gap F L R k t;have e4:=line_gap F L R o t
 have a1:=line_add R k s t;have a2:=line_add R o s t
 have m:=gap_mono (a:=t - o.1) (b:=t - k.1) h (by omega) (by omega)
 exact⟨by omega,by omega⟩
def popN (v:Int × Int→Bool)(l:List (Int × Int)):Nat→List (Int × Int)
 | 0=>[]
 | n+1=>if (match l[n]? with | some o=>v o | none=>false) then popN v l n else l.take (n+1)
theorem popN_spec (v:Int × Int→Bool)(l:List (Int × Int)):∀ n,∃ m,m≤n∧popN v l n=l.take m∧(∀ j o,m≤j→j < n→l[j]?=some o→v o=true)∧(∀ j o,m=j+1→l[j]?=some o→v o=false):=by
 intro n
 induction n with
 | zero=>exact⟨0,Nat.le_refl _,by simp [popN],fun j o h1 h2=>by omega,fun j o h=>by omega⟩
 | succ n ih =>
  unfold popN
  by_cases hc:(match l[n]? with | some o=>v o | none=>false)=true
  ·rw [if_pos hc]
   obtain⟨m,hm,he,h1,h2⟩:=ih
   refine⟨m,by omega,he,fun j o hj hj2 ho=>?_,h2⟩
   by_cases hjn:j=n
   ·subst hjn;rw [ho] at hc;exact hc
   ·exact h1 j o hj (by omega) ho
  ·rw [if_neg hc]
   refine⟨n+1,Nat.le_refl _,rfl,fun j o h1 h2=>by omega,fun j o hj ho=>?_⟩
   obtain rfl:j=n:=by omega
   rw [ho] at hc
   simpa using hc
def push1 (F L R s:Int)(out:List (Int × Int))(k:Int × Int):List (Int × Int) :=
 let o:=popN (fun o=>decide (hasK F L R k s≤hasK F L R o s)) out out.length
 match o.getLast? with
 | some p=>if lineK R p s≤lineK R k s then o else o ++ [k]
 | none=>o ++ [k]
def startK (F L R s:Int)(K:List (Int × Int))(k:Int × Int):List (Int × Int):=(K ++ [k]).foldl (push1 F L R s) []
def Cov (F L R s:Int)(K A:List (Int × Int)):Prop:=∀ a∈A,∃ k∈K,Beats F L R k a s
theorem push1_ok {F L R s:Int} {out P:List (Int × Int)} {k:Int × Int} (h:SagC F L R)(hok:∀ o∈out,o.1≤k.1)(hks:k.1≤s)(hsub:out.Sublist P)(hc:Cov F L R s out P) :
  (push1 F L R s out k).Sublist (P ++ [k])∧Cov F L R s (push1 F L R s out k) (P ++ [k]):=by
 obtain⟨m,hm,he,h1,h2⟩:=popN_spec (fun o=>decide (hasK F L R k s≤hasK F L R o s)) out out.length
 unfold push1
 rw [he]
 have hts:(out.take m).Sublist P:=(List.take_sublist _ _).trans hsub
 -- what is popped is beaten by k
 have hp:∀ o∈out,o∈out.take m∨Beats F L R k o s:=by
  intro o ho
  obtain⟨j,hj,rfl⟩:=List.mem_iff_getElem.1 ho
  by_cases hjm:j < m
  ·exact .inl (List.mem_iff_getElem.2 ⟨j,by rw [List.length_take];omega,by rw [List.getElem_take]⟩)
  ·have:=h1 j out[j] (by omega) hj (by simp [hj])
   exact .inr (later_beats h (hok _ ho) hks (of_decide_eq_true this))
 have happ:(out.take m ++ [k]).Sublist (P ++ [k])∧Cov F L R s (out.take m ++ [k]) (P ++ [k]):=by
  refine⟨hts.append (List.Sublist.refl _),fun a ha=>?_⟩
  rcases List.mem_append.1 ha with ha | ha
  ·obtain⟨o,ho,hb⟩:=hc a ha
   rcases hp o ho with h3 | h3
   ·exact⟨o,List.mem_append_left _ h3,hb⟩
   ·exact⟨k,by simp,h3.trans hb⟩
  ·obtain rfl:a=k:=by simpa using ha
   exact⟨a,by simp,Beats.refl _ _⟩
 cases hl:(out.take m).getLast? with
 | none=>simpa [hl] using happ
 | some p =>
  simp only [hl]
  by_cases hline:lineK R p s≤lineK R k s
  ·rw [if_pos hline]
   have hpm:p∈out.take m:=List.mem_of_getLast? hl
   have hpo:p∈out:=List.mem_of_mem_take hpm
   have hb:=earlier_beats h (hok p hpo) hks hline
   refine⟨hts.trans (List.sublist_append_left _ _),fun a ha=>?_⟩
   rcases List.mem_append.1 ha with ha | ha
   ·obtain⟨o,ho,hb2⟩:=hc a ha
    rcases hp o ho with h3 | h3
    ·exact⟨o,h3,hb2⟩
    ·exact⟨p,hpm,(hb.trans h3).trans hb2⟩
   ·obtain rfl:a=k:=by simpa using ha
    exact⟨p,hpm,hb⟩
  ·rw [if_neg hline];exact happ
theorem fold_ok {F L R s:Int} (h:SagC F L R):∀ (l P out:List (Int × Int)),(P ++ l).Pairwise (fun a b=>a.1≤b.1)→(∀ k∈l,k.1≤s)→out.Sublist P→Cov F L R s out P →
  (l.foldl (push1 F L R s) out).Sublist (P ++ l)∧Cov F L R s (l.foldl (push1 F L R s) out) (P ++ l)
 | [],P,out,_,_,hsub,hc=>by simpa using ⟨hsub,hc⟩
 | k :: l,P,out,hp,hs,hsub,hc=>by
  have hle:∀ o∈out,o.1≤k.1:=fun o ho=>(List.pairwise_append.1 hp).2.2 o (hsub.subset ho) k (by simp)
  have h1:=push1_ok h hle (hs k (by simp)) hsub hc
  have h2:=fold_ok h l (P ++ [k]) (push1 F L R s out k) (by simpa using hp) (fun x hx=>hs x (by simp [hx])) h1.1 h1.2
  simpa using h2
structure Run (F L R s:Int)(K A:List (Int × Int)):Prop where
 sub:K.Sublist A
 cov:Cov F L R s K A
 sort:A.Pairwise (fun a b=>a.1≤b.1)
 le:∀ a∈A,a.1≤s
theorem Run.nil (F L R s:Int):Run F L R s [] []:=⟨List.Sublist.refl _,(by intro a ha;simp at ha),List.Pairwise.nil,(by intro a ha;simp at ha)⟩
theorem Run.start {F L R s s' y:Int} {K A:List (Int × Int)} (h:SagC F L R)(r:Run F L R s K A)(hs:s≤s'):Run F L R s' (startK F L R s' K (s',y)) (A ++ [(s',y)]):=by
 have hsub:(K ++ [(s',y)]).Sublist (A ++ [(s',y)]):=r.sub.append (List.Sublist.refl _)
 have hle:∀ a∈A ++ [(s',y)],a.1≤s':=by
  intro a ha
  rcases List.mem_append.1 ha with ha | ha
  ·exact Int.le_trans (r.le a ha) hs
  ·obtain rfl:a=(s',y):=by simpa using ha
   exact Int.le_refl _
 have hsort:(A ++ [(s',y)]).Pairwise (fun a b=>a.1≤b.1):=by
  refine List.pairwise_append.2 ⟨r.sort,by simp,fun a ha b hb=>?_⟩
  obtain rfl:b=(s',y):=by simpa using hb
  exact Int.le_trans (r.le a ha) hs
 have h1:=fold_ok (s:=s') h (K ++ [(s',y)]) [] [] (by simpa using hsort.sublist hsub) (fun k hk=>hle k (hsub.subset hk)) (List.Sublist.refl _) (by intro a ha;simp at ha)
 simp only [List.nil_append] at h1
 refine⟨h1.1.trans hsub,fun a ha=>?_,hsort,hle⟩
 have hcov:∃ k∈K ++ [(s',y)],Beats F L R k a s':=by
  rcases List.mem_append.1 ha with ha | ha
  ·obtain⟨k,hk,hb⟩:=r.cov a ha
   exact⟨k,List.mem_append_left _ hk,hb.mono hs⟩
  ·exact⟨a,List.mem_append_right _ ha,Beats.refl _ _⟩
 obtain⟨k,hk,hb⟩:=hcov
 obtain⟨k2,hk2,hb2⟩:=h1.2 k hk
 exact⟨k2,hk2,hb2.trans hb⟩
def minF (g:Int × Int→Int)(m:Int)(l:List (Int × Int)):Int:=l.foldl (fun m k=>min m (g k)) m
theorem minF_le_start (g:Int × Int→Int):∀ (l:List (Int × Int))(m:Int),minF g m l≤m
 | [],m=>Int.le_refl _
 | k :: l,m=>by
  have:=minF_le_start g l (min m (g k))
  unfold minF at *
  simp only [List.foldl_cons]
  omega
theorem minF_le (g:Int × Int→Int):∀ (l:List (Int × Int))(m:Int)(k:Int × Int),k∈l→minF g m l≤g k
 | x :: l,m,k,hk=>by
  have h1:=minF_le_start g l (min m (g x))
  rcases List.mem_cons.1 hk with rfl | hk
  ·unfold minF at *;simp only [List.foldl_cons];omega
  ·have:=minF_le g l (min m (g x)) k hk
   unfold minF at *;simp only [List.foldl_cons];omega
theorem le_minF (g:Int × Int→Int)(b:Int):∀ (l:List (Int × Int))(m:Int),b≤m→(∀ k∈l,b≤g k)→b≤minF g m l
 | [],m,hm,_=>hm
 | k :: l,m,hm,h=>by
  have h1:=h k (by simp)
  have:=le_minF g b l (min m (g k)) (by omega) (fun x hx=>h x (by simp [hx]))
  unfold minF at *;simpa using this
theorem minF_eq (g:Int × Int→Int)(m:Int) {K A:List (Int × Int)} (h1:∀ k∈K,k∈A)(h2:∀ a∈A,∃ k∈K,g k≤g a):minF g m K=minF g m A:=by
 apply Int.le_antisymm
 ·refine le_minF g _ A m (minF_le_start g K m) fun a ha=>?_
  obtain⟨k,hk,hg⟩:=h2 a ha
  exact Int.le_trans (minF_le g K m k hk) hg
 ·exact le_minF g _ K m (minF_le_start g A m) fun k hk=>minF_le g A m k (h1 k hk)
def atK (F L R t:Int)(k:Int × Int):Int:=cap (k.2+cap (W F L R (t - k.1)))
def linK (R t:Int)(k:Int × Int):Int:=cap (k.2+cap (R*(t - k.1)))
theorem atK_has {F L R t:Int} {k:Int × Int} (h:0≤k.2):atK F L R t k=cap (hasK F L R k t):=by unfold atK hasK cap;omega
theorem linK_line {R t:Int} {k:Int × Int} (h:0≤k.2):linK R t k=cap (lineK R k t):=by unfold linK lineK cap;omega
theorem cap_mono {a b:Int} (h:a≤b):cap a≤cap b:=by unfold cap;omega
theorem Run.least {F L R s t:Int} {K A:List (Int × Int)} (r:Run F L R s K A)(hy:∀ a∈A,0≤a.2)(ht:s≤t) :
  minF (atK F L R t) 4611686018427387904 K=minF (atK F L R t) 4611686018427387904 A∧minF (linK R t) 4611686018427387904 K=minF (linK R t) 4611686018427387904 A:=by
 constructor
 ·refine minF_eq _ _ (fun k hk=>r.sub.subset hk) fun a ha=>?_
  obtain⟨k,hk,hb⟩:=r.cov a ha
  refine⟨k,hk,?_⟩
  rw [atK_has (hy _ (r.sub.subset hk)),atK_has (hy _ ha)]
  exact cap_mono (hb t ht).1
 ·refine minF_eq _ _ (fun k hk=>r.sub.subset hk) fun a ha=>?_
  obtain⟨k,hk,hb⟩:=r.cov a ha
  refine⟨k,hk,?_⟩
  rw [linK_line (hy _ (r.sub.subset hk)),linK_line (hy _ ha)]
  exact cap_mono (hb t ht).2
theorem Run.some {F L R s:Int} {K A:List (Int × Int)} (r:Run F L R s K A)(hA:A≠[]):1≤K.length∧K.length≤A.length:=by
 refine⟨?_,r.sub.length_le⟩
 obtain⟨a,ha⟩:=List.exists_mem_of_ne_nil A hA
 obtain⟨k,hk,_⟩:=r.cov a ha
 exact List.length_pos_of_mem hk
theorem push1_one {F L R s:Int} {out:List (Int × Int)} {k:Int × Int} (h:SagC F L R)(hout:out.length≤1)(ho:∀ o∈out,L≤s - o.1)(hk:L≤s - k.1):(push1 F L R s out k).length=1:=by
 have e1:=line_gap F L R k s
 rw [gap_late h hk] at e1
 match out,hout with
 | [],_=>rfl
 | [o],_ =>
  have e2:=line_gap F L R o s
  rw [gap_late h (ho o (by simp))] at e2
  by_cases hh:hasK F L R k s≤hasK F L R o s
  ·simp [push1,popN,hh]
  ·have:lineK R o s≤lineK R k s:=by omega
   simp [push1,popN,hh,this]
theorem push1_mem {F L R s:Int} {out:List (Int × Int)} {k o:Int × Int} (h:o∈push1 F L R s out k):o∈out∨o=k:=by
 obtain⟨m,_,he,_,_⟩:=popN_spec (fun o=>decide (hasK F L R k s≤hasK F L R o s)) out out.length
 unfold push1 at h
 rw [he] at h
 have hin:o∈out.take m ++ [k]→o∈out∨o=k:=fun h=>by
  rcases List.mem_append.1 h with h | h
  ·exact .inl (List.mem_of_mem_take h)
  ·exact .inr (by simpa using h)
 cases hl:(out.take m).getLast? with
 | none=>simp only [hl] at h;exact hin h
 | some p =>
  simp only [hl] at h
  split at h
  ·exact .inl (List.mem_of_mem_take h)
  ·exact hin h
theorem fold_one {F L R s:Int} (h:SagC F L R):∀ (l out:List (Int × Int)),out.length≤1→(∀ o∈out,L≤s - o.1)→(∀ k∈l,L≤s - k.1)→(l.foldl (push1 F L R s) out).length≤1
 | [],out,h1,_,_=>h1
 | k :: l,out,h1,h2,h3=>by
  refine fold_one h l _ (Nat.le_of_eq (push1_one h h1 h2 (h3 k (by simp)))) (fun o ho=>?_) (fun x hx=>h3 x (by simp [hx]))
  rcases push1_mem ho with ho | rfl
  ·exact h2 o ho
  ·exact h3 _ (by simp)
theorem start_one {F L R s:Int} {K:List (Int × Int)} {k:Int × Int} (h:SagC F L R)(hK:∀ o∈K,L≤s - o.1)(hk:L≤s - k.1):(startK F L R s K k).length≤1 :=
 fold_one h _ [] (by simp) (by intro o ho;simp at ho) (by
  intro o ho
  rcases List.mem_append.1 ho with ho | ho
  ·exact hK o ho
  ·obtain rfl:o=k:=by simpa using ho
   exact hk)
end
section
def lastL (needs:Int→Int)(y:Int):List (Int × Int)→Int→Int
 | [],a=>a
 | k :: K,a=>if 9223372036854775808 - k.1≤needs (less y k.2) then 9223372036854775808 else lastL needs y K (max a (k.1+needs (less y k.2)))
def lastAt (needs:Int→Int)(y:Int)(K:List (Int × Int))(s:Int):Int:=if 4611686018427387904 < y then 9223372036854775808 else lastL needs y K s
theorem lastL_never (needs:Int→Int)(y:Int):∀ (K:List (Int × Int))(a:Int),a≤9223372036854775808→lastL needs y K a≤9223372036854775808
 | [],a,h=>h
 | k :: K,a,h=>by
  unfold lastL
  split
  ·exact Int.le_refl _
  ·exact lastL_never needs y K _ (by omega)
theorem lastL_le {n1 n2:Int→Int} {y:Int} (hn:∀ m,0≤m→m≤4611686018427387904→n1 m≤n2 m):∀ (K:List (Int × Int))(a b:Int),a≤b→a≤9223372036854775808→lastL n1 y K a≤lastL n2 y K b
 | [],a,b,h,_=>h
 | k :: K,a,b,h,ha=>by
  have h0:0≤less y k.2:=U_less.1
  have h1:less y k.2≤4611686018427387904:=by unfold less cap;omega
  have h2:=hn _ h0 h1
  unfold lastL
  by_cases c1:9223372036854775808 - k.1≤n1 (less y k.2)
  ·rw [if_pos c1,if_pos (by omega)];exact Int.le_refl _
  ·rw [if_neg c1]
   by_cases c2:9223372036854775808 - k.1≤n2 (less y k.2)
   ·rw [if_pos c2];exact lastL_never _ _ _ _ (by omega)
   ·rw [if_neg c2];exact lastL_le hn K _ _ (by omega) (by omega)
def FirstF (f:Int→Int)(m r:Int):Prop :=
 (r=9223372036854775808∧∀ t,0≤t→f t < m)∨(0≤r∧m≤f r∧∀ t,0≤t→t < r→f t < m)
theorem lastL_spec {f needs:Int→Int} {y:Int} (hn:∀ m,0≤m→m≤4611686018427387904→FirstF f m (needs m))(hf:∀ t,0≤t→0≤f t)(hm:∀ t u,0≤t→t≤u→f t≤f u)(hy:y≤4611686018427387904) :
  ∀ (K:List (Int × Int))(a:Int),(∀ k∈K,0≤k.1∧k.1≤a∧0≤k.2) →
  (lastL needs y K a=9223372036854775808∧∃ k∈K,∀ t,k.1≤t→t < 9223372036854775808→k.2+f (t - k.1) < y) ∨
  (a≤lastL needs y K a∧(∀ k∈K,y≤k.2+f (lastL needs y K a - k.1))∧(lastL needs y K a=a∨∃ k∈K,∀ t,k.1≤t→t < lastL needs y K a→k.2+f (t - k.1) < y))
 | [],a,_=>.inr ⟨Int.le_refl _,(by intro k hk;simp at hk),.inl rfl⟩
 | k :: K,a,hK=>by
  obtain⟨hk0,hka,hk2⟩:=hK k (by simp)
  have h0:0≤less y k.2:=U_less.1
  have h1:less y k.2≤4611686018427387904:=by unfold less cap;omega
  have h2:0 < less y k.2→less y k.2=y - k.2:=by unfold less cap;intro h;omega
  have h3:y≤k.2+less y k.2:=by unfold less cap;omega
  have hF:=hn _ h0 h1
  unfold lastL
  by_cases c1:9223372036854775808 - k.1≤needs (less y k.2)
  ·rw [if_pos c1]
   refine .inl ⟨rfl,k,by simp,fun t ht htn=>?_⟩
   have hlt:f (t - k.1) < less y k.2:=by
    rcases hF with ⟨_,h4⟩ | ⟨_,_,h4⟩
    ·exact h4 _ (by omega)
    ·exact h4 _ (by omega) (by omega)
   have:=hf (t - k.1) (by omega)
   have:=h2 (by omega)
   omega
  ·rw [if_neg c1]
   obtain⟨hr0,hr1,hr2⟩:0≤needs (less y k.2)∧less y k.2≤f (needs (less y k.2))∧∀ t,0≤t→t < needs (less y k.2)→f t < less y k.2:=by
    rcases hF with ⟨h4,_⟩ | h4
    ·omega
    ·exact h4
   generalize hnn:needs (less y k.2)=n at *
   rcases lastL_spec hn hf hm hy K (max a (k.1+n)) (fun x hx=>by have:=hK x (by simp [hx]);exact⟨this.1,by omega,this.2.2⟩) with ⟨e,x,hx,h4⟩ | ⟨e,h4,h5⟩
   ·exact .inl ⟨e,x,by simp [hx],h4⟩
   ·generalize lastL needs y K (max a (k.1+n))=r at *
    refine .inr ⟨by omega,fun x hx=>?_,?_⟩
    ·rcases List.mem_cons.1 hx with rfl | hx
     ·have:=hm n (r - x.1) hr0 (by omega)
      omega
     ·exact h4 x hx
    ·rcases h5 with h5 | ⟨x,hx,h5⟩
     ·by_cases hc:r=a
      ·exact .inl hc
      ·refine .inr ⟨k,by simp,fun t ht htr=>?_⟩
       have hlt:=hr2 (t - k.1) (by omega) (by omega)
       have:=hf (t - k.1) (by omega)
       have:=h2 (by omega)
       omega
     ·exact .inr ⟨x,by simp [hx],h5⟩
theorem back_any {f needs:Int→Int} {y s:Int} {K:List (Int × Int)} (v:Int→Int)(hn:∀ m,0≤m→m≤4611686018427387904→FirstF f m (needs m))(hf:∀ t,0≤t→0≤f t)(hm:∀ t u,0≤t→t≤u→f t≤f u)
  (hK:∀ k∈K,0≤k.1∧k.1≤s∧0≤k.2)(hs:s≤9223372036854775808)
  (hv1:∀ t,v t≤4611686018427387904)(hv2:∀ t,s≤t→∀ k∈K,v t≤k.2+f (t - k.1))(hv3:∀ t,s≤t→y≤4611686018427387904→(∀ k∈K,y≤k.2+f (t - k.1))→y≤v t) :
  (lastAt needs y K s=9223372036854775808→s < 9223372036854775808→v 9223372036854775807 < y) ∧
  (lastAt needs y K s < 9223372036854775808→s≤lastAt needs y K s∧y≤v (lastAt needs y K s)∧(s < lastAt needs y K s→v (lastAt needs y K s - 1) < y)):=by
 unfold lastAt
 by_cases hy:4611686018427387904 < y
 ·rw [if_pos hy]
  exact⟨fun _ _=>by have:=hv1 9223372036854775807;omega,fun h=>by omega⟩
 ·rw [if_neg hy]
  rcases lastL_spec (y:=y) hn hf hm (by omega) K s hK with ⟨e,k,hk,h1⟩ | ⟨h0,h1,h2⟩
  ·rw [e]
   refine⟨fun _ h=>?_,fun h=>by omega⟩
   have:=h1 9223372036854775807 (by have:=hK k hk;omega) (by omega)
   have:=hv2 9223372036854775807 (by omega) k hk
   omega
  ·generalize lastL needs y K s=r at *
   refine⟨fun hr hs2=>?_,fun hr=>⟨h0,hv3 r h0 (by omega) h1,fun hlt=>?_⟩⟩
   ·rcases h2 with h2 | ⟨k,hk,h2⟩
    ·omega
    ·have:=h2 9223372036854775807 (by have:=hK k hk;omega) (by omega)
     have:=hv2 9223372036854775807 (by omega) k hk
     omega
   ·rcases h2 with h2 | ⟨k,hk,h2⟩
    ·omega
    ·have:=h2 (r - 1) (by have:=hK k hk;omega) (by omega)
     have:=hv2 (r - 1) (by omega) k hk
     omega
end
section
structure Below1 (s m x h:Int)(A:List (Int × Int)):Prop where
 h0:0≤h
 h1:h≤4611686018427387904
 eq:∀ t,x≤t→cap (h+s*(t - x))=minF (fun k=>cap (k.2+m+s*(t - k.1))) 4611686018427387904 A
theorem mul_split (s a b c:Int):s*(c - a)=s*(b - a)+s*(c - b):=by rw [← Int.mul_add];congr 1;omega
theorem Below1.first {s m x y:Int} (hs:0≤s)(hm:0≤m)(hy0:0≤y):Below1 s m x (cap (y+m)) [(x,y)]:=by
 refine⟨cap_nonneg (by omega),cap_le _,fun t ht=>?_⟩
 have:=Int.mul_nonneg hs (show 0≤t - x by omega)
 simp only [minF,List.foldl_cons,List.foldl_nil]
 unfold cap;split <;> split <;> (try split) <;> omega
theorem Below1.next {s m x x' y h:Int} {A:List (Int × Int)} (hs:0≤s)(hm:0≤m)(hy0:0≤y)(hx:x≤x')(b:Below1 s m x h A) :
  Below1 s m x' (min (cap (h+cap (s*(x' - x)))) (cap (y+m))) (A ++ [(x',y)]):=by
 have b0:=b.h0
 have hd:=Int.mul_nonneg hs (show 0≤x' - x by omega)
 have c1:=cap_nonneg hd
 refine⟨?_,?_,fun t ht=>?_⟩
 ·have:=cap_nonneg (show 0≤h+cap (s*(x' - x)) by omega);have:=cap_nonneg (show 0≤y+m by omega);omega
 ·have:=cap_le (y+m);omega
 ·have h1:=b.eq t (by omega)
  have h2:minF (fun k=>cap (k.2+m+s*(t - k.1))) 4611686018427387904 (A ++ [(x',y)])=min (minF (fun k=>cap (k.2+m+s*(t - k.1))) 4611686018427387904 A) (cap (y+m+s*(t - x'))):=by
   simp [minF,List.foldl_append]
  rw [h2,← h1,mul_split s x x' t]
  have hd2:=Int.mul_nonneg hs (show 0≤t - x' by omega)
  generalize s*(x' - x)=d at *
  generalize s*(t - x')=e at *
  unfold cap;omega
theorem minF_two (f g:Int × Int→Int)(m:Int):∀ (A:List (Int × Int)),min (minF f m A) (minF g m A)=minF (fun k=>min (f k) (g k)) m A:=by
 intro A
 apply Int.le_antisymm
 ·refine le_minF _ _ A m ?_ fun k hk=>?_
  ·have:=minF_le_start f A m;omega
  ·have:=minF_le f A m k hk;have:=minF_le g A m k hk
   omega
 ·have h1:=le_minF f (minF (fun k=>min (f k) (g k)) m A) A m (minF_le_start _ A m) fun k hk=>by have:=minF_le (fun k=>min (f k) (g k)) A m k hk;omega
  have h2:=le_minF g (minF (fun k=>min (f k) (g k)) m A) A m (minF_le_start _ A m) fun k hk=>by have:=minF_le (fun k=>min (f k) (g k)) A m k hk;omega
  omega
theorem W_bent {F L R u:Int} (h:R < F)(hL:0≤L)(hu:0≤u):W F L R u=min (F*u) ((F - R)*L+R*u):=by
 by_cases hul:u≤L
 ·rw [W_early hul]
  have:(F - R)*u≤(F - R)*L:=Int.mul_le_mul_of_nonneg_left hul (by omega)
  rw [Int.sub_mul] at this
  rw [Int.sub_mul] at this ⊢
  omega
 ·rw [W_late (by omega)]
  have:(F - R)*L≤(F - R)*u:=Int.mul_le_mul_of_nonneg_left (by omega) (by omega)
  rw [Int.sub_mul,Int.sub_mul] at this
  rw [Int.sub_mul,Int.mul_sub]
  omega
theorem bent_at {F L R x t h1 h2:Int} {A:List (Int × Int)} (h:R < F)(hL:0≤L)(hA:∀ a∈A,a.1≤x∧0≤a.2)(b1:Below1 F 0 x h1 A)(b2:Below1 R ((F - R)*L) x h2 A)(ht:x≤t) :
  min (cap (h1+F*(t - x))) (cap (h2+R*(t - x)))=minF (atK F L R t) 4611686018427387904 A:=by
 rw [b1.eq t ht,b2.eq t ht,minF_two]
 have:∀ (l:List (Int × Int))(m:Int),(∀ a∈l,a.1≤x∧0≤a.2)→minF (fun k=>min (cap (k.2+0+F*(t - k.1))) (cap (k.2+(F - R)*L+R*(t - k.1)))) m l=minF (atK F L R t) m l:=by
  intro l
  induction l with
  | nil=>intro m _;rfl
  | cons k l ih =>
   intro m hl
   have hk:=hl k (by simp)
   have e:min (cap (k.2+0+F*(t - k.1))) (cap (k.2+(F - R)*L+R*(t - k.1)))=atK F L R t k:=by
    rw [atK_has hk.2]
    unfold hasK
    rw [W_bent h hL (by omega)]
    generalize F*(t - k.1)=p
    generalize (F - R)*L=q
    generalize R*(t - k.1)=r
    unfold cap;omega
   simp only [minF,List.foldl_cons] at ih ⊢
   rw [e]
   exact ih _ fun a ha=>hl a (by simp [ha])
 exact this A _ hA
def untilL (s h y:Int):Int:=if y≤h then 0 else if s=0∨4611686018427387904 < y then 9223372036854775808 else ceil (y - h) s
theorem untilL_bd {s h y:Int} (hs:0≤s)(hh:0≤h):0≤untilL s h y∧untilL s h y≤9223372036854775808:=by
 unfold untilL
 split
 ·omega
 ·split
  ·omega
  ·rename_i h1 h2
   have h3:=ceil_nonneg (y:=y - h) (c:=s) (by omega) (by omega)
   have h4:=ceil_le (y:=y - h) (c:=s) (by omega) (by omega)
   omega
theorem untilL_spec {s h y:Int} (hs:0≤s)(hh:0≤h)(hh1:h≤4611686018427387904) :
  (untilL s h y=9223372036854775808∧∀ n,0≤n→cap (h+s*n) < y)∨(untilL s h y≤4611686018427387904∧(∀ n,untilL s h y≤n→y≤cap (h+s*n))∧∀ n,0≤n→n < untilL s h y→cap (h+s*n) < y):=by
 unfold untilL
 by_cases h1:y≤h
 ·rw [if_pos h1]
  refine .inr ⟨by omega,fun n hn=>?_,fun n h0 hn=>by omega⟩
  have:=Int.mul_nonneg hs hn
  unfold cap;split <;> omega
 ·rw [if_neg h1]
  by_cases h2:s=0∨4611686018427387904 < y
  ·rw [if_pos h2]
   refine .inl ⟨rfl,fun n hn=>?_⟩
   rcases h2 with h2 | h2
   ·rw [h2,Int.zero_mul];unfold cap;split <;> omega
   ·have:=cap_le (h+s*n);omega
  ·rw [if_neg h2]
   have h3:=ceil_le (y:=y - h) (c:=s) (by omega) (by omega)
   have h4:=ceil_mul (y:=y - h) (c:=s) (by omega)
   refine .inr ⟨by omega,fun n hn=>?_,fun n h0 hn=>?_⟩
   ·have:=Int.mul_le_mul_of_nonneg_left hn hs
    unfold cap;split <;> omega
   ·have:=ceil_lt (y:=y - h) (c:=s) (t:=n) (by omega) hn
    unfold cap;split <;> omega
def Back (v:Int→Int)(x y n:Int):Prop :=
 (n=9223372036854775808∧x < 9223372036854775808∧v 9223372036854775807 < y)∨(n=9223372036854775808∧x=9223372036854775808) ∨
 (n < 9223372036854775808∧x=n∧y≤v n)∨(n < 9223372036854775808∧x < n∧y≤v n∧v (n - 1) < y)
theorem Back.of {v:Int→Int} {x y n:Int} (hx:x≤9223372036854775808)(hn:n≤9223372036854775808)(h:(n=9223372036854775808→x < 9223372036854775808→v 9223372036854775807 < y)∧(n < 9223372036854775808→x≤n∧y≤v n∧(x < n→v (n - 1) < y))):Back v x y n:=by
 by_cases h1:n=9223372036854775808
 ·by_cases h2:x=9223372036854775808
  ·exact .inr (.inl ⟨h1,h2⟩)
  ·exact .inl ⟨h1,by omega,h.1 h1 (by omega)⟩
 ·have h3:=h.2 (by omega)
  by_cases h2:x=n
  ·exact .inr (.inr (.inl ⟨by omega,h2,h3.2.1⟩))
  ·exact .inr (.inr (.inr ⟨by omega,by omega,h3.2.1,h3.2.2 (by omega)⟩))
def reachB (F R x h1 h2 y:Int):Int :=
 if 9223372036854775808 - x≤max (untilL F h1 y) (untilL R h2 y) then 9223372036854775808 else x+max (untilL F h1 y) (untilL R h2 y)
theorem bent_back {F L R x y h1 h2:Int} {A:List (Int × Int)} (h:R < F)(hR:0≤R)(hL:0≤L)(hx0:0≤x)(hx1:x≤9223372036854775808)(hA:∀ a∈A,a.1≤x∧0≤a.2)(b1:Below1 F 0 x h1 A)(b2:Below1 R ((F - R)*L) x h2 A) :
  Back (fun t=>minF (atK F L R (max t x)) 4611686018427387904 A) x y (reachB F R x h1 h2 y):=by
 have hv:∀ t,x≤t→minF (atK F L R (max t x)) 4611686018427387904 A=min (cap (h1+F*(t - x))) (cap (h2+R*(t - x))):=fun t ht=>by
  rw [Int.max_eq_left ht,bent_at h hL hA b1 b2 ht]
 have s1:=untilL_spec (y:=y) (show 0≤F by omega) b1.h0 b1.h1
 have s2:=untilL_spec (y:=y) hR b2.h0 b2.h1
 have d1:=untilL_bd (y:=y) (show 0≤F by omega) b1.h0
 have d2:=untilL_bd (y:=y) hR b2.h0
 unfold reachB
 generalize untilL F h1 y=u1 at *
 generalize untilL R h2 y=u2 at *
 by_cases hn:9223372036854775808 - x≤max u1 u2
 ·rw [if_pos hn]
  refine Back.of hx1 (Int.le_refl _) ⟨fun _ hlt=>?_,fun hh=>by omega⟩
  rw [hv _ (by omega)]
  rcases Int.lt_or_le u1 (9223372036854775808 - x) with hu | hu
  ·rcases s2 with ⟨_,e⟩ | ⟨_,_,e⟩
   ·have:=e (9223372036854775807 - x) (by omega);omega
   ·have:=e (9223372036854775807 - x) (by omega) (by omega);omega
  ·rcases s1 with ⟨_,e⟩ | ⟨_,_,e⟩
   ·have:=e (9223372036854775807 - x) (by omega);omega
   ·have:=e (9223372036854775807 - x) (by omega) (by omega);omega
 ·rw [if_neg hn]
  refine Back.of hx1 (by omega) ⟨fun hh=>by omega,fun _=>⟨by omega,?_,fun hlt=>?_⟩⟩
  ·rw [hv _ (by omega)]
   rcases s1 with ⟨e,_⟩ | ⟨_,e1,_⟩
   ·omega
   ·rcases s2 with ⟨e,_⟩ | ⟨_,e2,_⟩
    ·omega
    ·have:=e1 (x+max u1 u2 - x) (by omega);have:=e2 (x+max u1 u2 - x) (by omega)
     omega
  ·rw [hv _ (by omega)]
   rcases Int.lt_or_le u1 (max u1 u2) with hu | hu
   ·rcases s2 with ⟨e,_⟩ | ⟨_,_,e⟩
    ·omega
    ·have:=e (x+max u1 u2 - 1 - x) (by omega) (by omega);omega
   ·rcases s1 with ⟨e,_⟩ | ⟨_,_,e⟩
    ·omega
    ·have:=e (x+max u1 u2 - 1 - x) (by omega) (by omega);omega
end
section
theorem minF_mono {f g:Int × Int→Int} {m:Int} {A:List (Int × Int)} (h:∀ a∈A,f a≤g a):minF f m A≤minF g m A :=
 le_minF g _ A m (minF_le_start f A m) fun k hk=>Int.le_trans (minF_le f A m k hk) (h k hk)
def vA (F L R:Int)(A:List (Int × Int))(t:Int):Int:=minF (atK F L R t) 4611686018427387904 A
def vL (R:Int)(A:List (Int × Int))(t:Int):Int:=minF (linK R t) 4611686018427387904 A
section
variable {F L R x : Int} {A : List (Int × Int)}
theorem vA_mono (h:MayC F L R)(hA:∀ a∈A,a.1≤x∧0≤a.2) {t u:Int} (ht:x≤t)(htu:t≤u):vA F L R A t≤vA F L R A u:=by
 refine minF_mono fun a ha=>?_
 rw [atK_has (hA a ha).2,atK_has (hA a ha).2]
 refine cap_mono ?_
 unfold hasK
 have:=W_mono h.f0 h.r0 (F:=F) (L:=L) (R:=R) (show t - a.1≤u - a.1 by omega)
 omega
end
section
variable {v : Int → Int} {x y n : Int}
theorem Back.gt (h:Back v x y n)(hm:∀ t u,x≤t→t≤u→v t≤v u) {s:Int} (hs:x≤s)(hsn:s < n):v s < y:=by
 rcases h with ⟨h1,h2,h3⟩ | ⟨h1,h2⟩ | ⟨h1,h2,h3⟩ | ⟨h1,h2,h3,h4⟩
 ·have:=hm s 9223372036854775807 hs (by omega);omega
 ·omega
 ·omega
 ·have:=hm s (n - 1) hs (by omega);omega
theorem Back.x_le (h:Back v x y n):x≤n:=by
 rcases h with ⟨h1,h2,h3⟩ | ⟨h1,h2⟩ | ⟨h1,h2,h3⟩ | ⟨h1,h2,h3,h4⟩ <;> omega
theorem Back.le_never (h:Back v x y n):n≤9223372036854775808:=by
 rcases h with ⟨h1,h2,h3⟩ | ⟨h1,h2⟩ | ⟨h1,h2,h3⟩ | ⟨h1,h2,h3,h4⟩ <;> omega
theorem Back.less {w:Int→Int} {m:Int} (h:Back v x y n)(k:Back w x y m)(hm:∀ t u,x≤t→t≤u→w t≤w u)(hvw:∀ t,x≤t→v t≤w t):m≤n:=by
 have hk:=k.le_never
 rcases Int.lt_or_le n m with hlt | hle
 ·exfalso
  have h1:=h.x_le
  have h2:n < 9223372036854775808:=by omega
  have h3:=k.gt hm h1 hlt
  have h4:=hvw n h1
  rcases h with ⟨a,_⟩ | ⟨a,_⟩ | ⟨_,_,a⟩ | ⟨_,_,a,_⟩ <;> omega
 ·exact hle
end
end
section
open Go.RowKit
theorem lhas_any (s h n:Int)(w:World)(hs:U s)(hh:U h)(hn:U n) :
  Calls Tryz.prog 258 #[.agg #[.int .u64 s,.int .u64 h],.int .u64 n] w fun e w'=>e=.returned (.int .u64 (cap (h+cap (s*n))))∧Below w.heap.size w w':=by
 have hal:=(Below.refl w.heap.size w).alloc (Nat.le_refl _) (.cells #[.int .u64 s,.int .u64 h] 211)
 have nb:=Blk.new w 211 #[.int .u64 s,.int .u64 h]
 have u0:=U_cap (Int.mul_nonneg hs.1 hn.1)
 have o0:=fun e=>(over_cell (e:=e) (o:=0) nb.lt).trans (nb.cell 0)
 have o1:=fun e=>(over_cell (e:=e) (o:=1) nb.lt).trans (nb.cell 1)
 simp only [lTA,lCZ,lCS] at o0 o1
 clear nb
 go_enter Tryz.func258,Tryz.ntmps258
 go_wp2
 refine wp_region_over (by kernel_rfl) (by kernel_rfl) ?_
 repeat (first | go_big_quiet_skip | (go_big_quiet_want;go_big_quiet_op;first | go_big_quiet_on | (apply Exists.intro;refine⟨fun e=>?_,?_⟩;(focus (first | (go_at_call 260;exact calls_over (times_any _ _ _ hs hn)) | (go_at_call 257;exact calls_over_same (rplus_any _ _ _ hh u0))));go_big_quiet_on)))
 refine wpQuiet_nil ?_
 rintro W2 ⟨e,he⟩
 have hb2:=over_below (w.alloc (.cells #[.int .u64 s,.int .u64 h] 211)) e
 rw [← he] at hb2
 clear he o0 o1
 go_wp2
 go_ret
 exact⟨rfl,hal.trans (hb2.mono hal.size)⟩
theorem luntil_any (s h y:Int)(w:World)(hs:U s)(hh:U h)(hy:U y) :
  Calls Tryz.prog 255 #[.agg #[.int .u64 s,.int .u64 h],.int .u64 y] w fun e w'=>e=.returned (.int .u64 (untilL s h y))∧Below w.heap.size w w':=by
 have hal:=(Below.refl w.heap.size w).alloc (Nat.le_refl _) (.cells #[.int .u64 s,.int .u64 h] 211)
 by_cases h1:y≤h
 ·have e1:untilL s h y=0:=if_pos h1
  rw [e1]
  go_enter Tryz.func255,Tryz.ntmps255
  go_wp2
  go_ret
  exact⟨rfl,hal⟩
 ·have uy:U (y - h):=by unfold U at *;omega
  have wd:IntKind.u64.wrap (y - h)=y - h:=wrap_u uy
  by_cases h2:s=0
  ·have e1:untilL s h y=9223372036854775808:=by unfold untilL;rw [if_neg h1,if_pos (.inl h2)]
   rw [e1]
   have u1:U 1:=⟨by decide,by decide⟩
   subst h2
   go_enter Tryz.func255,Tryz.ntmps255
   go_wp2_with (go_at_call 259;refine (up_none _ _ _ uy u1).mono ?_;rintro e w1 ⟨rfl,hb1⟩)
   go_ret
   exact⟨rfl,hal.trans (hb1.mono hal.size)⟩
  ·have hs1:1≤s:=by have:=hs.1;omega
   have hc:=ceil_le (y:=y - h) (c:=s) hs1 uy.1
   by_cases h3:4611686018427387904 < y
   ·have e1:untilL s h y=9223372036854775808:=by unfold untilL;rw [if_neg h1,if_pos (.inr h3)]
    rw [e1]
    go_enter Tryz.func255,Tryz.ntmps255
    go_wp2_with (go_at_call 259;refine (up_word _ _ _ uy hs1 hs).mono ?_;rintro e w1 ⟨rfl,hb1⟩)
    go_ret
    exact⟨rfl,hal.trans (hb1.mono hal.size)⟩
   ·have e1:untilL s h y=ceil (y - h) s:=by unfold untilL;rw [if_neg h1,if_neg (by omega)]
    have e2:cap (ceil (y - h) s)=ceil (y - h) s:=cap_of_le (by have:=hh.1;omega)
    have E1:=Lib.hid e1;have E2:=Lib.hid e2
    clear e1 e2
    go_enter Tryz.func255,Tryz.ntmps255
    go_wp2_with (go_at_call 259;refine (up_word _ _ _ uy hs1 hs).mono ?_;rintro e w1 ⟨rfl,hb1⟩)
    go_ret
    exact⟨ret_int (by rw [E1.out,E2.out]),hal.trans (hb1.mono hal.size)⟩
structure BentAt (w:World)(g:Nat)(F L R x:Int)(A:List (Int × Int)):Prop where
 blk:∃ h1 h2,Blk w g 213 #[.int .u64 F,.int .u64 L,.int .u64 R,.int .i64 A.length,.int .u64 x,.int .u64 F,.int .u64 h1,.int .u64 R,.int .u64 h2]∧U h1∧U h2∧(A≠[]→Below1 F 0 x h1 A∧Below1 R ((F - R)*L) x h2 A)
 may:MayC F L R
 lt_:R < F
 num:∀ a∈A,0≤a.1∧a.1≤x∧0≤a.2∧a.2≤4611686018427387904
 x0:0≤x
 x1:x≤9223372036854775808
 few:A.length≤900000
section
variable {w w' : World} {g : Nat} {F L R x : Int} {A : List (Int × Int)}
theorem BentAt.below (h:BentAt w g F L R x A)(hb:Below w.heap.size w w'):BentAt w' g F L R x A:=by
 obtain⟨⟨h1,h2,hB,h3⟩,r⟩:=h
 exact⟨⟨h1,h2,hB.below hb hB.lt,h3⟩,r,‹_›,‹_›,‹_›,‹_›,‹_›⟩
theorem BentAt.lt (h:BentAt w g F L R x A):g < w.heap.size:=by obtain⟨h1,h2,hB,_⟩:=h.blk;exact hB.lt
theorem BentAt.uF (h:BentAt w g F L R x A):U F:=⟨h.may.f0,by have:=h.may.f1;omega⟩
theorem BentAt.uR (h:BentAt w g F L R x A):U R:=⟨h.may.r0,by have:=h.may.r1;omega⟩
theorem BentAt.ux (h:BentAt w g F L R x A):U x:=⟨h.x0,by have:=h.x1;omega⟩
end
theorem bnone_any (g:Nat)(n:Int)(w:World)(hc:w.cell? ⟨g,3,none⟩=some (.int .i64 n)) :
  Calls Tryz.prog 254 #[.pointer (some ⟨g,0,none⟩)] w fun e w'=>e=.returned (.bool (n == 0))∧w=w':=by
 go_enter Tryz.func254,Tryz.ntmps254
 go_wp2
 go_ret
 exact⟨rfl,rfl⟩
theorem len0 {A:List (Int × Int)} (hA:A≠[]):((A.length:Int) == 0)=false:=by
 have:=List.length_pos_iff.2 hA
 simp;omega
theorem bent_cells {w:World} {g:Nat} {F L R n x h1 h2:Int} (hB:Blk w g 213 #[.int .u64 F,.int .u64 L,.int .u64 R,.int .i64 n,.int .u64 x,.int .u64 F,.int .u64 h1,.int .u64 R,.int .u64 h2]) :
  w.cell? ⟨g,0,none⟩=some (.int .u64 F)∧w.cell? ⟨g,1,none⟩=some (.int .u64 L)∧w.cell? ⟨g,2,none⟩=some (.int .u64 R)∧w.cell? ⟨g,3,none⟩=some (.int .i64 n)∧w.cell? ⟨g,4,none⟩=some (.int .u64 x) ∧
  w.cell? ⟨g,5,none⟩=some (.int .u64 F)∧w.cell? ⟨g,6,none⟩=some (.int .u64 h1)∧w.cell? ⟨g,7,none⟩=some (.int .u64 R)∧w.cell? ⟨g,8,none⟩=some (.int .u64 h2) :=
 ⟨hB.cell 0,hB.cell 1,hB.cell 2,hB.cell 3,hB.cell 4,hB.cell 5,hB.cell 6,hB.cell 7,hB.cell 8⟩
theorem breach_any (g:Nat)(F L R n x h1 h2 y m:Int)(w:World)(hF:U F)(hR:U R)(hx0:0≤x)(hx1:x≤9223372036854775808)(hy:U y)(hh1:U h1)(hh2:U h2)(hn:(n == 0)=false)
  (hB:Blk w g 213 #[.int .u64 F,.int .u64 L,.int .u64 R,.int .i64 n,.int .u64 x,.int .u64 F,.int .u64 h1,.int .u64 R,.int .u64 h2])
  (hm:(if untilL F h1 y < untilL R h2 y then untilL R h2 y else untilL F h1 y)=m) :
  Calls Tryz.prog 251 #[.pointer (some ⟨g,0,none⟩),.int .u64 y] w fun e w'=>e=.returned (.int .u64 (reachB F R x h1 h2 y))∧Below w.heap.size w w':=by
 obtain⟨c0,c1,c2,c3,c4,c5,c6,c7,c8⟩:=bent_cells hB
 have hg:=hB.lt
 have o5:=fun e=>(over_cell (e:=e) hg).trans c5
 have o6:=fun e=>(over_cell (e:=e) hg).trans c6
 have o7:=fun e=>(over_cell (e:=e) hg).trans c7
 have o8:=fun e=>(over_cell (e:=e) hg).trans c8
 have d1:=untilL_bd (y:=y) hF.1 hh1.1
 have d2:=untilL_bd (y:=y) hR.1 hh2.1
 have hm0:0≤m∧m≤9223372036854775808:=by omega
 have er:reachB F R x h1 h2 y=if 9223372036854775808 - x≤m then 9223372036854775808 else x+m:=by
  have:max (untilL F h1 y) (untilL R h2 y)=m:=by omega
  unfold reachB;rw [this]
 obtain⟨hm0,hm1⟩:=hm0
 have wx:IntKind.u64.wrap (9223372036854775808 - x)=9223372036854775808 - x:=wrap_u (by unfold U;omega)
 have HB:=Lib.hid hB;have ER:=Lib.hid er
 clear hB er c0 c1 c2 c5 c6 c7 c8 d1 d2 c4
 go_enter Tryz.func251,Tryz.ntmps251
 go_wp2_with (go_at_call 254;refine (bnone_any _ _ _ c3).mono ?_;rintro e w' ⟨rfl,rfl⟩)
 refine wp_region_over (by kernel_rfl) (by kernel_rfl) ?_
 repeat (first | go_big_quiet_skip | (go_big_quiet_want;go_big_quiet_op;first | go_big_quiet_on | (apply Exists.intro;refine⟨fun e=>?_,?_⟩;(focus (first | (go_at_call_of 255 (Value.agg #[.int .u64 F,.int .u64 h1]);with_reducible exact calls_over (luntil_any F h1 _ _ hF hh1 hy)) | (go_at_call 255;with_reducible exact calls_over (luntil_any R h2 _ _ hR hh2 hy))));go_big_quiet_on)))
 refine wpQuiet_nil ?_
 rintro W2 ⟨e,he⟩
 have hb2:=over_below w e
 rw [← he] at hb2
 clear he o5 o6 o7 o8 c3
 have hB2:=HB.out.below hb2 HB.out.lt
 have c4:=hB2.cell 4
 simp only [lTA,lCZ,lCS] at c4
 clear hB2 hm
 go_wp2
 all_goals
  go_ret
  exact⟨ret_int (by rw [ER.out];first | rw [if_pos (by omega)] | (rw [if_neg (by omega)];done) | (rw [if_neg (by omega)];exact wrap_u (by unfold U;omega))),hb2⟩
end
section
open Go.RowKit
theorem burst_any (F L R:Int)(w:World)(hF:U F)(hL:U L)(hR:U R)(h:R < F) :
  Calls Tryz.prog 256 #[.agg #[.int .u64 F,.int .u64 L,.int .u64 R]] w fun e w'=>e=.returned (.tuple #[.int .u64 (cap ((F - R)*L)),.bool true])∧Below w.heap.size w w':=by
 have hal:=(Below.refl w.heap.size w).alloc (Nat.le_refl _) (.cells #[.int .u64 F,.int .u64 L,.int .u64 R] 30)
 have nb:=Blk.new w 30 #[.int .u64 F,.int .u64 L,.int .u64 R]
 have hd:decide (R < F)=true:=by simp;omega
 have uF:U (F - R):=by unfold U at *;omega
 have wd:IntKind.u64.wrap (F - R)=F - R:=wrap_u uF
 have NB:=Lib.hid nb;clear nb
 go_enter Tryz.func256,Tryz.ntmps256
 go_wp2_with (first
  | (go_at_call 149;refine (bent_any F L R _).mono ?_;rintro e w1 ⟨rfl,hb1⟩;have n1:=NB.out.below hb1 NB.out.lt;have a0:=n1.cell 0;have a1:=n1.cell 1;have a2:=n1.cell 2;simp only [lTA,lCZ,lCS] at a0 a1 a2;clear n1)
  | (go_at_call 260;refine (times_any _ _ _ uF hL).mono ?_;rintro e w2 ⟨rfl,hb2⟩))
 go_ret2
 exact⟨rfl,(hal.trans (hb1.mono hal.size)).trans (hb2.mono (Nat.le_trans hal.size hb1.size))⟩
abbrev bentRow (F L R n x h1 h2:Int):Array Value:=#[.int .u64 F,.int .u64 L,.int .u64 R,.int .i64 n,.int .u64 x,.int .u64 F,.int .u64 h1,.int .u64 R,.int .u64 h2]
def MidB (w W:World)(g hb:Nat)(F L R n x a0 a1 h1 h2:Int):Prop :=
 Blk W hb 267 #[.int .u64 a0,.int .u64 a1]∧Blk W g 213 (bentRow F L R n x h1 h2)∧w.grownBy W (some g)∧g < hb∧w.heap.size≤hb
theorem MidB.below {w W W':World} {g hb:Nat} {F L R n x a0 a1 h1 h2:Int} (h:MidB w W g hb F L R n x a0 a1 h1 h2)(hb':Below W.heap.size W W'):MidB w W' g hb F L R n x a0 a1 h1 h2:=by
 obtain⟨h1,h2,h3,h4,h5⟩:=h
 exact⟨h1.below hb' h1.lt,h2.below hb' h2.lt,⟨hb'.os.trans h3.os,hb'.tape.trans h3.tape,hb'.output.trans h3.output,Nat.le_trans h3.size hb'.size,fun k hk hne=>(hb'.block k (Nat.lt_of_lt_of_le hk h3.size)).trans (h3.block k hk hne)⟩,h4,h5⟩
theorem grownBy_below {w W W':World} {g:Nat} (h3:w.grownBy W (some g))(hb':Below w.heap.size W W')(hs:w.heap.size≤W'.heap.size):w.grownBy W' (some g) :=
 ⟨hb'.os.trans h3.os,hb'.tape.trans h3.tape,hb'.output.trans h3.output,hs,fun k hk hne=>(hb'.block k hk).trans (h3.block k hk hne)⟩
theorem grownBy_set {w W:World} {g i:Nat} {u:Value} (h:w.grownBy W (some g)):w.grownBy (W.setCell ⟨g,i,none⟩ u) (some g) :=
 ⟨h.os,h.tape,h.output,by simp [World.setCell];exact h.size,fun k hk hne=>(Below.heap_setCell _ _ _ k (by intro he;exact hne (by rw [he]))).trans (h.block k hk hne)⟩
theorem grownBy_set_new {w W:World} {g hb i:Nat} {u:Value} (h:w.grownBy W (some g))(hn:w.heap.size≤hb):w.grownBy (W.setCell ⟨hb,i,none⟩ u) (some g) :=
 ⟨h.os,h.tape,h.output,by simp [World.setCell];exact h.size,fun k hk hne=>(Below.heap_setCell _ _ _ k (by simp only;omega)).trans (h.block k hk hne)⟩
theorem bstart_any (g:Nat)(F L R n x h1 h2 t y M X Y ov a1 p1 p2 H1 H2:Int)(w:World)(hF:U F)(hL:U L)(hR:U R)(hRF:R < F)(hx:U x)(ht:U t)(hy:U y)(hh1:U h1)(hh2:U h2)(hn0:0≤n)(hn1:n≤1000000)
    (hM:(if 9223372036854775808 < t then 9223372036854775808 else t)=M)(hX:(if M < x then x else M)=X)(hY:(if 4611686018427387904 < y then 4611686018427387904 else y)=Y)
    (hov:cap ((F - R)*L)=ov)(ha1:cap (Y+ov)=a1)(hp1:cap (h1+cap (F*(X - x)))=p1)(hp2:cap (h2+cap (R*(X - x)))=p2)
    (hH1:H1=if 0 < n∧p1 < Y then p1 else Y)(hH2:H2=if 0 < n∧p2 < a1 then p2 else a1)
    (hB:Blk w g 213 (bentRow F L R n x h1 h2)) :
    Calls Tryz.prog 252 #[.pointer (some ⟨g,0,none⟩),.int .u64 t,.int .u64 y] w fun e w' =>
      e=.returned (.tuple #[])∧Blk w' g 213 (bentRow F L R (n+1) X H1 H2)∧w.grownBy w' (some g):=by
  have uX:U (X - x):=by unfold U at *;omega
  have wd:IntKind.u64.wrap (X - x)=X - x:=wrap_u uX
  have uov:U ov:=by rw [← hov];exact U_cap (Int.mul_nonneg (by omega) hL.1)
  have uY:U Y:=by unfold U at *;omega
  have hd:decide (R < F)=true:=by simp;omega
  obtain⟨c0,c1,c2,c3,c4,c5,c6,c7,c8⟩:=bent_cells hB
  have hg:=hB.lt
  have HB:=Lib.hid hB;have HOV:=Lib.hid hov;have HA1:=Lib.hid ha1;have HP1:=Lib.hid hp1;have HP2:=Lib.hid hp2;have HH1:=Lib.hid hH1;have HH2:=Lib.hid hH2
  clear hB hov ha1 hp1 hp2 hH1 hH2 c3 c4 c5 c6 c7 c8
  go_enter Tryz.func252,Tryz.ntmps252
  go_wp2_with (first
    | (go_at_call 149;refine (bent_any F L R _).mono ?_;rintro e w1 ⟨rfl,hb1⟩;have B1:=HB.out.below hb1 hg;obtain⟨c0,c1,c2,c3,c4,c5,c6,c7,c8⟩:=bent_cells B1;clear c3 c5 c6 c7 c8)
    | (go_at_call 256;refine (burst_any F L R _ hF hL hR hRF).mono ?_;rintro e w2 ⟨rfl,hb2⟩;rw [HOV.out])
    | (go_at_call 257;refine (rplus_any Y ov _ uY uov).mono ?_;rintro e w' ⟨rfl,rfl⟩;rw [HA1.out]))
  have hgw2:g < w2.heap.size:=Nat.lt_of_lt_of_le hg (Nat.le_trans hb1.size hb2.size)
  have hbw:Below w.heap.size w w2:=hb1.trans (hb2.mono hb1.size)
  have B2:=(HB.out.below hb1 hg).below hb2 (HB.out.below hb1 hg).lt
  have hal:=(Below.refl w2.heap.size w2).alloc (Nat.le_refl _) (.cells #[.int .u64 Y,.int .u64 a1] 267)
  have hS0:MidB w (w2.alloc (.cells #[.int .u64 Y,.int .u64 a1] 267)) g w2.heap.size F L R n x Y a1 h1 h2 :=
    ⟨Blk.new _ _ _,B2.below hal hgw2,⟨(hbw.trans (hal.mono hbw.size)).os,(hbw.trans (hal.mono hbw.size)).tape,(hbw.trans (hal.mono hbw.size)).output,(hbw.trans (hal.mono hbw.size)).size,fun k hk _=>(hbw.trans (hal.mono hbw.size)).block k hk⟩,hgw2,hbw.size⟩
  generalize w2.alloc (.cells #[.int .u64 Y,.int .u64 a1] 267)=w3 at *
  have HS0:=Lib.hid hS0
  clear hS0 B2 hb1 hb2 hal c0 c1 c2 c4
  refine wp_region_over (by kernel_rfl) (by kernel_rfl) ?_
  repeat (first | go_big_quiet_skip | (go_big_quiet_want;go_big_quiet_op;go_big_quiet_on))
  refine wpQuiet_nil ?_
  rintro W4 ⟨e,he⟩
  have hb4:=over_below w3 e
  rw [← he] at hb4
  clear he
  have hS1:=HS0.out.below hb4
  obtain⟨hb,hhb⟩:∃ hb,hb=w2.heap.size:=⟨_,rfl⟩
  rw [← hhb] at hS1 ⊢
  have HS1:=Lib.hid hS1
  clear hS1 hb4 hhb HS0
  go_wp2
  go_loopw [52] (fun i W=>∃ k:Nat,k≤2∧i=.int .i64 k∧(k=0→MidB w W g hb F L R n x Y a1 h1 h2)∧(k=1→MidB w W g hb F L R n x H1 a1 H1 h2)∧(k=2→MidB w W g hb F L R n x H1 H2 H1 H2)) (fun i _=>2 - (Go.RowKit.intOf i).toNat)
  case atStart=>exact⟨0,by omega,rfl,fun _=>HS1.out,fun h=>by omega,fun h=>by omega⟩
  case round =>
    obtain⟨k,hk,rfl,hs0,hs1,hs2⟩:=hrel
    by_cases h2k:k=2
    · subst h2k
      obtain⟨B1,B2,hgr,hgb,hwb⟩:=hs2 rfl
      obtain⟨c0,c1,c2,c3,c4,c5,c6,c7,c8⟩:=bent_cells B2
      have z3:=B2.frozen 3;have z4:=B2.frozen 4
      have BB2:=Lib.hid B2;have HGR:=Lib.hid hgr
      clear B1 B2 hgr hs0 hs1 hs2 c0 c1 c2 c5 c6 c7 c8
      go_wp2
      go_returns
      exact⟨rfl,by simpa using (BB2.out.set_ 4 (.int .u64 X)).set_ 3 (.int .i64 (n+1)),grownBy_set (grownBy_set HGR.out)⟩
    · by_cases h1k:k=1
      · subst h1k
        have hS:=hs1 rfl
        obtain⟨B1,B2,hgr,hgb,hwb⟩:=hS
        have i0:∀ w:World,(Instr.index 300 (.agg #[.pointer (some ⟨g,5,none⟩),.pointer (some ⟨g,7,none⟩)]) (.int .i64 1)).run Tryz.prog w=.ok (.pointer (some ⟨g,7,none⟩)) w:=fun _=>by kernel_rfl
        obtain⟨c0,c1,c2,c3,c4,c5,c6,c7,c8⟩:=bent_cells B2
        have z6:=B2.frozen 8
        have e0:=B1.cell 0;have e1:=B1.cell 1;have y0:=B1.frozen 1
        simp only [lTA,lCZ,lCS] at e0 e1
        have hgl:=B2.lt;have hbl:=B1.lt
        have BB1:=Lib.hid B1;have BB2:=Lib.hid B2;have HGR:=Lib.hid hgr
        clear B1 B2 hgr hs0 hs1 hs2
        go_wp2_with (go_at_call 258;refine (lhas_any R h2 _ _ hR hh2 uX).mono ?_;rintro e w4 ⟨rfl,hb4⟩;rw [HP2.out];have B1:=BB1.out.below hb4 hbl;have B2:=BB2.out.below hb4 hgl;obtain⟨c0,c1,c2,c3,c4,c5,c6,c7,c8⟩:=bent_cells B2;have z6:=B2.frozen 8;have e0:=B1.cell 0;have e1:=B1.cell 1;have y0:=B1.frozen 1;simp only [lTA,lCZ,lCS] at e0 e1)
        all_goals
          have hgr4:=grownBy_below HGR.out (hb4.mono HGR.out.size) (Nat.le_trans HGR.out.size hb4.size)
          go_roundw
          case rel =>
            first
              | (have hv:H2=p2:=by have hh:=HH2.out;split at hh <;> omega
                 refine⟨2,by omega,by go_num,fun h=>by omega,fun h=>by omega,fun _=>?_⟩
                 rw [hv]
                 exact⟨by simpa using (B1.set_ 1 (.int .u64 p2)).far (p:=⟨g,8,none⟩) (by simp only;omega) (.int .u64 p2),by simpa using (B2.far (p:=⟨hb,1,none⟩) (by simp only;omega) (.int .u64 p2)).set_ 8 (.int .u64 p2),grownBy_set (grownBy_set_new hgr4 hwb),hgb,hwb⟩)
              | (have hv:H2=a1:=by have hh:=HH2.out;split at hh <;> omega
                 refine⟨2,by omega,by go_num,fun h=>by omega,fun h=>by omega,fun _=>?_⟩
                 rw [hv]
                 exact⟨by simpa using B1.far (p:=⟨g,8,none⟩) (by simp only;omega) (.int .u64 a1),by simpa using B2.set_ 8 (.int .u64 a1),grownBy_set hgr4,hgb,hwb⟩)
          case measure=>simp [Go.RowKit.intOf]
      · obtain rfl:k=0:=by omega
        have hS:=hs0 rfl
        obtain⟨B1,B2,hgr,hgb,hwb⟩:=hS
        have i0:∀ w:World,(Instr.index 300 (.agg #[.pointer (some ⟨g,5,none⟩),.pointer (some ⟨g,7,none⟩)]) (.int .i64 0)).run Tryz.prog w=.ok (.pointer (some ⟨g,5,none⟩)) w:=fun _=>by kernel_rfl
        obtain⟨c0,c1,c2,c3,c4,c5,c6,c7,c8⟩:=bent_cells B2
        have z6:=B2.frozen 6
        have e0:=B1.cell 0;have e1:=B1.cell 1;have y0:=B1.frozen 0
        simp only [lTA,lCZ,lCS] at e0 e1
        have hgl:=B2.lt;have hbl:=B1.lt
        have BB1:=Lib.hid B1;have BB2:=Lib.hid B2;have HGR:=Lib.hid hgr
        clear B1 B2 hgr hs0 hs1 hs2
        go_wp2_with (go_at_call 258;refine (lhas_any F h1 _ _ hF hh1 uX).mono ?_;rintro e w4 ⟨rfl,hb4⟩;rw [HP1.out];have B1:=BB1.out.below hb4 hbl;have B2:=BB2.out.below hb4 hgl;obtain⟨c0,c1,c2,c3,c4,c5,c6,c7,c8⟩:=bent_cells B2;have z6:=B2.frozen 6;have e0:=B1.cell 0;have e1:=B1.cell 1;have y0:=B1.frozen 0;simp only [lTA,lCZ,lCS] at e0 e1)
        all_goals
          have hgr4:=grownBy_below HGR.out (hb4.mono HGR.out.size) (Nat.le_trans HGR.out.size hb4.size)
          go_roundw
          case rel =>
            first
              | (have hv:H1=p1:=by have hh:=HH1.out;split at hh <;> omega
                 refine⟨1,by omega,by go_num,fun h=>by omega,fun _=>?_,fun h=>by omega⟩
                 rw [hv]
                 exact⟨by simpa using (B1.set_ 0 (.int .u64 p1)).far (p:=⟨g,6,none⟩) (by simp only;omega) (.int .u64 p1),by simpa using (B2.far (p:=⟨hb,0,none⟩) (by simp only;omega) (.int .u64 p1)).set_ 6 (.int .u64 p1),grownBy_set (grownBy_set_new hgr4 hwb),hgb,hwb⟩)
              | (have hv:H1=Y:=by have hh:=HH1.out;split at hh <;> omega
                 refine⟨1,by omega,by go_num,fun h=>by omega,fun _=>?_,fun h=>by omega⟩
                 rw [hv]
                 exact⟨by simpa using B1.far (p:=⟨g,6,none⟩) (by simp only;omega) (.int .u64 Y),by simpa using B2.set_ 6 (.int .u64 Y),grownBy_set hgr4,hgb,hwb⟩)
          case measure=>simp [Go.RowKit.intOf]
end
end Go.Proofs.YtmmeopjemkjllaaGreat
