/- Lemmas of the claim. No conditions beyond those that each states. -/
import Derived.Test.YtmmeopjemkjllaaGreatPU18
import Derived.OwnWalk
import Derived.Laws.OwnMore
import Derived.Lib.SliceRun
set_option linter.unusedVariables false
set_option linter.unusedSimpArgs false
set_option maxRecDepth 100000
set_option maxHeartbeats 8000000
namespace Go.Proofs.YtmmeopjemkjllaaGreat
section
open Go.RowKit
theorem info_start:(Tryz.prog.info? 315).map (fun i=>(i.zero,i.size,i.bytes))=some (some (.agg #[.int .u64 0,.int .u64 0]),2,16):=by kernel_rfl
def cellsOf (K:List (Int × Int)):List Value:=K.flatMap fun k=>[.int .u64 k.1,.int .u64 k.2]
theorem cellsOf_length (K:List (Int × Int)):(cellsOf K).length=K.length*2:=by
 induction K with
 | nil=>rfl
 | cons k K ih=>simp only [cellsOf,List.flatMap_cons,List.length_append,List.length_cons,List.length_nil] at *;omega
theorem cellsOf_append (K M:List (Int × Int)):cellsOf (K ++ M)=cellsOf K ++ cellsOf M:=by simp [cellsOf]
theorem cellsOf_one (K:List (Int × Int)):∀ u∈cellsOf K,u.oneCell'=true:=by
 intro u hu
 obtain⟨k,_,hk⟩:=List.mem_flatMap.1 hu
 simp only [List.mem_cons,List.not_mem_nil,or_false] at hk
 rcases hk with rfl | rfl <;> rfl
theorem cellsOf_x:∀ (K:List (Int × Int))(j:Nat),(cellsOf K)[j*2]?=(K[j]?).map fun k=>.int .u64 k.1
 | [],j=>by simp [cellsOf]
 | k :: K,0=>by simp [cellsOf]
 | k :: K,j+1=>by
  have:=cellsOf_x K j
  simp only [cellsOf,List.flatMap_cons,List.getElem?_cons_succ] at *
  rw [show (j+1)*2=j*2+2 by omega,List.getElem?_append_right (by simp)]
  simpa using this
theorem cellsOf_y:∀ (K:List (Int × Int))(j:Nat),(cellsOf K)[j*2+1]?=(K[j]?).map fun k=>.int .u64 k.2
 | [],j=>by simp [cellsOf]
 | k :: K,0=>by simp [cellsOf]
 | k :: K,j+1=>by
  have:=cellsOf_y K j
  simp only [cellsOf,List.flatMap_cons,List.getElem?_cons_succ] at *
  rw [show (j+1)*2+1=j*2+1+2 by omega,List.getElem?_append_right (by simp)]
  simpa using this
theorem cellsOf_take:∀ (K:List (Int × Int))(n:Nat),(cellsOf K).take (n*2)=cellsOf (K.take n)
 | [],n=>by simp [cellsOf]
 | k :: K,0=>by simp [cellsOf]
 | k :: K,n+1=>by
  have:=cellsOf_take K n
  simp only [cellsOf,List.flatMap_cons,List.take_succ_cons] at *
  rw [show (n+1)*2=n*2+2 by omega]
  simpa using this
def RowK (w:World)(base:Nat)(v:Value)(K:List (Int × Int)):Prop:=w.ownsRow base 315 2 v K.length (cellsOf K)
theorem Below.grownNone {w w':World} (h:Below w.heap.size w w'):w.grownBy w' none:=⟨h.os,h.tape,h.output,h.size,fun k hk _=>h.block k hk⟩
theorem RowK.below {w w':World} {base:Nat} {v:Value} {K:List (Int × Int)} (h:RowK w base v K)(hb:Below w.heap.size w w'):RowK w' base v K :=
 h.kept (Below.grownNone hb) (by cases hv:v.ownBlock <;> simp)
theorem RowK.take {w:World} {base g n cap:Nat} {K:List (Int × Int)} (h:RowK w base (.slice (some ⟨g,0,none⟩) n cap) K)(m:Nat)(hm:m≤K.length) :
  RowK w base (.slice (some ⟨g,0,none⟩) m cap) (K.take m):=by
 obtain⟨hl,(⟨h1,_⟩ | ⟨g',cap',cur,hv,hb,hblk,hn,hc,hs,ht⟩)⟩:=h
 ·cases h1
 ·cases hv
  refine⟨by rw [cellsOf_length],.inr ⟨g,cap,cur,by rw [List.length_take,Nat.min_eq_left hm],hb,hblk,by rw [List.length_take];omega,hc,hs,?_⟩⟩
  rw [List.length_take,Nat.min_eq_left hm,← cellsOf_take,← ht,List.take_take,Nat.min_eq_left (Nat.mul_le_mul_right 2 hm)]
theorem clone_starts (v:Value)(base:Nat)(K:List (Int × Int))(w:World)(hown:RowK w base v K)(hn:K.length≤1000000) :
  Calls Tryz.prog 276 #[v] w fun e w'=>∃ v',e=.returned v'∧RowK w' w.heap.size v' K∧Below w.heap.size w w':=by
 obtain⟨i0,hi,hz0,hz1,hz2⟩:=info_parts info_start
 obtain⟨hlen,(⟨rfl,hK⟩ | ⟨g,cap,cur,rfl,hbg,hblk,hnc,hcm,hsz,htk⟩)⟩:=hown
 ·have hK':K=[]:=List.length_eq_zero_iff.1 hK
  subst hK'
  have hq:∀ (w:World) (a:Option Addr) (n c n' c':Nat),(binOp .eql 214 (.slice a n c) (.slice none n' c')).run Tryz.prog w=.ok (.bool a.isNone) w:=fun w a n c n' c'=>Lib.run_eql_slice_nil w _ _ a n c n' c' Tryz.underlying214
  go_enter Tryz.func276,Tryz.ntmps276
  go_wp2
  go_ret
  exact⟨_,rfl,World.ownsRow_nil _ _ _ _,Below.refl _ _⟩
 ·have hq:∀ (w:World) (a:Option Addr) (n c n' c':Nat),(binOp .eql 214 (.slice a n c) (.slice none n' c')).run Tryz.prog w=.ok (.bool a.isNone) w:=fun w a n c n' c'=>Lib.run_eql_slice_nil w _ _ a n c n' c' Tryz.underlying214
  have hc:=Lib.hid hblk
  have ht:=Lib.hid htk
  clear hblk htk
  go_enter Tryz.func276,Tryz.ntmps276
  go_wp2_with (at_builtin;refine wpList_append_own _ rfl _ _ 214 rfl w.heap.size 315 i0 (.agg #[.int .u64 0,.int .u64 0]) 2 16 Tryz.underlying214 hi hz0 hz1 hz2 rfl (by decide) _ _ _ rfl (World.ownsRow_made w #[] 0 (Nat.le_refl _) (Nat.zero_le _) rfl) ⟨g,0,none⟩ K.length cap (cellsOf K) rfl ?qc1 ?qc2 ?qc3 ?qc4 ?qc5 ?qc6 ?_)
  case qc1=>exact cellsOf_length K
  case qc2 =>
   intro j u hj
   have hj2:cur[j]?=some u:=by
    rw [← ht.out] at hj
    have h1:=(List.getElem?_eq_some_iff.1 hj).1
    rw [List.length_take] at h1
    rw [List.getElem?_take_of_lt (by omega)] at hj
    simpa using hj
   rw [Addr.add_lit]
   refine Lib.cell?_alloc_some _ ?_
   rw [cell_of_row w g _ cur _ _ hc.out,Nat.zero_add]
   exact hj2
  case qc3=>exact cellsOf_one K
  case qc4=>unfold maxLen;omega
  case qc5=>omega
  case qc6=>simp
  intro v' w1 hown1 hgrow hnil
  go_wp2
  go_ret
  refine⟨v',rfl,by simpa [RowK] using hown1,?_⟩
  exact ((Below.refl _ w).alloc (Nat.le_refl _) _).grown hgrow (by simp) (by intro k hk;simp [Value.ownBlock] at hk;omega)
end
section
open Go.RowKit
def SagAt (w:World)(g:Nat)(F L R n x:Int)(K:List (Int × Int)):Prop :=
 ∃ v,Blk w g 216 #[.int .u64 F,.int .u64 L,.int .u64 R,.bool true,.int .i64 n,.int .u64 x,v]∧RowK w (g+1) v K
theorem SagAt.below {w w':World} {g:Nat} {F L R n x:Int} {K:List (Int × Int)} (h:SagAt w g F L R n x K)(hb:Below w.heap.size w w'):SagAt w' g F L R n x K:=by
 obtain⟨v,h1,h2⟩:=h
 exact⟨v,h1.below hb h1.lt,h2.below hb⟩
theorem RowK.open_ {w:World} {base:Nat} {v:Value} {K:List (Int × Int)} (h:RowK w base v K)(hK:K≠[]) :
  ∃ b cap,v=.slice (some ⟨b,0,none⟩) K.length cap∧base≤b∧b < w.heap.size∧K.length≤cap ∧
   ∀ j k,K[j]?=some k→w.cell? ⟨b,j*2,none⟩=some (.int .u64 k.1)∧w.cell? ⟨b,j*2+1,none⟩=some (.int .u64 k.2):=by
 have h':=h
 obtain⟨hl,(⟨_,h0⟩ | ⟨b,cap,cur,hv,hb,hblk,hn,hc,hs,ht⟩)⟩:=h
 ·exact absurd (List.length_eq_zero_iff.1 h0) hK
 ·subst hv
  refine⟨b,cap,rfl,hb,(Array.getElem?_eq_some_iff.1 hblk).1,hn,fun j k hj=>?_⟩
  have hjl:j < K.length:=(List.getElem?_eq_some_iff.1 hj).1
  have h1:=h'.cellAt (j*2) (by omega)
  have h2:=h'.cellAt (j*2+1) (by omega)
  rw [cellsOf_x,hj] at h1
  rw [cellsOf_y,hj] at h2
  exact⟨h1,h2⟩
theorem snone_no (g:Nat)(n:Int)(w:World)(hn:n≠0)(hc:w.cell? ⟨g,4,none⟩=some (.int .i64 n)) :
  Calls Tryz.prog 279 #[.pointer (some ⟨g,0,none⟩)] w fun e w'=>e=.returned (.bool false)∧w=w':=by
 have h0:(n == 0)=false:=by simpa using hn
 go_enter Tryz.func279,Tryz.ntmps279
 go_wp2
 go_ret
 exact⟨rfl,rfl⟩
end
section
open Go.RowKit
theorem reachC_U {F L R y:Int} (h:MayC F L R)(hy:0≤y)(hy1:y≤4611686018427387904):U (reachC F L R y):=by
 rcases reachC_spec h hy hy1 with ⟨h1,_⟩ | ⟨h1,h2,_⟩
 ·rw [h1];unfold U;omega
 ·unfold U;omega
theorem reach1_any (c g:Nat)(F L R m:Int)(w:World)(h:MayC F L R)(hm:U m)(hc:c < w.heap.size)(hg:g < w.heap.size)
  (cc:w.cell? ⟨c,0,none⟩=some (.pointer (some ⟨g,0,none⟩)))
  (c0:w.cell? ⟨g,0,none⟩=some (.int .u64 F)) (c1:w.cell? ⟨g,1,none⟩=some (.int .u64 L)) (c2:w.cell? ⟨g,2,none⟩=some (.int .u64 R)) :
  Calls Tryz.prog 274 #[.int .u64 m,.pointer (some ⟨c,0,none⟩)] w fun e w'=>e=.returned (.int .u64 (reachC F L R m))∧Below w.heap.size w w':=by
 have hF:U F:=⟨h.f0,by have:=h.f1;omega⟩
 have hL:U L:=⟨h.l0,by have:=h.l1;omega⟩
 have hR:U R:=⟨h.r0,by have:=h.r1;omega⟩
 go_enter Tryz.func274,Tryz.ntmps274
 go_wp2_with (go_at_call 275;refine (reach_any F L R m _ hF hL hR h.l1 hm).mono ?_;rintro e w1 ⟨rfl,hb1⟩)
 go_ret
 exact⟨rfl,hb1⟩
theorem lastL_drop {needs:Int→Int} {y a:Int} {K:List (Int × Int)} {k:Nat} {p:Int × Int} (h:K[k]?=some p) :
  lastL needs y (K.drop k) a=if 9223372036854775808 - p.1≤needs (less y p.2) then 9223372036854775808 else lastL needs y (K.drop (k+1)) (max a (p.1+needs (less y p.2))):=by
 obtain⟨hk,rfl⟩:=List.getElem?_eq_some_iff.1 h
 rw [List.drop_eq_getElem_cons hk]
 rfl
theorem last_reach (g c:Nat)(F L R n x y:Int)(K:List (Int × Int))(w:World)(hM:MayC F L R)(hy:U y)(hx:U x)(hn:n≠0)(hK0:K≠[])(hbig:K.length≤1000000)
  (hK:∀ k∈K,0≤k.1∧k.1≤9223372036854775808∧U k.2) (hs:SagAt w g F L R n x K) (hc:c < w.heap.size) (cc:w.cell? ⟨c,0,none⟩=some (.pointer (some ⟨g,0,none⟩))) :
  Calls Tryz.prog 273 #[.pointer (some ⟨g,0,none⟩),.int .u64 y,.func (.func 274) #[] #[.pointer (some ⟨c,0,none⟩)]] w fun e w' =>
   e=.returned (.int .u64 (lastAt (reachC F L R) y K x))∧Below w.heap.size w w':=by
 obtain⟨v,hb,hrow⟩:=hs
 obtain⟨b,cp,rfl,hgb,hbw,hcap,hcells⟩:=hrow.open_ hK0
 have hg:=hb.lt
 have c4:=hb.cell 4;have c5:=hb.cell 5;have c6:=hb.cell 6
 have HB:=Lib.hid hb;have HR:=Lib.hid hcells;have HK:=Lib.hid hK
 clear hb hrow hcells hK
 simp only [lTA,lCZ,lCS] at c4 c5 c6
 by_cases hy1:4611686018427387904 < y
 ·have hl:lastAt (reachC F L R) y K x=9223372036854775808:=by unfold lastAt;rw [if_pos hy1]
  rw [hl]
  go_enter Tryz.func273,Tryz.ntmps273
  go_wp2_with (go_at_call 279;refine (snone_no _ _ _ hn c4).mono ?_;rintro e w' ⟨rfl,rfl⟩)
  go_ret
  exact⟨rfl,Below.refl _ _⟩
 have hl:lastAt (reachC F L R) y K x=lastL (reachC F L R) y K x:=by unfold lastAt;rw [if_neg hy1]
 rw [hl]
 have hy2:y≤4611686018427387904:=by omega
 go_enter Tryz.func273,Tryz.ntmps273
 go_wp2_with (go_at_call 279;refine (snone_no _ _ _ hn c4).mono ?_;rintro e w' ⟨rfl,rfl⟩)
 go_loopw [34,7] (fun i o W=>∃ (k:Nat) (a:Int),k≤K.length∧i=.int .i64 k∧o=.int .u64 a∧lastL (reachC F L R) y (K.drop k) a=lastL (reachC F L R) y K x∧Below w.heap.size w W) (fun i _ _=>K.length - (Go.RowKit.intOf i).toNat)
 case atStart=>exact⟨0,x,by omega,rfl,rfl,by simp,Below.refl _ _⟩
 case round =>
  obtain⟨k,a,hk,rfl,rfl,hla,hbW⟩:=hrel
  clear c4 c5 c6
  by_cases hlt:k < K.length
  ·have hp:K[k]?=some K[k]:=List.getElem?_eq_getElem hlt
   have hpm:=HK.out _ (List.getElem_mem hlt)
   generalize K[k]=p at hp hpm
   obtain⟨d0,d1⟩:=HR.out k p hp
   have e0:=(hbW.cell (p:=⟨b,k*2,none⟩) hbw).trans d0
   have e1:=(hbW.cell (p:=⟨b,k*2+1,none⟩) hbw).trans d1
   clear d0 d1
   have hld:=lastL_drop (needs:=reachC F L R) (y:=y) (a:=a) hp
   rw [hla] at hld
   have hLD:=Lib.hid hld
   clear hld hla
   have hcW:c < wr.heap.size:=Nat.lt_of_lt_of_le hc hbW.size
   have hgW:g < wr.heap.size:=Nat.lt_of_lt_of_le hg hbW.size
   have hal:=(Below.refl wr.heap.size wr).alloc (Nat.le_refl _) (.cells #[.int .u64 p.1,.int .u64 p.2] 315)
   have nb:=Blk.new wr 315 #[.int .u64 p.1,.int .u64 p.2]
   have nl:=nb.lt
   have ccW:=(hal.cell (p:=⟨c,0,none⟩) hcW).trans ((hbW.cell (p:=⟨c,0,none⟩) hc).trans cc)
   have hB:=(HB.out.below hbW hg).below hal hgW
   have HF:=Lib.hid (And.intro ccW (And.intro hB nb))
   have hcW1:=Nat.lt_of_lt_of_le hcW hal.size
   clear ccW hB nb
   have wd:IntKind.u64.wrap (9223372036854775808 - p.1)=9223372036854775808 - p.1:=wrap_u (by unfold U;omega)
   have hrU:=reachC_U hM (U_less (a:=y) (b:=p.2)).1 (show less y p.2≤4611686018427387904 by unfold less cap;omega)
   generalize hnn:reachC F L R (less y p.2)=m at *
   go_wp2_with (first
    | (go_at_call 280;refine (minus_any _ _ _ hy hpm.2.2).mono ?_;rintro e w' ⟨rfl,rfl⟩)
    | (go_at_call 274;refine (reach1_any c g F L R _ _ hM U_less hcW1 HF.out.2.1.lt HF.out.1 (HF.out.2.1.cell 0) (HF.out.2.1.cell 1) (HF.out.2.1.cell 2)).mono ?_;rintro e w2 ⟨rfl,hb2⟩;have n0:=(hb2.cell (p:=⟨wr.heap.size,0,none⟩) nl).trans (HF.out.2.2.cell 0);simp only [lTA,lCZ,lCS] at n0))
   all_goals have hbW2:Below w.heap.size w w2:=(hbW.trans (hal.mono hbW.size)).trans (hb2.mono (Nat.le_trans hbW.size hal.size))
   ·go_ret
    have h1:=hLD.out
    rw [if_pos (by omega)] at h1
    exact⟨ret_int h1.symm,hbW2⟩
   all_goals
    have h1:=hLD.out
    rw [if_neg (by omega)] at h1
    have hwm:p.1+m < 18446744073709551616→IntKind.u64.wrap (p.1+m)=p.1+m:=fun h=>wrap_u (by unfold U at *;omega)
    have hwm2:=hwm (by omega)
    simp only [hwm2] at *
    go_roundw
    case rel=>exact⟨k+1,max a (p.1+m),by omega,by go_num,val_int (by omega),h1.symm,hbW2⟩
    case measure=>simp [Go.RowKit.intOf];omega
  ·obtain rfl:k=K.length:=by omega
   go_wp2
   go_ret
   have hla':lastL (reachC F L R) y (K.drop K.length) a=a:=by rw [List.drop_length];rfl
   exact⟨ret_int (by rw [← hla,hla']),hbW⟩
theorem sreach_any (g:Nat)(F L R n x y:Int)(K:List (Int × Int))(w:World)(hM:MayC F L R)(hy:U y)(hx:U x)(hn:n≠0)(hK0:K≠[])(hbig:K.length≤1000000)
  (hK:∀ k∈K,0≤k.1∧k.1≤9223372036854775808∧U k.2) (hs:SagAt w g F L R n x K) :
  Calls Tryz.prog 270 #[.pointer (some ⟨g,0,none⟩),.int .u64 y] w fun e w' =>
   e=.returned (.int .u64 (lastAt (reachC F L R) y K x))∧Below w.heap.size w w':=by
 have hal:=(Below.refl w.heap.size w).alloc (Nat.le_refl _) (.cells #[.pointer (some ⟨g,0,none⟩)] 177)
 have hs1:=hs.below hal
 have nb:=Blk.new w 177 #[.pointer (some ⟨g,0,none⟩)]
 have nl:=nb.lt
 have cc:=nb.cell 0
 simp only [lTA,lCZ,lCS] at cc
 have H:=Lib.hid (And.intro hs1 (And.intro nl cc))
 clear hs hs1 nb
 go_enter Tryz.func270,Tryz.ntmps270
 go_wp2_with (go_at_call 273;refine (last_reach g w.heap.size F L R n x y K _ hM hy hx hn hK0 hbig hK H.out.1 H.out.2.1 H.out.2.2).mono ?_;rintro e w1 ⟨rfl,hb1⟩)
 go_ret
 exact⟨rfl,hal.trans (hb1.mono hal.size)⟩
end
section
open Go.RowKit
theorem snew_ok (F L R:Int)(w:World)(hL:0≤L)(h1:mayB F L R=true)(h2:F≤R) :
  Calls Tryz.prog 119 #[.agg #[.int .u64 F,.int .u64 L,.int .u64 R]] w fun e w' =>
   ∃ g,e=.returned (.tuple #[.pointer (some ⟨g,0,none⟩),.int .i64 0])∧w.heap.size≤g∧SagAt w' g F L R 0 0 []∧Below w.heap.size w w':=by
 have hal:=(Below.refl w.heap.size w).alloc (Nat.le_refl _) (.cells #[.int .u64 F,.int .u64 L,.int .u64 R] 30)
 have nb:=Blk.new w 30 #[.int .u64 F,.int .u64 L,.int .u64 R]
 have nl:=nb.lt
 have HN:=Lib.hid nb
 clear nb
 have hd:decide (R < F)=false:=by simp;omega
 go_enter Tryz.func119,Tryz.ntmps119
 go_wp2_with (first
  | (go_at_call 82;refine (may_any F L R _ hL).mono ?_;rintro e w1 ⟨rfl,hb1⟩;have n1:=HN.out.below hb1 nl;have a0:=n1.cell 0;have a1:=n1.cell 1;have a2:=n1.cell 2;simp only [lTA,lCZ,lCS] at a0 a1 a2)
  | (go_at_call 149;refine (bent_any F L R _).mono ?_;rintro e w2 ⟨rfl,hb2⟩;have n2:=n1.below hb2 n1.lt;have b0:=n2.cell 0;have b1:=n2.cell 1;have b2:=n2.cell 2;simp only [lTA,lCZ,lCS] at b0 b1 b2))
 have hb3:Below w.heap.size w w2:=(hal.trans (hb1.mono hal.size)).trans (hb2.mono (Nat.le_trans hal.size hb1.size))
 go_ret2
 exact⟨w2.heap.size,rfl,hb3.size,⟨_,Blk.new _ _ _,World.ownsRow_nil _ _ _ _⟩,hb3.alloc hb3.size _⟩
end
end Go.Proofs.YtmmeopjemkjllaaGreat
