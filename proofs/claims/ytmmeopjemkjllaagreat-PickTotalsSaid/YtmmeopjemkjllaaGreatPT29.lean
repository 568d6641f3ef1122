/- Lemmas of the claim. No conditions beyond those that each states. -/
import Derived.Test.YtmmeopjemkjllaaGreatPT19
import Derived.Test.YtmmeopjemkjllaaGreatPT4
import Derived.Lib.SliceRun
import Derived.Lib.SmallJoins
import Derived.Maps.AppendAt
import Derived.Deep.AppendLies
set_option linter.unusedVariables false
set_option linter.unusedSimpArgs false
set_option maxRecDepth 100000
set_option maxHeartbeats 8000000
namespace Go.Proofs.YtmmeopjemkjllaaGreat
section
open Go.RowKit
def cvC (c:Cv):List Value:=[.int .u64 c.1,.int .u64 c.2.1,.int .u64 c.2.2]
def cvV (c:Cv):Value:=.agg #[.int .u64 c.1,.int .u64 c.2.1,.int .u64 c.2.2]
def cvCells (l:List Cv):List Value:=l.flatMap cvC
theorem cvCells_cons (c:Cv)(l:List Cv):cvCells (c :: l)=.int .u64 c.1 :: .int .u64 c.2.1 :: .int .u64 c.2.2 :: cvCells l:=rfl
theorem cvCells_length (l:List Cv):(cvCells l).length=l.length*3:=by
 induction l with
 | nil=>rfl
 | cons c l ih=>rw [cvCells_cons];simp only [List.length_cons,ih];omega
theorem cvCells_get:∀ (l:List Cv)(i:Nat)(c:Cv),l[i]?=some c →
  (cvCells l)[i*3]?=some (.int .u64 c.1)∧(cvCells l)[i*3+1]?=some (.int .u64 c.2.1)∧(cvCells l)[i*3+2]?=some (.int .u64 c.2.2)
 | [],i,c,h=>by simp at h
 | d :: l,0,c,h=>by
  simp at h;subst h
  rw [cvCells_cons]
  exact⟨rfl,rfl,rfl⟩
 | d :: l,i+1,c,h=>by
  have:=cvCells_get l i c (by simpa using h)
  rw [cvCells_cons,show (i+1)*3=i*3+1+1+1 by omega]
  simpa using this
theorem cvCells_set:∀ (l:List Cv)(i:Nat)(c:Cv),i < l.length →
  (((cvCells l).set (i*3) (.int .u64 c.1)).set (i*3+1) (.int .u64 c.2.1)).set (i*3+2) (.int .u64 c.2.2)=cvCells (l.set i c)
 | [],i,c,h=>by simp at h
 | d :: l,0,c,h=>by rw [cvCells_cons];rfl
 | d :: l,i+1,c,h=>by
  have:=cvCells_set l i c (by simpa using h)
  rw [List.set_cons_succ,cvCells_cons,cvCells_cons,show (i+1)*3=i*3+1+1+1 by omega]
  simpa using this
theorem cvCells_one (l:List Cv):∀ u∈cvCells l,u.oneCell'=true:=by
 intro u hu
 obtain⟨c,_,h⟩:=List.mem_flatMap.1 hu
 simp only [cvC,List.mem_cons,List.not_mem_nil,or_false] at h
 rcases h with rfl | rfl | rfl <;> rfl
def UU (l:List Cv):Prop:=∀ c∈l,U c.1∧U c.2.1∧U c.2.2
def CvAt (w:World)(v:Value)(l:List Cv):Prop :=
 UU l∧l.length≤1000000∧∃ a cap,v=.slice a l.length cap∧(l=[]∨∃ b off,a=some ⟨b,off,none⟩∧b < w.heap.size∧l.length≤cap∧∀ i c,l[i]?=some c →
  w.cell? ⟨b,off+i*3,none⟩=some (.int .u64 c.1)∧w.cell? ⟨b,off+i*3+1,none⟩=some (.int .u64 c.2.1)∧w.cell? ⟨b,off+i*3+2,none⟩=some (.int .u64 c.2.2))
theorem CvAt.later {w w':World} {v:Value} {l:List Cv} (h:CvAt w v l)(hb:Below w.heap.size w w'):CvAt w' v l:=by
 obtain⟨h1,h2,a,cap,e,h3⟩:=h
 refine⟨h1,h2,a,cap,e,?_⟩
 rcases h3 with h3 | ⟨b,off,e,hl,hcap,hc⟩
 ·exact .inl h3
 ·refine .inr ⟨b,off,e,Nat.lt_of_lt_of_le hl hb.size,hcap,fun i q hq=>?_⟩
  obtain⟨c0,c1,c2⟩:=hc i q hq
  exact⟨(hb.cell (p:=⟨b,_,none⟩) hl).trans c0,(hb.cell (p:=⟨b,_,none⟩) hl).trans c1,(hb.cell (p:=⟨b,_,none⟩) hl).trans c2⟩
theorem CvAt.grown {w w':World} {v:Value} {l:List Cv} {row:Option Nat} (h:CvAt w v l)(hg:w.grownBy w' row)(hne:∀ k,v.ownBlock=some k→some k≠row):CvAt w' v l:=by
 obtain⟨h1,h2,a,cap,e,h3⟩:=h
 refine⟨h1,h2,a,cap,e,?_⟩
 rcases h3 with h3 | ⟨b,off,e2,hl,hcap,hc⟩
 ·exact .inl h3
 ·subst e2;subst e
  refine .inr ⟨b,off,rfl,Nat.lt_of_lt_of_le hl hg.size,hcap,fun i q hq=>?_⟩
  obtain⟨c0,c1,c2⟩:=hc i q hq
  have hb:=hne b rfl
  exact⟨(hg.cell_far ⟨b,_,none⟩ hl hb).trans c0,(hg.cell_far ⟨b,_,none⟩ hl hb).trans c1,(hg.cell_far ⟨b,_,none⟩ hl hb).trans c2⟩
theorem CvAt.of_row {w:World} {base g cap:Nat} {l:List Cv} (h:w.ownsRow base 30 3 (.slice (some ⟨g,0,none⟩) l.length cap) l.length (cvCells l))(hu:UU l)(hl:l.length≤1000000):CvAt w (.slice (some ⟨g,0,none⟩) l.length cap) l:=by
 have hlt:=(h.lt g rfl).2
 have hcap:l.length≤cap:=by
  rcases h.2 with ⟨h',_⟩ | ⟨g',cap',cur,h',_,_,hn,_⟩
  ·simp at h'
  ·simp only [Value.slice.injEq,Option.some.injEq,Addr.mk.injEq,and_true,true_and] at h'
   obtain⟨_,rfl⟩:=h'
   exact hn
 refine⟨hu,hl,_,_,rfl,.inr ⟨g,0,rfl,hlt,hcap,fun i c hc=>?_⟩⟩
 have hi:i < l.length:=(List.getElem?_eq_some_iff.1 hc).1
 obtain⟨c0,c1,c2⟩:=cvCells_get l i c hc
 rw [Nat.zero_add]
 exact⟨(h.cellAt _ (by omega)).trans c0,(h.cellAt _ (by omega)).trans c1,(h.cellAt _ (by omega)).trans c2⟩
theorem ent_may1:∀ args w,(callFunc 206 args).run Tryz.prog w=.ok (.enter 206 args) w:=enters_of Tryz.func206 (by kernel_rfl) rfl
theorem may1_any (c:Cv)(w:World)(h:0≤c.2.1) :
  Calls Tryz.prog 206 #[cvV c] w fun e w'=>e=.returned (.bool (!okC c))∧Below w.heap.size w w':=by
 obtain⟨F,L,R⟩:=c
 unfold cvV okC
 dsimp only at h ⊢
 go_enter Tryz.func206,Tryz.ntmps206
 go_wp2_with fail
 refine (may_any F L R _ h).mono ?_
 rintro e w1 ⟨rfl,hb1⟩
 have hb:=((Below.refl w.heap.size w).alloc (Nat.le_refl _) (.cells #[.int .u64 F,.int .u64 L,.int .u64 R] 30)).trans (hb1.mono (by simp))
 have HB:=Lib.hid hb
 clear hb hb1
 cases hm:mayB F L R <;>
 ·go_wp2_with fail
  go_ret
  exact⟨by rw [hm];rfl,HB.out⟩
theorem idx_any (a:Option Addr)(cap:Nat)(l:List Cv)(w:World)(h:CvAt w (.slice a l.length cap) l) :
  Calls Tryz.prog 212 #[.slice a l.length cap,.func (.func 206) #[] #[]] w fun e w' =>
   ∃ z,e=.returned (.int .i64 z)∧((z=-1∧∀ c∈l,okC c=true)∨∃ (k:Nat) (c:Cv),z=k∧l[k]?=some c∧okC c=false∧∀ c∈l.take k,okC c=true)∧Below w.heap.size w w':=by
 have hl2:=h.2.1
 have eg:=ent_may1
 have H:=Lib.hid h
 clear h
 go_enter Tryz.func212,Tryz.ntmps212
 go_wp2_with fail
 go_loopw [8] (fun iv W=>∃ k:Nat,k≤l.length∧iv=.int .i64 k∧Below w.heap.size w W∧∀ c∈l.take k,okC c=true) (fun iv _=>l.length - (Go.RowKit.intOf iv).toNat)
 case atStart=>exact⟨0,by omega,rfl,by go_grown,by simp⟩
 case round =>
  obtain⟨k,hk,rfl,hb,hA⟩:=hrel
  have HA:=Lib.hid hA
  have HB:=Lib.hid hb
  clear hA
  by_cases hlt:k < l.length
  ·obtain⟨c,hc⟩:∃ c,l[k]?=some c:=⟨_,List.getElem?_eq_getElem (by omega)⟩
   obtain⟨hu,_,a',cap',e',h0 | ⟨b,off,e2,hbl,_,hcells⟩⟩:=H.out.later hb
   ·rw [h0] at hlt;simp at hlt
   ·simp only [Value.slice.injEq,true_and] at e'
    obtain⟨rfl,rfl⟩:=e'
    subst e2
    obtain⟨c0,c1,c2⟩:=hcells k c hc
    have hL:=(hu c (List.mem_of_getElem? hc)).2.1.1
    have HC:=Lib.hid hc
    clear hcells hu hbl hb hc
    have hcall:=may1_any c wr hL
    unfold cvV at hcall
    obtain⟨ob,hob⟩:∃ ob,okC c=ob:=⟨_,rfl⟩
    have HO:=Lib.hid hob
    rw [hob] at hcall
    clear hob
    obtain⟨F,L,R⟩:=c
    dsimp only at c0 c1 c2 hcall hL
    cases ob
    ·go_wp2_with (go_at_fn 206;refine hcall.mono ?_;rintro e w' ⟨rfl,hb'⟩)
     go_ret
     exact⟨_,rfl,.inr ⟨k,_,rfl,HC.out,HO.out,HA.out⟩,HB.out.trans (hb'.mono HB.out.size)⟩
    ·go_wp2_with (go_at_fn 206;refine hcall.mono ?_;rintro e w' ⟨rfl,hb'⟩)
     go_roundw
     case measure=>simp [Go.RowKit.intOf];omega
     case rel =>
      refine⟨k+1,by omega,by go_num,HB.out.trans (hb'.mono HB.out.size),fun x hx=>?_⟩
      rw [List.take_add_one,HC.out] at hx
      rcases List.mem_append.1 hx with hx | hx
      ·exact HA.out x hx
      ·simp at hx;rw [hx];exact HO.out
  ·obtain rfl:k=l.length:=by omega
   clear hb
   go_wp2_with fail
   go_ret
   exact⟨_,rfl,.inl ⟨rfl,fun c hc=>HA.out c (by rw [List.take_length];exact hc)⟩,HB.out⟩
theorem grown_none {w w':World} (h:Below w.heap.size w w'):w.grownBy w' none:=⟨h.os,h.tape,h.output,h.size,fun k hk _=>h.block k hk⟩
theorem grown_setC (w:World)(g o:Nat)(u:Value):w.grownBy (w.setCell ⟨g,o,none⟩ u) (some g) :=
 ⟨rfl,rfl,rfl,by simp,fun k _ hk=>heap_setCell_other w ⟨g,o,none⟩ k u (fun e=>hk (by simp [e]))⟩
theorem setCells_grown (b:Nat):∀ (vs:List Value)(w:World)(o:Nat),w.grownBy (w.setCells b o vs) (some b)
 | [],w,o=>World.grownBy.refl w _
 | v :: vs,w,o=>by
  rw [World.setCells]
  exact (grown_setC w b o v).trans (setCells_grown b vs (w.setCell ⟨b,o,none⟩ v) (o+1))
theorem run_clear_cv (w:World)(ty:TypeId)(b o n c:Nat)(hn:0 < n)(hc:∀ j,j < n*3→(w.cell? ⟨b,o+j,none⟩).isSome=true)(hf:∀ j,j < n*3→w.frozen? ⟨b,o+j,none⟩=false) :
  (Builtin.clear_ #[22] ty #[.slice (some ⟨b,o,none⟩) n c]).run Tryz.prog w=.ok (.tuple #[]) (w.setCells b o (List.replicate (n*3) (.int .u64 0))):=by
 have hzc:(Builtin.zeroCells #[.int .u64 0,.int .u64 0,.int .u64 0] n).toList=List.replicate (n*3) (.int .u64 0):=by
  apply List.ext_getElem
  ·simp [Builtin.zeroCells]
  ·intro i h1 h2
   have:i % 3 < 3:=Nat.mod_lt _ (by omega)
   simp [Builtin.zeroCells]
   rcases (show i % 3=0∨i % 3=1∨i % 3=2 by omega) with e | e | e <;> rw [e] <;> rfl
 have hst:=run_storeCells_cells (P:=Tryz.prog) b o (List.replicate (n*3) (.int .u64 0)) 0 w (by simpa using hc) (by simpa using hf) (by intro v hv';rw [List.eq_of_mem_replicate hv'];rfl)
 simp only [Nat.add_zero] at hst
 obtain⟨m,rfl⟩:∃ m,n=m+1:=⟨n - 1,by omega⟩
 simp [Builtin.clear_,run_underlying Tryz.underlying22,Tryz.zeroValue30,Value.cells,hzc,hst]
structure DelAt (wr:World)(base g cap:Nat)(l:List Cv)(j i:Nat)(r:List Cv):Prop where
 row:wr.ownsRow base 30 3 (.slice (some ⟨g,0,none⟩) l.length cap) l.length (cvCells r)
 len:r.length=l.length
 lt:i < j
 kept:r.take i=(l.take j).filter okC
 rest:∀ m,j≤m→r[m]?=l[m]?
theorem DelAt.later {wr wr':World} {base g cap j i:Nat} {l r:List Cv} (h:DelAt wr base g cap l j i r)(hb:Below wr.heap.size wr wr'):DelAt wr' base g cap l j i r :=
 ⟨h.row.kept (grown_none hb) (.inr (by simp [Value.ownBlock])),h.len,h.lt,h.kept,h.rest⟩
theorem DelAt.skip {wr:World} {base g cap j i:Nat} {l r:List Cv} {c:Cv} (h:DelAt wr base g cap l j i r)(hc:l[j]?=some c)(ho:okC c=false):DelAt wr base g cap l (j+1) i r :=
 ⟨h.row,h.len,by have:=h.lt;omega,by rw [h.kept,List.take_add_one,hc,List.filter_append];simp [ho],fun m hm=>h.rest m (by omega)⟩
theorem DelAt.keep {wr wr':World} {base g cap j i:Nat} {l r:List Cv} {c:Cv} (h:DelAt wr base g cap l j i r)(hc:l[j]?=some c)(ho:okC c=true)
  (hrow:wr'.ownsRow base 30 3 (.slice (some ⟨g,0,none⟩) l.length cap) l.length (cvCells (r.set i c))):DelAt wr' base g cap l (j+1) (i+1) (r.set i c):=by
 have hj:j < l.length:=(List.getElem?_eq_some_iff.1 hc).1
 have hi:=h.lt
 have hr:=h.len
 refine⟨hrow,by rw [List.length_set];exact h.len,by omega,?_,fun m hm=>?_⟩
 ·rw [List.take_add_one,List.getElem?_set,if_pos rfl,if_pos (by omega),List.take_set_of_le (by omega),h.kept,List.take_add_one,hc,List.filter_append]
  simp [ho]
 ·rw [List.getElem?_set,if_neg (by omega)]
  exact h.rest m (by omega)
theorem del_any (base g cap:Nat)(l:List Cv)(w:World)(hr:w.ownsRow base 30 3 (.slice (some ⟨g,0,none⟩) l.length cap) l.length (cvCells l))(hu:UU l)(hl:l.length≤1000000) :
  Calls Tryz.prog 204 #[.slice (some ⟨g,0,none⟩) l.length cap,.func (.func 206) #[] #[]] w fun e w' =>
   ∃ v,e=.returned v∧(CvAt w' v (l.filter okC)∧∀ k,v.ownBlock=some k→base≤k)∧Below base w w':=by
 have eg:=ent_may1
 have hbg:base≤g∧g < w.heap.size:=hr.lt g rfl
 have HR:=Lib.hid hr
 have HU:=Lib.hid hu
 clear hr hu
 have hix:=idx_any (some ⟨g,0,none⟩) cap l w (CvAt.of_row HR.out HU.out hl)
 go_enter Tryz.func204,Tryz.ntmps204
 go_wp2_with fail
 refine hix.mono ?_
 clear hix
 rintro e w1 ⟨z,rfl,hcase,hb1⟩
 have hb1':=hb1.mono (show base≤w.heap.size by omega)
 have hR1:=HR.out.kept (grown_none hb1) (.inr (by simp [Value.ownBlock]))
 rcases hcase with ⟨rfl,hall⟩ | ⟨k,c,rfl,hc,ho,hall⟩
 ·have hf:l.filter okC=l:=List.filter_eq_self.2 hall
  have HF:=Lib.hid hf
  have HA:=Lib.hid hR1
  clear hall hf hR1
  go_wp2_with fail
  go_ret
  refine⟨.slice (some ⟨g,0,none⟩) l.length cap,rfl,⟨?_,fun k e=>by cases e;exact hbg.1⟩,hb1'⟩
  rw [HF.out]
  exact CvAt.of_row HA.out HU.out hl
 ·have hk:k < l.length:=(List.getElem?_eq_some_iff.1 hc).1
  have hD:DelAt w1 base g cap l (k+1) k l:=⟨hR1,rfl,by omega,by rw [List.take_add_one,hc,List.filter_append,List.filter_eq_self.2 hall];simp [ho],fun m _=>rfl⟩
  have HD:=Lib.hid hD
  have HB:=Lib.hid hb1'
  clear hR1 hall hc ho hD hb1 hb1'
  go_wp2_with fail
  go_loopw [5,6] (fun iv jv W=>∃ i j r,j≤l.length∧iv=.int .i64 (i:Nat)∧jv=.int .i64 (j:Nat)∧DelAt W base g cap l j i r∧Below base w W) (fun _ jv _=>l.length - (Go.RowKit.intOf jv).toNat)
  case atStart=>exact⟨k,k+1,l,by omega,rfl,by go_num,HD.out,HB.out⟩
  case round =>
   obtain⟨i,j,r,hj,rfl,rfl,hD,hb⟩:=hrel
   have hij:=hD.lt
   have hrl:=hD.len
   have HD2:=Lib.hid hD
   have HB2:=Lib.hid hb
   by_cases hlt:j < l.length
   ·obtain⟨c,hc⟩:∃ c,l[j]?=some c:=⟨_,List.getElem?_eq_getElem (by omega)⟩
    obtain⟨c0,c1,c2⟩:=cvCells_get r j c ((hD.rest j (Nat.le_refl _)).trans hc)
    rw [← hD.row.cellAt _ (by omega)] at c0 c1 c2
    have hL:=(HU.out c (List.mem_of_getElem? hc)).2.1.1
    have HC:=Lib.hid hc
    clear hD hb hc
    obtain⟨F,L,R⟩:=c
    dsimp only at c0 c1 c2 hL
    have hcall:=may1_any (F,L,R) (wr.alloc (.cells #[.int .u64 F,.int .u64 L,.int .u64 R] 30)) hL
    unfold cvV at hcall
    dsimp only at hcall
    obtain⟨ob,hob⟩:∃ ob,okC (F,L,R)=ob:=⟨_,rfl⟩
    have HO:=Lib.hid hob
    rw [hob] at hcall
    clear hob
    go_wp2_with fail
    go_at_fn 206
    refine hcall.mono ?_
    rintro e w2 ⟨rfl,hb2⟩
    have hbw:=((Below.refl wr.heap.size wr).alloc (Nat.le_refl _) (.cells #[.int .u64 F,.int .u64 L,.int .u64 R] 30)).trans (hb2.mono (by simp))
    have hv:=(Blk.new wr 30 #[.int .u64 F,.int .u64 L,.int .u64 R]).below hb2 (by simp)
    have hD2:=HD2.out.later hbw
    have HB3:=Lib.hid (HB2.out.trans (hbw.mono (HB2.out.size |> fun h=>by have:=HD2.out.row.lt g rfl;omega)))
    have v0:=hv.cell 0;have v1:=hv.cell 1;have v2:=hv.cell 2
    obtain⟨d,hd⟩:∃ d,r[i]?=some d:=⟨_,List.getElem?_eq_getElem (by omega)⟩
    obtain⟨e0,e1,e2⟩:=cvCells_get r i d hd
    rw [← hD2.row.cellAt _ (by omega)] at e0 e1 e2
    have f0:=hD2.row.frozenAt (i*3);have f1:=hD2.row.frozenAt (i*3+1);have f2:=hD2.row.frozenAt (i*3+2)
    have HD3:=Lib.hid hD2
    clear hcall hb2 hbw hv hD2 hd c0 c1 c2
    cases ob
    ·go_wp2_with fail
     go_roundw
     case measure=>simp [Go.RowKit.intOf];omega
     case rel=>(repeat apply Exists.intro);exact⟨⟨i,j+1,r,by omega,rfl,by go_num,HD3.out.skip HC.out HO.out,HB3.out⟩,rfl⟩
    ·go_wp2_with fail
     go_roundw
     case measure=>simp [Go.RowKit.intOf];omega
     case rel =>
      have s1:=HD3.out.row.stored (i*3) (.int .u64 F)
      have s2:=s1.1.stored (i*3+1) (.int .u64 L)
      have s3:=s2.1.stored (i*3+2) (.int .u64 R)
      have hset:=cvCells_set r i (F,L,R) (by omega)
      dsimp only at hset
      have hg:=(s1.2.trans s2.2).trans s3.2
      (repeat apply Exists.intro)
      exact⟨⟨i+1,j+1,r.set i (F,L,R),by omega,by go_num,by go_num,HD3.out.keep HC.out HO.out (by rw [← hset];exact s3.1),HB3.out.grown hg (by have:=HB3.out.size;omega) (fun k e=>by cases e;exact hbg.1)⟩,rfl⟩
   ·obtain rfl:j=l.length:=by omega
    have hcap:l.length≤cap:=by
     rcases hD.row.2 with ⟨h',_⟩ | ⟨g',cap',cur,h',_,_,hn,_⟩
     ·simp at h'
     ·simp only [Value.slice.injEq,Option.some.injEq,Addr.mk.injEq,and_true,true_and] at h'
      obtain⟨_,rfl⟩:=h'
      exact hn
    have hcl:∀ ty,(Builtin.clear_ #[22] ty #[.slice (some ⟨g,i*3,none⟩) (l.length - i) (cap - i)]).run Tryz.prog wr=.ok (.tuple #[]) (wr.setCells g (i*3) (List.replicate ((l.length - i)*3) (.int .u64 0))):=fun ty =>
     run_clear_cv wr ty g (i*3) (l.length - i) (cap - i) (by omega) (fun m hm=>by rw [hD.row.cellAt _ (by omega),List.getElem?_eq_getElem (by rw [cvCells_length];omega)];rfl) (fun m hm=>hD.row.frozenAt _)
    have hilz:(i:Int)≤(l.length:Int):=by omega
    clear hD hb
    go_wp2_with fail
    go_ret
    have hk:=HD2.out.kept
    rw [List.take_length] at hk
    have hkl:(l.filter okC).length=i:=by rw [← hk,List.length_take];omega
    refine⟨.slice (some ⟨g,0,none⟩) i cap,rfl,⟨⟨fun c hc=>HU.out c (List.mem_filter.1 hc).1,by have:=List.length_filter_le okC l;omega,_,cap,by rw [hkl],.inr ⟨g,0,rfl,?_,by omega,fun m c hm=>?_⟩⟩,fun k e=>by cases e;exact hbg.1⟩,?_⟩
    ·have:=(setCells_grown g (List.replicate ((l.length - i)*3) (.int .u64 0)) wr (i*3)).size
     have:=HD2.out.row.lt g rfl
     omega
    ·have hmi:m < i:=by rw [← hkl];exact (List.getElem?_eq_some_iff.1 hm).1
     rw [← hk,List.getElem?_take,if_pos hmi] at hm
     obtain⟨c0,c1,c2⟩:=cvCells_get r m c hm
     rw [← HD2.out.row.cellAt _ (by omega)] at c0 c1 c2
     rw [Nat.zero_add]
     refine⟨?_,?_,?_⟩ <;> rw [World.cell?_setCells_out _ _ _ _ _ (fun _ _=>.inl (by simp only;omega))] <;> assumption
    ·exact HB2.out.grown (setCells_grown _ _ _ _) (by have:=HB2.out.size;omega) (fun k e=>by cases e;exact hbg.1)
theorem info_curve:(Tryz.prog.info? 30).map (fun i=>(i.zero,i.size,i.bytes))=some (some (.agg #[.int .u64 0,.int .u64 0,.int .u64 0]),3,24):=by kernel_rfl
theorem cvCells_all {l:List Cv} {p:Nat→Value→Prop} (h:∀ i c,l[i]?=some c→p (i*3) (.int .u64 c.1)∧p (i*3+1) (.int .u64 c.2.1)∧p (i*3+2) (.int .u64 c.2.2)):∀ j u,(cvCells l)[j]?=some u→p j u:=by
 intro j u hj
 have hlt:j < (cvCells l).length:=(List.getElem?_eq_some_iff.1 hj).1
 rw [cvCells_length] at hlt
 obtain⟨c,hc⟩:∃ c,l[j / 3]?=some c:=⟨_,List.getElem?_eq_getElem (by omega)⟩
 obtain⟨g0,g1,g2⟩:=cvCells_get l _ c hc
 obtain⟨p0,p1,p2⟩:=h _ c hc
 rcases (show j=j / 3*3∨j=j / 3*3+1∨j=j / 3*3+2 by omega) with e | e | e
 ·rw [← e] at g0 p0;rw [hj] at g0;cases g0;exact p0
 ·rw [← e] at g1 p1;rw [hj] at g1;cases g1;exact p1
 ·rw [← e] at g2 p2;rw [hj] at g2;cases g2;exact p2
theorem clone_any (a:Option Addr)(cap:Nat)(l:List Cv)(w:World)(h:CvAt w (.slice a l.length cap) l) :
  Calls Tryz.prog 205 #[.slice a l.length cap] w fun e w' =>
   ∃ v,e=.returned v∧Below w.heap.size w w'∧((v=.slice none 0 0∧l=[])∨∃ g c,v=.slice (some ⟨g,0,none⟩) l.length c∧w'.ownsRow w.heap.size 30 3 v l.length (cvCells l)):=by
 have hl2:=h.2.1
 have q:∀ (w:World) (a:Option Addr) (n c n' c':Nat),(binOp .eql 22 (.slice a n c) (.slice none n' c')).run Tryz.prog w=.ok (.bool a.isNone) w:=fun w a n c n' c'=>Lib.run_eql_slice_nil w _ _ a n c n' c' Tryz.underlying22
 have uq:∀ w,Sem.run Tryz.prog (underlying 22) w=.ok (TypeDesc.slice 30) w:=run_underlying Tryz.underlying22
 cases a with
 | none =>
  have hl:l=[]:=by
   obtain⟨_,_,a',cap',e,h0 | ⟨b,off,rfl,_⟩⟩:=h
   ·exact h0
   ·simp at e
  clear h
  have HL:=Lib.hid hl
  clear hl
  go_enter Tryz.func205,Tryz.ntmps205
  go_wp2_with fail
  go_ret
  exact⟨_,rfl,Below.refl _ w,.inl ⟨rfl,HL.out⟩⟩
 | some a =>
  have hA:∀ j u,(cvCells l)[j]?=some u→w.cell? (a.add j)=some u∧a.block < w.heap.size:=by
   obtain⟨_,_,a',cap',e,h0 | ⟨b,off,rfl,hb,_,hc⟩⟩:=h
   ·subst h0;intro j u hj;simp [cvCells] at hj
   ·simp only [Value.slice.injEq,Option.some.injEq] at e
    obtain⟨rfl,_⟩:=e
    refine cvCells_all fun i c hi=>?_
    obtain⟨c0,c1,c2⟩:=hc i c hi
    rw [Addr.add_lit,Addr.add_lit,Addr.add_lit]
    exact⟨⟨c0,hb⟩,⟨c1,hb⟩,⟨c2,hb⟩⟩
  have HA:=Lib.hid hA
  clear hA h
  obtain⟨i0,hi0,hz0,hz1,hz2⟩:=info_parts info_curve
  go_enter Tryz.func205,Tryz.ntmps205
  go_wp2_with (at_builtin;refine wpList_append_own _ rfl _ _ 22 rfl w.heap.size 30 i0 (.agg #[.int .u64 0,.int .u64 0,.int .u64 0]) 3 24 Tryz.underlying22 hi0 hz0 hz1 hz2 rfl (by decide) _ _ _ rfl (World.ownsRow_made w #[] 0 (Nat.le_refl _) (Nat.zero_le _) (by simp)) a l.length cap (cvCells l) rfl (cvCells_length l) (fun j u hj=>Lib.cell?_alloc_some _ (HA.out j u hj).1) (cvCells_one l) (by unfold maxLen;omega) (by omega) (by simp) ?_;intro v' w1 hown hgrow hnil)
  go_ret
  have hown':w1.ownsRow w.heap.size 30 3 v' l.length (cvCells l):=by simpa using hown
  refine⟨v',rfl,((Below.refl _ w).alloc (Nat.le_refl _) _).grown hgrow (by simp) (by intro k hk;cases hk;exact Nat.le_refl _),.inr ?_⟩
  rcases hown'.2 with ⟨e,_⟩ | ⟨g,c,cur,e,_⟩
  ·exact absurd (hnil.1 e).1 (by intro h;cases h)
  ·exact⟨g,c,e,hown'⟩
theorem del_nil (w:World):Calls Tryz.prog 204 #[.slice none 0 0,.func (.func 206) #[] #[]] w fun e w'=>e=.returned (.slice none 0 0)∧Below w.heap.size w w':=by
 have hix:=idx_any none 0 [] w ⟨fun c hc=>by simp at hc,by simp,none,0,rfl,.inl rfl⟩
 go_enter Tryz.func204,Tryz.ntmps204
 go_wp2_with fail
 refine hix.mono ?_
 clear hix
 rintro e w1 ⟨z,rfl,⟨rfl,_⟩ | ⟨k,c,_,hc,_⟩,hb1⟩
 ·have HB:=Lib.hid hb1
  clear hb1
  go_wp2_with fail
  go_ret
  exact⟨rfl,HB.out⟩
 ·simp at hc
theorem smay_any (v:Value)(l:List Cv)(w:World)(h:CvAt w v l) :
  Calls Tryz.prog 197 #[v] w fun e w'=>∃ v',e=.returned v'∧(CvAt w' v' (l.filter okC)∧∀ k,v'.ownBlock=some k→w.heap.size≤k)∧Below w.heap.size w w':=by
 obtain⟨hu,hl,a,cap,rfl,hc⟩:=h
 have h:CvAt w (.slice a l.length cap) l:=⟨hu,hl,a,cap,rfl,hc⟩
 have HU:=Lib.hid hu
 have hcl:=clone_any a cap l w h
 clear hc h hu
 go_enter Tryz.func197,Tryz.ntmps197
 go_wp2_with fail
 refine hcl.mono ?_
 clear hcl
 rintro e w1 ⟨v1,rfl,hb1,⟨rfl,hl0⟩ | ⟨g,c,rfl,hr⟩⟩
 ·subst hl0
  have hd:=del_nil w1
  have HB:=Lib.hid hb1
  clear hb1
  go_wp2_with fail
  refine hd.mono ?_
  clear hd
  rintro e w2 ⟨rfl,hb2⟩
  have HB2:=Lib.hid (HB.out.trans (hb2.mono HB.out.size))
  clear hb2
  go_wp2_with fail
  go_ret
  exact⟨.slice none 0 0,rfl,⟨⟨fun c hc=>by simp at hc,by simp,none,0,rfl,.inl rfl⟩,fun k e=>by cases e⟩,HB2.out⟩
 ·have hd:=del_any w.heap.size g c l w1 hr HU.out hl
  have HB:=Lib.hid hb1
  clear hr hb1
  go_wp2_with fail
  refine hd.mono ?_
  clear hd
  rintro e w2 ⟨v2,rfl,hc2,hb2⟩
  have HC:=Lib.hid hc2
  have HB2:=Lib.hid (HB.out.trans hb2)
  clear hc2 hb2
  go_wp2_with fail
  go_ret
  exact⟨_,rfl,HC.out,HB2.out⟩
end
section
open Go.RowKit
theorem splus_any (m n:Int)(w:World)(h0:0≤m)(k0:0≤n)(hs:m+n < 340282366920938463463374607431768211456) :
  Calls Tryz.prog 200 #[.agg #[.int .u64 (hiW m),.int .u64 (loW m)],.agg #[.int .u64 (hiW n),.int .u64 (loW n)]] w fun e w'=>e=.returned (.agg #[.int .u64 (hiW (m+n)),.int .u64 (loW (m+n))])∧Below w.heap.size w w':=by
 have hp:=fun w=>plus_any (hiW m) (loW m) (hiW n) (loW n) w (U_hi h0 (by omega)) (U_lo m) (U_hi k0 (by omega)) (U_lo n) (by rw [num_words,num_words];exact hs)
 simp only [num_words] at hp
 obtain⟨a,ha⟩:∃ a,hiW (m+n)=a:=⟨_,rfl⟩
 obtain⟨b,hb⟩:∃ b,loW (m+n)=b:=⟨_,rfl⟩
 rw [ha,hb] at hp
 rw [ha,hb]
 clear ha hb
 generalize hiW m=p at hp ⊢
 generalize loW m=q at hp ⊢
 generalize hiW n=x at hp ⊢
 generalize loW n=y at hp ⊢
 go_enter Tryz.func200,Tryz.ntmps200
 go_wp2_with fail
 refine (hp _).mono ?_
 clear hp
 rintro e w1 ⟨rfl,hb1⟩
 have hB:Blk w1 (w.heap.size+1+1) 236 #[.int .u64 0,.int .u64 0]:=by simpa using (Blk.new ((w.alloc (.cells #[.int .u64 p,.int .u64 q] 236)).alloc (.cells #[.int .u64 x,.int .u64 y] 236)) 236 #[.int .u64 0,.int .u64 0]).below hb1 (by simp)
 have hbw:=(((((Below.refl w.heap.size w).alloc (Nat.le_refl _) (.cells #[.int .u64 p,.int .u64 q] 236)).alloc (by simp) (.cells #[.int .u64 x,.int .u64 y] 236)).alloc (by simp;omega) (.cells #[.int .u64 0,.int .u64 0] 236))).trans (hb1.mono (by simp;omega))
 have c0:=hB.cell 0;have c1:=hB.cell 1;have z0:=hB.frozen 0;have z1:=hB.frozen 1
 simp only [lTA,lCZ,lCS] at c0 c1
 have HBW:=Lib.hid hbw
 have hlt:=hB.lt
 have hne:w.heap.size+1+1≠w1.heap.size:=by omega
 have HF:=Lib.hid hB
 clear hb1 hB hbw
 go_wp2_with fail
 have hF:Blk (((w1.setCell ⟨w.heap.size+1+1,0,none⟩ (.int .u64 a)).setCell ⟨w.heap.size+1+1,1,none⟩ (.int .u64 b)).alloc (.cells #[.int .u64 a,.int .u64 b] 236)) (w.heap.size+1+1) 236 #[.int .u64 a,.int .u64 b]:=by
  simpa using ((HF.out.set_ 0 (.int .u64 a)).set_ 1 (.int .u64 b)).alloc (.cells #[.int .u64 a,.int .u64 b] 236)
 have d0:=hF.cell 0;have d1:=hF.cell 1
 simp only [lTA,lCZ,lCS] at d0 d1
 refine bodyPost_ret (v:=.agg #[.int .u64 a,.int .u64 b]) (by simp only [results,Tryz.results200];simp [go_sem,d0,d1]) rfl ⟨rfl,?_⟩
 exact ((HBW.out.setCell (by simp;omega) _).setCell (by simp;omega) _).alloc (by have:=HBW.out.size;simp;omega) _
theorem vC_bd {c:Cv} {t:Int} (ho:okC c=true)(h0:0≤c.1)(h1:0≤c.2.1)(h2:0≤c.2.2)(t0:0≤t)(t1:t≤18446744073709551615):0≤vC c t∧vC c t≤19342813113834066795298816:=by
 have hm:=okC_may ho
 unfold vC W
 have a1:=Int.mul_nonneg h0 (show 0≤min t c.2.1 by omega)
 have a2:=Int.mul_nonneg h2 (show 0≤t - min t c.2.1 by omega)
 have a3:=Int.mul_le_mul_of_nonneg_right hm.1 (show 0≤min t c.2.1 by omega)
 have a4:=Int.mul_le_mul_of_nonneg_right hm.2 (show 0≤t - min t c.2.1 by omega)
 omega
theorem vS_bd {l:List Cv} {t:Int} (h:NN l)(t0:0≤t)(t1:t≤18446744073709551615):0≤vS l t∧vS l t≤l.length*19342813113834066795298816:=by
 induction l with
 | nil=>simp [vS]
 | cons c l ih =>
  have h1:=ih fun d hd=>h d (.tail _ hd)
  have h0:=h c (.head _)
  simp only [vS,List.length_cons]
  by_cases hc:okC c=true
  ·have:=vC_bd hc h0.1 h0.2.1 h0.2.2 t0 t1
   rw [if_pos hc];omega
  ·rw [if_neg hc];omega
structure AtAt (w W:World)(v:Value)(l:List Cv)(rb sb:Nat)(S:Int):Prop where
 cv:CvAt W v l
 res:Blk W rb 236 #[.int .u64 0,.int .u64 0]
 sum:Blk W sb 236 #[.int .u64 (hiW S),.int .u64 (loW S)]
 below:Below w.heap.size w W
 hr:w.heap.size≤rb
 hs:w.heap.size≤sb
 ne:rb≠sb
 own:∀ k,v.ownBlock=some k→w.heap.size+1 < k
theorem sat_anyS (v:Value)(l:List Cv)(t:Int)(w:World)(h:CvAt w v l)(ht:U t) :
  Calls Tryz.prog 192 #[v,.int .u64 t] w fun e w'=>e=.returned (.agg #[.int .u64 (hiW (vS l t)),.int .u64 (loW (vS l t))])∧Below w.heap.size w w':=by
 have hm:=fun w h=>smay_any v l w h
 have hok:∀ c∈l.filter okC,okC c=true:=fun c hc=>(List.mem_filter.1 hc).2
 rw [← vS_filter l t]
 have H:=Lib.hid h
 clear h
 generalize l.filter okC=f at hm hok ⊢
 have HO:=Lib.hid hok
 clear hok
 go_enter Tryz.func192,Tryz.ntmps192
 go_wp2_with fail
 refine (hm _ ((H.out.later ((Below.refl w.heap.size w).alloc (Nat.le_refl _) _)).later ((Below.refl _ _).alloc (Nat.le_refl _) _))).mono ?_
 rintro e w1 ⟨v1,rfl,⟨hc1,hown⟩,hb1⟩
 clear hm
 obtain⟨a1,cap1,rfl⟩:∃ a cap,v1=.slice a f.length cap:=by obtain⟨_,_,a,cap,e,_⟩:=hc1;exact⟨a,cap,e⟩
 have hA:AtAt w w1 (.slice a1 f.length cap1) f w.heap.size (w.heap.size+1) 0:=by
  have hb0:=((Below.refl w.heap.size w).alloc (Nat.le_refl _) (.cells #[.int .u64 0,.int .u64 0] 236)).alloc (by simp) (.cells #[.int .u64 0,.int .u64 0] 236)
  refine⟨hc1,((Blk.new w 236 #[.int .u64 0,.int .u64 0]).alloc _).below hb1 (by simp;omega),?_,hb0.trans (hb1.mono (by simp;omega)),Nat.le_refl _,by omega,by omega,fun k e=>by have:=hown k e;simp at this;omega⟩
  have:=(Blk.new (w.alloc (.cells #[.int .u64 0,.int .u64 0] 236)) 236 #[.int .u64 0,.int .u64 0]).below hb1 (by simp)
  simpa [hiW,loW] using this
 have HA:=Lib.hid hA
 have hfl:=hc1.2.1
 clear hA hc1 hb1 H
 go_wp2_with fail
 go_loopw [12] (fun iv W=>∃ k:Nat,k≤f.length∧iv=.int .i64 k∧AtAt w W (.slice a1 f.length cap1) f w.heap.size (w.heap.size+1) (vS (f.take k) t)) (fun iv _=>f.length - (Go.RowKit.intOf iv).toNat)
 case atStart=>exact⟨0,by omega,rfl,by simpa [vS] using HA.out⟩
 case round =>
  obtain⟨k,hk,rfl,hA⟩:=hrel
  have HK:=Lib.hid hA
  by_cases hlt:k < f.length
  ·obtain⟨c,hc⟩:∃ c,f[k]?=some c:=⟨_,List.getElem?_eq_getElem (by omega)⟩
   obtain⟨hu,_,a',cap',e',h0 | ⟨b,off,e2,hbl,_,hcells⟩⟩:=hA.cv
   ·rw [h0] at hlt;simp at hlt
   ·simp only [Value.slice.injEq,true_and] at e'
    obtain⟨rfl,rfl⟩:=e'
    subst e2
    obtain⟨c0,c1,c2⟩:=hcells k c hc
    have hUc:=hu c (List.mem_of_getElem? hc)
    have hoc:=HO.out c (List.mem_of_getElem? hc)
    have hS:vS (f.take (k+1)) t=vS (f.take k) t+vC c t:=by
     rw [List.take_add_one,hc,vS_append];simp [vS,hoc]
    have HS:=Lib.hid hS
    have hAu:=hu
    obtain⟨F,L,R⟩:=c
    dsimp only at c0 c1 c2 hUc
    clear hcells hu hS hA hc
    have hS0:0≤vS (f.take k) t∧vS (f.take k) t+vC (F,L,R) t < 340282366920938463463374607431768211456∧0≤vC (F,L,R) t:=by
     have b1:=vS_bd (l:=f.take k) (t:=t) (fun c hc=>⟨(hAu c (List.mem_of_mem_take hc)).1.1,(hAu c (List.mem_of_mem_take hc)).2.1.1,(hAu c (List.mem_of_mem_take hc)).2.2.1⟩) ht.1 ht.2
     have b2:=vC_bd (c:=(F,L,R)) hoc hUc.1.1 hUc.2.1.1 hUc.2.2.1 ht.1 ht.2
     have b3:(f.take k).length≤1000000:=by rw [List.length_take];omega
     omega
    clear hAu
    go_wp2_with fail
    obtain⟨n,hn⟩:∃ n,min t L=n:=⟨_,rfl⟩
    obtain⟨S,hS⟩:∃ S,vS (f.take k) t=S:=⟨_,rfl⟩
    have hv:vC (F,L,R) t=F*n+R*(t - n):=by rw [← hn];rfl
    have t0:=ht.1;have t1:=ht.2;have l0:=hUc.2.1.1;have l1:=hUc.2.1.2
    have un:U n:=by unfold U;omega
    have ud:U (t - n):=by unfold U;omega
    have hw:IntKind.u64.wrap (t - n)=t - n:=wrap_u ud
    have hp0:=Int.mul_nonneg hUc.1.1 un.1
    have hp1:=Int.mul_nonneg hUc.2.2.1 ud.1
    rw [hS,hv] at hS0
    rw [hS] at HK
    have cm1:=fun W=>mul_any F n W hUc.1 un
    have cm2:=fun W=>mul_any R (t - n) W hUc.2.2 ud
    have cp1:=fun W=>splus_any (F*n) (R*(t - n)) W hp0 hp1 (by omega)
    have cp2:=fun W=>splus_any S (F*n+R*(t - n)) W hS0.1 (by omega) hS0.2.1
    have H4:=Lib.hid (show S+(F*n+R*(t - n))=vS (f.take k) t+vC (F,L,R) t by rw [hS,hv])
    have hsum:=HK.out.sum
    clear hv hS0 hp0 hp1
    obtain⟨T,hT⟩:∃ T,S+(F*n+R*(t - n))=T:=⟨_,rfl⟩
    rw [hT] at cp2 H4
    obtain⟨x4,hx4⟩:∃ x,hiW T=x:=⟨_,rfl⟩
    obtain⟨y4,hy4⟩:∃ x,loW T=x:=⟨_,rfl⟩
    rw [hx4,hy4] at cp2
    generalize hiW (F*n+R*(t - n))=x3 at cp1 cp2
    generalize loW (F*n+R*(t - n))=y3 at cp1 cp2
    generalize hiW (F*n)=x1 at cm1 cp1
    generalize loW (F*n)=y1 at cm1 cp1
    generalize hiW (R*(t - n))=x2 at cm2 cp1
    generalize loW (R*(t - n))=y2 at cm2 cp1
    generalize hiW S=x0 at cp2 hsum
    generalize loW S=y0 at cp2 hsum
    have hsum':=hsum.alloc (.cells #[.int .u64 F,.int .u64 L,.int .u64 R] 30)
    have hcur:=Blk.new wr 30 #[.int .u64 F,.int .u64 L,.int .u64 R]
    have s0:=hsum'.cell 0;have s1:=hsum'.cell 1
    have q0:=hcur.cell 0;have q2:=hcur.cell 2
    have ls:=hsum'.lt;have lc:=hcur.lt
    simp only [lTA,lCZ,lCS] at s0 s1 q0 q2
    generalize hW0:wr.alloc (.cells #[.int .u64 F,.int .u64 L,.int .u64 R] 30)=W0 at *
    have o0:=fun e=>(over_cell (w:=W0) (e:=e) ls).trans s0
    have o1:=fun e=>(over_cell (w:=W0) (e:=e) ls).trans s1
    have o2:=fun e=>(over_cell (w:=W0) (e:=e) lc).trans q0
    have o3:=fun e=>(over_cell (w:=W0) (e:=e) lc).trans q2
    have M1:=Lib.hid cm1;have M2:=Lib.hid cm2;have P1:=Lib.hid cp1;have P2:=Lib.hid cp2
    have HX:=Lib.hid hx4;have HY:=Lib.hid hy4;have HSU:=Lib.hid hsum'
    clear cm1 cm2 cp1 cp2 hx4 hy4 hT hsum hsum' hcur s0 s1 q0 q2 c0 c1 c2
    refine wp_region_over_tail 13 (by kernel_rfl) (by kernel_rfl) ?_
    simp only [List.take_succ_cons,List.take_zero,List.drop_succ_cons,List.drop_zero]
    repeat (first | go_big_quiet_skip | (go_big_quiet_want;go_big_quiet_op;first | go_big_quiet_on | (apply Exists.intro;refine⟨fun e=>?_,?_⟩;(focus (first | (go_at_call 201;with_reducible exact calls_over (M1.out _)) | (go_at_call 201;with_reducible exact calls_over (M2.out _)) | (go_at_call 200;with_reducible exact calls_over (P1.out _)) | (go_at_call 200;with_reducible exact calls_over (P2.out _))));go_big_quiet_on)))
    refine wpQuiet_nil ?_
    rintro W2 ⟨e2,he2⟩
    have hb2:=over_below W0 e2
    rw [← he2] at hb2
    clear he2 o0 o1 o2 o3
    have hsu2:=HSU.out.below hb2 ls
    have d0:=hsu2.cell 0;have d1:=hsu2.cell 1
    have z0:=hsu2.frozen 0;have z1:=hsu2.frozen 1
    simp only [lTA,lCZ,lCS] at d0 d1
    have hbw:Below wr.heap.size wr W2:=by
     rw [← hW0] at hb2
     exact ((Below.refl wr.heap.size wr).alloc (Nat.le_refl _) _).trans (hb2.mono (by simp))
    have HB2:=Lib.hid hbw;have HS2:=Lib.hid hsu2
    clear hb2 hbw hsu2
    go_wp2
    go_roundw
    case measure=>simp [Go.RowKit.intOf];omega
    case rel =>
     have hg:=(grown_setC W2 (w.heap.size+1) 0 (.int .u64 x4)).trans (grown_setC _ (w.heap.size+1) 1 (.int .u64 y4))
     have hh:=HK.out
     have hsum3:=(HS2.out.set_ 0 (.int .u64 x4)).set_ 1 (.int .u64 y4)
     have hbel:=hh.below
     have hsz:=hbel.size
     have hsz2:=HB2.out.size
     (repeat apply Exists.intro)
     refine⟨(show k+1≤f.length by omega),by go_num,?_⟩
     refine⟨(hh.cv.later HB2.out).grown hg (fun k e=>by have:=hh.own k e;simp;omega),(hh.res.below HB2.out hh.res.lt).grown hg (by simp),?_,(hbel.trans (HB2.out.mono hsz)).grown hg (by omega) (fun k e=>by cases e;omega),hh.hr,hh.hs,hh.ne,hh.own⟩
     rw [HS.out,← H4.out,HX.out,HY.out]
     simpa using hsum3
  ·obtain rfl:k=f.length:=by omega
   rw [List.take_length] at HK
   have r0:=HK.out.sum.cell 0;have r1:=HK.out.sum.cell 1
   have q0:=HK.out.res.cell 0;have q1:=HK.out.res.cell 1
   have z0:=HK.out.res.frozen 0;have z1:=HK.out.res.frozen 1
   simp only [lTA,lCZ,lCS] at r0 r1 q0 q1
   obtain⟨x,hx⟩:∃ x,hiW (vS f t)=x:=⟨_,rfl⟩
   obtain⟨y,hy⟩:∃ y,loW (vS f t)=y:=⟨_,rfl⟩
   rw [hx] at r0
   rw [hy] at r1
   have HX:=Lib.hid hx;have HY:=Lib.hid hy
   clear hA hx hy
   go_wp2_with fail
   have hF:=(HK.out.res.set_ 0 (.int .u64 x)).set_ 1 (.int .u64 y)
   have d0:=hF.cell 0;have d1:=hF.cell 1
   simp at d0 d1
   refine bodyPost_ret (v:=.agg #[.int .u64 x,.int .u64 y]) (by simp only [results,Tryz.results192];simp [go_sem,d0,d1]) rfl ⟨by rw [HX.out,HY.out],?_⟩
   exact ((HK.out.below.setCell (by simp) _).setCell (by simp) _)
end
end Go.Proofs.YtmmeopjemkjllaaGreat
