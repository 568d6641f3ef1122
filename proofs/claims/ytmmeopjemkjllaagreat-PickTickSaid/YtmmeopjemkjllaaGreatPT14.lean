/- Lemmas of the claim. No conditions beyond those that each states. -/
import Derived.Test.YtmmeopjemkjllaaGreatPT13
import Derived.Shelf.SlGeneric
import Derived.Shelf.SlicesE.Clone
import Derived.Test.YtmmeopjemkjllaaGreatPT3
import Derived.Lib.SliceRun
import Derived.Lib.SmallJoins
import Derived.Maps.AppendAt
import Derived.Deep.AppendLies
import Derived.Maps.OwnSet
import Derived.Maps.OwnOps
import Derived.Maps.Ext
import Derived.Lib.SlKeysI
set_option linter.unusedVariables false
set_option linter.unusedSimpArgs false
set_option maxRecDepth 100000
set_option maxHeartbeats 8000000
namespace Go.Proofs.YtmmeopjemkjllaaGreat
section
abbrev Cv:=Int × Int × Int
def okC (c:Cv):Bool:=mayB c.1 c.2.1 c.2.2
def vC (c:Cv)(t:Int):Int:=W c.1 c.2.1 c.2.2 t
def NN (l:List Cv):Prop:=∀ c∈l,0≤c.1∧0≤c.2.1∧0≤c.2.2
def vS:List Cv→Int→Int
 | [],_=>0
 | c :: l,t=>(if okC c then vC c t else 0)+vS l t
theorem vS_append (a b:List Cv)(t:Int):vS (a ++ b) t=vS a t+vS b t:=by
 induction a with
 | nil=>simp [vS]
 | cons c a ih=>simp only [List.cons_append,vS,ih];omega
theorem vS_filter (l:List Cv)(t:Int):vS (l.filter okC) t=vS l t:=by
 induction l with
 | nil=>rfl
 | cons c l ih =>
  by_cases h:okC c
  ·rw [List.filter_cons_of_pos h];simp only [vS,ih]
  ·rw [List.filter_cons_of_neg h];simp only [vS,ih,h];simp
theorem W_lineS {F L R a b:Int} (h:L≤a∨b≤L):∃ A B:Int,∀ t,a≤t→t≤b→W F L R t=A+B*t:=by
 rcases h with h | h
 ·refine⟨F*L - R*L,R,fun t h1 h2=>?_⟩
  unfold W;rw [Int.min_eq_right (by omega),Int.mul_sub];omega
 ·refine⟨0,F,fun t h1 h2=>?_⟩
  unfold W;rw [Int.min_eq_left (by omega),Int.sub_self,Int.mul_zero];omega
def Lt (l:List Cv)(r t:Int):Prop:=r*t < vS l t
instance (l:List Cv)(r t:Int):Decidable (Lt l r t):=inferInstanceAs (Decidable (_ < _))
structure IsCorn (l : List Cv) (k : List Int) : Prop where
  up : (0 :: k).Pairwise (· < ·)
  mem : ∀ n, n ∈ k ↔ ∃ c ∈ l, okC c = true ∧ c.2.1 ≠ 0 ∧ c.2.1 = n
theorem okC_L {c:Cv} (h:okC c=true):c.2.1≤1099511627776:=by
 unfold okC mayB at h
 simp only [Bool.and_eq_true,decide_eq_true_eq] at h
 exact h.1.2
theorem IsCorn.le {l:List Cv} {k:List Int} (h:IsCorn l k):∀ x∈0 :: k,0≤x∧x≤1099511627776:=by
 intro x hx
 rcases List.mem_cons.1 hx with e | e
 ·omega
 ·obtain⟨c,hc,ho,_,e'⟩:=(h.mem x).1 e
  have h1:=okC_L ho
  have:=(List.pairwise_cons.1 h.up).1 x e
  omega
theorem okC_may {c:Cv} (h:okC c=true):c.1≤1048576∧c.2.2≤1048576:=by
 unfold okC mayB at h
 simp only [Bool.and_eq_true,decide_eq_true_eq] at h
 exact h.1.1
def Under (a b:Cv):Prop:=∀ t,0≤t→vC a t≤vC b t
theorem seg {a b:Cv} {x y t:Int} (ga:a.2.1≤x∨y≤a.2.1)(gb:b.2.1≤x∨y≤b.2.1)(hx:vC a x≤vC b x)(hy:vC a y≤vC b y)(h1:x≤t)(h2:t≤y):vC a t≤vC b t:=by
 obtain⟨A,B,ha⟩:=W_lineS (F:=a.1) (R:=a.2.2) ga
 obtain⟨C,D,hb⟩:=W_lineS (F:=b.1) (R:=b.2.2) gb
 unfold vC at *
 rw [ha x (by omega) (by omega),hb x (by omega) (by omega)] at hx
 rw [ha y (by omega) (by omega),hb y (by omega) (by omega)] at hy
 rw [ha t h1 h2,hb t h1 h2]
 by_cases c:B≤D
 ·have:=Int.mul_nonneg (show 0≤D - B by omega) (show 0≤t - x by omega)
  rw [Int.sub_mul,Int.mul_sub,Int.mul_sub] at this
  omega
 ·have:=Int.mul_nonneg (show 0≤B - D by omega) (show 0≤y - t by omega)
  rw [Int.sub_mul,Int.mul_sub,Int.mul_sub] at this
  omega
theorem vC_far {c:Cv} {m t:Int} (h:c.2.1≤m)(hm:m≤t):vC c t=vC c m+c.2.2*(t - m):=by
 unfold vC W
 rw [Int.min_eq_right (by omega),Int.min_eq_right h,show t - c.2.1=(m - c.2.1)+(t - m) by omega,Int.mul_add];omega
theorem vC_zero {c:Cv} (h:0≤c.2.1):vC c 0=0:=by unfold vC W;rw [Int.min_eq_left h];simp
theorem under_of {a b:Cv} (ha:0≤a.2.1)(hb:0≤b.2.1)(hR:a.2.2≤b.2.2)(h1:vC a a.2.1≤vC b a.2.1)(h2:vC a b.2.1≤vC b b.2.1):Under a b:=by
 intro t ht
 have h0:vC a 0≤vC b 0:=by rw [vC_zero ha,vC_zero hb];omega
 have far:∀ m,a.2.1≤m→b.2.1≤m→vC a m≤vC b m→m≤t→vC a t≤vC b t:=fun m k1 k2 k3 k4=>by
  rw [vC_far k1 k4,vC_far k2 k4]
  have:=Int.mul_le_mul_of_nonneg_right hR (show 0≤t - m by omega)
  omega
 by_cases c:a.2.1≤b.2.1
 ·by_cases c1:t≤a.2.1
  ·exact seg (x:=0) (.inr (Int.le_refl _)) (.inr c) h0 h1 ht c1
  ·by_cases c2:t≤b.2.1
   ·exact seg (.inl (Int.le_refl _)) (.inr (Int.le_refl _)) h1 h2 (by omega) c2
   ·exact far _ c (Int.le_refl _) h2 (by omega)
 ·by_cases c1:t≤b.2.1
  ·exact seg (x:=0) (.inr (by omega)) (.inr (Int.le_refl _)) h0 h2 ht c1
  ·by_cases c2:t≤a.2.1
   ·exact seg (.inr (Int.le_refl _)) (.inl (Int.le_refl _)) h2 h1 (by omega) c2
   ·exact far _ (Int.le_refl _) (by omega) h1 (by omega)
theorem okC_nn_top {c:Cv} (h:okC c=true)(_:0≤c.1)(h1:0≤c.2.1)(_:0≤c.2.2):vC c 1099511627776≤1152921504606846976:=by
 have hL:=okC_L h
 have hm:=okC_may h
 unfold vC W
 rw [Int.min_eq_right hL]
 have a1:=Int.mul_le_mul_of_nonneg_right hm.1 h1
 have a2:=Int.mul_le_mul_of_nonneg_right hm.2 (show 0≤1099511627776 - c.2.1 by omega)
 omega
theorem under_rest {a b:Cv} (oa:okC a=true)(ob:okC b=true)(na:0≤a.1∧0≤a.2.1∧0≤a.2.2)(nb:0≤b.1∧0≤b.2.1∧0≤b.2.2)
  (h:vC a 9223372036854775807≤vC b 9223372036854775807):a.2.2≤b.2.2:=by
 have h1:=vC_far (c:=a) (m:=1099511627776) (t:=9223372036854775807) (okC_L oa) (by decide)
 have h2:=vC_far (c:=b) (m:=1099511627776) (t:=9223372036854775807) (okC_L ob) (by decide)
 have h3:=okC_nn_top ob nb.1 nb.2.1 nb.2.2
 have h4:0≤vC a 1099511627776:=by
  unfold vC W
  have a1:=Int.mul_nonneg na.1 (show 0≤min 1099511627776 a.2.1 by omega)
  have a2:=Int.mul_nonneg na.2.2 (show 0≤1099511627776 - min 1099511627776 a.2.1 by omega)
  omega
 omega
end
section
open Go.RowKit
def cvC (c:Cv):List Value:=[.int .u64 c.1,.int .u64 c.2.1,.int .u64 c.2.2]
def cvV (c:Cv):Value:=.agg #[.int .u64 c.1,.int .u64 c.2.1,.int .u64 c.2.2]
def cvCells (l:List Cv):List Value:=l.flatMap cvC
theorem cvCells_cons (c:Cv)(l:List Cv):cvCells (c :: l)=.int .u64 c.1 :: .int .u64 c.2.1 :: .int .u64 c.2.2 :: cvCells l:=rfl
theorem cvCells_length (l:List Cv):(cvCells l).length=l.length*3:=by
 induction l with
 | nil=>rfl
 | cons c l ih=>rw [cvCells_cons];simp only [List.length_cons,ih];omega
theorem cvCells_get:∀ (l:List Cv)(i:Nat)(c:Cv),l[i]?=some c →
  (cvCells l)[i*3]?=some (.int .u64 c.1)∧(cvCells l)[i*3+1]?=some (.int .u64 c.2.1)∧(cvCells l)[i*3+2]?=some (.int .u64 c.2.2)
 | [],i,c,h=>by simp at h
 | d :: l,0,c,h=>by
  simp at h;subst h
  rw [cvCells_cons]
  exact⟨rfl,rfl,rfl⟩
 | d :: l,i+1,c,h=>by
  have:=cvCells_get l i c (by simpa using h)
  rw [cvCells_cons,show (i+1)*3=i*3+1+1+1 by omega]
  simpa using this
theorem cvCells_set:∀ (l:List Cv)(i:Nat)(c:Cv),i < l.length →
  (((cvCells l).set (i*3) (.int .u64 c.1)).set (i*3+1) (.int .u64 c.2.1)).set (i*3+2) (.int .u64 c.2.2)=cvCells (l.set i c)
 | [],i,c,h=>by simp at h
 | d :: l,0,c,h=>by rw [cvCells_cons];rfl
 | d :: l,i+1,c,h=>by
  have:=cvCells_set l i c (by simpa using h)
  rw [List.set_cons_succ,cvCells_cons,cvCells_cons,show (i+1)*3=i*3+1+1+1 by omega]
  simpa using this
theorem cvCells_one (l:List Cv):∀ u∈cvCells l,u.oneCell'=true:=by
 intro u hu
 obtain⟨c,_,h⟩:=List.mem_flatMap.1 hu
 simp only [cvC,List.mem_cons,List.not_mem_nil,or_false] at h
 rcases h with rfl | rfl | rfl <;> rfl
def UU (l:List Cv):Prop:=∀ c∈l,U c.1∧U c.2.1∧U c.2.2
def CvAt (w:World)(v:Value)(l:List Cv):Prop :=
 UU l∧l.length≤1000000∧∃ a cap,v=.slice a l.length cap∧(l=[]∨∃ b off,a=some ⟨b,off,none⟩∧b < w.heap.size∧l.length≤cap∧∀ i c,l[i]?=some c →
  w.cell? ⟨b,off+i*3,none⟩=some (.int .u64 c.1)∧w.cell? ⟨b,off+i*3+1,none⟩=some (.int .u64 c.2.1)∧w.cell? ⟨b,off+i*3+2,none⟩=some (.int .u64 c.2.2))
theorem CvAt.later {w w':World} {v:Value} {l:List Cv} (h:CvAt w v l)(hb:Below w.heap.size w w'):CvAt w' v l:=by
 obtain⟨h1,h2,a,cap,e,h3⟩:=h
 refine⟨h1,h2,a,cap,e,?_⟩
 rcases h3 with h3 | ⟨b,off,e,hl,hcap,hc⟩
 ·exact .inl h3
 ·refine .inr ⟨b,off,e,Nat.lt_of_lt_of_le hl hb.size,hcap,fun i q hq=>?_⟩
  obtain⟨c0,c1,c2⟩:=hc i q hq
  exact⟨(hb.cell (p:=⟨b,_,none⟩) hl).trans c0,(hb.cell (p:=⟨b,_,none⟩) hl).trans c1,(hb.cell (p:=⟨b,_,none⟩) hl).trans c2⟩
theorem CvAt.grown {w w':World} {v:Value} {l:List Cv} {row:Option Nat} (h:CvAt w v l)(hg:w.grownBy w' row)(hne:∀ k,v.ownBlock=some k→some k≠row):CvAt w' v l:=by
 obtain⟨h1,h2,a,cap,e,h3⟩:=h
 refine⟨h1,h2,a,cap,e,?_⟩
 rcases h3 with h3 | ⟨b,off,e2,hl,hcap,hc⟩
 ·exact .inl h3
 ·subst e2;subst e
  refine .inr ⟨b,off,rfl,Nat.lt_of_lt_of_le hl hg.size,hcap,fun i q hq=>?_⟩
  obtain⟨c0,c1,c2⟩:=hc i q hq
  have hb:=hne b rfl
  exact⟨(hg.cell_far ⟨b,_,none⟩ hl hb).trans c0,(hg.cell_far ⟨b,_,none⟩ hl hb).trans c1,(hg.cell_far ⟨b,_,none⟩ hl hb).trans c2⟩
theorem CvAt.of_row {w:World} {base g cap:Nat} {l:List Cv} (h:w.ownsRow base 30 3 (.slice (some ⟨g,0,none⟩) l.length cap) l.length (cvCells l))(hu:UU l)(hl:l.length≤1000000):CvAt w (.slice (some ⟨g,0,none⟩) l.length cap) l:=by
 have hlt:=(h.lt g rfl).2
 have hcap:l.length≤cap:=by
  rcases h.2 with ⟨h',_⟩ | ⟨g',cap',cur,h',_,_,hn,_⟩
  ·simp at h'
  ·simp only [Value.slice.injEq,Option.some.injEq,Addr.mk.injEq,and_true,true_and] at h'
   obtain⟨_,rfl⟩:=h'
   exact hn
 refine⟨hu,hl,_,_,rfl,.inr ⟨g,0,rfl,hlt,hcap,fun i c hc=>?_⟩⟩
 have hi:i < l.length:=(List.getElem?_eq_some_iff.1 hc).1
 obtain⟨c0,c1,c2⟩:=cvCells_get l i c hc
 rw [Nat.zero_add]
 exact⟨(h.cellAt _ (by omega)).trans c0,(h.cellAt _ (by omega)).trans c1,(h.cellAt _ (by omega)).trans c2⟩
theorem ent_may1:∀ args w,(callFunc 206 args).run Tryz.prog w=.ok (.enter 206 args) w:=enters_of Tryz.func206 (by kernel_rfl) rfl
theorem may1_any (c:Cv)(w:World)(h:0≤c.2.1) :
  Calls Tryz.prog 206 #[cvV c] w fun e w'=>e=.returned (.bool (!okC c))∧Below w.heap.size w w':=by
 obtain⟨F,L,R⟩:=c
 unfold cvV okC
 dsimp only at h ⊢
 go_enter Tryz.func206,Tryz.ntmps206
 go_wp2_with fail
 refine (may_any F L R _ h).mono ?_
 rintro e w1 ⟨rfl,hb1⟩
 have hb:=((Below.refl w.heap.size w).alloc (Nat.le_refl _) (.cells #[.int .u64 F,.int .u64 L,.int .u64 R] 30)).trans (hb1.mono (by simp))
 have HB:=Lib.hid hb
 clear hb hb1
 cases hm:mayB F L R <;>
 ·go_wp2_with fail
  go_ret
  exact⟨by rw [hm];rfl,HB.out⟩
theorem idx_any (a:Option Addr)(cap:Nat)(l:List Cv)(w:World)(h:CvAt w (.slice a l.length cap) l) :
  Calls Tryz.prog 212 #[.slice a l.length cap,.func (.func 206) #[] #[]] w fun e w' =>
   ∃ z,e=.returned (.int .i64 z)∧((z=-1∧∀ c∈l,okC c=true)∨∃ (k:Nat)(c:Cv),z=k∧l[k]?=some c∧okC c=false∧∀ c∈l.take k,okC c=true)∧Below w.heap.size w w':=by
 have hl2:=h.2.1
 have eg:=ent_may1
 have H:=Lib.hid h
 clear h
 go_enter Tryz.func212,Tryz.ntmps212
 go_wp2_with fail
 go_loopw [8] (fun iv W=>∃ k:Nat,k≤l.length∧iv=.int .i64 k∧Below w.heap.size w W∧∀ c∈l.take k,okC c=true) (fun iv _=>l.length - (Go.RowKit.intOf iv).toNat)
 case atStart=>exact⟨0,by omega,rfl,by go_grown,by simp⟩
 case round =>
  obtain⟨k,hk,rfl,hb,hA⟩:=hrel
  have HA:=Lib.hid hA
  have HB:=Lib.hid hb
  clear hA
  by_cases hlt:k < l.length
  ·obtain⟨c,hc⟩:∃ c,l[k]?=some c:=⟨_,List.getElem?_eq_getElem (by omega)⟩
   obtain⟨hu,_,a',cap',e',h0 | ⟨b,off,e2,hbl,_,hcells⟩⟩:=H.out.later hb
   ·rw [h0] at hlt;simp at hlt
   ·simp only [Value.slice.injEq,true_and] at e'
    obtain⟨rfl,rfl⟩:=e'
    subst e2
    obtain⟨c0,c1,c2⟩:=hcells k c hc
    have hL:=(hu c (List.mem_of_getElem? hc)).2.1.1
    have HC:=Lib.hid hc
    clear hcells hu hbl hb hc
    have hcall:=may1_any c wr hL
    unfold cvV at hcall
    obtain⟨ob,hob⟩:∃ ob,okC c=ob:=⟨_,rfl⟩
    have HO:=Lib.hid hob
    rw [hob] at hcall
    clear hob
    obtain⟨F,L,R⟩:=c
    dsimp only at c0 c1 c2 hcall hL
    cases ob
    ·go_wp2_with (go_at_fn 206;refine hcall.mono ?_;rintro e w' ⟨rfl,hb'⟩)
     go_ret
     exact⟨_,rfl,.inr ⟨k,_,rfl,HC.out,HO.out,HA.out⟩,HB.out.trans (hb'.mono HB.out.size)⟩
    ·go_wp2_with (go_at_fn 206;refine hcall.mono ?_;rintro e w' ⟨rfl,hb'⟩)
     go_roundw
     case measure=>simp [Go.RowKit.intOf];omega
     case rel =>
      refine⟨k+1,by omega,by go_num,HB.out.trans (hb'.mono HB.out.size),fun x hx=>?_⟩
      rw [List.take_add_one,HC.out] at hx
      rcases List.mem_append.1 hx with hx | hx
      ·exact HA.out x hx
      ·simp at hx;rw [hx];exact HO.out
  ·obtain rfl:k=l.length:=by omega
   clear hb
   go_wp2_with fail
   go_ret
   exact⟨_,rfl,.inl ⟨rfl,fun c hc=>HA.out c (by rw [List.take_length];exact hc)⟩,HB.out⟩
theorem grown_none {w w':World} (h:Below w.heap.size w w'):w.grownBy w' none:=⟨h.os,h.tape,h.output,h.size,fun k hk _=>h.block k hk⟩
theorem grown_setC (w:World)(g o:Nat)(u:Value):w.grownBy (w.setCell ⟨g,o,none⟩ u) (some g) :=
 ⟨rfl,rfl,rfl,by simp,fun k _ hk=>heap_setCell_other w ⟨g,o,none⟩ k u (fun e=>hk (by simp [e]))⟩
theorem setCells_grown (b:Nat):∀ (vs:List Value)(w:World)(o:Nat),w.grownBy (w.setCells b o vs) (some b)
 | [],w,o=>World.grownBy.refl w _
 | v :: vs,w,o=>by
  rw [World.setCells]
  exact (grown_setC w b o v).trans (setCells_grown b vs (w.setCell ⟨b,o,none⟩ v) (o+1))
theorem run_clear_cv (w:World)(ty:TypeId)(b o n c:Nat)(hn:0 < n)(hc:∀ j,j < n*3→(w.cell? ⟨b,o+j,none⟩).isSome=true)(hf:∀ j,j < n*3→w.frozen? ⟨b,o+j,none⟩=false) :
  (Builtin.clear_ #[22] ty #[.slice (some ⟨b,o,none⟩) n c]).run Tryz.prog w=.ok (.tuple #[]) (w.setCells b o (List.replicate (n*3) (.int .u64 0))):=by
 have hzc:(Builtin.zeroCells #[.int .u64 0,.int .u64 0,.int .u64 0] n).toList=List.replicate (n*3) (.int .u64 0):=by
  apply List.ext_getElem
  ·simp [Builtin.zeroCells]
  ·intro i h1 h2
   have:i % 3 < 3:=Nat.mod_lt _ (by omega)
   simp [Builtin.zeroCells]
   rcases (show i % 3=0∨i % 3=1∨i % 3=2 by omega) with e | e | e <;> rw [e] <;> rfl
 have hst:=run_storeCells_cells (P:=Tryz.prog) b o (List.replicate (n*3) (.int .u64 0)) 0 w (by simpa using hc) (by simpa using hf) (by intro v hv';rw [List.eq_of_mem_replicate hv'];rfl)
 simp only [Nat.add_zero] at hst
 obtain⟨m,rfl⟩:∃ m,n=m+1:=⟨n - 1,by omega⟩
 simp [Builtin.clear_,run_underlying Tryz.underlying22,Tryz.zeroValue30,Value.cells,hzc,hst]
structure DelAt (wr:World)(base g cap:Nat)(l:List Cv)(j i:Nat)(r:List Cv):Prop where
 row:wr.ownsRow base 30 3 (.slice (some ⟨g,0,none⟩) l.length cap) l.length (cvCells r)
 len:r.length=l.length
 lt:i < j
 kept:r.take i=(l.take j).filter okC
 rest:∀ m,j≤m→r[m]?=l[m]?
theorem DelAt.later {wr wr':World} {base g cap j i:Nat} {l r:List Cv} (h:DelAt wr base g cap l j i r)(hb:Below wr.heap.size wr wr'):DelAt wr' base g cap l j i r :=
 ⟨h.row.kept (grown_none hb) (.inr (by simp [Value.ownBlock])),h.len,h.lt,h.kept,h.rest⟩
theorem DelAt.skip {wr:World} {base g cap j i:Nat} {l r:List Cv} {c:Cv} (h:DelAt wr base g cap l j i r)(hc:l[j]?=some c)(ho:okC c=false):DelAt wr base g cap l (j+1) i r :=
 ⟨h.row,h.len,by have:=h.lt;omega,by rw [h.kept,List.take_add_one,hc,List.filter_append];simp [ho],fun m hm=>h.rest m (by omega)⟩
theorem DelAt.keep {wr wr':World} {base g cap j i:Nat} {l r:List Cv} {c:Cv} (h:DelAt wr base g cap l j i r)(hc:l[j]?=some c)(ho:okC c=true)
  (hrow:wr'.ownsRow base 30 3 (.slice (some ⟨g,0,none⟩) l.length cap) l.length (cvCells (r.set i c))):DelAt wr' base g cap l (j+1) (i+1) (r.set i c):=by
 have hj:j < l.length:=(List.getElem?_eq_some_iff.1 hc).1
 have hi:=h.lt
 have hr:=h.len
 refine⟨hrow,by rw [List.length_set];exact h.len,by omega,?_,fun m hm=>?_⟩
 ·rw [List.take_add_one,List.getElem?_set,if_pos rfl,if_pos (by omega),List.take_set_of_le (by omega),h.kept,List.take_add_one,hc,List.filter_append]
  simp [ho]
 ·rw [List.getElem?_set,if_neg (by omega)]
  exact h.rest m (by omega)
theorem del_any (base g cap:Nat)(l:List Cv)(w:World)(hr:w.ownsRow base 30 3 (.slice (some ⟨g,0,none⟩) l.length cap) l.length (cvCells l))(hu:UU l)(hl:l.length≤1000000) :
  Calls Tryz.prog 204 #[.slice (some ⟨g,0,none⟩) l.length cap,.func (.func 206) #[] #[]] w fun e w' =>
   ∃ v,e=.returned v∧(CvAt w' v (l.filter okC)∧∀ k,v.ownBlock=some k→base≤k)∧Below base w w':=by
 have eg:=ent_may1
 have hbg:base≤g∧g < w.heap.size:=hr.lt g rfl
 have HR:=Lib.hid hr
 have HU:=Lib.hid hu
 clear hr hu
 have hix:=idx_any (some ⟨g,0,none⟩) cap l w (CvAt.of_row HR.out HU.out hl)
 go_enter Tryz.func204,Tryz.ntmps204
 go_wp2_with fail
 refine hix.mono ?_
 clear hix
 rintro e w1 ⟨z,rfl,hcase,hb1⟩
 have hb1':=hb1.mono (show base≤w.heap.size by omega)
 have hR1:=HR.out.kept (grown_none hb1) (.inr (by simp [Value.ownBlock]))
 rcases hcase with ⟨rfl,hall⟩ | ⟨k,c,rfl,hc,ho,hall⟩
 ·have hf:l.filter okC=l:=List.filter_eq_self.2 hall
  have HF:=Lib.hid hf
  have HA:=Lib.hid hR1
  clear hall hf hR1
  go_wp2_with fail
  go_ret
  refine⟨.slice (some ⟨g,0,none⟩) l.length cap,rfl,⟨?_,fun k e=>by cases e;exact hbg.1⟩,hb1'⟩
  rw [HF.out]
  exact CvAt.of_row HA.out HU.out hl
 ·have hk:k < l.length:=(List.getElem?_eq_some_iff.1 hc).1
  have hD:DelAt w1 base g cap l (k+1) k l:=⟨hR1,rfl,by omega,by rw [List.take_add_one,hc,List.filter_append,List.filter_eq_self.2 hall];simp [ho],fun m _=>rfl⟩
  have HD:=Lib.hid hD
  have HB:=Lib.hid hb1'
  clear hR1 hall hc ho hD hb1 hb1'
  go_wp2_with fail
  go_loopw [5,6] (fun iv jv W=>∃ i j r,j≤l.length∧iv=.int .i64 (i:Nat)∧jv=.int .i64 (j:Nat)∧DelAt W base g cap l j i r∧Below base w W) (fun _ jv _=>l.length - (Go.RowKit.intOf jv).toNat)
  case atStart=>exact⟨k,k+1,l,by omega,rfl,by go_num,HD.out,HB.out⟩
  case round =>
   obtain⟨i,j,r,hj,rfl,rfl,hD,hb⟩:=hrel
   have hij:=hD.lt
   have hrl:=hD.len
   have HD2:=Lib.hid hD
   have HB2:=Lib.hid hb
   by_cases hlt:j < l.length
   ·obtain⟨c,hc⟩:∃ c,l[j]?=some c:=⟨_,List.getElem?_eq_getElem (by omega)⟩
    obtain⟨c0,c1,c2⟩:=cvCells_get r j c ((hD.rest j (Nat.le_refl _)).trans hc)
    rw [← hD.row.cellAt _ (by omega)] at c0 c1 c2
    have hL:=(HU.out c (List.mem_of_getElem? hc)).2.1.1
    have HC:=Lib.hid hc
    clear hD hb hc
    obtain⟨F,L,R⟩:=c
    dsimp only at c0 c1 c2 hL
    have hcall:=may1_any (F,L,R) (wr.alloc (.cells #[.int .u64 F,.int .u64 L,.int .u64 R] 30)) hL
    unfold cvV at hcall
    dsimp only at hcall
    obtain⟨ob,hob⟩:∃ ob,okC (F,L,R)=ob:=⟨_,rfl⟩
    have HO:=Lib.hid hob
    rw [hob] at hcall
    clear hob
    go_wp2_with fail
    go_at_fn 206
    refine hcall.mono ?_
    rintro e w2 ⟨rfl,hb2⟩
    have hbw:=((Below.refl wr.heap.size wr).alloc (Nat.le_refl _) (.cells #[.int .u64 F,.int .u64 L,.int .u64 R] 30)).trans (hb2.mono (by simp))
    have hv:=(Blk.new wr 30 #[.int .u64 F,.int .u64 L,.int .u64 R]).below hb2 (by simp)
    have hD2:=HD2.out.later hbw
    have HB3:=Lib.hid (HB2.out.trans (hbw.mono (HB2.out.size |> fun h=>by have:=HD2.out.row.lt g rfl;omega)))
    have v0:=hv.cell 0;have v1:=hv.cell 1;have v2:=hv.cell 2
    obtain⟨d,hd⟩:∃ d,r[i]?=some d:=⟨_,List.getElem?_eq_getElem (by omega)⟩
    obtain⟨e0,e1,e2⟩:=cvCells_get r i d hd
    rw [← hD2.row.cellAt _ (by omega)] at e0 e1 e2
    have f0:=hD2.row.frozenAt (i*3);have f1:=hD2.row.frozenAt (i*3+1);have f2:=hD2.row.frozenAt (i*3+2)
    have HD3:=Lib.hid hD2
    clear hcall hb2 hbw hv hD2 hd c0 c1 c2
    cases ob
    ·go_wp2_with fail
     go_roundw
     case measure=>simp [Go.RowKit.intOf];omega
     case rel=>(repeat apply Exists.intro);exact⟨⟨i,j+1,r,by omega,rfl,by go_num,HD3.out.skip HC.out HO.out,HB3.out⟩,rfl⟩
    ·go_wp2_with fail
     go_roundw
     case measure=>simp [Go.RowKit.intOf];omega
     case rel =>
      have s1:=HD3.out.row.stored (i*3) (.int .u64 F)
      have s2:=s1.1.stored (i*3+1) (.int .u64 L)
      have s3:=s2.1.stored (i*3+2) (.int .u64 R)
      have hset:=cvCells_set r i (F,L,R) (by omega)
      dsimp only at hset
      have hg:=(s1.2.trans s2.2).trans s3.2
      (repeat apply Exists.intro)
      exact⟨⟨i+1,j+1,r.set i (F,L,R),by omega,by go_num,by go_num,HD3.out.keep HC.out HO.out (by rw [← hset];exact s3.1),HB3.out.grown hg (by have:=HB3.out.size;omega) (fun k e=>by cases e;exact hbg.1)⟩,rfl⟩
   ·obtain rfl:j=l.length:=by omega
    have hcap:l.length≤cap:=by
     rcases hD.row.2 with ⟨h',_⟩ | ⟨g',cap',cur,h',_,_,hn,_⟩
     ·simp at h'
     ·simp only [Value.slice.injEq,Option.some.injEq,Addr.mk.injEq,and_true,true_and] at h'
      obtain⟨_,rfl⟩:=h'
      exact hn
    have hcl:∀ ty,(Builtin.clear_ #[22] ty #[.slice (some ⟨g,i*3,none⟩) (l.length - i) (cap - i)]).run Tryz.prog wr=.ok (.tuple #[]) (wr.setCells g (i*3) (List.replicate ((l.length - i)*3) (.int .u64 0))):=fun ty =>
     run_clear_cv wr ty g (i*3) (l.length - i) (cap - i) (by omega) (fun m hm=>by rw [hD.row.cellAt _ (by omega),List.getElem?_eq_getElem (by rw [cvCells_length];omega)];rfl) (fun m hm=>hD.row.frozenAt _)
    have hilz:(i:Int)≤(l.length:Int):=by omega
    clear hD hb
    go_wp2_with fail
    go_ret
    have hk:=HD2.out.kept
    rw [List.take_length] at hk
    have hkl:(l.filter okC).length=i:=by rw [← hk,List.length_take];omega
    refine⟨.slice (some ⟨g,0,none⟩) i cap,rfl,⟨⟨fun c hc=>HU.out c (List.mem_filter.1 hc).1,by have:=List.length_filter_le okC l;omega,_,cap,by rw [hkl],.inr ⟨g,0,rfl,?_,by omega,fun m c hm=>?_⟩⟩,fun k e=>by cases e;exact hbg.1⟩,?_⟩
    ·have:=(setCells_grown g (List.replicate ((l.length - i)*3) (.int .u64 0)) wr (i*3)).size
     have:=HD2.out.row.lt g rfl
     omega
    ·have hmi:m < i:=by rw [← hkl];exact (List.getElem?_eq_some_iff.1 hm).1
     rw [← hk,List.getElem?_take,if_pos hmi] at hm
     obtain⟨c0,c1,c2⟩:=cvCells_get r m c hm
     rw [← HD2.out.row.cellAt _ (by omega)] at c0 c1 c2
     rw [Nat.zero_add]
     refine⟨?_,?_,?_⟩ <;> rw [World.cell?_setCells_out _ _ _ _ _ (fun _ _=>.inl (by simp only;omega))] <;> assumption
    ·exact HB2.out.grown (setCells_grown _ _ _ _) (by have:=HB2.out.size;omega) (fun k e=>by cases e;exact hbg.1)
theorem info_curve:(Tryz.prog.info? 30).map (fun i=>(i.zero,i.size,i.bytes))=some (some (.agg #[.int .u64 0,.int .u64 0,.int .u64 0]),3,24):=by kernel_rfl
theorem cvCells_all {l:List Cv} {p:Nat→Value→Prop} (h:∀ i c,l[i]?=some c→p (i*3) (.int .u64 c.1)∧p (i*3+1) (.int .u64 c.2.1)∧p (i*3+2) (.int .u64 c.2.2)):∀ j u,(cvCells l)[j]?=some u→p j u:=by
 intro j u hj
 have hlt:j < (cvCells l).length:=(List.getElem?_eq_some_iff.1 hj).1
 rw [cvCells_length] at hlt
 obtain⟨c,hc⟩:∃ c,l[j / 3]?=some c:=⟨_,List.getElem?_eq_getElem (by omega)⟩
 obtain⟨g0,g1,g2⟩:=cvCells_get l _ c hc
 obtain⟨p0,p1,p2⟩:=h _ c hc
 rcases (show j=j / 3*3∨j=j / 3*3+1∨j=j / 3*3+2 by omega) with e | e | e
 ·rw [← e] at g0 p0;rw [hj] at g0;cases g0;exact p0
 ·rw [← e] at g1 p1;rw [hj] at g1;cases g1;exact p1
 ·rw [← e] at g2 p2;rw [hj] at g2;cases g2;exact p2
theorem clone_any (a:Option Addr)(cap:Nat)(l:List Cv)(w:World)(h:CvAt w (.slice a l.length cap) l) :
  Calls Tryz.prog 205 #[.slice a l.length cap] w fun e w' =>
   ∃ v,e=.returned v∧Below w.heap.size w w'∧((v=.slice none 0 0∧l=[])∨∃ g c,v=.slice (some ⟨g,0,none⟩) l.length c∧w'.ownsRow w.heap.size 30 3 v l.length (cvCells l)):=by
 have hl2:=h.2.1
 have q:∀ (w:World)(a:Option Addr)(n c n' c':Nat),(binOp .eql 22 (.slice a n c) (.slice none n' c')).run Tryz.prog w=.ok (.bool a.isNone) w:=fun w a n c n' c'=>Lib.run_eql_slice_nil w _ _ a n c n' c' Tryz.underlying22
 have uq:∀ w,Sem.run Tryz.prog (underlying 22) w=.ok (TypeDesc.slice 30) w:=run_underlying Tryz.underlying22
 cases a with
 | none =>
  have hl:l=[]:=by
   obtain⟨_,_,a',cap',e,h0 | ⟨b,off,rfl,_⟩⟩:=h
   ·exact h0
   ·simp at e
  clear h
  have HL:=Lib.hid hl
  clear hl
  go_enter Tryz.func205,Tryz.ntmps205
  go_wp2_with fail
  go_ret
  exact⟨_,rfl,Below.refl _ w,.inl ⟨rfl,HL.out⟩⟩
 | some a =>
  have hA:∀ j u,(cvCells l)[j]?=some u→w.cell? (a.add j)=some u∧a.block < w.heap.size:=by
   obtain⟨_,_,a',cap',e,h0 | ⟨b,off,rfl,hb,_,hc⟩⟩:=h
   ·subst h0;intro j u hj;simp [cvCells] at hj
   ·simp only [Value.slice.injEq,Option.some.injEq] at e
    obtain⟨rfl,_⟩:=e
    refine cvCells_all fun i c hi=>?_
    obtain⟨c0,c1,c2⟩:=hc i c hi
    rw [Addr.add_lit,Addr.add_lit,Addr.add_lit]
    exact⟨⟨c0,hb⟩,⟨c1,hb⟩,⟨c2,hb⟩⟩
  have HA:=Lib.hid hA
  clear hA h
  obtain⟨i0,hi0,hz0,hz1,hz2⟩:=info_parts info_curve
  go_enter Tryz.func205,Tryz.ntmps205
  go_wp2_with (at_builtin;refine wpList_append_own _ rfl _ _ 22 rfl w.heap.size 30 i0 (.agg #[.int .u64 0,.int .u64 0,.int .u64 0]) 3 24 Tryz.underlying22 hi0 hz0 hz1 hz2 rfl (by decide) _ _ _ rfl (World.ownsRow_made w #[] 0 (Nat.le_refl _) (Nat.zero_le _) (by simp)) a l.length cap (cvCells l) rfl (cvCells_length l) (fun j u hj=>Lib.cell?_alloc_some _ (HA.out j u hj).1) (cvCells_one l) (by unfold maxLen;omega) (by omega) (by simp) ?_;intro v' w1 hown hgrow hnil)
  go_ret
  have hown':w1.ownsRow w.heap.size 30 3 v' l.length (cvCells l):=by simpa using hown
  refine⟨v',rfl,((Below.refl _ w).alloc (Nat.le_refl _) _).grown hgrow (by simp) (by intro k hk;cases hk;exact Nat.le_refl _),.inr ?_⟩
  rcases hown'.2 with ⟨e,_⟩ | ⟨g,c,cur,e,_⟩
  ·exact absurd (hnil.1 e).1 (by intro h;cases h)
  ·exact⟨g,c,e,hown'⟩
theorem del_nil (w:World):Calls Tryz.prog 204 #[.slice none 0 0,.func (.func 206) #[] #[]] w fun e w'=>e=.returned (.slice none 0 0)∧Below w.heap.size w w':=by
 have hix:=idx_any none 0 [] w ⟨fun c hc=>by simp at hc,by simp,none,0,rfl,.inl rfl⟩
 go_enter Tryz.func204,Tryz.ntmps204
 go_wp2_with fail
 refine hix.mono ?_
 clear hix
 rintro e w1 ⟨z,rfl,⟨rfl,_⟩ | ⟨k,c,_,hc,_⟩,hb1⟩
 ·have HB:=Lib.hid hb1
  clear hb1
  go_wp2_with fail
  go_ret
  exact⟨rfl,HB.out⟩
 ·simp at hc
theorem smay_any (v:Value)(l:List Cv)(w:World)(h:CvAt w v l) :
  Calls Tryz.prog 197 #[v] w fun e w'=>∃ v',e=.returned v'∧(CvAt w' v' (l.filter okC)∧∀ k,v'.ownBlock=some k→w.heap.size≤k)∧Below w.heap.size w w':=by
 obtain⟨hu,hl,a,cap,rfl,hc⟩:=h
 have h:CvAt w (.slice a l.length cap) l:=⟨hu,hl,a,cap,rfl,hc⟩
 have HU:=Lib.hid hu
 have hcl:=clone_any a cap l w h
 clear hc h hu
 go_enter Tryz.func197,Tryz.ntmps197
 go_wp2_with fail
 refine hcl.mono ?_
 clear hcl
 rintro e w1 ⟨v1,rfl,hb1,⟨rfl,hl0⟩ | ⟨g,c,rfl,hr⟩⟩
 ·subst hl0
  have hd:=del_nil w1
  have HB:=Lib.hid hb1
  clear hb1
  go_wp2_with fail
  refine hd.mono ?_
  clear hd
  rintro e w2 ⟨rfl,hb2⟩
  have HB2:=Lib.hid (HB.out.trans (hb2.mono HB.out.size))
  clear hb2
  go_wp2_with fail
  go_ret
  exact⟨.slice none 0 0,rfl,⟨⟨fun c hc=>by simp at hc,by simp,none,0,rfl,.inl rfl⟩,fun k e=>by cases e⟩,HB2.out⟩
 ·have hd:=del_any w.heap.size g c l w1 hr HU.out hl
  have HB:=Lib.hid hb1
  clear hr hb1
  go_wp2_with fail
  refine hd.mono ?_
  clear hd
  rintro e w2 ⟨v2,rfl,hc2,hb2⟩
  have HC:=Lib.hid hc2
  have HB2:=Lib.hid (HB.out.trans hb2)
  clear hc2 hb2
  go_wp2_with fail
  go_ret
  exact⟨_,rfl,HC.out,HB2.out⟩
end
section
open Go.RowKit
theorem splus_any (m n:Int)(w:World)(h0:0≤m)(k0:0≤n)(hs:m+n < 340282366920938463463374607431768211456) :
  Calls Tryz.prog 200 #[.agg #[.int .u64 (hiW m),.int .u64 (loW m)],.agg #[.int .u64 (hiW n),.int .u64 (loW n)]] w fun e w'=>e=.returned (.agg #[.int .u64 (hiW (m+n)),.int .u64 (loW (m+n))])∧Below w.heap.size w w':=by
 have hp:=fun w=>plus_any (hiW m) (loW m) (hiW n) (loW n) w (U_hi h0 (by omega)) (U_lo m) (U_hi k0 (by omega)) (U_lo n) (by rw [num_words,num_words];exact hs)
 simp only [num_words] at hp
 obtain⟨a,ha⟩:∃ a,hiW (m+n)=a:=⟨_,rfl⟩
 obtain⟨b,hb⟩:∃ b,loW (m+n)=b:=⟨_,rfl⟩
 rw [ha,hb] at hp
 rw [ha,hb]
 clear ha hb
 generalize hiW m=p at hp ⊢
 generalize loW m=q at hp ⊢
 generalize hiW n=x at hp ⊢
 generalize loW n=y at hp ⊢
 go_enter Tryz.func200,Tryz.ntmps200
 go_wp2_with fail
 refine (hp _).mono ?_
 clear hp
 rintro e w1 ⟨rfl,hb1⟩
 have hB:Blk w1 (w.heap.size+1+1) 236 #[.int .u64 0,.int .u64 0]:=by simpa using (Blk.new ((w.alloc (.cells #[.int .u64 p,.int .u64 q] 236)).alloc (.cells #[.int .u64 x,.int .u64 y] 236)) 236 #[.int .u64 0,.int .u64 0]).below hb1 (by simp)
 have hbw:=(((((Below.refl w.heap.size w).alloc (Nat.le_refl _) (.cells #[.int .u64 p,.int .u64 q] 236)).alloc (by simp) (.cells #[.int .u64 x,.int .u64 y] 236)).alloc (by simp;omega) (.cells #[.int .u64 0,.int .u64 0] 236))).trans (hb1.mono (by simp;omega))
 have c0:=hB.cell 0;have c1:=hB.cell 1;have z0:=hB.frozen 0;have z1:=hB.frozen 1
 simp only [lTA,lCZ,lCS] at c0 c1
 have HBW:=Lib.hid hbw
 have hlt:=hB.lt
 have hne:w.heap.size+1+1≠w1.heap.size:=by omega
 have HF:=Lib.hid hB
 clear hb1 hB hbw
 go_wp2_with fail
 have hF:Blk (((w1.setCell ⟨w.heap.size+1+1,0,none⟩ (.int .u64 a)).setCell ⟨w.heap.size+1+1,1,none⟩ (.int .u64 b)).alloc (.cells #[.int .u64 a,.int .u64 b] 236)) (w.heap.size+1+1) 236 #[.int .u64 a,.int .u64 b]:=by
  simpa using ((HF.out.set_ 0 (.int .u64 a)).set_ 1 (.int .u64 b)).alloc (.cells #[.int .u64 a,.int .u64 b] 236)
 have d0:=hF.cell 0;have d1:=hF.cell 1
 simp only [lTA,lCZ,lCS] at d0 d1
 refine bodyPost_ret (v:=.agg #[.int .u64 a,.int .u64 b]) (by simp only [results,Tryz.results200];simp [go_sem,d0,d1]) rfl ⟨rfl,?_⟩
 exact ((HBW.out.setCell (by simp;omega) _).setCell (by simp;omega) _).alloc (by have:=HBW.out.size;simp;omega) _
theorem vC_bd {c:Cv} {t:Int} (ho:okC c=true)(h0:0≤c.1)(h1:0≤c.2.1)(h2:0≤c.2.2)(t0:0≤t)(t1:t≤18446744073709551615):0≤vC c t∧vC c t≤19342813113834066795298816:=by
 have hm:=okC_may ho
 unfold vC W
 have a1:=Int.mul_nonneg h0 (show 0≤min t c.2.1 by omega)
 have a2:=Int.mul_nonneg h2 (show 0≤t - min t c.2.1 by omega)
 have a3:=Int.mul_le_mul_of_nonneg_right hm.1 (show 0≤min t c.2.1 by omega)
 have a4:=Int.mul_le_mul_of_nonneg_right hm.2 (show 0≤t - min t c.2.1 by omega)
 omega
theorem vS_bd {l:List Cv} {t:Int} (h:NN l)(t0:0≤t)(t1:t≤18446744073709551615):0≤vS l t∧vS l t≤l.length*19342813113834066795298816:=by
 induction l with
 | nil=>simp [vS]
 | cons c l ih =>
  have h1:=ih fun d hd=>h d (.tail _ hd)
  have h0:=h c (.head _)
  simp only [vS,List.length_cons]
  by_cases hc:okC c=true
  ·have:=vC_bd hc h0.1 h0.2.1 h0.2.2 t0 t1
   rw [if_pos hc];omega
  ·rw [if_neg hc];omega
structure AtAt (w W:World)(v:Value)(l:List Cv)(rb sb:Nat)(S:Int):Prop where
 cv:CvAt W v l
 res:Blk W rb 236 #[.int .u64 0,.int .u64 0]
 sum:Blk W sb 236 #[.int .u64 (hiW S),.int .u64 (loW S)]
 below:Below w.heap.size w W
 hr:w.heap.size≤rb
 hs:w.heap.size≤sb
 ne:rb≠sb
 own:∀ k,v.ownBlock=some k→w.heap.size+1 < k
theorem sat_anyS (v:Value)(l:List Cv)(t:Int)(w:World)(h:CvAt w v l)(ht:U t) :
  Calls Tryz.prog 192 #[v,.int .u64 t] w fun e w'=>e=.returned (.agg #[.int .u64 (hiW (vS l t)),.int .u64 (loW (vS l t))])∧Below w.heap.size w w':=by
 have hm:=fun w h=>smay_any v l w h
 have hok:∀ c∈l.filter okC,okC c=true:=fun c hc=>(List.mem_filter.1 hc).2
 rw [← vS_filter l t]
 have H:=Lib.hid h
 clear h
 generalize l.filter okC=f at hm hok ⊢
 have HO:=Lib.hid hok
 clear hok
 go_enter Tryz.func192,Tryz.ntmps192
 go_wp2_with fail
 refine (hm _ ((H.out.later ((Below.refl w.heap.size w).alloc (Nat.le_refl _) _)).later ((Below.refl _ _).alloc (Nat.le_refl _) _))).mono ?_
 rintro e w1 ⟨v1,rfl,⟨hc1,hown⟩,hb1⟩
 clear hm
 obtain⟨a1,cap1,rfl⟩:∃ a cap,v1=.slice a f.length cap:=by obtain⟨_,_,a,cap,e,_⟩:=hc1;exact⟨a,cap,e⟩
 have hA:AtAt w w1 (.slice a1 f.length cap1) f w.heap.size (w.heap.size+1) 0:=by
  have hb0:=((Below.refl w.heap.size w).alloc (Nat.le_refl _) (.cells #[.int .u64 0,.int .u64 0] 236)).alloc (by simp) (.cells #[.int .u64 0,.int .u64 0] 236)
  refine⟨hc1,((Blk.new w 236 #[.int .u64 0,.int .u64 0]).alloc _).below hb1 (by simp;omega),?_,hb0.trans (hb1.mono (by simp;omega)),Nat.le_refl _,by omega,by omega,fun k e=>by have:=hown k e;simp at this;omega⟩
  have:=(Blk.new (w.alloc (.cells #[.int .u64 0,.int .u64 0] 236)) 236 #[.int .u64 0,.int .u64 0]).below hb1 (by simp)
  simpa [hiW,loW] using this
 have HA:=Lib.hid hA
 have hfl:=hc1.2.1
 clear hA hc1 hb1 H
 go_wp2_with fail
 go_loopw [12] (fun iv W=>∃ k:Nat,k≤f.length∧iv=.int .i64 k∧AtAt w W (.slice a1 f.length cap1) f w.heap.size (w.heap.size+1) (vS (f.take k) t)) (fun iv _=>f.length - (Go.RowKit.intOf iv).toNat)
 case atStart=>exact⟨0,by omega,rfl,by simpa [vS] using HA.out⟩
 case round =>
  obtain⟨k,hk,rfl,hA⟩:=hrel
  have HK:=Lib.hid hA
  by_cases hlt:k < f.length
  ·obtain⟨c,hc⟩:∃ c,f[k]?=some c:=⟨_,List.getElem?_eq_getElem (by omega)⟩
   obtain⟨hu,_,a',cap',e',h0 | ⟨b,off,e2,hbl,_,hcells⟩⟩:=hA.cv
   ·rw [h0] at hlt;simp at hlt
   ·simp only [Value.slice.injEq,true_and] at e'
    obtain⟨rfl,rfl⟩:=e'
    subst e2
    obtain⟨c0,c1,c2⟩:=hcells k c hc
    have hUc:=hu c (List.mem_of_getElem? hc)
    have hoc:=HO.out c (List.mem_of_getElem? hc)
    have hS:vS (f.take (k+1)) t=vS (f.take k) t+vC c t:=by
     rw [List.take_add_one,hc,vS_append];simp [vS,hoc]
    have HS:=Lib.hid hS
    have hAu:=hu
    obtain⟨F,L,R⟩:=c
    dsimp only at c0 c1 c2 hUc
    clear hcells hu hS hA hc
    have hS0:0≤vS (f.take k) t∧vS (f.take k) t+vC (F,L,R) t < 340282366920938463463374607431768211456∧0≤vC (F,L,R) t:=by
     have b1:=vS_bd (l:=f.take k) (t:=t) (fun c hc=>⟨(hAu c (List.mem_of_mem_take hc)).1.1,(hAu c (List.mem_of_mem_take hc)).2.1.1,(hAu c (List.mem_of_mem_take hc)).2.2.1⟩) ht.1 ht.2
     have b2:=vC_bd (c:=(F,L,R)) hoc hUc.1.1 hUc.2.1.1 hUc.2.2.1 ht.1 ht.2
     have b3:(f.take k).length≤1000000:=by rw [List.length_take];omega
     omega
    clear hAu
    go_wp2_with fail
    obtain⟨n,hn⟩:∃ n,min t L=n:=⟨_,rfl⟩
    obtain⟨S,hS⟩:∃ S,vS (f.take k) t=S:=⟨_,rfl⟩
    have hv:vC (F,L,R) t=F*n+R*(t - n):=by rw [← hn];rfl
    have t0:=ht.1;have t1:=ht.2;have l0:=hUc.2.1.1;have l1:=hUc.2.1.2
    have un:U n:=by unfold U;omega
    have ud:U (t - n):=by unfold U;omega
    have hw:IntKind.u64.wrap (t - n)=t - n:=wrap_u ud
    have hp0:=Int.mul_nonneg hUc.1.1 un.1
    have hp1:=Int.mul_nonneg hUc.2.2.1 ud.1
    rw [hS,hv] at hS0
    rw [hS] at HK
    have cm1:=fun W=>mul_any F n W hUc.1 un
    have cm2:=fun W=>mul_any R (t - n) W hUc.2.2 ud
    have cp1:=fun W=>splus_any (F*n) (R*(t - n)) W hp0 hp1 (by omega)
    have cp2:=fun W=>splus_any S (F*n+R*(t - n)) W hS0.1 (by omega) hS0.2.1
    have H4:=Lib.hid (show S+(F*n+R*(t - n))=vS (f.take k) t+vC (F,L,R) t by rw [hS,hv])
    have hsum:=HK.out.sum
    clear hv hS0 hp0 hp1
    obtain⟨T,hT⟩:∃ T,S+(F*n+R*(t - n))=T:=⟨_,rfl⟩
    rw [hT] at cp2 H4
    obtain⟨x4,hx4⟩:∃ x,hiW T=x:=⟨_,rfl⟩
    obtain⟨y4,hy4⟩:∃ x,loW T=x:=⟨_,rfl⟩
    rw [hx4,hy4] at cp2
    generalize hiW (F*n+R*(t - n))=x3 at cp1 cp2
    generalize loW (F*n+R*(t - n))=y3 at cp1 cp2
    generalize hiW (F*n)=x1 at cm1 cp1
    generalize loW (F*n)=y1 at cm1 cp1
    generalize hiW (R*(t - n))=x2 at cm2 cp1
    generalize loW (R*(t - n))=y2 at cm2 cp1
    generalize hiW S=x0 at cp2 hsum
    generalize loW S=y0 at cp2 hsum
    have hsum':=hsum.alloc (.cells #[.int .u64 F,.int .u64 L,.int .u64 R] 30)
    have hcur:=Blk.new wr 30 #[.int .u64 F,.int .u64 L,.int .u64 R]
    have s0:=hsum'.cell 0;have s1:=hsum'.cell 1
    have q0:=hcur.cell 0;have q2:=hcur.cell 2
    have ls:=hsum'.lt;have lc:=hcur.lt
    simp only [lTA,lCZ,lCS] at s0 s1 q0 q2
    generalize hW0:wr.alloc (.cells #[.int .u64 F,.int .u64 L,.int .u64 R] 30)=W0 at *
    have o0:=fun e=>(over_cell (w:=W0) (e:=e) ls).trans s0
    have o1:=fun e=>(over_cell (w:=W0) (e:=e) ls).trans s1
    have o2:=fun e=>(over_cell (w:=W0) (e:=e) lc).trans q0
    have o3:=fun e=>(over_cell (w:=W0) (e:=e) lc).trans q2
    have M1:=Lib.hid cm1;have M2:=Lib.hid cm2;have P1:=Lib.hid cp1;have P2:=Lib.hid cp2
    have HX:=Lib.hid hx4;have HY:=Lib.hid hy4;have HSU:=Lib.hid hsum'
    clear cm1 cm2 cp1 cp2 hx4 hy4 hT hsum hsum' hcur s0 s1 q0 q2 c0 c1 c2
    refine wp_region_over_tail 13 (by kernel_rfl) (by kernel_rfl) ?_
    simp only [List.take_succ_cons,List.take_zero,List.drop_succ_cons,List.drop_zero]
    repeat (first | go_big_quiet_skip | (go_big_quiet_want;go_big_quiet_op;first | go_big_quiet_on | (apply Exists.intro;refine⟨fun e=>?_,?_⟩;(focus (first | (go_at_call 201;with_reducible exact calls_over (M1.out _)) | (go_at_call 201;with_reducible exact calls_over (M2.out _)) | (go_at_call 200;with_reducible exact calls_over (P1.out _)) | (go_at_call 200;with_reducible exact calls_over (P2.out _))));go_big_quiet_on)))
    refine wpQuiet_nil ?_
    rintro W2 ⟨e2,he2⟩
    have hb2:=over_below W0 e2
    rw [← he2] at hb2
    clear he2 o0 o1 o2 o3
    have hsu2:=HSU.out.below hb2 ls
    have d0:=hsu2.cell 0;have d1:=hsu2.cell 1
    have z0:=hsu2.frozen 0;have z1:=hsu2.frozen 1
    simp only [lTA,lCZ,lCS] at d0 d1
    have hbw:Below wr.heap.size wr W2:=by
     rw [← hW0] at hb2
     exact ((Below.refl wr.heap.size wr).alloc (Nat.le_refl _) _).trans (hb2.mono (by simp))
    have HB2:=Lib.hid hbw;have HS2:=Lib.hid hsu2
    clear hb2 hbw hsu2
    go_wp2
    go_roundw
    case measure=>simp [Go.RowKit.intOf];omega
    case rel =>
     have hg:=(grown_setC W2 (w.heap.size+1) 0 (.int .u64 x4)).trans (grown_setC _ (w.heap.size+1) 1 (.int .u64 y4))
     have hh:=HK.out
     have hsum3:=(HS2.out.set_ 0 (.int .u64 x4)).set_ 1 (.int .u64 y4)
     have hbel:=hh.below
     have hsz:=hbel.size
     have hsz2:=HB2.out.size
     (repeat apply Exists.intro)
     refine⟨(show k+1≤f.length by omega),by go_num,?_⟩
     refine⟨(hh.cv.later HB2.out).grown hg (fun k e=>by have:=hh.own k e;simp;omega),(hh.res.below HB2.out hh.res.lt).grown hg (by simp),?_,(hbel.trans (HB2.out.mono hsz)).grown hg (by omega) (fun k e=>by cases e;omega),hh.hr,hh.hs,hh.ne,hh.own⟩
     rw [HS.out,← H4.out,HX.out,HY.out]
     simpa using hsum3
  ·obtain rfl:k=f.length:=by omega
   rw [List.take_length] at HK
   have r0:=HK.out.sum.cell 0;have r1:=HK.out.sum.cell 1
   have q0:=HK.out.res.cell 0;have q1:=HK.out.res.cell 1
   have z0:=HK.out.res.frozen 0;have z1:=HK.out.res.frozen 1
   simp only [lTA,lCZ,lCS] at r0 r1 q0 q1
   obtain⟨x,hx⟩:∃ x,hiW (vS f t)=x:=⟨_,rfl⟩
   obtain⟨y,hy⟩:∃ y,loW (vS f t)=y:=⟨_,rfl⟩
   rw [hx] at r0
   rw [hy] at r1
   have HX:=Lib.hid hx;have HY:=Lib.hid hy
   clear hA hx hy
   go_wp2_with fail
   have hF:=(HK.out.res.set_ 0 (.int .u64 x)).set_ 1 (.int .u64 y)
   have d0:=hF.cell 0;have d1:=hF.cell 1
   simp at d0 d1
   refine bodyPost_ret (v:=.agg #[.int .u64 x,.int .u64 y]) (by simp only [results,Tryz.results192];simp [go_sem,d0,d1]) rfl ⟨by rw [HX.out,HY.out],?_⟩
   exact ((HK.out.below.setCell (by simp) _).setCell (by simp) _)
end
section
open Go.RowKit Go.Maps
def asIs (v:Value):Option (DataW Value × List MemPlace):=some (.held v,[])
theorem asIs_inv {v u:Value} {ps:List MemPlace} (h:asIs v=some (.held u,ps)):v=u:=by
 simp only [asIs,Option.some.injEq,Prod.mk.injEq,DataW.held.injEq] at h;exact h.1
def encP (p:Int × Value):Lit × DataW Value:=(.int .i64 p.1,.held p.2)
def toD (M:List (Int × Value)):DataW Value:=.map (M.map encP)
def lookM {α:Type}:List (Int × α)→Int→Option α
 | [],_=>none
 | p :: r,k=>if p.1=k then some p.2 else lookM r k
def putM {α:Type}:List (Int × α)→Int→α→List (Int × α)
 | [],k,v=>[(k,v)]
 | p :: r,k,v=>if k < p.1 then (k,v) :: p :: r else if p.1=k then (k,v) :: r else p :: putM r k v
def delM {α:Type} (M:List (Int × α))(k:Int):List (Int × α):=M.filter fun p=>!decide (p.1=k)
def Rising {α:Type} (M:List (Int × α)):Prop:=M.Pairwise fun p q=>p.1 < q.1
theorem same_int (a b:Int):(Lit.int .i64 a).sameKey (.int .i64 b)=decide (a=b):=by
 by_cases h:a=b
 ·subst h;simp [Lit.sameKey]
 ·simp [Lit.sameKey,h]
theorem before_int (a b:Int):(Lit.int .i64 a).before (.int .i64 b)=decide (a < b):=rfl
theorem toD_at (k:Int)(z:Value):∀ M:List (Int × Value),(toD M).atKey (.int .i64 k) (.held z)=.held ((lookM M k).getD z):=by
 intro M
 unfold toD DataW.atKey
 induction M with
 | nil=>rfl
 | cons p r ih =>
  have hs:(encP p).1.sameKey (.int .i64 k)=decide (p.1=k):=same_int _ _
  by_cases h:p.1=k
  ·have hs:(encP p).1.sameKey (.int .i64 k)=true:=by rw [hs];simp [h]
   simp only [List.map_cons,List.find?_cons,hs,lookM,h,if_true]
   rfl
  ·have hs:(encP p).1.sameKey (.int .i64 k)=false:=by rw [hs];simp [h]
   simp only [List.map_cons,List.find?_cons,hs,lookM,h,if_false]
   exact ih
theorem toD_has (k:Int):∀ M:List (Int × Value),Maps.has (toD M) (.int .i64 k)=(lookM M k).isSome:=by
 intro M
 show (M.map encP).any (fun p=>p.1.sameKey (.int .i64 k))=_
 induction M with
 | nil=>rfl
 | cons p r ih =>
  rw [List.map_cons,List.any_cons,ih,lookM]
  show ((Lit.int .i64 p.1).sameKey (.int .i64 k) || _)=_
  rw [same_int]
  by_cases h:p.1=k <;> simp [h]
theorem toD_del (k:Int):∀ M:List (Int × Value),(toD M).del (.int .i64 k)=toD (delM M k):=by
 intro M
 show DataW.map ((M.map encP).filter fun p=>!p.1.sameKey (.int .i64 k))=_
 rw [List.filter_map]
 have:((fun p:Lit × DataW Value=>!p.1.sameKey (.int .i64 k)) ∘ encP)=fun p:Int × Value=>!decide (p.1=k):=by
  funext p
  show (!(Lit.int .i64 p.1).sameKey (.int .i64 k))=_
  rw [same_int]
 rw [this]
 rfl
theorem delM_none {α:Type} (k:Int):∀ M:List (Int × α),(∀ p∈M,p.1≠k)→delM M k=M:=by
 intro M h
 rw [delM,List.filter_eq_self]
 intro p hp;simp [h p hp]
theorem putM_ins (k:Int)(v:Value):∀ M:List (Int × Value),Rising M→(putM M k v).map encP=DataW.insert (encP (k,v)) ((delM M k).map encP)
 | [],_=>rfl
 | p :: r,h=>by
  have hr:Rising r:=(List.pairwise_cons.1 h).2
  have hp:=(List.pairwise_cons.1 h).1
  by_cases h1:k < p.1
  ·rw [delM_none k (p :: r) (by
    intro q hq
    rcases List.mem_cons.1 hq with rfl | hq
    ·omega
    ·have:=hp q hq;omega)]
   simp only [putM,h1,if_true,List.map_cons]
   show _=DataW.insert (encP (k,v)) (encP p :: r.map encP)
   rw [DataW.insert]
   have:(encP (k,v)).1.before (encP p).1=true:=by show (Lit.int .i64 k).before (.int .i64 p.1)=true;rw [before_int];simp [h1]
   rw [if_pos this]
  ·by_cases h2:p.1=k
   ·have e:delM (p :: r) k=r:=by
     have:delM (p :: r) k=delM r k:=by simp [delM,h2]
     rw [this]
     exact delM_none k r (fun q hq=>by have:=hp q hq;omega)
    have e2:putM (p :: r) k v=(k,v) :: r:=by rw [putM,if_neg h1,if_pos h2]
    rw [e,e2]
    cases r with
    | nil=>rfl
    | cons q r =>
     have:=hp q (by simp)
     rw [List.map_cons,List.map_cons,DataW.insert]
     have:(encP (k,v)).1.before (encP q).1=true:=by show (Lit.int .i64 k).before (.int .i64 q.1)=true;rw [before_int];simp;omega
     rw [if_pos this]
   ·have e:delM (p :: r) k=p :: delM r k:=by simp [delM,h2]
    rw [e]
    simp only [putM,h1,h2,if_false,List.map_cons]
    rw [DataW.insert]
    have:¬ (encP (k,v)).1.before (encP p).1=true:=by show ¬ (Lit.int .i64 k).before (.int .i64 p.1)=true;rw [before_int];simp;omega
    rw [if_neg this,putM_ins k v r hr]
theorem toD_put (k:Int)(v:Value) {M:List (Int × Value)} (h:Rising M):(toD M).put (.int .i64 k) (.held v)=toD (putM M k v):=by
 show DataW.map (DataW.insert (encP (k,v)) ((M.map encP).filter fun p=>!p.1.sameKey (.int .i64 k)))=DataW.map _
 rw [putM_ins k v M h]
 have:=toD_del k M
 injection this with this
 rw [← this]
/-! ## the pure laws of pairs -/
theorem rising_del {α:Type} {M:List (Int × α)} (h:Rising M)(k:Int):Rising (delM M k):=h.filter _
theorem putM_mem {α:Type} {k:Int} {v:α}:∀ {M:List (Int × α)} {p:Int × α},p∈putM M k v→p=(k,v)∨p∈M
 | [],p,h=>by simpa [putM] using h
 | q :: r,p,h=>by
  rw [putM] at h
  split at h
  ·rcases List.mem_cons.1 h with h | h
   ·exact .inl h
   ·exact .inr h
  ·split at h
   ·rcases List.mem_cons.1 h with h | h
    ·exact .inl h
    ·exact .inr (List.mem_cons_of_mem _ h)
   ·rcases List.mem_cons.1 h with h | h
    ·exact .inr (h ▸ List.mem_cons_self ..)
    ·rcases putM_mem h with h | h
     ·exact .inl h
     ·exact .inr (List.mem_cons_of_mem _ h)
theorem rising_put {α:Type} (k:Int)(v:α):∀ {M:List (Int × α)},Rising M→Rising (putM M k v)
 | [],_=>by simp [putM,Rising]
 | p :: r,h=>by
  have hr:Rising r:=(List.pairwise_cons.1 h).2
  have hp:=(List.pairwise_cons.1 h).1
  rw [putM]
  split
  ·refine List.pairwise_cons.2 ⟨?_,h⟩
   intro q hq
   rcases List.mem_cons.1 hq with rfl | hq
   ·assumption
   ·have:=hp q hq;show k < q.1;omega
  ·split
   ·refine List.pairwise_cons.2 ⟨?_,hr⟩
    intro q hq;have:=hp q hq;show k < q.1;omega
   ·refine List.pairwise_cons.2 ⟨?_,rising_put k v hr⟩
    intro q hq
    rcases putM_mem hq with rfl | hq
    ·show p.1 < k;omega
    ·exact hp q hq
theorem look_put_same {α:Type} (k:Int)(v:α):∀ M:List (Int × α),lookM (putM M k v) k=some v
 | []=>by simp [putM,lookM]
 | p :: r=>by
  rw [putM]
  split
  ·simp [lookM]
  ·split
   ·simp [lookM]
   ·rename_i h;simp [lookM,h,look_put_same k v r]
theorem look_put_other {α:Type} {k j:Int} (v:α)(hj:j≠k):∀ M:List (Int × α),lookM (putM M k v) j=lookM M j
 | []=>by simp [putM,lookM,hj.symm]
 | p :: r=>by
  rw [putM]
  split
  ·simp [lookM,hj.symm]
  ·split
   ·rename_i h;simp [lookM,h,hj.symm]
   ·simp [lookM,look_put_other v hj r]
theorem look_del_same {α:Type} (k:Int):∀ M:List (Int × α),lookM (delM M k) k=none
 | []=>rfl
 | p :: r=>by
  have:=look_del_same k r
  by_cases h:p.1=k
  ·simpa [delM,h] using this
  ·simpa [delM,h,lookM] using this
theorem look_del_other {α:Type} {k j:Int} (hj:j≠k):∀ M:List (Int × α),lookM (delM M k) j=lookM M j
 | []=>rfl
 | p :: r=>by
  have:=look_del_other hj r
  by_cases h:p.1=k
  ·have hne:¬ p.1=j:=by omega
   simp only [lookM,hne,if_false,← this]
   simp [delM,h]
  ·simp only [delM,List.filter_cons,h,decide_false,Bool.not_false,if_true,lookM] at this ⊢
   rw [this]
theorem look_none {α:Type} {k:Int}:∀ {M:List (Int × α)},lookM M k=none↔∀ p∈M,p.1≠k
 | []=>by simp [lookM]
 | p :: r=>by
  rw [lookM]
  by_cases h:p.1=k
  ·simp [h]
  ·simp [h,look_none (M:=r)]
theorem put_length {α:Type} (k:Int)(v:α):∀ M:List (Int × α),(putM M k v).length≤M.length+1
 | []=>by simp [putM]
 | p :: r=>by
  rw [putM]
  split
  ·simp
  ·split
   ·simp
   ·have:=put_length k v r;simp;omega
theorem del_length {α:Type} (k:Int)(M:List (Int × α)):(delM M k).length≤M.length:=List.length_filter_le _ _
def mapV {α β:Type} (f:α→β)(M:List (Int × α)):List (Int × β):=M.map fun p=>(p.1,f p.2)
theorem mapV_length {α β:Type} (f:α→β)(M:List (Int × α)):(mapV f M).length=M.length:=by simp [mapV]
theorem look_map {α β:Type} (f:α→β)(k:Int):∀ M:List (Int × α),lookM (mapV f M) k=(lookM M k).map f
 | []=>rfl
 | p :: r=>by
  have:=look_map f k r
  simp only [mapV,List.map_cons,lookM] at this ⊢
  split
  ·rfl
  ·exact this
theorem put_map {α β:Type} (f:α→β)(k:Int)(v:α):∀ M:List (Int × α),putM (mapV f M) k (f v)=mapV f (putM M k v)
 | []=>rfl
 | p :: r=>by
  have:=put_map f k v r
  simp only [mapV,List.map_cons,putM] at this ⊢
  split
  ·simp
  ·split
   ·simp
   ·simp [this]
theorem del_map {α β:Type} (f:α→β)(k:Int)(M:List (Int × α)):delM (mapV f M) k=mapV f (delM M k):=by
 simp only [delM,mapV,List.filter_map];rfl
/-! ## in memory -/
section
variable {P : Program} {K : TypeId}
def MapI (P:Program)(K:TypeId)(w:World)(b:Nat)(M:List (Int × Value)):Prop:=w.ownsMap P K asIs b M.length (toD M)
theorem owns_size {R:Value→Option (DataW Value × List MemPlace)} {w:World} {b n:Nat} {D:DataW Value} (h:w.ownsMap P K R b n D):w.ownsMap P K R b (Maps.size D) D:=by
 obtain⟨es,clock,hb,F,hs,rfl⟩:=h
 exact⟨es,clock,hb,F,by simp [Maps.size,length_sorted],rfl⟩
theorem size_toD (M:List (Int × Value)):Maps.size (toD M)=M.length:=by simp [toD,Maps.size]
theorem MapI.of {w:World} {b n:Nat} {M:List (Int × Value)} (h:w.ownsMap P K asIs b n (toD M)):MapI P K w b M:=by
 have:=owns_size h;rw [size_toD] at this;exact this
theorem MapI.rising {w:World} {b:Nat} {M:List (Int × Value)} (h:MapI P K w b M)(hK:Keyed P K):Rising M:=by
 obtain⟨es,he,hs,_⟩:=World.ownsMap.canon h hK
 injection he with he
 rw [← he,List.pairwise_map] at hs
 exact hs.imp (fun {p q} h=>by
  have:(Lit.int .i64 p.1).before (.int .i64 q.1)=true:=h
  rw [before_int] at this
  exact of_decide_eq_true this)
theorem MapI.kept {w w':World} {b:Nat} {M:List (Int × Value)} {row:Option Nat} (h:MapI P K w b M)(hg:w.grownBy w' row)(hne:some b≠row):MapI P K w' b M :=
 World.ownsMap.kept h hg hne
theorem MapI.lt {w:World} {b:Nat} {M:List (Int × Value)} (h:MapI P K w b M):b < w.heap.size:=World.ownsMap.lt h
theorem MapI.heap {w w':World} {b:Nat} {M:List (Int × Value)} (h:MapI P K w b M)(hb:w'.heap[b]?=w.heap[b]?):MapI P K w' b M:=by
 obtain⟨es,clock,h1,F,hs,hD⟩:=h
 exact⟨es,clock,hb.trans h1,F,hs,hD⟩
theorem keyOf_mk (hu:P.underlying K=some (.int .i64)) {k:Int} (hk:(Lit.int .i64 k).wf=true):keyOf P K (.int .i64 k)=some (.int .i64 k):=keyOf_int_mk hu hk
theorem MapI.look {w:World} {b:Nat} {M:List (Int × Value)} {T E:TypeId} {z:Value} {k:Int} (h:MapI P K w b M)(hu:P.underlying K=some (.int .i64))(hT:P.underlying T=some (.map K E))(hz:(zeroValue E).run P w=.ok z w)
  (hk:(Lit.int .i64 k).wf=true):(Instr.lookup T (.map (some b)) (.int .i64 k) false).run P w=.ok ((lookM M k).getD z) w:=by
 obtain⟨v,ps,hr,hv⟩:=World.ownsMap.lookup h (int_keyed hu) hT hz (zd:=.held z) (zp:=[]) rfl (keyOf_mk hu hk)
 rw [toD_at] at hv
 rw [hr,asIs_inv hv]
theorem MapI.look_ok {w:World} {b:Nat} {M:List (Int × Value)} {T E:TypeId} {z:Value} {k:Int} (h:MapI P K w b M)(hu:P.underlying K=some (.int .i64))(hT:P.underlying T=some (.map K E))(hz:(zeroValue E).run P w=.ok z w)
  (hk:(Lit.int .i64 k).wf=true):(Instr.lookup T (.map (some b)) (.int .i64 k) true).run P w=.ok (.tuple #[(lookM M k).getD z,.bool (lookM M k).isSome]) w:=by
 obtain⟨v,ps,hr,hv⟩:=World.ownsMap.look_ok h (int_keyed hu) hT hz (zd:=.held z) (zp:=[]) rfl (keyOf_mk hu hk)
 rw [toD_at] at hv
 rw [hr,asIs_inv hv,toD_has]
theorem MapI.store {w:World} {b:Nat} {M:List (Int × Value)} {T E:TypeId} {k:Int} (h:MapI P K w b M)(hu:P.underlying K=some (.int .i64))(hT:P.underlying T=some (.map K E))
  (hk:(Lit.int .i64 k).wf=true)(hn:M.length < maxLen)(v:Value):∃ w',(Instr.mapUpdate T (.map (some b)) (.int .i64 k) v).run P w=.ok () w'∧MapI P K w' b (putM M k v)∧w.mapTurned w' b:=by
 obtain⟨w',hr,ho,ht⟩:=World.ownsMap.store h (int_keyed hu) hT hn (keyOf_mk hu hk) (d:=.held v) (ps:=[]) (val:=v) rfl
 rw [toD_put k v (h.rising (int_keyed hu))] at ho
 exact⟨w',hr,.of ho,ht⟩
theorem MapI.drop {w:World} {b:Nat} {M:List (Int × Value)} {T E:TypeId} {k:Int} (h:MapI P K w b M)(hu:P.underlying K=some (.int .i64))(hT:P.underlying T=some (.map K E))
  (hk:(Lit.int .i64 k).wf=true)(ty:TypeId):∃ w',(Builtin.delete_ #[T,K] ty #[.map (some b),.int .i64 k]).run P w=.ok (.tuple #[]) w'∧MapI P K w' b (delM M k)∧w.mapTurned w' b:=by
 obtain⟨w',hr,ho,ht⟩:=World.ownsMap.drop h (int_keyed hu) hT (keyOf_mk hu hk) ty
 rw [toD_del] at ho
 exact⟨w',hr,.of ho,ht⟩
theorem MapI.len {w:World} {b:Nat} {M:List (Int × Value)} {T E:TypeId} (h:MapI P K w b M)(hT:P.underlying T=some (.map K E))(ty:TypeId):(Builtin.len_ #[T] ty #[.map (some b)]).run P w=.ok (.int .i64 M.length) w:=by
 have:=World.ownsMap.len h hT ty;rw [size_toD] at this;exact this
theorem MapI.made (w:World):MapI P K (w.alloc (.map #[] 0)) w.heap.size []:=World.ownsMap_made w P K asIs
end
end
section
open Go.RowKit Go.Maps
def encU (p:Int × Value):Lit × DataW Value:=(.int .u64 p.1,.held p.2)
def toU (M:List (Int × Value)):DataW Value:=.map (M.map encU)
theorem same_word (a b:Int):(Lit.int .u64 a).sameKey (.int .u64 b)=decide (a=b):=by
 by_cases h:a=b
 ·subst h;simp [Lit.sameKey]
 ·simp [Lit.sameKey,h]
theorem before_word (a b:Int):(Lit.int .u64 a).before (.int .u64 b)=decide (a < b):=rfl
theorem toU_at (k:Int)(z:Value):∀ M:List (Int × Value),(toU M).atKey (.int .u64 k) (.held z)=.held ((lookM M k).getD z):=by
 intro M
 unfold toU DataW.atKey
 induction M with
 | nil=>rfl
 | cons p r ih =>
  have hs:(encU p).1.sameKey (.int .u64 k)=decide (p.1=k):=same_word _ _
  by_cases h:p.1=k
  ·have hs:(encU p).1.sameKey (.int .u64 k)=true:=by rw [hs];simp [h]
   simp only [List.map_cons,List.find?_cons,hs,lookM,h,if_true]
   rfl
  ·have hs:(encU p).1.sameKey (.int .u64 k)=false:=by rw [hs];simp [h]
   simp only [List.map_cons,List.find?_cons,hs,lookM,h,if_false]
   exact ih
theorem toU_has (k:Int):∀ M:List (Int × Value),Maps.has (toU M) (.int .u64 k)=(lookM M k).isSome:=by
 intro M
 show (M.map encU).any (fun p=>p.1.sameKey (.int .u64 k))=_
 induction M with
 | nil=>rfl
 | cons p r ih =>
  rw [List.map_cons,List.any_cons,ih,lookM]
  show ((Lit.int .u64 p.1).sameKey (.int .u64 k) || _)=_
  rw [same_word]
  by_cases h:p.1=k <;> simp [h]
theorem toU_del (k:Int):∀ M:List (Int × Value),(toU M).del (.int .u64 k)=toU (delM M k):=by
 intro M
 show DataW.map ((M.map encU).filter fun p=>!p.1.sameKey (.int .u64 k))=_
 rw [List.filter_map]
 have:((fun p:Lit × DataW Value=>!p.1.sameKey (.int .u64 k)) ∘ encU)=fun p:Int × Value=>!decide (p.1=k):=by
  funext p
  show (!(Lit.int .u64 p.1).sameKey (.int .u64 k))=_
  rw [same_word]
 rw [this]
 rfl
theorem putM_insU (k:Int)(v:Value):∀ M:List (Int × Value),Rising M→(putM M k v).map encU=DataW.insert (encU (k,v)) ((delM M k).map encU)
 | [],_=>rfl
 | p :: r,h=>by
  have hr:Rising r:=(List.pairwise_cons.1 h).2
  have hp:=(List.pairwise_cons.1 h).1
  by_cases h1:k < p.1
  ·rw [delM_none k (p :: r) (by
    intro q hq
    rcases List.mem_cons.1 hq with rfl | hq
    ·omega
    ·have:=hp q hq;omega)]
   simp only [putM,h1,if_true,List.map_cons]
   show _=DataW.insert (encU (k,v)) (encU p :: r.map encU)
   rw [DataW.insert]
   have:(encU (k,v)).1.before (encU p).1=true:=by show (Lit.int .u64 k).before (.int .u64 p.1)=true;rw [before_word];simp [h1]
   rw [if_pos this]
  ·by_cases h2:p.1=k
   ·have e:delM (p :: r) k=r:=by
     have:delM (p :: r) k=delM r k:=by simp [delM,h2]
     rw [this]
     exact delM_none k r (fun q hq=>by have:=hp q hq;omega)
    have e2:putM (p :: r) k v=(k,v) :: r:=by rw [putM,if_neg h1,if_pos h2]
    rw [e,e2]
    cases r with
    | nil=>rfl
    | cons q r =>
     have:=hp q (by simp)
     rw [List.map_cons,List.map_cons,DataW.insert]
     have:(encU (k,v)).1.before (encU q).1=true:=by show (Lit.int .u64 k).before (.int .u64 q.1)=true;rw [before_word];simp;omega
     rw [if_pos this]
   ·have e:delM (p :: r) k=p :: delM r k:=by simp [delM,h2]
    rw [e]
    simp only [putM,h1,h2,if_false,List.map_cons]
    rw [DataW.insert]
    have:¬ (encU (k,v)).1.before (encU p).1=true:=by show ¬ (Lit.int .u64 k).before (.int .u64 p.1)=true;rw [before_word];simp;omega
    rw [if_neg this,putM_insU k v r hr]
theorem toU_put (k:Int)(v:Value) {M:List (Int × Value)} (h:Rising M):(toU M).put (.int .u64 k) (.held v)=toU (putM M k v):=by
 show DataW.map (DataW.insert (encU (k,v)) ((M.map encU).filter fun p=>!p.1.sameKey (.int .u64 k)))=DataW.map _
 rw [putM_insU k v M h]
 have:=toU_del k M
 injection this with this
 rw [← this]
/-! ## in memory -/
section
variable {P : Program} {K : TypeId}
def MapU (P:Program)(K:TypeId)(w:World)(b:Nat)(M:List (Int × Value)):Prop:=w.ownsMap P K asIs b M.length (toU M)
theorem size_toU (M:List (Int × Value)):Maps.size (toU M)=M.length:=by simp [toU,Maps.size]
theorem MapU.of {w:World} {b n:Nat} {M:List (Int × Value)} (h:w.ownsMap P K asIs b n (toU M)):MapU P K w b M:=by
 have:=owns_size h;rw [size_toU] at this;exact this
theorem MapU.rising {w:World} {b:Nat} {M:List (Int × Value)} (h:MapU P K w b M)(hK:Keyed P K):Rising M:=by
 obtain⟨es,he,hs,_⟩:=World.ownsMap.canon h hK
 injection he with he
 rw [← he,List.pairwise_map] at hs
 exact hs.imp (fun {p q} h=>by
  have:(Lit.int .u64 p.1).before (.int .u64 q.1)=true:=h
  rw [before_word] at this
  exact of_decide_eq_true this)
theorem MapU.kept {w w':World} {b:Nat} {M:List (Int × Value)} {row:Option Nat} (h:MapU P K w b M)(hg:w.grownBy w' row)(hne:some b≠row):MapU P K w' b M :=
 World.ownsMap.kept h hg hne
theorem MapU.lt {w:World} {b:Nat} {M:List (Int × Value)} (h:MapU P K w b M):b < w.heap.size:=World.ownsMap.lt h
theorem MapU.heap {w w':World} {b:Nat} {M:List (Int × Value)} (h:MapU P K w b M)(hb:w'.heap[b]?=w.heap[b]?):MapU P K w' b M:=by
 obtain⟨es,clock,h1,F,hs,hD⟩:=h
 exact⟨es,clock,hb.trans h1,F,hs,hD⟩
theorem keyOf_mkU (hu:P.underlying K=some (.int .u64)) {k:Int} (hk:(Lit.int .u64 k).wf=true):keyOf P K (.int .u64 k)=some (.int .u64 k):=keyOf_int_mk hu hk
theorem MapU.look {w:World} {b:Nat} {M:List (Int × Value)} {T E:TypeId} {z:Value} {k:Int} (h:MapU P K w b M)(hu:P.underlying K=some (.int .u64))(hT:P.underlying T=some (.map K E))(hz:(zeroValue E).run P w=.ok z w)
  (hk:(Lit.int .u64 k).wf=true):(Instr.lookup T (.map (some b)) (.int .u64 k) false).run P w=.ok ((lookM M k).getD z) w:=by
 obtain⟨v,ps,hr,hv⟩:=World.ownsMap.lookup h (int_keyed hu) hT hz (zd:=.held z) (zp:=[]) rfl (keyOf_mkU hu hk)
 rw [toU_at] at hv
 rw [hr,asIs_inv hv]
theorem MapU.store {w:World} {b:Nat} {M:List (Int × Value)} {T E:TypeId} {k:Int} (h:MapU P K w b M)(hu:P.underlying K=some (.int .u64))(hT:P.underlying T=some (.map K E))
  (hk:(Lit.int .u64 k).wf=true)(hn:M.length < maxLen)(v:Value):∃ w',(Instr.mapUpdate T (.map (some b)) (.int .u64 k) v).run P w=.ok () w'∧MapU P K w' b (putM M k v)∧w.mapTurned w' b:=by
 obtain⟨w',hr,ho,ht⟩:=World.ownsMap.store h (int_keyed hu) hT hn (keyOf_mkU hu hk) (d:=.held v) (ps:=[]) (val:=v) rfl
 rw [toU_put k v (h.rising (int_keyed hu))] at ho
 exact⟨w',hr,.of ho,ht⟩
theorem MapU.drop {w:World} {b:Nat} {M:List (Int × Value)} {T E:TypeId} {k:Int} (h:MapU P K w b M)(hu:P.underlying K=some (.int .u64))(hT:P.underlying T=some (.map K E))
  (hk:(Lit.int .u64 k).wf=true)(ty:TypeId):∃ w',(Builtin.delete_ #[T,K] ty #[.map (some b),.int .u64 k]).run P w=.ok (.tuple #[]) w'∧MapU P K w' b (delM M k)∧w.mapTurned w' b:=by
 obtain⟨w',hr,ho,ht⟩:=World.ownsMap.drop h (int_keyed hu) hT (keyOf_mkU hu hk) ty
 rw [toU_del] at ho
 exact⟨w',hr,.of ho,ht⟩
theorem MapU.made (w:World):MapU P K (w.alloc (.map #[] 0)) w.heap.size []:=World.ownsMap_made w P K asIs
end
end
end Go.Proofs.YtmmeopjemkjllaaGreat
