/- Lemmas of the claim. No conditions beyond those that each states. -/
import Derived.Test.YtmmeopjemkjllaaGreatPT6
import Derived.RangeFuncBox
import Derived.RangeFuncLeaves
import Derived.RangeFuncWrites
import Derived.RangeFuncNested
import Derived.RangeFuncKeeps
import Derived.Sort.MapsRangeIn
import Derived.Shelf.Abstract
import Derived.Shelf.AbstractIn
import Derived.Lib.Hide
import Derived.OwnWalkIn
import Derived.TacticsInMore
import Derived.RegionIn
import Derived.LoopNIn
import Derived.LoopIn
import Derived.Maps.AppendAt
set_option linter.unusedVariables false
set_option linter.unusedSimpArgs false
set_option maxRecDepth 100000
set_option maxHeartbeats 8000000
namespace Go.Proofs.YtmmeopjemkjllaaGreat
section
open Go.RowKit Go.Maps Go.Shelf
attribute [local go_sem] Oper.semAt_some
theorem keyOf_word {P:Program} {k:TypeId} (hk:P.underlying k=some (.int .u64)) {key:Value} {kl:Lit} (h:keyOf P k key=some kl):∃ x:Int,key=.int .u64 x∧kl=.int .u64 x:=by
 cases key <;> simp [keyOf,hk,mapKey] at h
 rename_i q a
 obtain⟨⟨rfl,_⟩,rfl⟩:=h
 exact⟨a,rfl,rfl⟩
def Came (M:List (Int × Value))(left:Lit→Bool)(ss:List Int):Prop:=ss.Nodup∧∀ x,x∈ss↔((lookM M x).isSome=true∧left (.int .u64 x)=false)
def Once (M:List (Int × Value))(ss:List Int):Prop:=ss.Nodup∧∀ x,x∈ss↔(lookM M x).isSome=true
theorem Came.start (M:List (Int × Value)):Came M (Maps.has (toU M)) []:=⟨List.nodup_nil,fun x=>by rw [toU_has];cases (lookM M x).isSome <;> simp⟩
theorem Came.step {M:List (Int × Value)} {left:Lit→Bool} {ss:List Int} (h:Came M left ss) {x:Int} {y:DataW Value} (hlk:left (.int .u64 x)=true)(hat:∀ zd,(toU M).atKey (.int .u64 x) zd=y) :
  Came M (fun z=>left z && !z.sameKey (.int .u64 x)) (ss ++ [x]):=by
 have hhas:(lookM M x).isSome=true:=by rw [← toU_has];exact Maps.has_true_of_atKey hat
 have hnew:x ∉ ss:=fun hx=>by have:=((h.2 x).1 hx).2;rw [hlk] at this;cases this
 refine⟨List.nodup_append.2 ⟨h.1,by simp,fun a ha b hb=>by simp at hb;subst hb;exact fun e=>hnew (e ▸ ha)⟩,fun y=>?_⟩
 by_cases hy:y=x
 ·subst hy;simp [hhas,Lit.sameKey]
 ·simp [h.2 y,hy,Lit.sameKey]
theorem Came.done {M:List (Int × Value)} {left:Lit→Bool} {ss:List Int} (h:Came M left ss)(hl:∀ kl,left kl=false):Once M ss:=⟨h.1,fun x=>by rw [h.2 x,hl];simp⟩
theorem keysU_stops (F:Fence)(n:Nat)(hf:F.fn 209)(hro:F.round=none)(hn:1≤n)(Bm b:Nat)(M:List (Int × Value))(w:World)(hBm:Bm < w.heap.size)
  (hm:w.cell? ⟨Bm,0,none⟩=some (.map (some b))) (hown:MapU Tryz.prog 28 w b M) :
  SeqStopsK F n Tryz.prog 209 #[.pointer (some ⟨Bm,0,none⟩)] (fun x:Int=>#[.int .u64 x]) KeepsWalks (Once M) (fun _=>True) M.length w:=fun l J Jx W hW hJ hJx hY h0=>by
 have hm':W.cell? ⟨Bm,0,none⟩=some (.map (some b)):=(hW.cell (p:=⟨Bm,0,none⟩) hBm).trans hm
 have hown':MapU Tryz.prog 28 W b M:=hown.heap (hW.block b hown.lt)
 clear hm hown
 unfold MapU at hown'
 have ku:Keyed Tryz.prog 28:=int_keyed Tryz.underlying28
 refine callsIn_of_wp Tryz.func209 rfl hf ?_ hro
 simp only [Tryz.ntmps209,List.size_toArray,List.length_cons,List.length_nil,Nat.reduceAdd,Nat.reduceSub,Array.replicate_succ,Array.replicate_zero,List.push_toArray,List.append_toArray,List.nil_append,List.cons_append]
 gi_wp2_with (first
  | (gi_at_range;refine wpListIn_range_own _ rfl _ 253 rfl 28 3 ku Tryz.underlying253 _ b _ _ rfl hown' ?_;intro w0 hrg0 hg0 hs0)
  | gi_in)
 try go_frame
 gi_loopw [3] (fun _ wr=>∃ (left:Lit→Bool) (cnt:Nat) (ss:List Int),wr.ranges Tryz.prog 28 asIs b W.heap.size M.length (toU M) left cnt∧ss.length+cnt≤M.length∧Came M left ss∧J ss wr)
  (fun _ wr=>wr.rangeLeft b W.heap.size)
 case atStart =>
  exact⟨_,_,[],hrg0,by simp [size_toU],Came.start M,hJ [] W w0 none h0 hg0 (fun r e=>by cases e)⟩
 case round =>
  obtain⟨left,cnt,ss,hrg,hcs,hC,hJs⟩:=hrel
  gi_wp2_with (first
   | (gi_at_next;refine wpListIn_next_ranges _ rfl _ rfl 28 ku asIs (Value.int .u64) id (fun key kl hk=>by obtain⟨x,hx,_⟩:=keyOf_word Tryz.underlying28 hk;exact⟨x,hx⟩) (fun v _ _=>⟨v,rfl⟩) b W.heap.size _ _ _ _ rfl hrg ?_ ?_)
   | gi_in)
  ·intro hc0 hl0
   gi_wp2
   go_end0
   exact⟨⟨_,rfl⟩,.inl ⟨ss,hC.done hl0,hJs⟩⟩
  ·intro x c kl yd yp w2 cnt2 hkey hlk hv hat hrg2 hlt hg2 hs2 hen
   obtain⟨x',ex,rfl⟩:=keyOf_word Tryz.underlying28 hkey
   obtain rfl:x=x':=by simpa using ex
   have hJ2:J ss w2:=hJ ss wr w2 (some W.heap.size) hJs hg2 (fun r e=>by cases e;exact⟨Nat.le_refl _,hrg.iter_walk⟩)
   obtain⟨fn,tmps,assign,body,hy,hR⟩:=hY ss x w2 hJ2 (by omega)
   have hC2:=hC.step hlk hat
   have HC2:=Lib.hid hC2
   clear hs2 hC2
   gi_wp2
   refine hR.mono ?_
   rintro e W3 (⟨rfl,hJ3,hk3⟩ | ⟨rfl,hJx3⟩)
   ·gi_wp2
    have hrg3:=hrg2.of_walks hk3
    go_roundw
    case rel=>exact⟨_,cnt2,ss ++ [x],hrg3,by simp;omega,HC2.out,hJ3⟩
    case measure=>rw [hrg3.left_eq,hrg.left_eq];exact hlt
   ·gi_wp2
    refine bodyPost_ret (results_none rfl _ _ _) rfl ?_
    exact⟨⟨_,rfl⟩,.inr ⟨ss ++ [x],trivial,hJx3⟩⟩
theorem keysU_in (F:Fence)(n:Nat)(hf:F.fn 199)(hro:F.round=none)(mb:Option Nat)(w:World) :
  CallsIn F n Tryz.prog 199 #[.map mb] w fun e w'=>e=.returned (.func (.func 209) #[] #[.pointer (some ⟨w.heap.size,0,none⟩)])∧w'=w.alloc (.cells #[.map mb] 253):=by
 refine callsIn_of_wp Tryz.func199 rfl hf ?_ hro
 simp only [Tryz.ntmps199,List.size_toArray,List.length_cons,List.length_nil,Nat.reduceAdd,Nat.reduceSub,Array.replicate_succ,Array.replicate_zero,List.push_toArray,List.append_toArray,List.nil_append,List.cons_append]
 gi_wp2
 go_ret
 exact⟨rfl,rfl⟩
theorem info_u64K:(Tryz.prog.info? 28).map (fun i=>(i.zero,i.size,i.bytes))=some (some (.int .u64 0),1,8):=by kernel_rfl
theorem appendSeqU_in (F:Fence)(n:Nat)(hf:F.fn 213)(hro:F.round=none)(h1:1≤n)(g:Nat)(lb:Array Value)(hFg:F.fn g)(eg:∀ args w,(callFunc g args).run Tryz.prog w=.ok (.enter g args) w)
  (S:List Int→Prop) (N:Nat) (hN:N≤1000000) (w:World) (hseq:SeqStopsK F (n - 1) Tryz.prog g lb (fun x:Int=>#[.int .u64 x]) KeepsWalks S (fun _=>True) N w) (hS:∀ ss,S ss→ss.length≤N) :
  CallsIn F n Tryz.prog 213 #[.slice none 0 0,.func (.func g) #[] lb] w fun e w'=>∃ (v:Value) (ss:List Int),e=.returned v∧S ss∧w'.ownsRow w.heap.size 28 1 v ss.length (ss.map (Value.int .u64))∧Below w.heap.size w w':=by
 obtain⟨i0,hi,hz0,hz1,hz2⟩:=info_parts info_u64K
 refine callsIn_of_wp_marks Tryz.func213 rfl hf ?_ hro
 simp only [Tryz.ntmps213,List.size_toArray,List.length_cons,List.length_nil,Nat.reduceAdd,Nat.reduceSub,Array.replicate_succ,Array.replicate_zero,List.push_toArray,List.append_toArray,List.nil_append,List.cons_append]
 gi_wp2
 have bO:=Boxed.new w 23 (.slice none 0 0)
 have hB0:Below w.heap.size w (w.alloc (.cells #[.slice none 0 0] 23)):=(Below.refl _ w).alloc (Nat.le_refl _) _
 have hs0:(w.alloc (.cells #[.slice none 0 0] 23)).heap.size=w.heap.size+1:=by simp
 refine wpIn_rangeFunc_ownH hro h1 (gf:=g) (lb:=lb) rfl hFg eg hseq walksK_t walksK_b hB0 (fun _=>rfl)
  (fun (pre:List Int) (W:World)=>(∃ v,Boxed W w.heap.size 23 v∧W.ownsRow w.heap.size 28 1 v pre.length (pre.map (Value.int .u64))∧True)∧Below w.heap.size w W∧w.heap.size+1≤W.heap.size)
  (fun _ _ _=>False)
  (OwnFrom.and (Own.from (holdsRow_own w.heap.size w.heap.size 23 28 1 (fun (pre:List Int)=>pre.length) (fun (pre:List Int)=>pre.map (Value.int .u64)) (fun _ _=>True)) _) (OwnFrom.and (ownFrom_below (Nat.le_refl _) (by omega)) (fun _ _ _ _ hs hg _=>Nat.le_trans hs hg.size)))
  (fun _ _ _ _ _ hs _ _=>hs)
  ⟨⟨_,bO,World.ownsRow_nil _ _ _ _,trivial⟩,hB0,by omega⟩
  (fun x a' W=>a'={ tmps:=#[.slice none 0 0,.func (.func g) #[] lb,.pointer (some ⟨w.heap.size,0,none⟩),undef,.slice none 0 0,.int .u64 x,.func (.func g) #[] lb,.int .u64 x,undef,undef,undef,undef,undef],defers:=[] })
  (fun x a' _ X Y row hs hg hr=>hs) ?assign ?body ?done ?stop
 case assign =>
  rintro l pre x W K hI hK
  gi_wp2
  exact hK _ _ (KeepsFrom.refl _ _) (KeepsWalks.refl _) hI rfl
 case body =>
  rintro l pre x a' W hl ⟨r,hr⟩ ⟨⟨v,hv,hrow,_⟩,hB,hW1⟩ rfl hlt
  have hc:=hv.cell
  gi_wp2_with (gi_at_builtin;refine wpListIn_append_own _ rfl _ _ 23 rfl w.heap.size 28 i0 (.int .u64 0) 1 8 Tryz.underlying23 hi hz0 hz1 hz2 rfl (by decide) _ _ _ rfl (hrow.alloc _) ⟨W.heap.size,0,none⟩ 1 1 [.int .u64 x] rfl rfl (cell_one_new _ _ _) (by simp [Value.oneCell']) (by unfold maxLen;omega) (by omega) (by have:=hB.size;simp;omega) ?_;intro v' w1 hown' hgrow _;obtain⟨g',cap',rfl⟩:=ownsRow_succ hown';obtain⟨hv1,hv2,hr2,hk2,hb2⟩:=hv.appended (by decide) hrow hB.size (Nat.le_refl _) hown' hgrow;have hc1:=hv1.cell;have hf1:=hv1.frozen)
  have hgrow1:(W.alloc (.cells #[.int .u64 x] 28)).grownBy w1 v.ownBlock:=hgrow
  have hkw:KeepsWalks W (w1.setCell ⟨w.heap.size,0,none⟩ (.slice (some ⟨g',0,none⟩) (pre.length+1) cap')):=by
   refine ((KeepsWalks.alloc W _).trans (KeepsWalks.of_grownBy hgrow1 fun j o ej hj=>?_)).trans (KeepsWalks.setCell _ _ _)
   rcases (hrow.alloc (.cells #[.int .u64 x] 28)).2 with ⟨rfl,_⟩ | ⟨g,cap,cur,rfl,_,hgb,_⟩
   ·simp [Value.ownBlock] at ej
   ·obtain rfl:g=j:=by simpa [Value.ownBlock] using ej
    rw [hgb] at hj;cases hj;rfl
  exact⟨hk2.from _,hkw,⟨_,hv2,by simpa using hr2,trivial⟩,hB.trans hb2,by have:=hb2.size;omega⟩
 case done =>
  rintro D ys W hD hSy ⟨⟨v,hv,hrow,_⟩,hB,_⟩ hK
  have hc:=hv.cell
  gi_wp2
  refine⟨by simp,.inl ⟨_,_,rfl,run_takeDeferred hK,?_⟩⟩
  exact⟨_,results_tmp rfl _ _ _,v,ys,rfl,hSy,ownsRow_putObj hrow _ hK rfl,hB.trans (belowK_b (w:=w) (Nat.le_refl _) W D _ _ (by omega) hK rfl rfl)⟩
 case stop =>
  rintro D c pre W _ _ h _
  exact h.elim
theorem collectU_in (F:Fence)(n:Nat)(hf:F.fn 207)(hfa:F.fn 213)(hro:F.round=none)(hn:2≤n)(g:Nat)(lb:Array Value)(hFg:F.fn g)(eg:∀ args w,(callFunc g args).run Tryz.prog w=.ok (.enter g args) w)
  (S:List Int→Prop) (N:Nat) (hN:N≤1000000) (w:World) (hseq:SeqStopsK F (n - 1 - 1) Tryz.prog g lb (fun x:Int=>#[.int .u64 x]) KeepsWalks S (fun _=>True) N w) (hS:∀ ss,S ss→ss.length≤N) :
  CallsIn F n Tryz.prog 207 #[.func (.func g) #[] lb] w fun e w'=>∃ (v:Value) (ss:List Int),e=.returned v∧S ss∧w'.ownsRow w.heap.size 28 1 v ss.length (ss.map (Value.int .u64))∧Below w.heap.size w w':=by
 have h1:1≤n:=by omega
 have hcon:=appendSeqU_in F (n - 1) hfa hro (by omega) g lb hFg eg S N hN w hseq hS
 refine callsIn_of_wp Tryz.func207 rfl hf ?_ hro
 simp only [Tryz.ntmps207,List.size_toArray,List.length_cons,List.length_nil,Nat.reduceAdd,Nat.reduceSub,Array.replicate_succ,Array.replicate_zero,List.push_toArray,List.append_toArray,List.nil_append,List.cons_append]
 gi_wp2_with fail
 refine hcon.mono ?_;rintro e w' ⟨v,ss,rfl,hS,hrow,hb⟩
 gi_wp2
 go_ret
 exact⟨v,ss,rfl,hS,hrow,hb⟩
end
end Go.Proofs.YtmmeopjemkjllaaGreat
