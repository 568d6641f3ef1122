/- Lemmas of the claim. No conditions beyond those that each states. -/
import Derived.Test.YtmmeopjemkjllaaGreatPT5
import Derived.Test.YtmmeopjemkjllaaGreatPT9
set_option linter.unusedVariables false
set_option linter.unusedSimpArgs false
set_option maxRecDepth 100000
set_option maxHeartbeats 8000000
namespace Go.Proofs.YtmmeopjemkjllaaGreat
section
open Go.RowKit Go.Shelf
attribute [local go_sem] Oper.semAt_some
theorem wide_depth {p:Prop}:Fence.wide.depth.isSome=true→p:=fun h=>by simp [Fence.wide] at h
theorem pieces_any (F L R:Int)(w:World) :
  Calls Tryz.prog 281 #[.agg #[.int .u64 F,.int .u64 L,.int .u64 R]] w fun e w'=>e=.returned (.func (.func 282) #[] #[.pointer (some ⟨w.heap.size,0,none⟩)])∧w.alloc (.cells #[.int .u64 F,.int .u64 L,.int .u64 R] 30)=w':=by
 go_enter Tryz.func281,Tryz.ntmps281
 go_wp2
 go_ret
 exact⟨rfl,rfl⟩
abbrev Pc:={ x:Int × Int // U x.1∧U x.2 }
theorem U_most:U 18446744073709551615:=⟨by decide,by decide⟩
def piecesOf (F L R:Int)(hF:U F)(hL:U L)(hR:U R):List Pc :=
 if 0 < L then [⟨(F,L),hF,hL⟩,⟨(R,18446744073709551615),hR,U_most⟩] else [⟨(R,18446744073709551615),hR,U_most⟩]
def Stays (B:Nat)(W W':World):Prop:=W'.heap[B]?=W.heap[B]?
theorem pieces_stops (n:Nat)(F L R:Int)(hF:U F)(hL':U L)(hR:U R)(B:Nat)(w:World)(hB:B < w.heap.size)
  (c0:w.cell? ⟨B,0,none⟩=some (.int .u64 F))(c1:w.cell? ⟨B,1,none⟩=some (.int .u64 L))(c2:w.cell? ⟨B,2,none⟩=some (.int .u64 R)) :
  SeqStopsK Fence.wide n Tryz.prog 282 #[.pointer (some ⟨B,0,none⟩)] (fun x:Pc=>#[.agg #[.int .u64 x.1.1,.int .u64 x.1.2]]) (Stays B)
   (fun xs=>xs=piecesOf F L R hF hL' hR) (fun pre=>pre=[⟨(F,L),hF,hL'⟩]∧0 < L∨pre=piecesOf F L R hF hL' hR) 2 w:=fun l J Jx W hW _ _ hY h0=>by
 have d0:W.cell? ⟨B,0,none⟩=some (.int .u64 F):=(hW.cell (p:=⟨B,0,none⟩) (by exact hB)).trans c0
 have d1:W.cell? ⟨B,1,none⟩=some (.int .u64 L):=(hW.cell (p:=⟨B,1,none⟩) (by exact hB)).trans c1
 have d2:W.cell? ⟨B,2,none⟩=some (.int .u64 R):=(hW.cell (p:=⟨B,2,none⟩) (by exact hB)).trans c2
 clear c0 c1 c2
 refine callsIn_of_wp Tryz.func282 rfl trivial ?_ rfl
 simp only [Tryz.ntmps282,List.size_toArray,List.length_cons,List.length_nil,Nat.reduceAdd,Nat.reduceSub,Array.replicate_succ,Array.replicate_zero,List.push_toArray,List.append_toArray,List.nil_append,List.cons_append]
 by_cases hL:0 < L
 ·have hp:piecesOf F L R hF hL' hR=[⟨(F,L),hF,hL'⟩,⟨(R,18446744073709551615),hR,U_most⟩]:=by simp [piecesOf,hL]
  have HP:=Lib.hid hp;clear hp
  obtain⟨f1,t1,a1,b1,hy1,hR1⟩:=hY [] ⟨(F,L),hF,hL'⟩ W h0 (by simp)
  dsimp only at hy1
  gi_wp2
  refine⟨wide_depth,hR1.mono ?_⟩
  rintro e W1 (⟨rfl,hJ1,hk1⟩ | ⟨rfl,hx1⟩)
  ·have k2:W1.cell? ⟨B,2,none⟩=some (.int .u64 R):=(World.cell?_of_block (w:=W) (w':=W1) (a:=⟨B,2,none⟩) hk1).trans d2
   obtain⟨f2,t2,a2,b2,hy2,hR2⟩:=hY [⟨(F,L),hF,hL'⟩] ⟨(R,18446744073709551615),hR,U_most⟩ W1 hJ1 (by simp)
   dsimp only at hy2
   gi_wp2
   refine⟨wide_depth,hR2.mono ?_⟩
   rintro e W2 (⟨rfl,hJ2,_⟩ | ⟨rfl,hx2⟩)
   ·gi_wp2
    go_end0
    exact⟨⟨_,rfl⟩,.inl ⟨_,HP.out.symm,hJ2⟩⟩
   ·gi_wp2
    go_end0
    exact⟨⟨_,rfl⟩,.inr ⟨_,.inr HP.out.symm,hx2⟩⟩
  ·gi_wp2
   refine bodyPost_ret (results_none rfl _ _ _) rfl ?_
   exact⟨⟨_,rfl⟩,.inr ⟨_,.inl ⟨rfl,hL⟩,hx1⟩⟩
 ·have hp:piecesOf F L R hF hL' hR=[⟨(R,18446744073709551615),hR,U_most⟩]:=by simp [piecesOf,hL]
  have HP:=Lib.hid hp;clear hp
  obtain⟨f2,t2,a2,b2,hy2,hR2⟩:=hY [] ⟨(R,18446744073709551615),hR,U_most⟩ W h0 (by simp)
  dsimp only at hy2
  gi_wp2
  refine⟨fun _ h=>(by cases h),?_⟩
  gi_wp2
  refine⟨wide_depth,hR2.mono ?_⟩
  rintro e W2 (⟨rfl,hJ2,_⟩ | ⟨rfl,hx2⟩)
  ·gi_wp2
   go_end0
   exact⟨⟨_,rfl⟩,.inl ⟨_,HP.out.symm,hJ2⟩⟩
  ·gi_wp2
   go_end0
   exact⟨⟨_,rfl⟩,.inr ⟨_,.inr HP.out.symm,hx2⟩⟩
theorem keeps_of_below {W W':World} (h:Below W.heap.size W W'):KeepsOthers W W' :=
 ⟨h.size,fun k _ hk _=>(h.block k (Array.getElem?_eq_some_iff.1 hk).1).trans hk⟩
end
end Go.Proofs.YtmmeopjemkjllaaGreat
