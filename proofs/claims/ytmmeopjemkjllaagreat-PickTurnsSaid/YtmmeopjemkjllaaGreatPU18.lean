/- Lemmas of the claim. No conditions beyond those that each states. -/
import Derived.Test.YtmmeopjemkjllaaGreatPU8
import Derived.RangeFuncNested
import Derived.RangeFuncBound
import Derived.RangeFuncCalls
import Derived.RangeFuncLeaves
import Derived.RangeFuncBox
import Derived.Shelf.Abstract
import Derived.Shelf.RegionOpen
import Derived.OwnWalkIn
import Derived.TacticsInMore
import Derived.LoopNIn
import Derived.LoopIn
set_option linter.unusedVariables false
set_option linter.unusedSimpArgs false
set_option maxRecDepth 100000
set_option maxHeartbeats 8000000
namespace Go.Proofs.YtmmeopjemkjllaaGreat
section
open Go.RowKit Go.Shelf
attribute [local go_sem] Oper.semAt_some
theorem wide_depth {p:Prop}:Fence.wide.depth.isSome=true→p:=fun h=>by simp [Fence.wide] at h
theorem pieces_any (F L R:Int)(w:World) :
  Calls Tryz.prog 281 #[.agg #[.int .u64 F,.int .u64 L,.int .u64 R]] w fun e w'=>e=.returned (.func (.func 282) #[] #[.pointer (some ⟨w.heap.size,0,none⟩)])∧w.alloc (.cells #[.int .u64 F,.int .u64 L,.int .u64 R] 30)=w':=by
 go_enter Tryz.func281,Tryz.ntmps281
 go_wp2
 go_ret
 exact⟨rfl,rfl⟩
abbrev Pc:={ x:Int × Int // U x.1∧U x.2 }
theorem U_most:U 18446744073709551615:=⟨by decide,by decide⟩
def piecesOf (F L R:Int)(hF:U F)(hL:U L)(hR:U R):List Pc :=
 if 0 < L then [⟨(F,L),hF,hL⟩,⟨(R,18446744073709551615),hR,U_most⟩] else [⟨(R,18446744073709551615),hR,U_most⟩]
def Stays (B:Nat)(W W':World):Prop:=W'.heap[B]?=W.heap[B]?
theorem pieces_stops (n:Nat)(F L R:Int)(hF:U F)(hL':U L)(hR:U R)(B:Nat)(w:World)(hB:B < w.heap.size)
  (c0:w.cell? ⟨B,0,none⟩=some (.int .u64 F)) (c1:w.cell? ⟨B,1,none⟩=some (.int .u64 L)) (c2:w.cell? ⟨B,2,none⟩=some (.int .u64 R)) :
  SeqStopsK Fence.wide n Tryz.prog 282 #[.pointer (some ⟨B,0,none⟩)] (fun x:Pc=>#[.agg #[.int .u64 x.1.1,.int .u64 x.1.2]]) (Stays B)
   (fun xs=>xs=piecesOf F L R hF hL' hR) (fun pre=>pre=[⟨(F,L),hF,hL'⟩]∧0 < L∨pre=piecesOf F L R hF hL' hR) 2 w:=fun l J Jx W hW _ _ hY h0=>by
 have d0:W.cell? ⟨B,0,none⟩=some (.int .u64 F):=(hW.cell (p:=⟨B,0,none⟩) (by exact hB)).trans c0
 have d1:W.cell? ⟨B,1,none⟩=some (.int .u64 L):=(hW.cell (p:=⟨B,1,none⟩) (by exact hB)).trans c1
 have d2:W.cell? ⟨B,2,none⟩=some (.int .u64 R):=(hW.cell (p:=⟨B,2,none⟩) (by exact hB)).trans c2
 clear c0 c1 c2
 refine callsIn_of_wp Tryz.func282 rfl trivial ?_ rfl
 simp only [Tryz.ntmps282,List.size_toArray,List.length_cons,List.length_nil,Nat.reduceAdd,Nat.reduceSub,Array.replicate_succ,Array.replicate_zero,List.push_toArray,List.append_toArray,List.nil_append,List.cons_append]
 by_cases hL:0 < L
 ·have hp:piecesOf F L R hF hL' hR=[⟨(F,L),hF,hL'⟩,⟨(R,18446744073709551615),hR,U_most⟩]:=by simp [piecesOf,hL]
  have HP:=Lib.hid hp;clear hp
  obtain⟨f1,t1,a1,b1,hy1,hR1⟩:=hY [] ⟨(F,L),hF,hL'⟩ W h0 (by simp)
  dsimp only at hy1
  gi_wp2
  refine⟨wide_depth,hR1.mono ?_⟩
  rintro e W1 (⟨rfl,hJ1,hk1⟩ | ⟨rfl,hx1⟩)
  ·have k2:W1.cell? ⟨B,2,none⟩=some (.int .u64 R):=(World.cell?_of_block (w:=W) (w':=W1) (a:=⟨B,2,none⟩) hk1).trans d2
   obtain⟨f2,t2,a2,b2,hy2,hR2⟩:=hY [⟨(F,L),hF,hL'⟩] ⟨(R,18446744073709551615),hR,U_most⟩ W1 hJ1 (by simp)
   dsimp only at hy2
   gi_wp2
   refine⟨wide_depth,hR2.mono ?_⟩
   rintro e W2 (⟨rfl,hJ2,_⟩ | ⟨rfl,hx2⟩)
   ·gi_wp2
    go_end0
    exact⟨⟨_,rfl⟩,.inl ⟨_,HP.out.symm,hJ2⟩⟩
   ·gi_wp2
    go_end0
    exact⟨⟨_,rfl⟩,.inr ⟨_,.inr HP.out.symm,hx2⟩⟩
  ·gi_wp2
   refine bodyPost_ret (results_none rfl _ _ _) rfl ?_
   exact⟨⟨_,rfl⟩,.inr ⟨_,.inl ⟨rfl,hL⟩,hx1⟩⟩
 ·have hp:piecesOf F L R hF hL' hR=[⟨(R,18446744073709551615),hR,U_most⟩]:=by simp [piecesOf,hL]
  have HP:=Lib.hid hp;clear hp
  obtain⟨f2,t2,a2,b2,hy2,hR2⟩:=hY [] ⟨(R,18446744073709551615),hR,U_most⟩ W h0 (by simp)
  dsimp only at hy2
  gi_wp2
  refine⟨fun _ h=>(by cases h),?_⟩
  gi_wp2
  refine⟨wide_depth,hR2.mono ?_⟩
  rintro e W2 (⟨rfl,hJ2,_⟩ | ⟨rfl,hx2⟩)
  ·gi_wp2
   go_end0
   exact⟨⟨_,rfl⟩,.inl ⟨_,HP.out.symm,hJ2⟩⟩
  ·gi_wp2
   go_end0
   exact⟨⟨_,rfl⟩,.inr ⟨_,.inr HP.out.symm,hx2⟩⟩
theorem keeps_of_below {W W':World} (h:Below W.heap.size W W'):KeepsOthers W W' :=
 ⟨h.size,fun k _ hk _=>(h.block k (Array.getElem?_eq_some_iff.1 hk).1).trans hk⟩
end
section
open Go.RowKit Go.Shelf
attribute [local go_sem] Oper.semAt_some
def reachL (n y:Int):List Pc→Option Int
 | []=>none
 | x :: l=>if y≤cap (x.1.1*x.1.2) then some (if y=0 then n else IntKind.u64.wrap (n+cap (ceil y x.1.1))) else reachL (IntKind.u64.wrap (n+x.1.2)) (y - cap (x.1.1*x.1.2)) l
theorem reachL_stop {n y:Int} {x:Pc} {l:List Pc} (h:y≤cap (x.1.1*x.1.2))(h0:y≠0):reachL n y (x :: l)=some (IntKind.u64.wrap (n+cap (ceil y x.1.1))):=by
 rw [reachL,if_pos h,if_neg h0]
theorem reachL_zero {n:Int} {x:Pc} {l:List Pc}:reachL n 0 (x :: l)=some n:=by
 rw [reachL,if_pos (cap_nonneg (Int.mul_nonneg x.2.1.1 x.2.2.1)),if_pos rfl]
theorem reachL_go {n y:Int} {x:Pc} {l:List Pc} (h:cap (x.1.1*x.1.2) < y):reachL n y (x :: l)=reachL (IntKind.u64.wrap (n+x.1.2)) (y - cap (x.1.1*x.1.2)) l:=by
 rw [reachL,if_neg (by omega)]
theorem U_wrap (x:Int):U (IntKind.u64.wrap x):=by rw [IntKind.wrap_u64];unfold U;omega
theorem _root_.Go.Boxed.below' {X Y:World} {B:Nat} {t:TypeId} {v:Value} (h:Boxed X B t v)(hb:Below X.heap.size X Y):Boxed Y B t v:=(hb.block B h.lt).trans h
theorem box_kept {X Y:World} {n₀ B:Nat} {row:Option Nat} {t:TypeId} {v:Value} (h:Boxed X B t v)(hg:X.grownBy Y row)(hr:∀ r,row=some r→n₀≤r∧∃ o:Obj,X.heap[r]?=some o∧o.isCells=false):Boxed Y B t v :=
 h.kept hg (fun e=>by obtain⟨o,ho,hc⟩:=(hr B e.symm).2;rw [show X.heap[B]?=_ from h] at ho;cases ho;cases hc)
theorem reach_over (F L R y:Int)(w:World)(hy:4611686018427387904 < y) :
  Calls Tryz.prog 275 #[.agg #[.int .u64 F,.int .u64 L,.int .u64 R],.int .u64 y] w fun e w'=>e=.returned (.int .u64 9223372036854775808)∧Below w.heap.size w w':=by
 go_enter Tryz.func275,Tryz.ntmps275
 go_wp2
 go_returns
 exact⟨rfl,by go_grown⟩
theorem reach_loop (F L R y:Int)(w:World)(hF:U F)(hL:U L)(hR:U R)(hy0:0≤y)(hy:y≤4611686018427387904) :
  Calls Tryz.prog 275 #[.agg #[.int .u64 F,.int .u64 L,.int .u64 R],.int .u64 y] w fun e w'=>e=.returned (.int .u64 ((reachL 0 y (piecesOf F L R hF hL hR)).getD 9223372036854775808))∧Below w.heap.size w w':=by
 have uy:U y:=by unfold U;omega
 refine (callsIn_wide (n:=9)).1 ?_
 refine callsIn_of_wp_marks Tryz.func275 rfl trivial ?_ rfl
 simp only [Tryz.ntmps275,List.size_toArray,List.length_cons,List.length_nil,Nat.reduceAdd,Nat.reduceSub,Array.replicate_succ,Array.replicate_zero,List.push_toArray,List.append_toArray,List.nil_append,List.cons_append]
 gi_wp2_with (refine⟨trivial,?_⟩;gi_at_call 281;refine (callsIn_wide.2 (pieces_any F L R _)).mono ?_;rintro e w' ⟨rfl,rfl⟩)
 obtain⟨W0,hW0⟩:∃ W0,(((((w.alloc (.cells #[.int .u64 F,.int .u64 L,.int .u64 R] 30)).alloc (.cells #[.int .u64 y] 28)).alloc (.cells #[.int .u64 0] 28)).alloc (.cells #[.int .u64 0] 28)).alloc (.cells #[.int .u64 F,.int .u64 L,.int .u64 R] 30))=W0:=⟨_,rfl⟩
 have bY:Boxed W0 (w.heap.size+1) 28 (.int .u64 y):=by
  rw [← hW0];have h:=(((Boxed.new (w.alloc (.cells #[.int .u64 F,.int .u64 L,.int .u64 R] 30)) 28 (.int .u64 y)).alloc (.cells #[.int .u64 0] 28)).alloc (.cells #[.int .u64 0] 28)).alloc (.cells #[.int .u64 F,.int .u64 L,.int .u64 R] 30);simpa using h
 have bO:Boxed W0 (w.heap.size+1+1) 28 (.int .u64 0):=by
  rw [← hW0];have h:=((Boxed.new ((w.alloc (.cells #[.int .u64 F,.int .u64 L,.int .u64 R] 30)).alloc (.cells #[.int .u64 y] 28)) 28 (.int .u64 0)).alloc (.cells #[.int .u64 0] 28)).alloc (.cells #[.int .u64 F,.int .u64 L,.int .u64 R] 30);simpa using h
 have bN:Boxed W0 (w.heap.size+1+1+1) 28 (.int .u64 0):=by
  rw [← hW0];have h:=(Boxed.new (((w.alloc (.cells #[.int .u64 F,.int .u64 L,.int .u64 R] 30)).alloc (.cells #[.int .u64 y] 28)).alloc (.cells #[.int .u64 0] 28)) 28 (.int .u64 0)).alloc (.cells #[.int .u64 F,.int .u64 L,.int .u64 R] 30);simpa using h
 have bC:Blk W0 (w.heap.size+1+1+1+1) 30 #[.int .u64 F,.int .u64 L,.int .u64 R]:=by
  rw [← hW0];have h:=Blk.new ((((w.alloc (.cells #[.int .u64 F,.int .u64 L,.int .u64 R] 30)).alloc (.cells #[.int .u64 y] 28)).alloc (.cells #[.int .u64 0] 28)).alloc (.cells #[.int .u64 0] 28)) 30 #[.int .u64 F,.int .u64 L,.int .u64 R];simpa using h
 have hB0:Below w.heap.size w W0:=by rw [← hW0];go_grown
 have hsz:W0.heap.size=w.heap.size+5:=by rw [← hW0];simp
 rw [hW0]
 clear hW0
 have hdf:decide (4611686018427387904 < y)=false:=by simp;omega
 rw [hdf]
 refine wpIn_rangeFunc_ownH rfl (by omega) (gf:=282) (lb:=#[.pointer (some ⟨w.heap.size+1+1+1+1,0,none⟩)]) rfl trivial (enters_of Tryz.func282 (by kernel_rfl) rfl)
  (pieces_stops _ F L R hF hL hR (w.heap.size+1+1+1+1) W0 (by omega) (bC.cell 0) (bC.cell 1) (bC.cell 2)) (fun h k=>k.trans h)
  (fun W l o o' hl h _ _=>World.putObj_heap_other (by omega)) (Below.refl _ _) (fun _=>rfl)
  (fun pre W=>(∃ n z,U n∧U z∧Boxed W (w.heap.size+1) 28 (.int .u64 z)∧Boxed W (w.heap.size+1+1+1) 28 (.int .u64 n)∧∀ rest,reachL 0 y (pre ++ rest)=reachL n z rest) ∧
   Boxed W (w.heap.size+1+1) 28 (.int .u64 0)∧Below w.heap.size w W∧w.heap.size+5≤W.heap.size)
  (fun c pre W=>c=.ret∧(∃ v,Boxed W (w.heap.size+1+1) 28 (.int .u64 v)∧∀ rest,reachL 0 y (pre ++ rest)=some v)∧Below w.heap.size w W)
  (fun pre X Y row hs hg hr=>by
   obtain⟨⟨n,z,h1,h2,h3,h4,h5⟩,h6,h7,h8⟩:=hs
   exact⟨⟨n,z,h1,h2,box_kept h3 hg hr,box_kept h4 hg hr,h5⟩,box_kept h6 hg hr,h7.grown hg h7.size (fun k e=>by have:=(hr k e).1;omega),Nat.le_trans h8 hg.size⟩)
  (fun c pre X Y row hs hg hr=>by
   obtain⟨h1,⟨v,h2,h3⟩,h4⟩:=hs
   exact⟨h1,⟨v,box_kept h2 hg hr,h3⟩,h4.grown hg h4.size (fun k e=>by have:=(hr k e).1;omega)⟩)
  ⟨⟨0,y,⟨by decide,by decide⟩,uy,bY,bN,fun _=>rfl⟩,bO,hB0,by omega⟩
  (fun x a' W=>∃ Bx,w.heap.size+1+1+1+1 < Bx∧Blk W Bx 321 #[.int .u64 x.1.1,.int .u64 x.1.2]∧a'={ tmps:=#[.agg #[.int .u64 F,.int .u64 L,.int .u64 R],.int .u64 y,.pointer (some ⟨w.heap.size,0,none⟩),
   .pointer (some ⟨w.heap.size+1,0,none⟩),.pointer (some ⟨w.heap.size+1+1,0,none⟩),.pointer (some ⟨w.heap.size+1+1+1,0,none⟩),.pointer (some ⟨Bx,0,none⟩),undef,undef,undef,
   .int .u64 y,.bool false,.agg #[.int .u64 F,.int .u64 L,.int .u64 R],.func (.func 282) #[] #[.pointer (some ⟨w.heap.size+1+1+1+1,0,none⟩)],.agg #[.int .u64 x.1.1,.int .u64 x.1.2],
   undef,undef,undef,undef,undef,undef,undef,undef,undef,undef,undef,undef,undef,undef,undef,undef,undef,undef,undef,undef,undef,undef,undef,undef,undef,undef,undef,undef],defers:=[] })
  (fun x a' _ X Y row hs hg hr=>by obtain⟨Bx,h1,h2,h3⟩:=hs;exact⟨Bx,h1,h2.grown hg (fun e=>by obtain⟨o,ho,hc⟩:=(hr _ e.symm).2;rw [show X.heap[Bx]?=_ from h2] at ho;cases ho;cases hc),h3⟩)
  ?assign ?body ?done ?stop
 case assign =>
  rintro l pre x W K ⟨⟨n,z,h1,h2,h3,h4,h5⟩,h6,h7,h8⟩ hK
  have H5:=Lib.hid h5;clear h5
  gi_wp2
  exact hK _ _ ((KeepsOthers.alloc _ _).from _) (Below.heap_alloc _ _ _ (by omega)) ⟨⟨n,z,h1,h2,h3.alloc _,h4.alloc _,H5.out⟩,h6.alloc _,h7.alloc h7.size _,by simp;omega⟩ ⟨W.heap.size,by omega,Blk.new W _ _,rfl⟩
 case body =>
  rintro l pre x a' W hl ⟨r,hr⟩ ⟨⟨n,z,un,uz,bZ,bA,h5⟩,bR,hB1,hW5⟩ ⟨Bx,hBx,bX,rfl⟩ hlt
  have H5:=Lib.hid h5;clear h5
  have cZ:=bZ.cell;have fZ:=bZ.frozen
  have cA:=bA.cell;have fA:=bA.frozen
  have cR:=bR.cell;have fR:=bR.frozen
  have c0:W.cell? ⟨Bx,0,none⟩=some (.int .u64 x.1.1):=bX.cell 0
  have c1:W.cell? ⟨Bx,1,none⟩=some (.int .u64 x.1.2):=bX.cell 1
  have hsl:=Lib.hid bX.lt
  obtain⟨⟨a,b⟩,ua,ub⟩:=x
  simp only at c0 c1 ua ub
  have zc:=cap_nonneg (Int.mul_nonneg ua.1 ub.1)
  by_cases h1:z≤cap (a*b)
  ·by_cases h0:z=0
   ·subst h0
    gi_wp2_with (refine⟨trivial,?_⟩;gi_at_call 260;refine (CallsIn.inRound l (callsIn_wide.2 (times_any _ _ _ ua ub))).mono ?_;rintro e W1 ⟨rfl,hb1⟩;obtain⟨hc1,hf1⟩:=bcell hb1;have q1:=bZ.lt;have q2:=bA.lt;have q3:=bR.lt;have q4:=hsl.out)
    refine⟨((keeps_of_below hb1).trans (KeepsOthers.setCell _ _ _)).from _,rfl,⟨n,(bR.below' hb1).set _,fun rest=>?_⟩,(hB1.trans (hb1.mono hB1.size)).setCell (by simp;omega) _⟩
    rw [List.append_assoc,H5.out]
    exact reachL_zero
   ·have hz0:(z == 0)=false:=by simp;omega
    have hcap:=cap_le_self (a*b)
    have ha1:1≤a:=by
     by_cases h:a < 1
     ·have ha0:a=0:=by have:=ua.1;omega
      rw [ha0,Int.zero_mul] at h1;have:=uz.1;simp [cap] at h1;omega
     ·omega
    clear hcap
    gi_wp2_with (first
     | (refine⟨trivial,?_⟩;gi_at_call 260;refine (CallsIn.inRound l (callsIn_wide.2 (times_any _ _ _ ua ub))).mono ?_;rintro e W1 ⟨rfl,hb1⟩;obtain⟨hc1,hf1⟩:=bcell hb1;have q1:=bZ.lt;have q2:=bA.lt;have q3:=bR.lt;have q4:=hsl.out)
     | (refine⟨trivial,?_⟩;gi_at_call 259;refine (CallsIn.inRound l (callsIn_wide.2 (up_word _ _ _ uz ha1 ua))).mono ?_;rintro e W2 ⟨rfl,hb2⟩;have hb2:Below W1.heap.size W1 W2:=hb2;obtain⟨hc2,hf2⟩:=bcell hb2;have q5:w.heap.size+1+1+1 < W1.heap.size:=Nat.lt_of_lt_of_le q2 hb1.size;have q6:w.heap.size+1+1 < W1.heap.size:=Nat.lt_of_lt_of_le q3 hb1.size))
    refine⟨(((keeps_of_below hb1).trans (keeps_of_below hb2)).trans (KeepsOthers.setCell _ _ _)).from _,rfl,⟨_,((bR.below' hb1).below' hb2).set _,fun rest=>?_⟩,((hB1.trans (hb1.mono hB1.size)).trans (hb2.mono (Nat.le_trans hB1.size hb1.size))).setCell (by simp;omega) _⟩
    rw [List.append_assoc,H5.out]
    exact reachL_stop h1 h0
  ·have h1':cap (a*b) < z:=by omega
   have hw:IntKind.u64.wrap (z - cap (a*b))=z - cap (a*b):=wrap_u (by unfold U at *;omega)
   have uz':U (z - cap (a*b)):=by unfold U at *;omega
   clear h1
   gi_wp2_with (refine⟨trivial,?_⟩;gi_at_call 260;refine (CallsIn.inRound l (callsIn_wide.2 (times_any _ _ _ ua ub))).mono ?_;rintro e W1 ⟨rfl,hb1⟩;obtain⟨hc1,hf1⟩:=bcell hb1;have q1:=bZ.lt;have q2:=bA.lt;have q3:=bR.lt;have q4:=hsl.out)
   refine⟨(((keeps_of_below hb1).trans (KeepsOthers.setCell _ _ _)).trans (KeepsOthers.setCell _ _ _)).from _,?_,⟨IntKind.u64.wrap (n+b),z - cap (a*b),U_wrap _,uz',?_,?_,fun rest=>?_⟩,?_,?_,?_⟩
   ·exact (Below.heap_setCell _ _ _ _ (by simp)).trans ((Below.heap_setCell _ _ _ _ (by simp;omega)).trans (hb1.block _ (by omega)))
   ·have h2:=((bZ.below' hb1).set (.int .u64 (z - cap (a*b)))).other (B':=w.heap.size+1+1+1) (by omega) (.int .u64 (IntKind.u64.wrap (n+b)))
    exact h2
   ·have h2:=((bA.below' hb1).other (B':=w.heap.size+1) (by omega) (.int .u64 (z - cap (a*b)))).set (.int .u64 (IntKind.u64.wrap (n+b)))
    exact h2
   ·rw [List.append_assoc,H5.out]
    exact reachL_go h1'
   ·have h2:=((bR.below' hb1).other (B':=w.heap.size+1) (by omega) (.int .u64 (z - cap (a*b)))).other (B':=w.heap.size+1+1+1) (by omega) (.int .u64 (IntKind.u64.wrap (n+b)))
    exact h2
   ·exact ((hB1.trans (hb1.mono hB1.size)).setCell (by simp) _).setCell (by simp;omega) _
   ·have:=hb1.size
    simp only [World.size_setCell]
    omega
 case done =>
  rintro D xs W hD rfl ⟨⟨n,z,un,uz,bZ,bA,h5⟩,bR,hB1,hW5⟩ hK
  have hr:reachL 0 y (piecesOf F L R hF hL hR)=none:=by have:=h5 [];rwa [List.append_nil] at this
  have HR:=Lib.hid hr
  clear h5 hr
  have cR:=bR.cell;have fR:=bR.frozen
  gi_wp2
  have bR':=bR.set (.int .u64 9223372036854775808)
  have hK':(W.setCell ⟨w.heap.size+1+1,0,none⟩ (.int .u64 9223372036854775808)).heap[D]?=some (.deferred (some [])):=(KeepsOthers.setCell W _ _).same D _ hK rfl
  refine⟨by simp,.inl ⟨_,_,rfl,run_takeDeferred hK',?_⟩⟩
  have cV:=cell_kept bR'.cell (grownBy_putObj' _ D (.deferred none)) (fun r e=>by cases e;exact⟨_,hK',rfl⟩)
  exact⟨_,by simp [results,Tryz.results275,go_sem,cV];rfl,(by rw [HR.out];rfl),(hB1.setCell (by simp;omega) _).trans (belowK_b (w:=w) (Nat.le_refl _) _ D _ _ (by omega) hK' rfl rfl)⟩
 case stop =>
  rintro D c pre W hD hSp ⟨rfl,⟨v,bV,hv⟩,hB1⟩ hK
  have hr:reachL 0 y (piecesOf F L R hF hL hR)=some v:=by
   rcases hSp with ⟨rfl,hL0⟩ | rfl
   ·have:=hv [⟨(R,18446744073709551615),hR,U_most⟩]
    rw [show piecesOf F L R hF hL hR=[⟨(F,L),hF,hL⟩] ++ [⟨(R,18446744073709551615),hR,U_most⟩] by simp [piecesOf,hL0]]
    exact this
   ·have:=hv [];rwa [List.append_nil] at this
  have HR:=Lib.hid hr
  clear hv hr hSp
  gi_wp2
  refine⟨by simp,.inl ⟨_,_,rfl,run_takeDeferred hK,?_⟩⟩
  have cV:=cell_kept bV.cell (grownBy_putObj' _ D (.deferred none)) (fun r e=>by cases e;exact⟨_,hK,rfl⟩)
  exact⟨_,by simp [results,Tryz.results275,go_sem,cV];rfl,(by rw [HR.out];rfl),hB1.trans (belowK_b (w:=w) (Nat.le_refl _) W D _ _ (by omega) hK rfl rfl)⟩
end
section
open Go.RowKit
theorem reach_eq {F L R y:Int} (hF:U F)(hL:U L)(hR:U R)(hL1:L≤1099511627776)(hy0:0≤y)(hy:y≤4611686018427387904) :
  (reachL 0 y (piecesOf F L R hF hL hR)).getD 9223372036854775808=reachC F L R y:=by
 have h3:=hL.1
 have wr:∀ n z c:Int,0≤n→n≤1099511627776→0≤cap (ceil z c)→IntKind.u64.wrap (n+cap (ceil z c))=n+cap (ceil z c):=fun n z c h1 h2 h4=>wrap_u (by have:=cap_le (ceil z c);unfold U;omega)
 have cn:∀ z c:Int,0≤z→0≤c→(z≤cap (c*18446744073709551615)∨∃ l,0≤l∧z≤cap (c*l))→z≠0→0≤cap (ceil z c):=fun z c h1 h2 h4 h5=>by
  refine cap_nonneg ?_
  by_cases hc:1≤c
  ·exact ceil_nonneg hc h1
  ·have:c=0:=by omega
   subst this
   rcases h4 with h4 | ⟨l,_,h4⟩ <;> (rw [Int.zero_mul] at h4;unfold cap at h4;omega)
 have hno:¬ 4611686018427387904 < y:=by omega
 unfold reachC piecesOf
 rw [if_neg hno]
 by_cases h:0 < L
 ·simp only [h,if_true,true_and]
  rw [reachL]
  by_cases c1:y≤cap (F*L)
  ·rw [if_pos c1,if_pos c1]
   by_cases y0:y=0
   ·rw [if_pos y0,if_pos y0];rfl
   ·rw [if_neg y0,if_neg y0,wr 0 _ _ (by omega) (by omega) (cn _ _ hy0 hF.1 (.inr ⟨L,h3,c1⟩) y0),Int.zero_add];rfl
  ·rw [if_neg c1,if_neg c1]
   have hz:0≤y - cap (F*L):=by omega
   rw [show IntKind.u64.wrap (0+L)=L by rw [Int.zero_add];exact wrap_u hL,reachL]
   by_cases c2:y - cap (F*L)≤cap (R*18446744073709551615)
   ·have hz0:¬ y - cap (F*L)=0:=by omega
    rw [if_pos c2,if_pos c2,if_neg hz0,if_neg hz0,wr _ _ _ h3 hL1 (cn _ _ hz hR.1 (.inl c2) (by omega))];rfl
   ·rw [if_neg c2,if_neg c2];rfl
 ·have hL0:L=0:=by omega
  subst hL0
  simp only [h,if_false,false_and]
  rw [reachL]
  by_cases c2:y≤cap (R*18446744073709551615)
  ·rw [if_pos c2,if_pos c2]
   by_cases y0:y=0
   ·rw [if_pos y0,if_pos y0];rfl
   ·rw [if_neg y0,if_neg y0,wr 0 _ _ (by omega) (by omega) (cn _ _ hy0 hR.1 (.inl c2) y0)];rfl
  ·rw [if_neg c2,if_neg c2];rfl
theorem reach_any (F L R y:Int)(w:World)(hF:U F)(hL:U L)(hR:U R)(hL1:L≤1099511627776)(hy:U y) :
  Calls Tryz.prog 275 #[.agg #[.int .u64 F,.int .u64 L,.int .u64 R],.int .u64 y] w fun e w'=>e=.returned (.int .u64 (reachC F L R y))∧Below w.heap.size w w':=by
 by_cases h:4611686018427387904 < y
 ·rw [reachC_over h];exact reach_over F L R y w h
 ·have h1:=reach_loop F L R y w hF hL hR hy.1 (by omega)
  rwa [reach_eq hF hL hR hL1 hy.1 (by omega)] at h1
def mayB (F L R:Int):Bool:=decide (F≤1048576) && decide (R≤1048576) && decide (L≤1099511627776) && (if L=0 then decide (F=0) else decide (F≠R))
theorem mayB_spec {F L R:Int} (hF:0≤F)(hL:0≤L)(hR:0≤R)(h:mayB F L R=true):MayC F L R:=by
 unfold mayB at h
 simp only [Bool.and_eq_true,decide_eq_true_eq] at h
 obtain⟨⟨⟨h1,h2⟩,h3⟩,h4⟩:=h
 exact⟨hF,h1,hR,h2,hL,h3,fun h0=>by simpa [h0] using h4⟩
theorem may_any (F L R:Int)(w:World)(hL:0≤L) :
  Calls Tryz.prog 82 #[.agg #[.int .u64 F,.int .u64 L,.int .u64 R]] w fun e w'=>e=.returned (.bool (mayB F L R))∧Below w.heap.size w w':=by
 by_cases h1:F≤1048576
 ·by_cases h2:R≤1048576
  ·by_cases h3:L≤1099511627776
   ·by_cases h4:L=0
    ·subst h4
     have e:mayB F 0 R=decide (F=0):=by simp [mayB,h1,h2]
     have E:=Lib.hid e;clear e
     by_cases h5:F=0
     ·subst h5
      go_enter Tryz.func82,Tryz.ntmps82
      go_wp2
      go_ret
      exact⟨by rw [E.out];rfl,by go_grown⟩
     ·have h5b:(F == 0)=false:=by simpa using h5
      go_enter Tryz.func82,Tryz.ntmps82
      go_wp2
      go_ret
      exact⟨by rw [E.out];simp [h5],by go_grown⟩
    ·have h4b:(L == 0)=false:=by simpa using h4
     have e:mayB F L R=decide (F≠R):=by simp [mayB,h1,h2,h3,h4]
     have E:=Lib.hid e;clear e
     by_cases h5:F=R
     ·subst h5
      have h5b:(F != F)=false:=by simp
      go_enter Tryz.func82,Tryz.ntmps82
      go_wp2
      go_ret
      exact⟨by rw [E.out];simp,by go_grown⟩
     ·have h5b:(F != R)=true:=by simpa using h5
      go_enter Tryz.func82,Tryz.ntmps82
      go_wp2
      go_ret
      exact⟨by rw [E.out];simp [h5],by go_grown⟩
   ·have E:=Lib.hid (show mayB F L R=false by simp [mayB,h3])
    go_enter Tryz.func82,Tryz.ntmps82
    go_wp2
    go_ret
    exact⟨by rw [E.out];rfl,by go_grown⟩
  ·have E:=Lib.hid (show mayB F L R=false by simp [mayB,h2])
   go_enter Tryz.func82,Tryz.ntmps82
   go_wp2
   go_ret
   exact⟨by rw [E.out];rfl,by go_grown⟩
 ·have E:=Lib.hid (show mayB F L R=false by simp [mayB,h1])
  go_enter Tryz.func82,Tryz.ntmps82
  go_wp2
  go_ret
  exact⟨by rw [E.out];rfl,by go_grown⟩
theorem bent_any (F L R:Int)(w:World) :
  Calls Tryz.prog 149 #[.agg #[.int .u64 F,.int .u64 L,.int .u64 R]] w fun e w'=>e=.returned (.bool (decide (R < F)))∧Below w.heap.size w w':=by
 go_enter Tryz.func149,Tryz.ntmps149
 go_wp2
 go_ret
 exact⟨rfl,by go_grown⟩
end
section
open Go.RowKit
attribute [local go_sem] quietR quietAtR quietUponR plain plainUpon
theorem mul_bd {a t A T:Int} (ha:0≤a)(hA:a≤A)(ht:0≤t)(hT:t≤T):0≤a*t∧a*t≤A*T :=
 ⟨Int.mul_nonneg ha ht,Int.mul_le_mul hA hT ht (Int.le_trans ha hA)⟩
theorem line_any (g:Nat)(F L R x y t:Int)(w:World)(hR:U R)(hR1:R≤1048576)(hx:0≤x)(hxt:x≤t)(ht:U t)(hy:U y)(hg:g < w.heap.size)(c2:w.cell? ⟨g,2,none⟩=some (.int .u64 R)) :
  Calls Tryz.prog 278 #[.pointer (some ⟨g,0,none⟩),.agg #[.int .u64 x,.int .u64 y],.int .u64 t] w fun e w' =>
   e=.returned (.agg #[.int .u64 (hiW (R*(t - x)+y)),.int .u64 (loW (R*(t - x)+y))])∧Below w.heap.size w w':=by
 have wd:IntKind.u64.wrap (t - x)=t - x:=wrap_u (by unfold U at *;omega)
 have ud:U (t - x):=by unfold U at *;omega
 have mb:=mul_bd hR.1 hR1 ud.1 ud.2
 have nm:num (hiW (R*(t - x))) (loW (R*(t - x)))+num 0 y=R*(t - x)+y:=by rw [num_words];simp [num]
 have h1:=U_hi (n:=R*(t - x)) mb.1 (by omega)
 have h2:=U_lo (R*(t - x))
 have hs:num (hiW (R*(t - x))) (loW (R*(t - x)))+num 0 y < 340282366920938463463374607431768211456:=by rw [nm];unfold U at hy;omega
 have NM:=Lib.hid nm
 have U0:U (0:Int):=⟨by decide,by decide⟩
 clear nm mb
 go_enter Tryz.func278,Tryz.ntmps278
 go_wp2
 obtain⟨W0,hW0⟩:∃ W0,(w.alloc (.cells #[.int .u64 x,.int .u64 y] 315)).alloc (.cells #[.int .u64 0,.int .u64 0] 236)=W0:=⟨_,rfl⟩
 have bX:Blk W0 w.heap.size 315 #[.int .u64 x,.int .u64 y]:=by rw [← hW0];exact (Blk.new w _ _).alloc _
 have bO:Blk W0 (w.heap.size+1) 236 #[.int .u64 0,.int .u64 0]:=by rw [← hW0];have h:=Blk.new (w.alloc (.cells #[.int .u64 x,.int .u64 y] 315)) 236 #[.int .u64 0,.int .u64 0];simpa using h
 have hb0:Below w.heap.size w W0:=by rw [← hW0];go_grown
 have c2':=(hb0.cell (p:=⟨g,2,none⟩) hg).trans c2
 have hg':g < W0.heap.size:=Nat.lt_of_lt_of_le hg hb0.size
 rw [hW0]
 clear hW0
 have o2:=fun e=>(over_cell (w:=W0) (e:=e) (o:=2) hg').trans c2'
 have ox:=fun e=>(over_cell (w:=W0) (e:=e) (o:=0) bX.lt).trans (bX.cell 0)
 have oy:=fun e=>(over_cell (w:=W0) (e:=e) (o:=1) bX.lt).trans (bX.cell 1)
 simp only [lTA,lCZ,lCS] at ox oy
 refine wp_region_alloc (w:=W0) 17 _ _ 7 (.cells #[.int .u64 0,.int .u64 0] 236) (by kernel_rfl) rfl rfl rfl (fun _ _=>by kernel_rfl) (by kernel_rfl) ?_
 simp only [List.take_succ_cons,List.take_zero,List.drop_succ_cons,List.drop_zero]
 repeat (refine wpQuietR_step (fun K hK=>?_);go_simp;first | (refine hK _ ?_;clear hK K) | (apply Exists.intro;refine⟨fun _=>?_,hK _ ?_⟩;(first | (go_at_call 201;exact mul_any _ _ _ hR ud) | (go_at_call 210;exact plus_any _ _ _ _ _ h1 h2 U0 hy hs));clear hK K))
 refine wpQuietR_nil ?_
 intro B W1 hB hb1 hO
 have bN:Blk W1 B 236 #[.int .u64 0,.int .u64 0]:=hO
 have n0:=bN.cell 0;have n1:=bN.cell 1;have f0:=bN.frozen 0;have f1:=bN.frozen 1
 simp only [lTA,lCZ,lCS] at n0 n1
 go_simp
 rw [NM.out]
 have bN2:=(bN.set_ 0 (.int .u64 (hiW (R*(t - x)+y)))).set_ 1 (.int .u64 (loW (R*(t - x)+y)))
 have hb2:Below W0.heap.size W0 ((W1.setCell ⟨B,0,none⟩ (.int .u64 (hiW (R*(t - x)+y)))).setCell ⟨B,1,none⟩ (.int .u64 (loW (R*(t - x)+y)))):=(hb1.setCell hB _).setCell hB _
 refine⟨hb2,?_⟩
 obtain⟨W2,hW2⟩:∃ W2,(W1.setCell ⟨B,0,none⟩ (.int .u64 (hiW (R*(t - x)+y)))).setCell ⟨B,1,none⟩ (.int .u64 (loW (R*(t - x)+y)))=W2:=⟨_,rfl⟩
 rw [hW2] at bN2 hb2 ⊢
 clear hW2 n0 n1 f0 f1 o2 ox oy bN
 have m0:=bN2.cell 0;have m1:=bN2.cell 1
 simp at m0 m1
 have bO2:=bO.below hb2 bO.lt
 have p0:=bO2.cell 0;have p1:=bO2.cell 1;have g0:=bO2.frozen 0;have g1:=bO2.frozen 1
 simp only [lTA,lCZ,lCS] at p0 p1
 generalize hhi:hiW (R*(t - x)+y)=hi at *
 generalize hlo:loW (R*(t - x)+y)=lo at *
 have HHI:=Lib.hid hhi;have HLO:=Lib.hid hlo;clear hhi hlo
 go_wp2
 have r0:=((bO2.set_ 0 (.int .u64 hi)).set_ 1 (.int .u64 lo)).cell 0
 have r1:=((bO2.set_ 0 (.int .u64 hi)).set_ 1 (.int .u64 lo)).cell 1
 simp at r0 r1
 refine bodyPost_ret (v:=.agg #[.int .u64 hi,.int .u64 lo]) (by simp [results,Tryz.results278,go_sem,r0,r1]) rfl ⟨by rw [HHI.out,HLO.out],?_⟩
 exact (((hb0.trans (hb2.mono hb0.size)).setCell (by simp) _).setCell (by simp) _)
theorem has_any (g:Nat)(F L R x y t n:Int)(w:World)(hF:U F)(hF1:F≤1048576)(hR:U R)(hR1:R≤1048576)(hL:U L)(hx:0≤x)(hxt:x≤t)(ht:U t)(hy:U y)(hn:n=min (t - x) L)(hg:g < w.heap.size)
  (c0:w.cell? ⟨g,0,none⟩=some (.int .u64 F)) (c1:w.cell? ⟨g,1,none⟩=some (.int .u64 L)) (c2:w.cell? ⟨g,2,none⟩=some (.int .u64 R)) :
  Calls Tryz.prog 277 #[.pointer (some ⟨g,0,none⟩),.agg #[.int .u64 x,.int .u64 y],.int .u64 t] w fun e w' =>
   e=.returned (.agg #[.int .u64 (hiW (F*n+R*(t - x - n)+y)),.int .u64 (loW (F*n+R*(t - x - n)+y))])∧Below w.heap.size w w':=by
 have wd:IntKind.u64.wrap (t - x)=t - x:=wrap_u (by unfold U at *;omega)
 have wn:IntKind.u64.wrap (t - x - n)=t - x - n:=wrap_u (by unfold U at *;omega)
 have un:U n:=by unfold U at *;omega
 have ud:U (t - x - n):=by unfold U at *;omega
 have mb:=mul_bd hF.1 hF1 un.1 un.2
 have mc:=mul_bd hR.1 hR1 ud.1 ud.2
 have h1:=U_hi (n:=F*n) mb.1 (by omega)
 have h2:=U_lo (F*n)
 have h3:=U_hi (n:=R*(t - x - n)) mc.1 (by omega)
 have h4:=U_lo (R*(t - x - n))
 have nm:num (hiW (F*n)) (loW (F*n))+num (hiW (R*(t - x - n))) (loW (R*(t - x - n)))=F*n+R*(t - x - n):=by rw [num_words,num_words]
 have hs1:num (hiW (F*n)) (loW (F*n))+num (hiW (R*(t - x - n))) (loW (R*(t - x - n))) < 340282366920938463463374607431768211456:=by rw [nm];omega
 have h5:=U_hi (n:=F*n+R*(t - x - n)) (by omega) (by omega)
 have h6:=U_lo (F*n+R*(t - x - n))
 have nm2:num (hiW (F*n+R*(t - x - n))) (loW (F*n+R*(t - x - n)))+num 0 y=F*n+R*(t - x - n)+y:=by rw [num_words];simp [num]
 have hs2:num (hiW (F*n+R*(t - x - n))) (loW (F*n+R*(t - x - n)))+num 0 y < 340282366920938463463374607431768211456:=by rw [nm2];unfold U at hy;omega
 have NM:=Lib.hid nm;have NM2:=Lib.hid nm2
 have U0:U (0:Int):=⟨by decide,by decide⟩
 clear nm nm2 mb mc
 have hn':(if L < t - x then L else t - x)=n:=by rw [hn];omega
 clear hn
 go_enter Tryz.func277,Tryz.ntmps277
 go_wp2
 obtain⟨W0,hW0⟩:∃ W0,(w.alloc (.cells #[.int .u64 x,.int .u64 y] 315)).alloc (.cells #[.int .u64 0,.int .u64 0] 236)=W0:=⟨_,rfl⟩
 have bX:Blk W0 w.heap.size 315 #[.int .u64 x,.int .u64 y]:=by rw [← hW0];exact (Blk.new w _ _).alloc _
 have bO:Blk W0 (w.heap.size+1) 236 #[.int .u64 0,.int .u64 0]:=by rw [← hW0];have h:=Blk.new (w.alloc (.cells #[.int .u64 x,.int .u64 y] 315)) 236 #[.int .u64 0,.int .u64 0];simpa using h
 have hb0:Below w.heap.size w W0:=by rw [← hW0];go_grown
 have c0':=(hb0.cell (p:=⟨g,0,none⟩) hg).trans c0
 have c1':=(hb0.cell (p:=⟨g,1,none⟩) hg).trans c1
 have c2':=(hb0.cell (p:=⟨g,2,none⟩) hg).trans c2
 have hg':g < W0.heap.size:=Nat.lt_of_lt_of_le hg hb0.size
 rw [hW0]
 clear hW0 c0 c1 c2
 have ex:=bX.cell 0;have ey:=bX.cell 1
 simp only [lTA,lCZ,lCS] at ex ey
 go_quiet (fail)
 go_wp2
 clear ex ey hn'
 obtain⟨W1,hW1⟩:∃ W1,W0.drewN nq=W1:=⟨_,rfl⟩
 have bX1:Blk W1 w.heap.size 315 #[.int .u64 x,.int .u64 y]:=by rw [← hW1];exact bX.drewN _
 have bO1:Blk W1 (w.heap.size+1) 236 #[.int .u64 0,.int .u64 0]:=by rw [← hW1];exact bO.drewN _
 have hb1:Below w.heap.size w W1:=by rw [← hW1];exact below_drewN hb0 _
 have hg1:g < W1.heap.size:=by rw [← hW1];exact hg'
 have d0:W1.cell? ⟨g,0,none⟩=some (.int .u64 F):=by rw [← hW1];exact c0'
 have d2:W1.cell? ⟨g,2,none⟩=some (.int .u64 R):=by rw [← hW1];exact c2'
 rw [hW1]
 clear hW1 c0' c1' c2' bX bO hb0 hg' W0
 have o0:=fun e=>(over_cell (w:=W1) (e:=e) (o:=0) hg1).trans d0
 have o2:=fun e=>(over_cell (w:=W1) (e:=e) (o:=2) hg1).trans d2
 have ox:=fun e=>(over_cell (w:=W1) (e:=e) (o:=0) bX1.lt).trans (bX1.cell 0)
 simp only [lTA,lCZ,lCS] at ox
 clear d0 d2
 refine wp_region_alloc (w:=W1) 23 _ _ 8 (.cells #[.int .u64 0,.int .u64 0] 236) (by kernel_rfl) rfl rfl rfl (fun _ _=>by kernel_rfl) (by kernel_rfl) ?_
 simp only [List.take_succ_cons,List.take_zero,List.drop_succ_cons,List.drop_zero]
 repeat (refine wpQuietR_step (fun K hK=>?_);go_simp;first | (refine hK _ ?_;clear hK K) | (apply Exists.intro;refine⟨fun _=>?_,hK _ ?_⟩;(first | (go_at_call 201;first | exact mul_any _ _ _ hF un | exact mul_any _ _ _ hR ud) | (go_at_call 210;exact plus_any _ _ _ _ _ h1 h2 h3 h4 hs1));clear hK K))
 refine wpQuietR_nil ?_
 intro B W2 hB hb2 hO
 have bN:Blk W2 B 236 #[.int .u64 0,.int .u64 0]:=hO
 have n0:=bN.cell 0;have n1:=bN.cell 1;have f0:=bN.frozen 0;have f1:=bN.frozen 1
 simp only [lTA,lCZ,lCS] at n0 n1
 go_simp
 rw [NM.out]
 have bN2:=(bN.set_ 0 (.int .u64 (hiW (F*n+R*(t - x - n))))).set_ 1 (.int .u64 (loW (F*n+R*(t - x - n))))
 have hb3:Below W1.heap.size W1 ((W2.setCell ⟨B,0,none⟩ (.int .u64 (hiW (F*n+R*(t - x - n))))).setCell ⟨B,1,none⟩ (.int .u64 (loW (F*n+R*(t - x - n))))):=(hb2.setCell hB _).setCell hB _
 refine⟨hb3,?_⟩
 obtain⟨W3,hW3⟩:∃ W3,(W2.setCell ⟨B,0,none⟩ (.int .u64 (hiW (F*n+R*(t - x - n))))).setCell ⟨B,1,none⟩ (.int .u64 (loW (F*n+R*(t - x - n))))=W3:=⟨_,rfl⟩
 rw [hW3] at bN2 hb3 ⊢
 clear hW3 n0 n1 f0 f1 o0 o2 ox bN
 have hBne:¬ B=w.heap.size+1:=by have:=bO1.lt;omega
 have hBne':¬ w.heap.size+1=B:=by have:=bO1.lt;omega
 have m0:=bN2.cell 0;have m1:=bN2.cell 1;have f0:=bN2.frozen 0;have f1:=bN2.frozen 1
 simp at m0 m1
 have bX3:=bX1.below hb3 bX1.lt
 have bO3:=bO1.below hb3 bO1.lt
 have y0:=bX3.cell 1
 simp only [lTA,lCZ,lCS] at y0
 have hBlt:=bN2.lt
 have hblt:=bO3.lt
 generalize hiW (F*n+R*(t - x - n))=hi at *
 generalize loW (F*n+R*(t - x - n))=lo at *
 go_wp2_with (go_at_call 210;refine (plus_any _ _ _ _ _ h5 h6 U0 hy hs2).mono ?_;rintro e W4 ⟨rfl,hb4⟩;have bN4:=bN2.below hb4 hBlt;have bO4:=bO3.below hb4 hblt;have k0:=bN4.cell 0;have k1:=bN4.cell 1;have j0:=bN4.frozen 0;have j1:=bN4.frozen 1;have q0:=bO4.cell 0;have q1:=bO4.cell 1;have i0:=bO4.frozen 0;have i1:=bO4.frozen 1;simp only [lTA,lCZ,lCS,List.setIfInBounds_toArray,List.set_cons_zero,List.set_cons_succ] at k0 k1 q0 q1)
 rw [NM2.out]
 have bO5:=((bO4.far (p:=⟨B,0,none⟩) hBne' (.int .u64 (hiW (F*n+R*(t - x - n)+y)))).far (p:=⟨B,1,none⟩) hBne' (.int .u64 (loW (F*n+R*(t - x - n)+y))))
 have bO6:=(bO5.set_ 0 (.int .u64 (hiW (F*n+R*(t - x - n)+y)))).set_ 1 (.int .u64 (loW (F*n+R*(t - x - n)+y)))
 have r0:=bO6.cell 0
 have r1:=bO6.cell 1
 simp at r0 r1
 refine bodyPost_ret (v:=.agg #[.int .u64 (hiW (F*n+R*(t - x - n)+y)),.int .u64 (loW (F*n+R*(t - x - n)+y))]) (by simp [results,Tryz.results277,go_sem,r0,r1]) rfl ⟨rfl,?_⟩
 have hb5:Below w.heap.size w W4:=hb1.trans ((hb3.mono hb1.size).trans (hb4.mono (Nat.le_trans hb1.size hb3.size)))
 exact (((hb5.setCell (by simp;have:=hb1.size;omega) _).setCell (by simp;have:=hb1.size;omega) _).setCell (by simp) _).setCell (by simp) _
end
section
abbrev Cv:=Int × Int × Int
def okC (c:Cv):Bool:=mayB c.1 c.2.1 c.2.2
def vC (c:Cv)(t:Int):Int:=W c.1 c.2.1 c.2.2 t
def vS:List Cv→Int→Int
 | [],_=>0
 | c :: l,t=>(if okC c then vC c t else 0)+vS l t
def Lt (l:List Cv)(r t:Int):Prop:=r*t < vS l t
instance (l:List Cv) (r t:Int):Decidable (Lt l r t):=inferInstanceAs (Decidable (_ < _))
def Under (a b:Cv):Prop:=∀ t,0≤t→vC a t≤vC b t
end
end Go.Proofs.YtmmeopjemkjllaaGreat
