/- Lemmas of the claim. No conditions beyond those that each states. -/
import Derived.Test.YtmmeopjemkjllaaGreatPT10
set_option linter.unusedVariables false
set_option linter.unusedSimpArgs false
set_option maxRecDepth 100000
set_option maxHeartbeats 8000000
namespace Go.Proofs.YtmmeopjemkjllaaGreat
section
open Go.RowKit Go.Shelf
attribute [local go_sem] Oper.semAt_some
def reachL (n y:Int):List Pc→Option Int
 | []=>none
 | x :: l=>if y≤cap (x.1.1*x.1.2) then some (if y=0 then n else IntKind.u64.wrap (n+cap (ceil y x.1.1))) else reachL (IntKind.u64.wrap (n+x.1.2)) (y - cap (x.1.1*x.1.2)) l
theorem reachL_stop {n y:Int} {x:Pc} {l:List Pc} (h:y≤cap (x.1.1*x.1.2))(h0:y≠0):reachL n y (x :: l)=some (IntKind.u64.wrap (n+cap (ceil y x.1.1))):=by
 rw [reachL,if_pos h,if_neg h0]
theorem reachL_zero {n:Int} {x:Pc} {l:List Pc}:reachL n 0 (x :: l)=some n:=by
 rw [reachL,if_pos (cap_nonneg (Int.mul_nonneg x.2.1.1 x.2.2.1)),if_pos rfl]
theorem reachL_go {n y:Int} {x:Pc} {l:List Pc} (h:cap (x.1.1*x.1.2) < y):reachL n y (x :: l)=reachL (IntKind.u64.wrap (n+x.1.2)) (y - cap (x.1.1*x.1.2)) l:=by
 rw [reachL,if_neg (by omega)]
theorem U_wrap (x:Int):U (IntKind.u64.wrap x):=by rw [IntKind.wrap_u64];unfold U;omega
theorem _root_.Go.Boxed.below' {X Y:World} {B:Nat} {t:TypeId} {v:Value} (h:Boxed X B t v)(hb:Below X.heap.size X Y):Boxed Y B t v:=(hb.block B h.lt).trans h
theorem box_kept {X Y:World} {n₀ B:Nat} {row:Option Nat} {t:TypeId} {v:Value} (h:Boxed X B t v)(hg:X.grownBy Y row)(hr:∀ r,row=some r→n₀≤r∧∃ o:Obj,X.heap[r]?=some o∧o.isCells=false):Boxed Y B t v :=
 h.kept hg (fun e=>by obtain⟨o,ho,hc⟩:=(hr B e.symm).2;rw [show X.heap[B]?=_ from h] at ho;cases ho;cases hc)
theorem reach_over (F L R y:Int)(w:World)(hy:4611686018427387904 < y) :
  Calls Tryz.prog 275 #[.agg #[.int .u64 F,.int .u64 L,.int .u64 R],.int .u64 y] w fun e w'=>e=.returned (.int .u64 9223372036854775808)∧Below w.heap.size w w':=by
 go_enter Tryz.func275,Tryz.ntmps275
 go_wp2
 go_returns
 exact⟨rfl,by go_grown⟩
theorem reach_loop (F L R y:Int)(w:World)(hF:U F)(hL:U L)(hR:U R)(hy0:0≤y)(hy:y≤4611686018427387904) :
  Calls Tryz.prog 275 #[.agg #[.int .u64 F,.int .u64 L,.int .u64 R],.int .u64 y] w fun e w'=>e=.returned (.int .u64 ((reachL 0 y (piecesOf F L R hF hL hR)).getD 9223372036854775808))∧Below w.heap.size w w':=by
 have uy:U y:=by unfold U;omega
 refine (callsIn_wide (n:=9)).1 ?_
 refine callsIn_of_wp_marks Tryz.func275 rfl trivial ?_ rfl
 simp only [Tryz.ntmps275,List.size_toArray,List.length_cons,List.length_nil,Nat.reduceAdd,Nat.reduceSub,Array.replicate_succ,Array.replicate_zero,List.push_toArray,List.append_toArray,List.nil_append,List.cons_append]
 gi_wp2_with (refine⟨trivial,?_⟩;gi_at_call 281;refine (callsIn_wide.2 (pieces_any F L R _)).mono ?_;rintro e w' ⟨rfl,rfl⟩)
 obtain⟨W0,hW0⟩:∃ W0,(((((w.alloc (.cells #[.int .u64 F,.int .u64 L,.int .u64 R] 30)).alloc (.cells #[.int .u64 y] 28)).alloc (.cells #[.int .u64 0] 28)).alloc (.cells #[.int .u64 0] 28)).alloc (.cells #[.int .u64 F,.int .u64 L,.int .u64 R] 30))=W0:=⟨_,rfl⟩
 have bY:Boxed W0 (w.heap.size+1) 28 (.int .u64 y):=by
  rw [← hW0];have h:=(((Boxed.new (w.alloc (.cells #[.int .u64 F,.int .u64 L,.int .u64 R] 30)) 28 (.int .u64 y)).alloc (.cells #[.int .u64 0] 28)).alloc (.cells #[.int .u64 0] 28)).alloc (.cells #[.int .u64 F,.int .u64 L,.int .u64 R] 30);simpa using h
 have bO:Boxed W0 (w.heap.size+1+1) 28 (.int .u64 0):=by
  rw [← hW0];have h:=((Boxed.new ((w.alloc (.cells #[.int .u64 F,.int .u64 L,.int .u64 R] 30)).alloc (.cells #[.int .u64 y] 28)) 28 (.int .u64 0)).alloc (.cells #[.int .u64 0] 28)).alloc (.cells #[.int .u64 F,.int .u64 L,.int .u64 R] 30);simpa using h
 have bN:Boxed W0 (w.heap.size+1+1+1) 28 (.int .u64 0):=by
  rw [← hW0];have h:=(Boxed.new (((w.alloc (.cells #[.int .u64 F,.int .u64 L,.int .u64 R] 30)).alloc (.cells #[.int .u64 y] 28)).alloc (.cells #[.int .u64 0] 28)) 28 (.int .u64 0)).alloc (.cells #[.int .u64 F,.int .u64 L,.int .u64 R] 30);simpa using h
 have bC:Blk W0 (w.heap.size+1+1+1+1) 30 #[.int .u64 F,.int .u64 L,.int .u64 R]:=by
  rw [← hW0];have h:=Blk.new ((((w.alloc (.cells #[.int .u64 F,.int .u64 L,.int .u64 R] 30)).alloc (.cells #[.int .u64 y] 28)).alloc (.cells #[.int .u64 0] 28)).alloc (.cells #[.int .u64 0] 28)) 30 #[.int .u64 F,.int .u64 L,.int .u64 R];simpa using h
 have hB0:Below w.heap.size w W0:=by rw [← hW0];go_grown
 have hsz:W0.heap.size=w.heap.size+5:=by rw [← hW0];simp
 rw [hW0]
 clear hW0
 have hdf:decide (4611686018427387904 < y)=false:=by simp;omega
 rw [hdf]
 refine wpIn_rangeFunc_ownH rfl (by omega) (gf:=282) (lb:=#[.pointer (some ⟨w.heap.size+1+1+1+1,0,none⟩)]) rfl trivial (enters_of Tryz.func282 (by kernel_rfl) rfl)
  (pieces_stops _ F L R hF hL hR (w.heap.size+1+1+1+1) W0 (by omega) (bC.cell 0) (bC.cell 1) (bC.cell 2)) (fun h k=>k.trans h)
  (fun W l o o' hl h _ _=>World.putObj_heap_other (by omega)) (Below.refl _ _) (fun _=>rfl)
  (fun pre W=>(∃ n z,U n∧U z∧Boxed W (w.heap.size+1) 28 (.int .u64 z)∧Boxed W (w.heap.size+1+1+1) 28 (.int .u64 n)∧∀ rest,reachL 0 y (pre ++ rest)=reachL n z rest) ∧
   Boxed W (w.heap.size+1+1) 28 (.int .u64 0)∧Below w.heap.size w W∧w.heap.size+5≤W.heap.size)
  (fun c pre W=>c=.ret∧(∃ v,Boxed W (w.heap.size+1+1) 28 (.int .u64 v)∧∀ rest,reachL 0 y (pre ++ rest)=some v)∧Below w.heap.size w W)
  (fun pre X Y row hs hg hr=>by
   obtain⟨⟨n,z,h1,h2,h3,h4,h5⟩,h6,h7,h8⟩:=hs
   exact⟨⟨n,z,h1,h2,box_kept h3 hg hr,box_kept h4 hg hr,h5⟩,box_kept h6 hg hr,h7.grown hg h7.size (fun k e=>by have:=(hr k e).1;omega),Nat.le_trans h8 hg.size⟩)
  (fun c pre X Y row hs hg hr=>by
   obtain⟨h1,⟨v,h2,h3⟩,h4⟩:=hs
   exact⟨h1,⟨v,box_kept h2 hg hr,h3⟩,h4.grown hg h4.size (fun k e=>by have:=(hr k e).1;omega)⟩)
  ⟨⟨0,y,⟨by decide,by decide⟩,uy,bY,bN,fun _=>rfl⟩,bO,hB0,by omega⟩
  (fun x a' W=>∃ Bx,w.heap.size+1+1+1+1 < Bx∧Blk W Bx 321 #[.int .u64 x.1.1,.int .u64 x.1.2]∧a'={ tmps:=#[.agg #[.int .u64 F,.int .u64 L,.int .u64 R],.int .u64 y,.pointer (some ⟨w.heap.size,0,none⟩),
   .pointer (some ⟨w.heap.size+1,0,none⟩),.pointer (some ⟨w.heap.size+1+1,0,none⟩),.pointer (some ⟨w.heap.size+1+1+1,0,none⟩),.pointer (some ⟨Bx,0,none⟩),undef,undef,undef,
   .int .u64 y,.bool false,.agg #[.int .u64 F,.int .u64 L,.int .u64 R],.func (.func 282) #[] #[.pointer (some ⟨w.heap.size+1+1+1+1,0,none⟩)],.agg #[.int .u64 x.1.1,.int .u64 x.1.2],
   undef,undef,undef,undef,undef,undef,undef,undef,undef,undef,undef,undef,undef,undef,undef,undef,undef,undef,undef,undef,undef,undef,undef,undef,undef,undef,undef,undef],defers:=[] })
  (fun x a' _ X Y row hs hg hr=>by obtain⟨Bx,h1,h2,h3⟩:=hs;exact⟨Bx,h1,h2.grown hg (fun e=>by obtain⟨o,ho,hc⟩:=(hr _ e.symm).2;rw [show X.heap[Bx]?=_ from h2] at ho;cases ho;cases hc),h3⟩)
  ?assign ?body ?done ?stop
 case assign =>
  rintro l pre x W K ⟨⟨n,z,h1,h2,h3,h4,h5⟩,h6,h7,h8⟩ hK
  have H5:=Lib.hid h5;clear h5
  gi_wp2
  exact hK _ _ ((KeepsOthers.alloc _ _).from _) (Below.heap_alloc _ _ _ (by omega)) ⟨⟨n,z,h1,h2,h3.alloc _,h4.alloc _,H5.out⟩,h6.alloc _,h7.alloc h7.size _,by simp;omega⟩ ⟨W.heap.size,by omega,Blk.new W _ _,rfl⟩
 case body =>
  rintro l pre x a' W hl ⟨r,hr⟩ ⟨⟨n,z,un,uz,bZ,bA,h5⟩,bR,hB1,hW5⟩ ⟨Bx,hBx,bX,rfl⟩ hlt
  have H5:=Lib.hid h5;clear h5
  have cZ:=bZ.cell;have fZ:=bZ.frozen
  have cA:=bA.cell;have fA:=bA.frozen
  have cR:=bR.cell;have fR:=bR.frozen
  have c0:W.cell? ⟨Bx,0,none⟩=some (.int .u64 x.1.1):=bX.cell 0
  have c1:W.cell? ⟨Bx,1,none⟩=some (.int .u64 x.1.2):=bX.cell 1
  have hsl:=Lib.hid bX.lt
  obtain⟨⟨a,b⟩,ua,ub⟩:=x
  simp only at c0 c1 ua ub
  have zc:=cap_nonneg (Int.mul_nonneg ua.1 ub.1)
  by_cases h1:z≤cap (a*b)
  ·by_cases h0:z=0
   ·subst h0
    gi_wp2_with (refine⟨trivial,?_⟩;gi_at_call 260;refine (CallsIn.inRound l (callsIn_wide.2 (times_any _ _ _ ua ub))).mono ?_;rintro e W1 ⟨rfl,hb1⟩;obtain⟨hc1,hf1⟩:=bcell hb1;have q1:=bZ.lt;have q2:=bA.lt;have q3:=bR.lt;have q4:=hsl.out)
    refine⟨((keeps_of_below hb1).trans (KeepsOthers.setCell _ _ _)).from _,rfl,⟨n,(bR.below' hb1).set _,fun rest=>?_⟩,(hB1.trans (hb1.mono hB1.size)).setCell (by simp;omega) _⟩
    rw [List.append_assoc,H5.out]
    exact reachL_zero
   ·have hz0:(z == 0)=false:=by simp;omega
    have hcap:=cap_le_self (a*b)
    have ha1:1≤a:=by
     by_cases h:a < 1
     ·have ha0:a=0:=by have:=ua.1;omega
      rw [ha0,Int.zero_mul] at h1;have:=uz.1;simp [cap] at h1;omega
     ·omega
    clear hcap
    gi_wp2_with (first
     | (refine⟨trivial,?_⟩;gi_at_call 260;refine (CallsIn.inRound l (callsIn_wide.2 (times_any _ _ _ ua ub))).mono ?_;rintro e W1 ⟨rfl,hb1⟩;obtain⟨hc1,hf1⟩:=bcell hb1;have q1:=bZ.lt;have q2:=bA.lt;have q3:=bR.lt;have q4:=hsl.out)
     | (refine⟨trivial,?_⟩;gi_at_call 259;refine (CallsIn.inRound l (callsIn_wide.2 (up_word _ _ _ uz ha1 ua))).mono ?_;rintro e W2 ⟨rfl,hb2⟩;have hb2:Below W1.heap.size W1 W2:=hb2;obtain⟨hc2,hf2⟩:=bcell hb2;have q5:w.heap.size+1+1+1 < W1.heap.size:=Nat.lt_of_lt_of_le q2 hb1.size;have q6:w.heap.size+1+1 < W1.heap.size:=Nat.lt_of_lt_of_le q3 hb1.size))
    refine⟨(((keeps_of_below hb1).trans (keeps_of_below hb2)).trans (KeepsOthers.setCell _ _ _)).from _,rfl,⟨_,((bR.below' hb1).below' hb2).set _,fun rest=>?_⟩,((hB1.trans (hb1.mono hB1.size)).trans (hb2.mono (Nat.le_trans hB1.size hb1.size))).setCell (by simp;omega) _⟩
    rw [List.append_assoc,H5.out]
    exact reachL_stop h1 h0
  ·have h1':cap (a*b) < z:=by omega
   have hw:IntKind.u64.wrap (z - cap (a*b))=z - cap (a*b):=wrap_u (by unfold U at *;omega)
   have uz':U (z - cap (a*b)):=by unfold U at *;omega
   clear h1
   gi_wp2_with (refine⟨trivial,?_⟩;gi_at_call 260;refine (CallsIn.inRound l (callsIn_wide.2 (times_any _ _ _ ua ub))).mono ?_;rintro e W1 ⟨rfl,hb1⟩;obtain⟨hc1,hf1⟩:=bcell hb1;have q1:=bZ.lt;have q2:=bA.lt;have q3:=bR.lt;have q4:=hsl.out)
   refine⟨(((keeps_of_below hb1).trans (KeepsOthers.setCell _ _ _)).trans (KeepsOthers.setCell _ _ _)).from _,?_,⟨IntKind.u64.wrap (n+b),z - cap (a*b),U_wrap _,uz',?_,?_,fun rest=>?_⟩,?_,?_,?_⟩
   ·exact (Below.heap_setCell _ _ _ _ (by simp)).trans ((Below.heap_setCell _ _ _ _ (by simp;omega)).trans (hb1.block _ (by omega)))
   ·have h2:=((bZ.below' hb1).set (.int .u64 (z - cap (a*b)))).other (B':=w.heap.size+1+1+1) (by omega) (.int .u64 (IntKind.u64.wrap (n+b)))
    exact h2
   ·have h2:=((bA.below' hb1).other (B':=w.heap.size+1) (by omega) (.int .u64 (z - cap (a*b)))).set (.int .u64 (IntKind.u64.wrap (n+b)))
    exact h2
   ·rw [List.append_assoc,H5.out]
    exact reachL_go h1'
   ·have h2:=((bR.below' hb1).other (B':=w.heap.size+1) (by omega) (.int .u64 (z - cap (a*b)))).other (B':=w.heap.size+1+1+1) (by omega) (.int .u64 (IntKind.u64.wrap (n+b)))
    exact h2
   ·exact ((hB1.trans (hb1.mono hB1.size)).setCell (by simp) _).setCell (by simp;omega) _
   ·have:=hb1.size
    simp only [World.size_setCell]
    omega
 case done =>
  rintro D xs W hD rfl ⟨⟨n,z,un,uz,bZ,bA,h5⟩,bR,hB1,hW5⟩ hK
  have hr:reachL 0 y (piecesOf F L R hF hL hR)=none:=by have:=h5 [];rwa [List.append_nil] at this
  have HR:=Lib.hid hr
  clear h5 hr
  have cR:=bR.cell;have fR:=bR.frozen
  gi_wp2
  have bR':=bR.set (.int .u64 9223372036854775808)
  have hK':(W.setCell ⟨w.heap.size+1+1,0,none⟩ (.int .u64 9223372036854775808)).heap[D]?=some (.deferred (some [])):=(KeepsOthers.setCell W _ _).same D _ hK rfl
  refine⟨by simp,.inl ⟨_,_,rfl,run_takeDeferred hK',?_⟩⟩
  have cV:=cell_kept bR'.cell (grownBy_putObj' _ D (.deferred none)) (fun r e=>by cases e;exact⟨_,hK',rfl⟩)
  exact⟨_,by simp [results,Tryz.results275,go_sem,cV];rfl,(by rw [HR.out];rfl),(hB1.setCell (by simp;omega) _).trans (belowK_b (w:=w) (Nat.le_refl _) _ D _ _ (by omega) hK' rfl rfl)⟩
 case stop =>
  rintro D c pre W hD hSp ⟨rfl,⟨v,bV,hv⟩,hB1⟩ hK
  have hr:reachL 0 y (piecesOf F L R hF hL hR)=some v:=by
   rcases hSp with ⟨rfl,hL0⟩ | rfl
   ·have:=hv [⟨(R,18446744073709551615),hR,U_most⟩]
    rw [show piecesOf F L R hF hL hR=[⟨(F,L),hF,hL⟩] ++ [⟨(R,18446744073709551615),hR,U_most⟩] by simp [piecesOf,hL0]]
    exact this
   ·have:=hv [];rwa [List.append_nil] at this
  have HR:=Lib.hid hr
  clear hv hr hSp
  gi_wp2
  refine⟨by simp,.inl ⟨_,_,rfl,run_takeDeferred hK,?_⟩⟩
  have cV:=cell_kept bV.cell (grownBy_putObj' _ D (.deferred none)) (fun r e=>by cases e;exact⟨_,hK,rfl⟩)
  exact⟨_,by simp [results,Tryz.results275,go_sem,cV];rfl,(by rw [HR.out];rfl),hB1.trans (belowK_b (w:=w) (Nat.le_refl _) W D _ _ (by omega) hK rfl rfl)⟩
end
end Go.Proofs.YtmmeopjemkjllaaGreat
