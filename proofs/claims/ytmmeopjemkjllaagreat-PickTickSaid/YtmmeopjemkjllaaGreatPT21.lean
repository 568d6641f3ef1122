/- Lemmas of the claim. No conditions beyond those that each states. -/
import Derived.Test.YtmmeopjemkjllaaGreatPT20
import Derived.OwnWalk
import Derived.Laws.OwnMore
import Derived.Deep.RegionHeld3
set_option linter.unusedVariables false
set_option linter.unusedSimpArgs false
set_option maxRecDepth 100000
set_option maxHeartbeats 8000000
namespace Go.Proofs.YtmmeopjemkjllaaGreat
section
open Go.RowKit
attribute [local go_sem] quietR quietAtR quietUponR plain plainUpon
theorem mul_bd {a t A T:Int} (ha:0≤a)(hA:a≤A)(ht:0≤t)(hT:t≤T):0≤a*t∧a*t≤A*T :=
 ⟨Int.mul_nonneg ha ht,Int.mul_le_mul hA hT ht (Int.le_trans ha hA)⟩
theorem line_any (g:Nat)(F L R x y t:Int)(w:World)(hR:U R)(hR1:R≤1048576)(hx:0≤x)(hxt:x≤t)(ht:U t)(hy:U y)(hg:g < w.heap.size)(c2:w.cell? ⟨g,2,none⟩=some (.int .u64 R)) :
  Calls Tryz.prog 278 #[.pointer (some ⟨g,0,none⟩),.agg #[.int .u64 x,.int .u64 y],.int .u64 t] w fun e w' =>
   e=.returned (.agg #[.int .u64 (hiW (R*(t - x)+y)),.int .u64 (loW (R*(t - x)+y))])∧Below w.heap.size w w':=by
 have wd:IntKind.u64.wrap (t - x)=t - x:=wrap_u (by unfold U at *;omega)
 have ud:U (t - x):=by unfold U at *;omega
 have mb:=mul_bd hR.1 hR1 ud.1 ud.2
 have nm:num (hiW (R*(t - x))) (loW (R*(t - x)))+num 0 y=R*(t - x)+y:=by rw [num_words];simp [num]
 have h1:=U_hi (n:=R*(t - x)) mb.1 (by omega)
 have h2:=U_lo (R*(t - x))
 have hs:num (hiW (R*(t - x))) (loW (R*(t - x)))+num 0 y < 340282366920938463463374607431768211456:=by rw [nm];unfold U at hy;omega
 have NM:=Lib.hid nm
 have U0:U (0:Int):=⟨by decide,by decide⟩
 clear nm mb
 go_enter Tryz.func278,Tryz.ntmps278
 go_wp2
 obtain⟨W0,hW0⟩:∃ W0,(w.alloc (.cells #[.int .u64 x,.int .u64 y] 315)).alloc (.cells #[.int .u64 0,.int .u64 0] 236)=W0:=⟨_,rfl⟩
 have bX:Blk W0 w.heap.size 315 #[.int .u64 x,.int .u64 y]:=by rw [← hW0];exact (Blk.new w _ _).alloc _
 have bO:Blk W0 (w.heap.size+1) 236 #[.int .u64 0,.int .u64 0]:=by rw [← hW0];have h:=Blk.new (w.alloc (.cells #[.int .u64 x,.int .u64 y] 315)) 236 #[.int .u64 0,.int .u64 0];simpa using h
 have hb0:Below w.heap.size w W0:=by rw [← hW0];go_grown
 have c2':=(hb0.cell (p:=⟨g,2,none⟩) hg).trans c2
 have hg':g < W0.heap.size:=Nat.lt_of_lt_of_le hg hb0.size
 rw [hW0]
 clear hW0
 have o2:=fun e=>(over_cell (w:=W0) (e:=e) (o:=2) hg').trans c2'
 have ox:=fun e=>(over_cell (w:=W0) (e:=e) (o:=0) bX.lt).trans (bX.cell 0)
 have oy:=fun e=>(over_cell (w:=W0) (e:=e) (o:=1) bX.lt).trans (bX.cell 1)
 simp only [lTA,lCZ,lCS] at ox oy
 refine wp_region_alloc (w:=W0) 17 _ _ 7 (.cells #[.int .u64 0,.int .u64 0] 236) (by kernel_rfl) rfl rfl rfl (fun _ _=>by kernel_rfl) (by kernel_rfl) ?_
 simp only [List.take_succ_cons,List.take_zero,List.drop_succ_cons,List.drop_zero]
 repeat (refine wpQuietR_step (fun K hK=>?_);go_simp;first | (refine hK _ ?_;clear hK K) | (apply Exists.intro;refine⟨fun _=>?_,hK _ ?_⟩;(first | (go_at_call 201;exact mul_any _ _ _ hR ud) | (go_at_call 210;exact plus_any _ _ _ _ _ h1 h2 U0 hy hs));clear hK K))
 refine wpQuietR_nil ?_
 intro B W1 hB hb1 hO
 have bN:Blk W1 B 236 #[.int .u64 0,.int .u64 0]:=hO
 have n0:=bN.cell 0;have n1:=bN.cell 1;have f0:=bN.frozen 0;have f1:=bN.frozen 1
 simp only [lTA,lCZ,lCS] at n0 n1
 go_simp
 rw [NM.out]
 have bN2:=(bN.set_ 0 (.int .u64 (hiW (R*(t - x)+y)))).set_ 1 (.int .u64 (loW (R*(t - x)+y)))
 have hb2:Below W0.heap.size W0 ((W1.setCell ⟨B,0,none⟩ (.int .u64 (hiW (R*(t - x)+y)))).setCell ⟨B,1,none⟩ (.int .u64 (loW (R*(t - x)+y)))):=(hb1.setCell hB _).setCell hB _
 refine⟨hb2,?_⟩
 obtain⟨W2,hW2⟩:∃ W2,(W1.setCell ⟨B,0,none⟩ (.int .u64 (hiW (R*(t - x)+y)))).setCell ⟨B,1,none⟩ (.int .u64 (loW (R*(t - x)+y)))=W2:=⟨_,rfl⟩
 rw [hW2] at bN2 hb2 ⊢
 clear hW2 n0 n1 f0 f1 o2 ox oy bN
 have m0:=bN2.cell 0;have m1:=bN2.cell 1
 simp at m0 m1
 have bO2:=bO.below hb2 bO.lt
 have p0:=bO2.cell 0;have p1:=bO2.cell 1;have g0:=bO2.frozen 0;have g1:=bO2.frozen 1
 simp only [lTA,lCZ,lCS] at p0 p1
 generalize hhi:hiW (R*(t - x)+y)=hi at *
 generalize hlo:loW (R*(t - x)+y)=lo at *
 have HHI:=Lib.hid hhi;have HLO:=Lib.hid hlo;clear hhi hlo
 go_wp2
 have r0:=((bO2.set_ 0 (.int .u64 hi)).set_ 1 (.int .u64 lo)).cell 0
 have r1:=((bO2.set_ 0 (.int .u64 hi)).set_ 1 (.int .u64 lo)).cell 1
 simp at r0 r1
 refine bodyPost_ret (v:=.agg #[.int .u64 hi,.int .u64 lo]) (by simp [results,Tryz.results278,go_sem,r0,r1]) rfl ⟨by rw [HHI.out,HLO.out],?_⟩
 exact (((hb0.trans (hb2.mono hb0.size)).setCell (by simp) _).setCell (by simp) _)
theorem has_any (g:Nat)(F L R x y t n:Int)(w:World)(hF:U F)(hF1:F≤1048576)(hR:U R)(hR1:R≤1048576)(hL:U L)(hx:0≤x)(hxt:x≤t)(ht:U t)(hy:U y)(hn:n=min (t - x) L)(hg:g < w.heap.size)
  (c0:w.cell? ⟨g,0,none⟩=some (.int .u64 F))(c1:w.cell? ⟨g,1,none⟩=some (.int .u64 L))(c2:w.cell? ⟨g,2,none⟩=some (.int .u64 R)) :
  Calls Tryz.prog 277 #[.pointer (some ⟨g,0,none⟩),.agg #[.int .u64 x,.int .u64 y],.int .u64 t] w fun e w' =>
   e=.returned (.agg #[.int .u64 (hiW (F*n+R*(t - x - n)+y)),.int .u64 (loW (F*n+R*(t - x - n)+y))])∧Below w.heap.size w w':=by
 have wd:IntKind.u64.wrap (t - x)=t - x:=wrap_u (by unfold U at *;omega)
 have wn:IntKind.u64.wrap (t - x - n)=t - x - n:=wrap_u (by unfold U at *;omega)
 have un:U n:=by unfold U at *;omega
 have ud:U (t - x - n):=by unfold U at *;omega
 have mb:=mul_bd hF.1 hF1 un.1 un.2
 have mc:=mul_bd hR.1 hR1 ud.1 ud.2
 have h1:=U_hi (n:=F*n) mb.1 (by omega)
 have h2:=U_lo (F*n)
 have h3:=U_hi (n:=R*(t - x - n)) mc.1 (by omega)
 have h4:=U_lo (R*(t - x - n))
 have nm:num (hiW (F*n)) (loW (F*n))+num (hiW (R*(t - x - n))) (loW (R*(t - x - n)))=F*n+R*(t - x - n):=by rw [num_words,num_words]
 have hs1:num (hiW (F*n)) (loW (F*n))+num (hiW (R*(t - x - n))) (loW (R*(t - x - n))) < 340282366920938463463374607431768211456:=by rw [nm];omega
 have h5:=U_hi (n:=F*n+R*(t - x - n)) (by omega) (by omega)
 have h6:=U_lo (F*n+R*(t - x - n))
 have nm2:num (hiW (F*n+R*(t - x - n))) (loW (F*n+R*(t - x - n)))+num 0 y=F*n+R*(t - x - n)+y:=by rw [num_words];simp [num]
 have hs2:num (hiW (F*n+R*(t - x - n))) (loW (F*n+R*(t - x - n)))+num 0 y < 340282366920938463463374607431768211456:=by rw [nm2];unfold U at hy;omega
 have NM:=Lib.hid nm;have NM2:=Lib.hid nm2
 have U0:U (0:Int):=⟨by decide,by decide⟩
 clear nm nm2 mb mc
 have hn':(if L < t - x then L else t - x)=n:=by rw [hn];omega
 clear hn
 go_enter Tryz.func277,Tryz.ntmps277
 go_wp2
 obtain⟨W0,hW0⟩:∃ W0,(w.alloc (.cells #[.int .u64 x,.int .u64 y] 315)).alloc (.cells #[.int .u64 0,.int .u64 0] 236)=W0:=⟨_,rfl⟩
 have bX:Blk W0 w.heap.size 315 #[.int .u64 x,.int .u64 y]:=by rw [← hW0];exact (Blk.new w _ _).alloc _
 have bO:Blk W0 (w.heap.size+1) 236 #[.int .u64 0,.int .u64 0]:=by rw [← hW0];have h:=Blk.new (w.alloc (.cells #[.int .u64 x,.int .u64 y] 315)) 236 #[.int .u64 0,.int .u64 0];simpa using h
 have hb0:Below w.heap.size w W0:=by rw [← hW0];go_grown
 have c0':=(hb0.cell (p:=⟨g,0,none⟩) hg).trans c0
 have c1':=(hb0.cell (p:=⟨g,1,none⟩) hg).trans c1
 have c2':=(hb0.cell (p:=⟨g,2,none⟩) hg).trans c2
 have hg':g < W0.heap.size:=Nat.lt_of_lt_of_le hg hb0.size
 rw [hW0]
 clear hW0 c0 c1 c2
 have ex:=bX.cell 0;have ey:=bX.cell 1
 simp only [lTA,lCZ,lCS] at ex ey
 go_quiet (fail)
 go_wp2
 clear ex ey hn'
 obtain⟨W1,hW1⟩:∃ W1,W0.drewN nq=W1:=⟨_,rfl⟩
 have bX1:Blk W1 w.heap.size 315 #[.int .u64 x,.int .u64 y]:=by rw [← hW1];exact bX.drewN _
 have bO1:Blk W1 (w.heap.size+1) 236 #[.int .u64 0,.int .u64 0]:=by rw [← hW1];exact bO.drewN _
 have hb1:Below w.heap.size w W1:=by rw [← hW1];exact below_drewN hb0 _
 have hg1:g < W1.heap.size:=by rw [← hW1];exact hg'
 have d0:W1.cell? ⟨g,0,none⟩=some (.int .u64 F):=by rw [← hW1];exact c0'
 have d2:W1.cell? ⟨g,2,none⟩=some (.int .u64 R):=by rw [← hW1];exact c2'
 rw [hW1]
 clear hW1 c0' c1' c2' bX bO hb0 hg' W0
 have o0:=fun e=>(over_cell (w:=W1) (e:=e) (o:=0) hg1).trans d0
 have o2:=fun e=>(over_cell (w:=W1) (e:=e) (o:=2) hg1).trans d2
 have ox:=fun e=>(over_cell (w:=W1) (e:=e) (o:=0) bX1.lt).trans (bX1.cell 0)
 simp only [lTA,lCZ,lCS] at ox
 clear d0 d2
 refine wp_region_alloc (w:=W1) 23 _ _ 8 (.cells #[.int .u64 0,.int .u64 0] 236) (by kernel_rfl) rfl rfl rfl (fun _ _=>by kernel_rfl) (by kernel_rfl) ?_
 simp only [List.take_succ_cons,List.take_zero,List.drop_succ_cons,List.drop_zero]
 repeat (refine wpQuietR_step (fun K hK=>?_);go_simp;first | (refine hK _ ?_;clear hK K) | (apply Exists.intro;refine⟨fun _=>?_,hK _ ?_⟩;(first | (go_at_call 201;first | exact mul_any _ _ _ hF un | exact mul_any _ _ _ hR ud) | (go_at_call 210;exact plus_any _ _ _ _ _ h1 h2 h3 h4 hs1));clear hK K))
 refine wpQuietR_nil ?_
 intro B W2 hB hb2 hO
 have bN:Blk W2 B 236 #[.int .u64 0,.int .u64 0]:=hO
 have n0:=bN.cell 0;have n1:=bN.cell 1;have f0:=bN.frozen 0;have f1:=bN.frozen 1
 simp only [lTA,lCZ,lCS] at n0 n1
 go_simp
 rw [NM.out]
 have bN2:=(bN.set_ 0 (.int .u64 (hiW (F*n+R*(t - x - n))))).set_ 1 (.int .u64 (loW (F*n+R*(t - x - n))))
 have hb3:Below W1.heap.size W1 ((W2.setCell ⟨B,0,none⟩ (.int .u64 (hiW (F*n+R*(t - x - n))))).setCell ⟨B,1,none⟩ (.int .u64 (loW (F*n+R*(t - x - n))))):=(hb2.setCell hB _).setCell hB _
 refine⟨hb3,?_⟩
 obtain⟨W3,hW3⟩:∃ W3,(W2.setCell ⟨B,0,none⟩ (.int .u64 (hiW (F*n+R*(t - x - n))))).setCell ⟨B,1,none⟩ (.int .u64 (loW (F*n+R*(t - x - n))))=W3:=⟨_,rfl⟩
 rw [hW3] at bN2 hb3 ⊢
 clear hW3 n0 n1 f0 f1 o0 o2 ox bN
 have hBne:¬ B=w.heap.size+1:=by have:=bO1.lt;omega
 have hBne':¬ w.heap.size+1=B:=by have:=bO1.lt;omega
 have m0:=bN2.cell 0;have m1:=bN2.cell 1;have f0:=bN2.frozen 0;have f1:=bN2.frozen 1
 simp at m0 m1
 have bX3:=bX1.below hb3 bX1.lt
 have bO3:=bO1.below hb3 bO1.lt
 have y0:=bX3.cell 1
 simp only [lTA,lCZ,lCS] at y0
 have hBlt:=bN2.lt
 have hblt:=bO3.lt
 generalize hiW (F*n+R*(t - x - n))=hi at *
 generalize loW (F*n+R*(t - x - n))=lo at *
 go_wp2_with (go_at_call 210;refine (plus_any _ _ _ _ _ h5 h6 U0 hy hs2).mono ?_;rintro e W4 ⟨rfl,hb4⟩;have bN4:=bN2.below hb4 hBlt;have bO4:=bO3.below hb4 hblt;have k0:=bN4.cell 0;have k1:=bN4.cell 1;have j0:=bN4.frozen 0;have j1:=bN4.frozen 1;have q0:=bO4.cell 0;have q1:=bO4.cell 1;have i0:=bO4.frozen 0;have i1:=bO4.frozen 1;simp only [lTA,lCZ,lCS,List.setIfInBounds_toArray,List.set_cons_zero,List.set_cons_succ] at k0 k1 q0 q1)
 rw [NM2.out]
 have bO5:=((bO4.far (p:=⟨B,0,none⟩) hBne' (.int .u64 (hiW (F*n+R*(t - x - n)+y)))).far (p:=⟨B,1,none⟩) hBne' (.int .u64 (loW (F*n+R*(t - x - n)+y))))
 have bO6:=(bO5.set_ 0 (.int .u64 (hiW (F*n+R*(t - x - n)+y)))).set_ 1 (.int .u64 (loW (F*n+R*(t - x - n)+y)))
 have r0:=bO6.cell 0
 have r1:=bO6.cell 1
 simp at r0 r1
 refine bodyPost_ret (v:=.agg #[.int .u64 (hiW (F*n+R*(t - x - n)+y)),.int .u64 (loW (F*n+R*(t - x - n)+y))]) (by simp [results,Tryz.results277,go_sem,r0,r1]) rfl ⟨rfl,?_⟩
 have hb5:Below w.heap.size w W4:=hb1.trans ((hb3.mono hb1.size).trans (hb4.mono (Nat.le_trans hb1.size hb3.size)))
 exact (((hb5.setCell (by simp;have:=hb1.size;omega) _).setCell (by simp;have:=hb1.size;omega) _).setCell (by simp) _).setCell (by simp) _
end
section
open Go.RowKit
def nevB (y:Int):Int:=if y=0 then 0 else 9223372036854775808
theorem bnew_ok (F L R:Int)(w:World)(hF:0≤F)(hL:0≤L)(hR:0≤R)(h1:mayB F L R=true)(h2:R < F) :
  Calls Tryz.prog 118 #[.agg #[.int .u64 F,.int .u64 L,.int .u64 R]] w fun e w' =>
   ∃ g,e=.returned (.tuple #[.pointer (some ⟨g,0,none⟩),.int .i64 0])∧w.heap.size≤g∧BentAt w' g F L R 0 []∧Below w.heap.size w w':=by
 have hal:=(Below.refl w.heap.size w).alloc (Nat.le_refl _) (.cells #[.int .u64 F,.int .u64 L,.int .u64 R] 30)
 have nb:=Blk.new w 30 #[.int .u64 F,.int .u64 L,.int .u64 R]
 have nl:=nb.lt
 have HN:=Lib.hid nb
 have hd:decide (R < F)=true:=by simp;omega
 have hM:=mayB_spec hF hL hR h1
 have H:=Lib.hid h1
 clear nb h1
 go_enter Tryz.func118,Tryz.ntmps118
 go_wp2_with (first
  | (go_at_call 82;refine (may_any F L R _ hL).mono ?_;rintro e w1 ⟨rfl,hb1⟩;rw [H.out];have n1:=HN.out.below hb1 nl;have a0:=n1.cell 0;have a1:=n1.cell 1;have a2:=n1.cell 2;simp only [lTA,lCZ,lCS] at a0 a1 a2)
  | (go_at_call 149;refine (bent_any F L R _).mono ?_;rintro e w2 ⟨rfl,hb2⟩;have n2:=n1.below hb2 n1.lt;have b0:=n2.cell 0;have b1:=n2.cell 1;have b2:=n2.cell 2;simp only [lTA,lCZ,lCS] at b0 b1 b2))
 have hb3:Below w.heap.size w w2:=(hal.trans (hb1.mono hal.size)).trans (hb2.mono (Nat.le_trans hal.size hb1.size))
 go_ret2
 have u0:U 0:=⟨by omega,by omega⟩
 exact⟨w2.heap.size,rfl,hb3.size,⟨⟨0,0,Blk.new _ _ _,u0,u0,fun h=>absurd rfl h⟩,hM,h2,by intro a ha;simp at ha,by omega,by omega,by simp⟩,hb3.alloc hb3.size _⟩
theorem bnew_no (F L R:Int)(w:World)(hL:0≤L)(h1:mayB F L R=true)(h2:F≤R) :
  Calls Tryz.prog 118 #[.agg #[.int .u64 F,.int .u64 L,.int .u64 R]] w fun e w'=>e=.returned (.tuple #[.pointer none,.int .i64 30])∧Below w.heap.size w w':=by
 have hal:=(Below.refl w.heap.size w).alloc (Nat.le_refl _) (.cells #[.int .u64 F,.int .u64 L,.int .u64 R] 30)
 have nb:=Blk.new w 30 #[.int .u64 F,.int .u64 L,.int .u64 R]
 have nl:=nb.lt
 have HN:=Lib.hid nb
 have hd:decide (R < F)=false:=by simp;omega
 have H:=Lib.hid h1
 clear nb h1
 go_enter Tryz.func118,Tryz.ntmps118
 go_wp2_with (first
  | (go_at_call 82;refine (may_any F L R _ hL).mono ?_;rintro e w1 ⟨rfl,hb1⟩;rw [H.out];have n1:=HN.out.below hb1 nl;have a0:=n1.cell 0;have a1:=n1.cell 1;have a2:=n1.cell 2;simp only [lTA,lCZ,lCS] at a0 a1 a2)
  | (go_at_call 149;refine (bent_any F L R _).mono ?_;rintro e w2 ⟨rfl,hb2⟩))
 have hb3:Below w.heap.size w w2:=(hal.trans (hb1.mono hal.size)).trans (hb2.mono (Nat.le_trans hal.size hb1.size))
 go_ret2
 exact⟨rfl,hb3⟩
section
variable {w w' : World} {g : Nat} {F L R x : Int} {A : List (Int × Int)}
theorem BentAt.cell3 (h:BentAt w g F L R x A):w.cell? ⟨g,3,none⟩=some (.int .i64 A.length):=by obtain⟨h1,h2,hB,_⟩:=h.blk;exact hB.cell 3
theorem BentAt.low (h:BentAt w g F L R x A):∀ a∈A,a.1≤x∧0≤a.2:=fun a ha=>by have:=h.num a ha;exact⟨this.2.1,this.2.2.1⟩
theorem bent_start (h:BentAt w g F L R x A)(t y X Y:Int)(ht:U t)(hy:U y)(hX:X=max (min t 9223372036854775808) x)(hY:Y=min y 4611686018427387904)(hfew:A.length < 900000) :
  Calls Tryz.prog 252 #[.pointer (some ⟨g,0,none⟩),.int .u64 t,.int .u64 y] w fun e w' =>
   e=.returned (.tuple #[])∧BentAt w' g F L R X (A ++ [(X,Y)])∧w.grownBy w' (some g):=by
 obtain⟨h1,h2,hB,u1,u2,hA⟩:=h.blk
 have hx0:=h.x0;have hx1:=h.x1
 have hM:=h.may
 have hlt:=h.lt_
 have hxX:x≤X:=by omega
 have hY0:0≤Y:=by have:=hy.1;omega
 have hm:0≤(F - R)*L:=Int.mul_nonneg (by omega) hM.l0
 have mb:=mul_bd (a:=F - R) (t:=L) (A:=1048576) (T:=1099511627776) (by omega) (by have:=hM.f1;have:=hM.r0;omega) hM.l0 hM.l1
 have uL:U L:=⟨hM.l0,by have:=hM.l1;omega⟩
 have ecap:cap ((F - R)*L)=(F - R)*L:=cap_of_le (by omega)
 refine (bstart_any g F L R A.length x h1 h2 t y (min t 9223372036854775808) X Y ((F - R)*L) (cap (Y+(F - R)*L)) (cap (h1+cap (F*(X - x)))) (cap (h2+cap (R*(X - x)))) _ _ w h.uF uL h.uR hlt h.ux ht hy u1 u2 (by omega) (by omega) (by omega) (by omega) (by omega) ecap rfl rfl rfl rfl rfl hB).mono fun e w' ⟨he,hB',hg⟩=>⟨he,?_,hg⟩
 have c1:=cap_nonneg (show 0≤Y+(F - R)*L by omega);have c2:=cap_le (Y+(F - R)*L)
 have d1:=cap_nonneg (show 0≤h1+cap (F*(X - x)) by have:=u1.1;have:=cap_nonneg (Int.mul_nonneg hM.f0 (show 0≤X - x by omega));omega)
 have d2:=cap_nonneg (show 0≤h2+cap (R*(X - x)) by have:=u2.1;have:=cap_nonneg (Int.mul_nonneg hM.r0 (show 0≤X - x by omega));omega)
 have d3:=cap_le (h1+cap (F*(X - x)));have d4:=cap_le (h2+cap (R*(X - x)))
 refine⟨⟨_,_,by rw [List.length_append];exact hB',?_,?_,fun _=>?_⟩,hM,hlt,fun a ha=>?_,by omega,by omega,by simp;omega⟩
 ·unfold U;split <;> omega
 ·unfold U;split <;> omega
 ·have e0:cap (Y+0)=Y:=by rw [Int.add_zero];exact cap_of_le (by omega)
  by_cases hA0:A=[]
  ·subst hA0
   have f1:=Below1.first (s:=F) (m:=0) (x:=X) (y:=Y) hM.f0 (by omega) hY0
   have f2:=Below1.first (s:=R) (m:=(F - R)*L) (x:=X) (y:=Y) hM.r0 hm hY0
   rw [e0] at f1
   simp only [List.length_nil,List.nil_append]
   rw [if_neg (by omega),if_neg (by omega)]
   exact⟨f1,f2⟩
  ·have hl:=List.length_pos_iff.2 hA0
   obtain⟨b1,b2⟩:=hA hA0
   have f1:=b1.next (x':=X) (y:=Y) hM.f0 (by omega) hY0 hxX
   have f2:=b2.next (x':=X) (y:=Y) hM.r0 hm hY0 hxX
   rw [e0] at f1
   generalize cap (h1+cap (F*(X - x)))=q1 at *
   generalize cap (h2+cap (R*(X - x)))=q2 at *
   generalize cap (Y+(F - R)*L)=a1 at *
   rw [show (if (0:Int) < (A.length:Int)∧q1 < Y then q1 else Y)=min q1 Y by split <;> omega,show (if (0:Int) < (A.length:Int)∧q2 < a1 then q2 else a1)=min q2 a1 by split <;> omega]
   exact⟨f1,f2⟩
 ·rcases List.mem_append.1 ha with ha | ha
  ·have:=h.num a ha;exact⟨this.1,by omega,this.2.2⟩
  ·obtain rfl:a=(X,Y):=by simpa using ha
   exact⟨by simp only;omega,by simp only;omega,by simp only;omega,by simp only;omega⟩
def Ans (v:Int→Int)(x y:Int)(w:World)(e:Ending)(w':World):Prop:=∃ n,e=.returned (.int .u64 n)∧Back v x y n∧0≤n∧n≤9223372036854775808∧Below w.heap.size w w'
theorem bent_reach (h:BentAt w g F L R x A)(hA:A≠[])(y:Int)(hy:U y) :
  Calls Tryz.prog 251 #[.pointer (some ⟨g,0,none⟩),.int .u64 y] w (Ans (fun t=>vA F L R A (max t x)) x y w):=by
 obtain⟨h1,h2,hB,u1,u2,hh⟩:=h.blk
 obtain⟨b1,b2⟩:=hh hA
 have hk:=bent_back (y:=y) h.lt_ h.may.r0 h.may.l0 h.x0 h.x1 h.low b1 b2
 have hx0:=h.x0
 exact (breach_any g F L R A.length x h1 h2 y _ w h.uF h.uR h.x0 h.x1 hy u1 u2 (len0 hA) hB rfl).mono fun e w' ⟨he,hb⟩=>⟨_,he,hk,by have:=hk.x_le;omega,hk.le_never,hb⟩
theorem bent_reach0 (h:BentAt w g F L R x [])(y:Int) :
  Calls Tryz.prog 251 #[.pointer (some ⟨g,0,none⟩),.int .u64 y] w fun e w'=>e=.returned (.int .u64 (nevB y))∧w=w':=by
 have c3:=h.cell3
 by_cases hy:y=0
 ·subst hy
  go_enter Tryz.func251,Tryz.ntmps251
  go_wp2_with (go_at_call 254;refine (bnone_any _ _ _ c3).mono ?_;rintro e w' ⟨rfl,rfl⟩)
  go_ret
  exact⟨rfl,rfl⟩
 ·have h0:(y == 0)=false:=by simpa using hy
  have e1:nevB y=9223372036854775808:=if_neg hy
  rw [e1]
  go_enter Tryz.func251,Tryz.ntmps251
  go_wp2_with (go_at_call 254;refine (bnone_any _ _ _ c3).mono ?_;rintro e w' ⟨rfl,rfl⟩)
  go_ret
  exact⟨rfl,rfl⟩
end
end
section
open Go.RowKit
theorem info_start:(Tryz.prog.info? 315).map (fun i=>(i.zero,i.size,i.bytes))=some (some (.agg #[.int .u64 0,.int .u64 0]),2,16):=by kernel_rfl
def cellsOf (K:List (Int × Int)):List Value:=K.flatMap fun k=>[.int .u64 k.1,.int .u64 k.2]
theorem cellsOf_length (K:List (Int × Int)):(cellsOf K).length=K.length*2:=by
 induction K with
 | nil=>rfl
 | cons k K ih=>simp only [cellsOf,List.flatMap_cons,List.length_append,List.length_cons,List.length_nil] at *;omega
theorem cellsOf_append (K M:List (Int × Int)):cellsOf (K ++ M)=cellsOf K ++ cellsOf M:=by simp [cellsOf]
theorem cellsOf_one (K:List (Int × Int)):∀ u∈cellsOf K,u.oneCell'=true:=by
 intro u hu
 obtain⟨k,_,hk⟩:=List.mem_flatMap.1 hu
 simp only [List.mem_cons,List.not_mem_nil,or_false] at hk
 rcases hk with rfl | rfl <;> rfl
theorem cellsOf_x:∀ (K:List (Int × Int))(j:Nat),(cellsOf K)[j*2]?=(K[j]?).map fun k=>.int .u64 k.1
 | [],j=>by simp [cellsOf]
 | k :: K,0=>by simp [cellsOf]
 | k :: K,j+1=>by
  have:=cellsOf_x K j
  simp only [cellsOf,List.flatMap_cons,List.getElem?_cons_succ] at *
  rw [show (j+1)*2=j*2+2 by omega,List.getElem?_append_right (by simp)]
  simpa using this
theorem cellsOf_y:∀ (K:List (Int × Int))(j:Nat),(cellsOf K)[j*2+1]?=(K[j]?).map fun k=>.int .u64 k.2
 | [],j=>by simp [cellsOf]
 | k :: K,0=>by simp [cellsOf]
 | k :: K,j+1=>by
  have:=cellsOf_y K j
  simp only [cellsOf,List.flatMap_cons,List.getElem?_cons_succ] at *
  rw [show (j+1)*2+1=j*2+1+2 by omega,List.getElem?_append_right (by simp)]
  simpa using this
theorem cellsOf_take:∀ (K:List (Int × Int))(n:Nat),(cellsOf K).take (n*2)=cellsOf (K.take n)
 | [],n=>by simp [cellsOf]
 | k :: K,0=>by simp [cellsOf]
 | k :: K,n+1=>by
  have:=cellsOf_take K n
  simp only [cellsOf,List.flatMap_cons,List.take_succ_cons] at *
  rw [show (n+1)*2=n*2+2 by omega]
  simpa using this
def RowK (w:World)(base:Nat)(v:Value)(K:List (Int × Int)):Prop:=w.ownsRow base 315 2 v K.length (cellsOf K)
theorem Below.grownNone {w w':World} (h:Below w.heap.size w w'):w.grownBy w' none:=⟨h.os,h.tape,h.output,h.size,fun k hk _=>h.block k hk⟩
theorem RowK.below {w w':World} {base:Nat} {v:Value} {K:List (Int × Int)} (h:RowK w base v K)(hb:Below w.heap.size w w'):RowK w' base v K :=
 h.kept (Below.grownNone hb)(by cases hv:v.ownBlock <;> simp)
theorem RowK.take {w:World} {base g n cap:Nat} {K:List (Int × Int)} (h:RowK w base (.slice (some ⟨g,0,none⟩) n cap) K)(m:Nat)(hm:m≤K.length) :
  RowK w base (.slice (some ⟨g,0,none⟩) m cap) (K.take m):=by
 obtain⟨hl,(⟨h1,_⟩ | ⟨g',cap',cur,hv,hb,hblk,hn,hc,hs,ht⟩)⟩:=h
 ·cases h1
 ·cases hv
  refine⟨by rw [cellsOf_length],.inr ⟨g,cap,cur,by rw [List.length_take,Nat.min_eq_left hm],hb,hblk,by rw [List.length_take];omega,hc,hs,?_⟩⟩
  rw [List.length_take,Nat.min_eq_left hm,← cellsOf_take,← ht,List.take_take,Nat.min_eq_left (Nat.mul_le_mul_right 2 hm)]
theorem clone_starts (v:Value)(base:Nat)(K:List (Int × Int))(w:World)(hown:RowK w base v K)(hn:K.length≤1000000) :
  Calls Tryz.prog 276 #[v] w fun e w'=>∃ v',e=.returned v'∧RowK w' w.heap.size v' K∧Below w.heap.size w w':=by
 obtain⟨i0,hi,hz0,hz1,hz2⟩:=info_parts info_start
 obtain⟨hlen,(⟨rfl,hK⟩ | ⟨g,cap,cur,rfl,hbg,hblk,hnc,hcm,hsz,htk⟩)⟩:=hown
 ·have hK':K=[]:=List.length_eq_zero_iff.1 hK
  subst hK'
  have hq:∀ (w:World)(a:Option Addr)(n c n' c':Nat),(binOp .eql 214 (.slice a n c) (.slice none n' c')).run Tryz.prog w=.ok (.bool a.isNone) w:=fun w a n c n' c'=>Lib.run_eql_slice_nil w _ _ a n c n' c' Tryz.underlying214
  go_enter Tryz.func276,Tryz.ntmps276
  go_wp2
  go_ret
  exact⟨_,rfl,World.ownsRow_nil _ _ _ _,Below.refl _ _⟩
 ·have hq:∀ (w:World)(a:Option Addr)(n c n' c':Nat),(binOp .eql 214 (.slice a n c) (.slice none n' c')).run Tryz.prog w=.ok (.bool a.isNone) w:=fun w a n c n' c'=>Lib.run_eql_slice_nil w _ _ a n c n' c' Tryz.underlying214
  have hc:=Lib.hid hblk
  have ht:=Lib.hid htk
  clear hblk htk
  go_enter Tryz.func276,Tryz.ntmps276
  go_wp2_with (at_builtin;refine wpList_append_own _ rfl _ _ 214 rfl w.heap.size 315 i0 (.agg #[.int .u64 0,.int .u64 0]) 2 16 Tryz.underlying214 hi hz0 hz1 hz2 rfl (by decide) _ _ _ rfl (World.ownsRow_made w #[] 0 (Nat.le_refl _) (Nat.zero_le _) rfl) ⟨g,0,none⟩ K.length cap (cellsOf K) rfl ?qc1 ?qc2 ?qc3 ?qc4 ?qc5 ?qc6 ?_)
  case qc1=>exact cellsOf_length K
  case qc2 =>
   intro j u hj
   have hj2:cur[j]?=some u:=by
    rw [← ht.out] at hj
    have h1:=(List.getElem?_eq_some_iff.1 hj).1
    rw [List.length_take] at h1
    rw [List.getElem?_take_of_lt (by omega)] at hj
    simpa using hj
   rw [Addr.add_lit]
   refine Lib.cell?_alloc_some _ ?_
   rw [cell_of_row w g _ cur _ _ hc.out,Nat.zero_add]
   exact hj2
  case qc3=>exact cellsOf_one K
  case qc4=>unfold maxLen;omega
  case qc5=>omega
  case qc6=>simp
  intro v' w1 hown1 hgrow hnil
  go_wp2
  go_ret
  refine⟨v',rfl,by simpa [RowK] using hown1,?_⟩
  exact ((Below.refl _ w).alloc (Nat.le_refl _) _).grown hgrow (by simp) (by intro k hk;simp [Value.ownBlock] at hk;omega)
end
section
open Go.RowKit
def nev (y:Int):Int:=if y=0 then 0 else 9223372036854775808
def NoneAt (w:World)(p:Option Addr):Prop:=p=none∨∃ g,p=some ⟨g,0,none⟩∧g < w.heap.size∧w.cell? ⟨g,4,none⟩=some (.int .i64 0)
theorem NoneAt.below {w w':World} {p:Option Addr} (h:NoneAt w p)(hb:Below w.heap.size w w'):NoneAt w' p:=by
 rcases h with rfl | ⟨g,rfl,hg,hc⟩
 ·exact .inl rfl
 ·exact .inr ⟨g,rfl,Nat.lt_of_lt_of_le hg hb.size,(hb.cell (p:=⟨g,4,none⟩) hg).trans hc⟩
theorem snone_yes (p:Option Addr)(w:World)(h:NoneAt w p) :
  Calls Tryz.prog 279 #[.pointer p] w fun e w'=>e=.returned (.bool true)∧w=w':=by
 rcases h with rfl | ⟨g,rfl,hg,hc⟩
 ·go_enter Tryz.func279,Tryz.ntmps279
  go_wp2
  go_ret
  exact⟨rfl,rfl⟩
 ·go_enter Tryz.func279,Tryz.ntmps279
  go_wp2
  go_ret
  exact⟨rfl,rfl⟩
theorem slastof_none (p:Option Addr)(y:Int)(f:Value)(w:World)(h:NoneAt w p) :
  Calls Tryz.prog 273 #[.pointer p,.int .u64 y,f] w fun e w'=>e=.returned (.int .u64 (nev y))∧w=w':=by
 by_cases hy:y=0
 ·subst hy
  go_enter Tryz.func273,Tryz.ntmps273
  go_wp2_with (go_at_call 279;refine (snone_yes _ _ h).mono ?_;rintro e w' ⟨rfl,rfl⟩)
  go_ret
  exact⟨rfl,rfl⟩
 ·have hy0:(y == 0)=false:=by simpa using hy
  have E:=Lib.hid (show nev y=9223372036854775808 by unfold nev;rw [if_neg hy])
  clear hy
  go_enter Tryz.func273,Tryz.ntmps273
  go_wp2_with (go_at_call 279;refine (snone_yes _ _ h).mono ?_;rintro e w' ⟨rfl,rfl⟩)
  go_ret
  exact⟨ret_int E.out.symm,rfl⟩
theorem sreach_none (p:Option Addr)(y:Int)(w:World)(h:NoneAt w p) :
  Calls Tryz.prog 270 #[.pointer p,.int .u64 y] w fun e w'=>e=.returned (.int .u64 (nev y))∧Below w.heap.size w w':=by
 have h1:=h.below ((Below.refl _ w).alloc (Nat.le_refl _) (.cells #[.pointer p] 177))
 go_enter Tryz.func270,Tryz.ntmps270
 go_wp2_with (go_at_call 273;refine (slastof_none _ _ _ _ h1).mono ?_;rintro e w' ⟨rfl,rfl⟩)
 go_ret
 exact⟨rfl,by go_grown⟩
end
section
open Go.RowKit
def SagAt (w:World)(g:Nat)(F L R n x:Int)(K:List (Int × Int)):Prop :=
 ∃ v,Blk w g 216 #[.int .u64 F,.int .u64 L,.int .u64 R,.bool true,.int .i64 n,.int .u64 x,v]∧RowK w (g+1) v K
theorem SagAt.below {w w':World} {g:Nat} {F L R n x:Int} {K:List (Int × Int)} (h:SagAt w g F L R n x K)(hb:Below w.heap.size w w'):SagAt w' g F L R n x K:=by
 obtain⟨v,h1,h2⟩:=h
 exact⟨v,h1.below hb h1.lt,h2.below hb⟩
theorem RowK.open_ {w:World} {base:Nat} {v:Value} {K:List (Int × Int)} (h:RowK w base v K)(hK:K≠[]) :
  ∃ b cap,v=.slice (some ⟨b,0,none⟩) K.length cap∧base≤b∧b < w.heap.size∧K.length≤cap ∧
   ∀ j k,K[j]?=some k→w.cell? ⟨b,j*2,none⟩=some (.int .u64 k.1)∧w.cell? ⟨b,j*2+1,none⟩=some (.int .u64 k.2):=by
 have h':=h
 obtain⟨hl,(⟨_,h0⟩ | ⟨b,cap,cur,hv,hb,hblk,hn,hc,hs,ht⟩)⟩:=h
 ·exact absurd (List.length_eq_zero_iff.1 h0) hK
 ·subst hv
  refine⟨b,cap,rfl,hb,(Array.getElem?_eq_some_iff.1 hblk).1,hn,fun j k hj=>?_⟩
  have hjl:j < K.length:=(List.getElem?_eq_some_iff.1 hj).1
  have h1:=h'.cellAt (j*2) (by omega)
  have h2:=h'.cellAt (j*2+1) (by omega)
  rw [cellsOf_x,hj] at h1
  rw [cellsOf_y,hj] at h2
  exact⟨h1,h2⟩
theorem snone_no (g:Nat)(n:Int)(w:World)(hn:n≠0)(hc:w.cell? ⟨g,4,none⟩=some (.int .i64 n)) :
  Calls Tryz.prog 279 #[.pointer (some ⟨g,0,none⟩)] w fun e w'=>e=.returned (.bool false)∧w=w':=by
 have h0:(n == 0)=false:=by simpa using hn
 go_enter Tryz.func279,Tryz.ntmps279
 go_wp2
 go_ret
 exact⟨rfl,rfl⟩
end
section
open Go.RowKit
attribute [local go_sem ↓] Go.wp_at_zero Go.wp_at_succ
attribute [local go_sem] quietR quietAtR quietUponR midAt midUpon
def S0 (w W:World)(g:Nat)(F L R n X:Int)(v:Value)(K:List (Int × Int)):Prop :=
 Blk W g 216 #[.int .u64 F,.int .u64 L,.int .u64 R,.bool true,.int .i64 (n+1),.int .u64 X,v]∧RowK W (g+1) v K∧w.grownBy W (some g)
def S1 (W W':World)(X Y:Int)(K:List (Int × Int))(s50 s51 s52:Value):Prop :=
 ∃ b cp,s50=.slice (some ⟨b,0,none⟩) (K.length+1) cp∧s51=.int .i64 ((K.length+1:Nat):Int)∧s52=.int .i64 0∧RowK W' W.heap.size s50 (K ++ [(X,Y)])∧Below W.heap.size W W'
theorem RowK.low {w:World} {b b':Nat} {v:Value} {K:List (Int × Int)} (h:RowK w b v K)(hb:b'≤b):RowK w b' v K:=by
 obtain⟨h1,h2 | ⟨g,cp,cur,h2,h3,h4⟩⟩:=h
 ·exact⟨h1,.inl h2⟩
 ·exact⟨h1,.inr ⟨g,cp,cur,h2,by omega,h4⟩⟩
theorem RowK.shape {w:World} {base:Nat} {v:Value} {K:List (Int × Int)} (h:RowK w base v K):∃ a c,v=.slice a K.length c:=by
 obtain⟨h1,⟨h2,h0⟩ | ⟨g,cp,cur,h2,h3,h4⟩⟩:=h
 ·exact⟨none,0,by rw [h2,h0]⟩
 ·exact⟨_,_,h2⟩
theorem fold_mem {F L R s:Int}:∀ (l out:List (Int × Int)),∀ q∈l.foldl (push1 F L R s) out,q∈out∨q∈l
 | [],out,q,h=>.inl h
 | k :: l,out,q,h=>by
  rcases fold_mem l _ q h with h | h
  ·rcases push1_mem h with h | rfl
   ·exact .inl h
   ·exact .inr (by simp)
  ·exact .inr (by simp [h])
theorem push1_len {F L R s:Int} (out:List (Int × Int))(k:Int × Int):(push1 F L R s out k).length≤out.length+1:=by
 obtain⟨m,hm,he,_,_⟩:=popN_spec (fun o=>decide (hasK F L R k s≤hasK F L R o s)) out out.length
 have hl:(out.take m).length≤out.length:=by simp;omega
 unfold push1
 simp only [he]
 split
 ·split
  ·omega
  ·rw [List.length_append];simp only [List.length_singleton];omega
 ·rw [List.length_append];simp only [List.length_singleton];omega
theorem fold_len {F L R s:Int}:∀ (l out:List (Int × Int)),(l.foldl (push1 F L R s) out).length≤out.length+l.length
 | [],out=>by simp
 | k :: l,out=>by
  have h1:=fold_len (F:=F) (L:=L) (R:=R) (s:=s) l (push1 F L R s out k)
  have h2:=push1_len (F:=F) (L:=L) (R:=R) (s:=s) out k
  simp only [List.foldl_cons,List.length_cons];omega
theorem fold_next {F L R s:Int} {M:List (Int × Int)} {j:Nat} {p:Int × Int} (h:M[j]?=some p):(M.take (j+1)).foldl (push1 F L R s) []=push1 F L R s ((M.take j).foldl (push1 F L R s) []) p:=by
 rw [List.take_add_one,h]
 simp [List.foldl_append]
theorem hask_any (g:Nat)(F L R x y s:Int)(w:World)(h:MayC F L R)(hx:0≤x)(hxs:x≤s)(hs:U s)(hy:U y)(hg:g < w.heap.size)
  (c0:w.cell? ⟨g,0,none⟩=some (.int .u64 F))(c1:w.cell? ⟨g,1,none⟩=some (.int .u64 L))(c2:w.cell? ⟨g,2,none⟩=some (.int .u64 R)) :
  Calls Tryz.prog 277 #[.pointer (some ⟨g,0,none⟩),.agg #[.int .u64 x,.int .u64 y],.int .u64 s] w fun e w' =>
   e=.returned (.agg #[.int .u64 (hiW (hasK F L R (x,y) s)),.int .u64 (loW (hasK F L R (x,y) s))])∧Below w.heap.size w w':=by
 have hf:U F:=⟨h.f0,by have:=h.f1;omega⟩
 have hr:U R:=⟨h.r0,by have:=h.r1;omega⟩
 have hl:U L:=⟨h.l0,by have:=h.l1;omega⟩
 have e:hasK F L R (x,y) s=F*min (s - x) L+R*(s - x - min (s - x) L)+y:=by unfold hasK W;simp only;omega
 rw [e]
 exact has_any g F L R x y s _ w hf h.f1 hr h.r1 hl hx hxs hs hy rfl hg c0 c1 c2
theorem linek_any (g:Nat)(F L R x y s:Int)(w:World)(h:MayC F L R)(hx:0≤x)(hxs:x≤s)(hs:U s)(hy:U y)(hg:g < w.heap.size)
  (c2:w.cell? ⟨g,2,none⟩=some (.int .u64 R)) :
  Calls Tryz.prog 278 #[.pointer (some ⟨g,0,none⟩),.agg #[.int .u64 x,.int .u64 y],.int .u64 s] w fun e w' =>
   e=.returned (.agg #[.int .u64 (hiW (lineK R (x,y) s)),.int .u64 (loW (lineK R (x,y) s))])∧Below w.heap.size w w':=by
 have hr:U R:=⟨h.r0,by have:=h.r1;omega⟩
 have e:lineK R (x,y) s=R*(s - x)+y:=by unfold lineK;simp only;omega
 rw [e]
 exact line_any g F L R x y s w hr h.r1 hx hxs hs hy hg c2
theorem cmpk_any (x y c:Int)(w:World)(h:cmpI x y=c) :
  Calls Tryz.prog 193 #[.agg #[.int .u64 (hiW x),.int .u64 (loW x)],.agg #[.int .u64 (hiW y),.int .u64 (loW y)]] w fun e w'=>e=.returned (.int .i64 c)∧Below w.heap.size w w':=by
 have:=cmp_any (hiW x) (loW x) (hiW y) (loW y) w (U_lo x) (U_lo y)
 rw [num_words,num_words,h] at this
 exact this
theorem World.grownBy_setCell (w:World)(p:Addr)(u:Value):w.grownBy (w.setCell p u) (some p.block) :=
 ⟨rfl,rfl,rfl,by simp [World.setCell],fun k hk hne=>Below.heap_setCell w p u k (by simpa using hne)⟩
theorem popN_pop {v:Int × Int→Bool} {l:List (Int × Int)} {m:Nat} {q:Int × Int} (hq:l[m]?=some q)(hv:v q=true):popN v l (m+1)=popN v l m:=by
 rw [popN,hq];simp [hv]
theorem popN_stay {v:Int × Int→Bool} {l:List (Int × Int)} {m:Nat} {q:Int × Int} (hq:l[m]?=some q)(hv:v q=false):popN v l (m+1)=l.take (m+1):=by
 rw [popN,hq];simp [hv]
theorem last_take {l:List (Int × Int)} {m:Nat} {q:Int × Int} (hq:l[m]?=some q):(l.take (m+1)).getLast?=some q:=by
 rw [List.take_add_one,hq];simp
theorem push1_none {F L R s:Int} {out:List (Int × Int)} {k:Int × Int} (hp:popN (fun o=>decide (hasK F L R k s≤hasK F L R o s)) out 0=popN (fun o=>decide (hasK F L R k s≤hasK F L R o s)) out out.length):push1 F L R s out k=[k]:=by
 unfold push1
 rw [← hp]
 simp [popN]
theorem push1_top {F L R s:Int} {out:List (Int × Int)} {k q:Int × Int} {m:Nat} (hq:out[m]?=some q)(hp:popN (fun o=>decide (hasK F L R k s≤hasK F L R o s)) out (m+1)=popN (fun o=>decide (hasK F L R k s≤hasK F L R o s)) out out.length)
  (hv:hasK F L R q s < hasK F L R k s):push1 F L R s out k=if lineK R q s≤lineK R k s then out.take (m+1) else out.take (m+1) ++ [k]:=by
 unfold push1
 rw [← hp,popN_stay hq (by simp;omega)]
 simp only [last_take hq]
def NewRow (w w':World)(g:Nat):Prop:=∀ v b,w'.cell? ⟨g,6,none⟩=some v→v.ownBlock=some b→w.heap.size≤b
theorem sstart_own (g:Nat)(F L R n x y t X Y:Int)(K:List (Int × Int))(w:World)(hX:X=max (min t 9223372036854775808) x)(hY:Y=min y 4611686018427387904)(hx:U x)(ht:U t)(hy:U y)(hn0:0≤n)(hn:n≤1000000)(hbig:K.length≤900000)
  (hC:SagC F L R)(hK:∀ k∈K,0≤k.1∧k.1≤x∧U k.2)(hs:SagAt w g F L R n x K) :
  Calls Tryz.prog 271 #[.pointer (some ⟨g,0,none⟩),.int .u64 t,.int .u64 y] w fun e w' =>
   e=.returned (.tuple #[])∧SagAt w' g F L R (n+1) X (startK F L R X K (X,Y))∧w.grownBy w' (some g)∧NewRow w w' g:=by
 obtain⟨v,hb,hrow⟩:=hs
 have hg:=hb.lt
 have c3:=hb.cell 3;have c4:=hb.cell 4;have c5:=hb.cell 5
 have z5:=hb.frozen 5;have z4:=hb.frozen 4
 have hUX:U X:=by unfold U at *;omega
 have hUY:U Y:=by unfold U at *;omega
 have H0:Hid (∀ W,W=(w.setCell ⟨g,5,none⟩ (.int .u64 X)).setCell ⟨g,4,none⟩ (.int .i64 (n+1))→S0 w W g F L R n X v K):=by
  refine Lib.hid fun W hW=>?_
  subst hW
  have h1:=World.grownBy_setCell w ⟨g,5,none⟩ (.int .u64 X)
  have h2:=World.grownBy_setCell (w.setCell ⟨g,5,none⟩ (.int .u64 X)) ⟨g,4,none⟩ (.int .i64 (n+1))
  have hne:v.ownBlock=none∨v.ownBlock≠some g:=by
   rcases hv:v.ownBlock with _ | k
   ·exact .inl rfl
   ·refine .inr fun he=>?_
    have:=(hrow.lt k hv).1
    injection he with he
    omega
  refine⟨?_,(hrow.kept h1 hne).kept h2 hne,⟨h2.os.trans h1.os,h2.tape.trans h1.tape,h2.output.trans h1.output,Nat.le_trans h1.size h2.size,fun k hk hk2=>(h2.block k (Nat.lt_of_lt_of_le hk h1.size) hk2).trans (h1.block k hk hk2)⟩⟩
  have h3:=(hb.set_ 5 (.int .u64 X)).set_ 4 (.int .i64 (n+1))
  simpa using h3
 have HM:=Lib.hid (show ∀ k∈K ++ [(X,Y)],0≤k.1∧k.1≤X∧U k.2 from fun k hk=>by
  rcases List.mem_append.1 hk with h | h
  ·have:=hK k h;exact⟨this.1,by omega,this.2.2⟩
  ·obtain rfl:k=(X,Y):=by simpa using h
   exact⟨hUX.1,Int.le_refl _,hUY⟩)
 clear hK
 have HX:=Lib.hid hX;have HY:=Lib.hid hY
 clear hb hrow hX hY
 simp only [lTA,lCZ,lCS] at c3 c4 c5
 go_enter Tryz.func271,Tryz.ntmps271
 go_step3
 go_upto_region 1 with fail
 go_cut [20] (fun _ wx=>wx=w.setCell ⟨g,5,none⟩ (.int .u64 X))
 case first =>
  go_wp2
  all_goals (go_meet;have h:=HX.out;congr 1;exact val_int (by omega))
 case rest =>
  subst hcut
  go_upto_region 4 with fail
  refine wp_gen (fun W=>S0 w W g F L R n X v K) (H0.out _ rfl) ?_
  clear H0
  intro W hS
  obtain⟨hB,hR,hgr⟩:=hS
  have hgW:=hB.lt
  have d4:=hB.cell 6;have d3:=hB.cell 5
  simp only [lTA,lCZ,lCS] at d4 d3
  have HB:=Lib.hid hB;have HR:=Lib.hid hR;have HG:=Lib.hid hgr
  clear hB hR hgr c3 c4 c5 z4 z5
  go_step3
  go_upto_region 4 with fail
  go_cut [50,51,52] (fun s50 s51 s52 wx=>S1 W wx X Y K s50 s51 s52)
  case first =>
   have hRW:=HR.out
   have dd4:=fun e=>(over_cell (w:=W) (e:=e) (o:=6) hgW).trans d4
   have dd3:=fun e=>(over_cell (w:=W) (e:=e) (o:=5) hgW).trans d3
   refine wp_region_mid (w:=W) 13 2 [4,12] [(52,.int .i64 0)] [(4,fun u W'=>RowK W' W.heap.size u K),(12,fun u W'=>∃ b,u=.slice (some ⟨b,0,none⟩) 1 1∧W.heap.size≤b∧Blk W' b 315 #[.int .u64 X,.int .u64 Y])] rfl (by kernel_rfl) (by kernel_rfl) (by kernel_rfl) (by kernel_rfl) (fun _ _ _ _ _ h=>h) ⟨?st1,?st2,trivial⟩ ?_
   case st1=>exact fun v W1 W2 h hb=>h.below hb
   case st2=>exact fun v W1 W2 ⟨b,h1,h2,h3⟩ hb=>⟨b,h1,h2,h3.below hb h3.lt⟩
   intro L hL
   have HL:=Lib.hid hL
   clear hL
   simp only [List.take_succ_cons,List.take_zero,putL]
   repeat (first | refine wpHead_skip (by decide) ?_ | (refine wpHead_step (by decide) (fun K hK=>?_);go_simp;first | (refine hK _ ?_;clear hK K) | (apply Exists.intro;refine⟨fun _=>?_,hK _ ?_⟩;(fail);clear hK K)))
   refine wpHead_nil (HL.out _ ⟨?_,?_,trivial⟩ ?_)
   ·intro vs W1 hb1 hf
    clear hf HL
    change midAt _ _ (Act.put (Act.put _ (some 41) (vs 4)) (some 49) (vs 12)) _ _
    go_simp
    exact (clone_starts v (g+1) K W1 (hRW.below hb1) (by omega)).mono fun e W2 ⟨v',he,hr,hb⟩=>⟨v',he,hb,hr.low hb1.size⟩
   ·intro vs W1 hb1 hf
    clear hf HL
    change midAt _ _ (Act.put (Act.put _ (some 41) (vs 4)) (some 49) (vs 12)) _ _
    go_simp
    refine⟨(Below.refl _ _).alloc (Nat.le_refl _) _,hb1.size,?_⟩
    have hYv:=HY.out
    rw [show (if 4611686018427387904 < y then (4611686018427387904:Int) else y)=Y by omega]
    exact Blk.new _ _ _
   ·intro vs W1 hb1 hf
    obtain⟨hf1,⟨b1,hf2,hbb,hf3⟩,hff⟩:=hf
    clear hff
    clear HL
    change wpList _ _ _ _ (Act.put (Act.put _ (some 41) (vs 4)) (some 49) (vs 12)) _
    generalize vs 4=v1 at *
    rw [hf2]
    clear hf2
    simp only [List.drop_succ_cons,List.drop_zero,List.take_succ_cons,List.take_zero]
    obtain⟨i0,hi0,hz0,hz1,hz2⟩:=info_parts info_start
    have H3:=Lib.hid hf3
    clear hf3
    go_wp2_with (at_builtin;refine wpList_append_lies _ rfl _ _ 214 rfl W.heap.size 315 i0 (.agg #[.int .u64 0,.int .u64 0]) 2 16 Tryz.underlying214 hi0 hz0 hz1 hz2 rfl (by decide) v1 K.length (cellsOf K) rfl hf1 ⟨b1,0,none⟩ 1 1 [.int .u64 X,.int .u64 Y] rfl rfl (World.news_of_block H3.out) (by simp [Value.oneCell']) (by decide) (by unfold maxLen;omega) (by omega) hb1.size _ rfl ?_;intro b2 cp2 W2 hown2 hgr2 hat2 hlt2)
    all_goals
     go_meet
     refine⟨b2,cp2,rfl,by go_num,rfl,?_,hb1.grown hgr2 hb1.size fun k hk=>(hf1.lt k hk).1⟩
     rw [RowK,cellsOf_append,List.length_append]
     exact hown2
  case rest =>
   obtain⟨b,cp,rfl,rfl,rfl,hL,hbL⟩:=hcut
   obtain⟨b',cp',hv',hbb,hbw,hcap,hcells⟩:=hL.open_ (by simp)
   obtain⟨rfl,rfl⟩:b=b'∧cp=cp':=by injection hv' with h1 h2 h3;injection h1 with h1;injection h1 with h1;exact⟨h1,h3⟩
   clear hv' d3 d4
   have HL:=Lib.hid hL;have HC:=Lib.hid hcells
   clear hL hcells
   go_wp2
   go_loopw [6,52] (fun o i Wr=>∃ j:Nat,j≤K.length+1∧i=.int .i64 j∧RowK Wr wc.heap.size o (((K ++ [(X,Y)]).take j).foldl (push1 F L R X) [])∧Below wc.heap.size wc Wr) (fun _ i _=>K.length+1 - (Go.RowKit.intOf i).toNat)
   case atStart=>exact⟨0,by omega,rfl,World.ownsRow_nil _ _ _ _,Below.refl _ _⟩
   case round =>
    obtain⟨j,hj,rfl,hrow,hbr⟩:=hrel
    obtain⟨wo,hwo⟩:∃ wo:World,wo=wr:=⟨_,rfl⟩
    subst hwo
    by_cases hlt:j < K.length+1
    ·obtain⟨⟨px,py⟩,hp⟩:∃ p,(K ++ [(X,Y)])[j]?=some p:=⟨_,List.getElem?_eq_getElem (by simp;omega)⟩
     have hpm:=HM.out _ (List.mem_of_getElem? hp)
     have hout:=fold_mem (F:=F) (L:=L) (R:=R) (s:=X) ((K ++ [(X,Y)]).take j) []
     have hlen:=fold_len (F:=F) (L:=L) (R:=R) (s:=X) ((K ++ [(X,Y)]).take j) []
     have hnext:=fold_next (F:=F) (L:=L) (R:=R) (s:=X) hp
     generalize ((K ++ [(X,Y)]).take j).foldl (push1 F L R X) []=out at hrow hout hlen hnext
     have hlen2:out.length≤1000000:=by simp at hlen;omega
     have hom:∀ q∈out,0≤q.1∧q.1≤X∧U q.2:=fun q hq=>HM.out q (by rcases hout q hq with h | h;simp at h;exact List.mem_of_mem_take h)
     obtain⟨e0,e1⟩:=HC.out j _ hp
     have f0:=(hbr.cell (p:=⟨b,j*2,none⟩) hbw).trans e0
     have f1:=(hbr.cell (p:=⟨b,j*2+1,none⟩) hbw).trans e1
     clear e0 e1
     obtain⟨oa,oc,rfl⟩:=hrow.shape
     have HW:=Lib.hid hrow
     have HN:=Lib.hid hnext;have HO:=Lib.hid hom
     clear hrow hnext hom hout hlen hp
     go_wp2
     have nb:=Blk.new wo 315 #[.int .u64 px,.int .u64 py]
     have hal:=(Below.refl wo.heap.size wo).alloc (Nat.le_refl _) (.cells #[.int .u64 px,.int .u64 py] 315)
     generalize hW1:wo.alloc (.cells #[.int .u64 px,.int .u64 py] 315)=W1 at *
     have NB:=Lib.hid nb
     clear hW1 nb f0 f1
     go_loopw [6,9] (fun o nn Wr=>∃ (m:Nat)(a:Option Addr)(c:Nat),m≤out.length∧nn=.int .i64 m∧o=.slice a m c∧RowK Wr wc.heap.size o (out.take m)∧popN (fun o=>decide (hasK F L R (px,py) X≤hasK F L R o X)) out m=popN (fun o=>decide (hasK F L R (px,py) X≤hasK F L R o X)) out out.length∧Below W1.heap.size W1 Wr) (fun _ nn _=>(Go.RowKit.intOf nn).toNat)
     case atStart=>exact⟨out.length,oa,oc,Nat.le_refl _,rfl,rfl,by rw [List.take_length];exact HW.out.below hal,rfl,Below.refl _ _⟩
     case round =>
      obtain⟨m,a,c,hm,rfl,rfl,hrow2,hpop,hb2⟩:=hrel
      have hB2:=(((HB.out.below hbL hgW).below hbr (HB.out.below hbL hgW).lt).below hal ((HB.out.below hbL hgW).below hbr (HB.out.below hbL hgW).lt).lt)
      have hB3:=hB2.below hb2 hB2.lt
      have hP:=NB.out.below hb2 NB.out.lt
      have og0:=fun e=>(over_cell (w:=wr) (e:=e) (o:=0) hB3.lt).trans (hB3.cell 0)
      have og1:=fun e=>(over_cell (w:=wr) (e:=e) (o:=1) hB3.lt).trans (hB3.cell 1)
      have og2:=fun e=>(over_cell (w:=wr) (e:=e) (o:=2) hB3.lt).trans (hB3.cell 2)
      have og5:=fun e=>(over_cell (w:=wr) (e:=e) (o:=5) hB3.lt).trans (hB3.cell 5)
      have op0:=fun e=>(over_cell (w:=wr) (e:=e) (o:=0) hP.lt).trans (hP.cell 0)
      have op1:=fun e=>(over_cell (w:=wr) (e:=e) (o:=1) hP.lt).trans (hP.cell 1)
      have ogl:=fun e=>Nat.lt_of_lt_of_le hB3.lt (over_below wr e).size
      simp only [lTA,lCZ,lCS] at og0 og1 og2 og5 op0 op1
      have OG:=Lib.hid (fun e=>And.intro (og0 e) (And.intro (og1 e) (And.intro (og2 e) (ogl e))))
      clear og0 og1 og2 ogl
      have HP:=Lib.hid hpop;have HR2:=Lib.hid hrow2;have HB3:=Lib.hid hB3;have HPB:=Lib.hid hP
      clear hpop hrow2 hB2 hB3 hP
      by_cases h0:m=0
      ·subst h0
       have hg0:decide ((0:Int) > 0)=false:=by decide
       go_wp2
       refine wp_region_over (by kernel_rfl) (by kernel_rfl) ?_
       repeat (first | go_big_quiet_skip | (go_big_quiet_want;go_big_quiet_op;go_big_quiet_on))
       refine wpQuiet_nil ?_
       rintro W2 ⟨e,he⟩
       have hb22:=over_below wr e
       rw [← he] at hb22
       clear he og5 op0 op1
       go_wp2
       refine wp_region_over (by kernel_rfl) (by kernel_rfl) ?_
       repeat (first | go_big_quiet_skip | (go_big_quiet_want;go_big_quiet_op;go_big_quiet_on))
       refine wpQuiet_nil ?_
       rintro W3 ⟨e,he⟩
       have hb33:=over_below W2 e
       rw [← he] at hb33
       clear he
       have hP5:=(HPB.out.below hb22 HPB.out.lt).below hb33 (HPB.out.below hb22 HPB.out.lt).lt
       have p0:=hP5.cell 0;have p1:=hP5.cell 1
       have hlW:wo.heap.size < W3.heap.size:=hP5.lt
       simp only [lTA,lCZ,lCS] at p0 p1
       have hnew:=HN.out
       rw [push1_none HP.out] at hnew
       have HNew:=Lib.hid hnew
       have hr6:W3.ownsRow wc.heap.size 315 2 (.slice a 0 c) 0 (cellsOf []):=(HR2.out.below hb22).below hb33
       have hbW2:Below wc.heap.size wc W2:=((hbr.trans (hal.mono hbr.size)).trans (hb2.mono (Nat.le_trans hbr.size hal.size))).trans (hb22.mono (Nat.le_trans hbr.size (Nat.le_trans hal.size hb2.size)))
       have hbW3:Below wc.heap.size wc W3:=hbW2.trans (hb33.mono hbW2.size)
       have HR6:=Lib.hid hr6
       clear hnew hP5 hr6
       obtain⟨i0,hi0,hz0,hz1,hz2⟩:=info_parts info_start
       go_wp2_with (at_builtin;refine wpList_append_lies _ rfl _ _ 214 rfl wc.heap.size 315 i0 (.agg #[.int .u64 0,.int .u64 0]) 2 16 Tryz.underlying214 hi0 hz0 hz1 hz2 rfl (by decide) _ 0 (cellsOf ([])) rfl (HR6.out.alloc _) ⟨W3.heap.size,0,none⟩ 1 1 [.int .u64 px,.int .u64 py] rfl rfl (World.news_of_block (heap_alloc_new W3 _)) (by simp [Value.oneCell']) (by decide) (by unfold maxLen;omega) (by omega) (Nat.le_trans hbW3.size (by simp)) _ rfl ?_;intro b4 cp4 W4 hown4 hgr4 hat4 hlt4)
       have hlast:RowK W4 wc.heap.size (.slice (some ⟨b4,0,none⟩) (0+1) cp4) [(px,py)]:=hown4
       have hbW4:Below wc.heap.size wc W4:=(hbW3.alloc hbW3.size _).grown hgr4 (by simp;have:=hbW3.size;omega) (fun k hk=>(HR6.out.lt k hk).1)
       go_roundw
       case rel=>(repeat apply Exists.intro);exact⟨⟨j+1,by omega,by go_num,by rw [HNew.out];exact hlast,hbW4⟩,rfl⟩
       case measure=>simp [Go.RowKit.intOf];omega
      ·obtain⟨m,rfl⟩:∃ m',m=m'+1:=⟨m - 1,by omega⟩
       clear h0
       obtain⟨⟨qx,qy⟩,hq⟩:∃ q,out[m]?=some q:=⟨_,List.getElem?_eq_getElem (by omega)⟩
       have hqm:=HO.out _ (List.mem_of_getElem? hq)
       have hqt:(out.take (m+1))[m]?=some (qx,qy):=by rw [List.getElem?_take_of_lt (by omega)];exact hq
       obtain⟨b3,cp3,hv3,hbb3,hbw3,hcap3,hcells3⟩:=HR2.out.open_ (by intro h;rw [h] at hqt;simp at hqt)
       obtain⟨rfl,rfl⟩:a=some ⟨b3,0,none⟩∧c=cp3:=by injection hv3 with h1 h2 h3;exact⟨h1,h3⟩
       obtain⟨e0,e1⟩:=hcells3 m _ hqt
       have oq0:=fun e=>(over_cell (w:=wr) (e:=e) (o:=m*2) hbw3).trans e0
       have oq1:=fun e=>(over_cell (w:=wr) (e:=e) (o:=m*2+1) hbw3).trans e1
       have HQ:=Lib.hid hq
       have hmc:(m:Int)≤(c:Int):=by have:=hcap3;rw [List.length_take] at this;omega
       have hne:out.take (m+1)≠[]:=by intro h;rw [h] at hqt;simp at hqt
       have HNE:=Lib.hid hne
       clear hne
       clear hv3 hcells3 hq hqt e0 e1
       rw [Int.natCast_succ]
       have hm0:(0:Int)≤(m:Int):=Int.natCast_nonneg _
       have hm1:(m:Int) < (m:Int)+1:=by omega
       have hm2:(0:Int) < (m:Int)+1:=by omega
       have tst:∃ c1,cmpI (hasK F L R (qx,qy) X) (hasK F L R (px,py) X)=c1∧((hasK F L R (px,py) X≤hasK F L R (qx,qy) X∧0≤c1)∨(hasK F L R (qx,qy) X < hasK F L R (px,py) X∧decide (0≤c1)=false)):=by
        refine⟨_,rfl,?_⟩
        by_cases h:hasK F L R (qx,qy) X < hasK F L R (px,py) X
        ·exact .inr ⟨h,by rw [cmpI_lt h];decide⟩
        ·exact .inl ⟨by omega,by unfold cmpI;rw [if_neg h];split <;> omega⟩
       obtain⟨c1,hc1,htst⟩:=tst
       have HC1:=Lib.hid hc1
       clear hc1
       rcases htst with ⟨hle,hcc⟩ | ⟨hle,hcc⟩
       ·go_wp2
        refine wp_region_over (by kernel_rfl) (by kernel_rfl) ?_
        repeat (first | go_big_quiet_skip | (go_big_quiet_want;go_big_quiet_op;first | go_big_quiet_on | (apply Exists.intro;refine⟨fun e=>?_,?_⟩;(focus (first | (go_at_call_of 277 (Value.agg #[.int .u64 qx,.int .u64 qy]);exact calls_over (hask_any g F L R qx qy X _ hC.may hqm.1 hqm.2.1 hUX hqm.2.2 (OG.out e).2.2.2 (OG.out e).1 (OG.out e).2.1 (OG.out e).2.2.1)) | (go_at_call_of 277 (Value.agg #[.int .u64 px,.int .u64 py]);exact calls_over (hask_any g F L R px py X _ hC.may hpm.1 hpm.2.1 hUX hpm.2.2 (OG.out e).2.2.2 (OG.out e).1 (OG.out e).2.1 (OG.out e).2.2.1)) | (go_at_call 193;exact calls_over (cmpk_any _ _ c1 _ HC1.out))));go_big_quiet_on)))
        refine wpQuiet_nil ?_
        rintro W2 ⟨e,he⟩
        have hb22:=over_below wr e
        rw [← he] at hb22
        clear he og5 op0 op1 oq0 oq1
        have hpop2:=(popN_pop (v:=fun o=>decide (hasK F L R (px,py) X≤hasK F L R o X)) HQ.out (decide_eq_true hle)).symm.trans HP.out
        have HP2:=Lib.hid hpop2
        have hr3:=(HR2.out.below hb22).take m (by rw [List.length_take];omega)
        rw [List.take_take,Nat.min_eq_left (Nat.le_succ m)] at hr3
        have HR3:=Lib.hid hr3
        clear hpop2 hr3 hle
        go_wp2
        go_roundw
        case rel=>exact⟨m,some ⟨b3,0,none⟩,c,by omega,by go_num,rfl,HR3.out,HP2.out,hb2.trans (hb22.mono hb2.size)⟩
        case measure=>(simp [Go.RowKit.intOf];try omega)
       ·go_wp2
        refine wp_region_over (by kernel_rfl) (by kernel_rfl) ?_
        repeat (first | go_big_quiet_skip | (go_big_quiet_want;go_big_quiet_op;first | go_big_quiet_on | (apply Exists.intro;refine⟨fun e=>?_,?_⟩;(focus (first | (go_at_call_of 277 (Value.agg #[.int .u64 qx,.int .u64 qy]);exact calls_over (hask_any g F L R qx qy X _ hC.may hqm.1 hqm.2.1 hUX hqm.2.2 (OG.out e).2.2.2 (OG.out e).1 (OG.out e).2.1 (OG.out e).2.2.1)) | (go_at_call_of 277 (Value.agg #[.int .u64 px,.int .u64 py]);exact calls_over (hask_any g F L R px py X _ hC.may hpm.1 hpm.2.1 hUX hpm.2.2 (OG.out e).2.2.2 (OG.out e).1 (OG.out e).2.1 (OG.out e).2.2.1)) | (go_at_call 193;exact calls_over (cmpk_any _ _ c1 _ HC1.out))));go_big_quiet_on)))
        refine wpQuiet_nil ?_
        rintro W2 ⟨e,he⟩
        have hb22:=over_below wr e
        rw [← he] at hb22
        clear he og5 op0 op1 oq0 oq1
        have hB4:=HB3.out.below hb22 HB3.out.lt
        have hP4:=HPB.out.below hb22 HPB.out.lt
        have og0:=fun e=>(over_cell (w:=W2) (e:=e) (o:=0) hB4.lt).trans (hB4.cell 0)
        have og1:=fun e=>(over_cell (w:=W2) (e:=e) (o:=1) hB4.lt).trans (hB4.cell 1)
        have og2:=fun e=>(over_cell (w:=W2) (e:=e) (o:=2) hB4.lt).trans (hB4.cell 2)
        have og5:=fun e=>(over_cell (w:=W2) (e:=e) (o:=5) hB4.lt).trans (hB4.cell 5)
        have op0:=fun e=>(over_cell (w:=W2) (e:=e) (o:=0) hP4.lt).trans (hP4.cell 0)
        have op1:=fun e=>(over_cell (w:=W2) (e:=e) (o:=1) hP4.lt).trans (hP4.cell 1)
        have ogl:=fun e=>Nat.lt_of_lt_of_le hB4.lt (over_below W2 e).size
        simp only [lTA,lCZ,lCS] at og0 og1 og2 og5 op0 op1
        have OG4:=Lib.hid (fun e=>And.intro (og0 e) (And.intro (og1 e) (And.intro (og2 e) (ogl e))))
        clear og0 og1 og2 ogl
        have hrow4:=HR2.out.below hb22
        obtain⟨b5,cp5,hv5,hbb5,hbw5,hcap5,hcells5⟩:=hrow4.open_ HNE.out
        obtain⟨h51,h52⟩:b3=b5∧c=cp5:=by injection hv5 with h1 h2 h3;injection h1 with h1;injection h1 with h1;exact⟨h1,h3⟩
        subst h51;subst h52
        obtain⟨e0,e1⟩:=hcells5 m (qx,qy) (by rw [List.getElem?_take_of_lt (by omega)];exact HQ.out)
        have oq0:=fun e=>(over_cell (w:=W2) (e:=e) (o:=m*2) hbw5).trans e0
        have oq1:=fun e=>(over_cell (w:=W2) (e:=e) (o:=m*2+1) hbw5).trans e1
        have HP4:=Lib.hid hP4;have HR4:=Lib.hid hrow4
        have hlW:wo.heap.size < W2.heap.size:=hP4.lt
        clear hv5 hcells5 e0 e1 hB4 hP4 hrow4
        have htop:=push1_top HQ.out HP.out hle
        have tst2:∃ c2,cmpI (lineK R (qx,qy) X) (lineK R (px,py) X)=c2∧((lineK R (qx,qy) X≤lineK R (px,py) X∧c2≤0)∨(lineK R (px,py) X < lineK R (qx,qy) X∧decide (c2≤0)=false)):=by
         refine⟨_,rfl,?_⟩
         by_cases h:lineK R (px,py) X < lineK R (qx,qy) X
         ·exact .inr ⟨h,by rw [cmpI_gt h];decide⟩
         ·exact .inl ⟨by omega,by unfold cmpI;split <;> (try split) <;> omega⟩
        obtain⟨c2,hc2,htst2⟩:=tst2
        have HC2:=Lib.hid hc2;have HT:=Lib.hid htop
        clear hc2 htop hle
        have hbW2:Below wc.heap.size wc W2:=((hbr.trans (hal.mono hbr.size)).trans (hb2.mono (Nat.le_trans hbr.size hal.size))).trans (hb22.mono (Nat.le_trans hbr.size (Nat.le_trans hal.size hb2.size)))
        rcases htst2 with ⟨hle,hcc2⟩ | ⟨hle,hcc2⟩
        ·go_wp2
         refine wp_region_over (by kernel_rfl) (by kernel_rfl) ?_
         repeat (first | go_big_quiet_skip | (go_big_quiet_want;go_big_quiet_op;first | go_big_quiet_on | (apply Exists.intro;refine⟨fun e=>?_,?_⟩;(focus (first | (go_at_call_of 278 (Value.agg #[.int .u64 qx,.int .u64 qy]);exact calls_over (linek_any g F L R qx qy X _ hC.may hqm.1 hqm.2.1 hUX hqm.2.2 (OG4.out e).2.2.2 (OG4.out e).2.2.1)) | (go_at_call_of 278 (Value.agg #[.int .u64 px,.int .u64 py]);exact calls_over (linek_any g F L R px py X _ hC.may hpm.1 hpm.2.1 hUX hpm.2.2 (OG4.out e).2.2.2 (OG4.out e).2.2.1)) | (go_at_call 193;exact calls_over (cmpk_any _ _ c2 _ HC2.out))));go_big_quiet_on)))
         refine wpQuiet_nil ?_
         rintro W3 ⟨e,he⟩
         have hb33:=over_below W2 e
         rw [← he] at hb33
         clear he og5 op0 op1 oq0 oq1
         have hnew:=HN.out
         rw [HT.out,if_pos hle] at hnew
         have hr5:=HR4.out.below hb33
         have HNew:=Lib.hid hnew;have HR5:=Lib.hid hr5
         clear hnew hr5 hle
         go_wp2
         go_roundw
         case rel=>(repeat apply Exists.intro);exact⟨⟨j+1,by omega,by go_num,by rw [HNew.out];exact HR5.out,hbW2.trans (hb33.mono hbW2.size)⟩,rfl⟩
         case measure=>simp [Go.RowKit.intOf];omega
        ·go_wp2
         refine wp_region_over (by kernel_rfl) (by kernel_rfl) ?_
         repeat (first | go_big_quiet_skip | (go_big_quiet_want;go_big_quiet_op;first | go_big_quiet_on | (apply Exists.intro;refine⟨fun e=>?_,?_⟩;(focus (first | (go_at_call_of 278 (Value.agg #[.int .u64 qx,.int .u64 qy]);exact calls_over (linek_any g F L R qx qy X _ hC.may hqm.1 hqm.2.1 hUX hqm.2.2 (OG4.out e).2.2.2 (OG4.out e).2.2.1)) | (go_at_call_of 278 (Value.agg #[.int .u64 px,.int .u64 py]);exact calls_over (linek_any g F L R px py X _ hC.may hpm.1 hpm.2.1 hUX hpm.2.2 (OG4.out e).2.2.2 (OG4.out e).2.2.1)) | (go_at_call 193;exact calls_over (cmpk_any _ _ c2 _ HC2.out))));go_big_quiet_on)))
         refine wpQuiet_nil ?_
         rintro W3 ⟨e,he⟩
         have hb33:=over_below W2 e
         rw [← he] at hb33
         clear he og5 op0 op1 oq0 oq1
         have hnew:=HN.out
         rw [HT.out,if_neg (by omega)] at hnew
         have hr5:=HR4.out.below hb33
         have hP5:=HP4.out.below hb33 HP4.out.lt
         have p0:=hP5.cell 0;have p1:=hP5.cell 1
         simp only [lTA,lCZ,lCS] at p0 p1
         have HNew:=Lib.hid hnew;have HR5:=Lib.hid hr5
         have htl:(out.take (m+1)).length=m+1:=by rw [List.length_take];omega
         have hr6:W3.ownsRow wc.heap.size 315 2 (.slice (some ⟨b3,0,none⟩) (m+1) c) (m+1) (cellsOf (out.take (m+1))):=by have:=HR5.out;unfold RowK at this;rw [htl] at this;exact this
         have hbW3:Below wc.heap.size wc W3:=hbW2.trans (hb33.mono hbW2.size)
         have HR6:=Lib.hid hr6;have HTL:=Lib.hid htl
         clear hnew hr5 hle hP5 hr6 htl
         obtain⟨i0,hi0,hz0,hz1,hz2⟩:=info_parts info_start
         go_wp2_with (at_builtin;refine wpList_append_lies _ rfl _ _ 214 rfl wc.heap.size 315 i0 (.agg #[.int .u64 0,.int .u64 0]) 2 16 Tryz.underlying214 hi0 hz0 hz1 hz2 rfl (by decide) _ (m+1) (cellsOf (out.take (m+1))) rfl (HR6.out.alloc _) ⟨W3.heap.size,0,none⟩ 1 1 [.int .u64 px,.int .u64 py] rfl rfl (World.news_of_block (heap_alloc_new W3 _)) (by simp [Value.oneCell']) (by decide) (by unfold maxLen;omega) (by omega) (Nat.le_trans hbW3.size (by simp)) _ rfl ?_;intro b4 cp4 W4 hown4 hgr4 hat4 hlt4)
         have hlast:RowK W4 wc.heap.size (.slice (some ⟨b4,0,none⟩) (m+1+1) cp4) (out.take (m+1) ++ [(px,py)]):=by
          have:=HTL.out
          rw [RowK,cellsOf_append,List.length_append,this]
          exact hown4
         have hbW4:Below wc.heap.size wc W4:=(hbW3.alloc hbW3.size _).grown hgr4 (by simp;have:=hbW3.size;omega) (fun k hk=>(HR6.out.lt k hk).1)
         go_roundw
         case rel=>(repeat apply Exists.intro);exact⟨⟨j+1,by omega,by go_num,by rw [HNew.out];exact hlast,hbW4⟩,rfl⟩
         case measure=>simp [Go.RowKit.intOf];omega
    ·obtain rfl:j=K.length+1:=by omega
     obtain⟨oa,oc,rfl⟩:=hrow.shape
     have hBw:=(HB.out.below hbL hgW).below hbr (HB.out.below hbL hgW).lt
     have g6:=hBw.cell 6;have z6:=hBw.frozen 6
     simp only [lTA,lCZ,lCS] at g6
     have HBw:=Lib.hid hBw;have HW:=Lib.hid hrow
     clear hBw hrow
     go_wp2
     rw [Exit.noGoto_normal]
     go_returns
     refine⟨rfl,⟨_,HBw.out.set_ 6 _,?_⟩,?_,fun v9 b9 hv9 hb9=>?_⟩
     ·have h1:=HW.out
      rw [List.take_of_length_le (by simp)] at h1 ⊢
      have h3:(Value.slice oa (List.foldl (push1 F L R X) [] (K ++ [(X,Y)])).length oc).ownBlock=none∨(Value.slice oa (List.foldl (push1 F L R X) [] (K ++ [(X,Y)])).length oc).ownBlock≠some g:=by
       rcases hv:Value.ownBlock _ with _ | k
       ·exact .inl rfl
       ·refine .inr fun he=>?_
        have h4:=(h1.lt k hv).1
        have h5:=hbL.size
        injection he with he
        omega
      have h2:RowK (wo.setCell ⟨g,6,none⟩ (Value.slice oa (List.foldl (push1 F L R X) [] (K ++ [(X,Y)])).length oc)) wc.heap.size (Value.slice oa (List.foldl (push1 F L R X) [] (K ++ [(X,Y)])).length oc) (List.foldl (push1 F L R X) [] (K ++ [(X,Y)])):=h1.kept (World.grownBy_setCell _ _ _) h3
      have h5:g+1≤wc.heap.size:=Nat.le_trans hgW hbL.size
      exact h2.low h5
     ·have h1:=HG.out
      have h2:Below W.heap.size W wo:=hbL.trans (hbr.mono hbL.size)
      exact⟨h2.os.trans h1.os,h2.tape.trans h1.tape,h2.output.trans h1.output,by simp [World.setCell];exact Nat.le_trans h1.size h2.size,fun k hk hne=>(Below.heap_setCell _ _ _ k (by simpa using hne)).trans ((h2.block k (Nat.lt_of_lt_of_le hk h1.size)).trans (h1.block k hk hne))⟩
     ·have h1:=HW.out
      rw [List.take_of_length_le (by simp)] at h1 hv9
      have h2:=(HBw.out.set_ 6 (Value.slice oa (List.foldl (push1 F L R X) [] (K ++ [(X,Y)])).length oc)).cell 6
      have h3:=Option.some.inj (hv9.symm.trans h2)
      rw [h3] at hb9
      have h4:=(h1.lt b9 hb9).1
      have h5:=hbL.size
      have h6:=HG.out.size
      omega
end
end Go.Proofs.YtmmeopjemkjllaaGreat
