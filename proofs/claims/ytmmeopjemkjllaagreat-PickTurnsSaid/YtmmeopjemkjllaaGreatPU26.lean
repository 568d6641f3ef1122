/- Lemmas of the claim. No conditions beyond those that each states. -/
import Derived.Test.YtmmeopjemkjllaaGreatPU23
import Derived.Test.YtmmeopjemkjllaaGreatPU15
set_option linter.unusedVariables false
set_option linter.unusedSimpArgs false
set_option maxRecDepth 100000
set_option maxHeartbeats 8000000
namespace Go.Proofs.YtmmeopjemkjllaaGreat
section
open Go.RowKit
section
variable {w w' : World} {r g : Nat} {F L R x : Int} {A : List (Int × Int)}
theorem blk_ne {w:World} {a b t t':Nat} {cs cs':Array Value} (h:Blk w a t cs)(h':Blk w b t' cs')(ht:t≠t'):a≠b:=by
 rintro rfl
 unfold Blk at h h'
 rw [h] at h'
 injection h' with h'
 injection h' with h1 h2
 exact ht h2
end
theorem vA_max_mono {F L R x:Int} {A:List (Int × Int)} (h:MayC F L R)(hA:∀ a∈A,a.1≤x∧0≤a.2):∀ t u,x≤t→t≤u→(fun t=>vA F L R A (max t x)) t≤(fun t=>vA F L R A (max t x)) u:=by
 intro t u ht htu
 exact vA_mono h hA (by omega) (by omega)
end
section
open Go.RowKit
def RowU (w:World)(base:Nat)(v:Value)(xs:List Int):Prop:=w.ownsRow base 28 1 v xs.length (xs.map (Value.int .u64))
theorem RowU.below {w w':World} {base:Nat} {v:Value} {xs:List Int} (h:RowU w base v xs)(hb:Below w.heap.size w w'):RowU w' base v xs :=
 h.kept (Below.grownNone hb) (Classical.em _)
theorem RowU.open_ {w:World} {base:Nat} {v:Value} {xs:List Int} (h:RowU w base v xs)(hne:xs≠[]) :
  ∃ b cap,v=.slice (some ⟨b,0,none⟩) xs.length cap∧base≤b∧b < w.heap.size∧xs.length≤cap∧∀ j x,xs[j]?=some x→w.cell? ⟨b,j,none⟩=some (.int .u64 x):=by
 have h':=h
 obtain⟨hl,(⟨_,h0⟩ | ⟨b,cap,cur,hv,hb,hblk,hn,hc,hs,ht⟩)⟩:=h
 ·exact absurd (List.length_eq_zero_iff.1 h0) hne
 ·subst hv
  refine⟨b,cap,rfl,hb,(Array.getElem?_eq_some_iff.1 hblk).1,hn,fun j x hj=>?_⟩
  have hjl:j < xs.length:=(List.getElem?_eq_some_iff.1 hj).1
  have h1:=h'.cellAt j (by omega)
  rw [List.getElem?_map,hj] at h1
  exact h1
def CopiesAt (w:World)(c base:Nat)(F L R:Int)(A:List (Int × Int)):Prop :=
 ∃ vx vy,Blk w c 191 #[.int .u64 F,.int .u64 L,.int .u64 R,vx,vy]∧RowU w base vx (A.map (·.1))∧RowU w base vy (A.map (·.2))
theorem CopiesAt.below {w w':World} {c base:Nat} {F L R:Int} {A:List (Int × Int)} (h:CopiesAt w c base F L R A)(hb:Below w.heap.size w w'):CopiesAt w' c base F L R A:=by
 obtain⟨vx,vy,h1,h2,h3⟩:=h
 exact⟨vx,vy,h1.below hb h1.lt,h2.below hb,h3.below hb⟩
end
section
open Go.RowKit
def lastX (A:List (Int × Int)):Int:=match A.getLast? with | none=>0 | some k=>k.1
theorem lastX_snoc (A:List (Int × Int))(k:Int × Int):lastX (A ++ [k])=k.1:=by simp [lastX]
theorem RowU.shape {w:World} {base:Nat} {v:Value} {xs:List Int} (h:RowU w base v xs):∃ a cap,v=.slice a xs.length cap:=by
 rcases h.2 with ⟨rfl,h0⟩ | ⟨b,cap,cur,hv,_⟩
 ·exact⟨none,0,by rw [h0]⟩
 ·exact⟨_,_,hv⟩
structure Nums (x:Int)(A:List (Int × Int)):Prop where
 last:lastX A=x
 num:∀ a∈A,0≤a.1∧a.1≤x∧0≤a.2∧a.2≤4611686018427387904
 x0:0≤x
 x1:x≤9223372036854775808
 few:A.length≤900000
theorem Nums.nil:Nums 0 []:=⟨rfl,by intro a ha;simp at ha,by omega,by omega,by simp⟩
theorem Nums.start {x:Int} {A:List (Int × Int)} (h:Nums x A)(t y X Y:Int)(ht:U t)(hy:U y)(hX:X=max (min t 9223372036854775808) x)(hY:Y=min y 4611686018427387904)(hfew:A.length < 900000):Nums X (A ++ [(X,Y)]):=by
 have h0:=h.x0;have h1:=h.x1;have hy0:=hy.1
 refine⟨lastX_snoc _ _,fun a ha=>?_,by omega,by omega,by simp;omega⟩
 rcases List.mem_append.1 ha with ha | ha
 ·have:=h.num a ha;omega
 ·obtain rfl:a=(X,Y):=by simpa using ha
  exact⟨by simp only;omega,by simp only;omega,by simp only;omega,by simp only;omega⟩
theorem Nums.low {x:Int} {A:List (Int × Int)} (h:Nums x A):∀ a∈A,a.1≤x∧0≤a.2:=fun a ha=>⟨(h.num a ha).2.1,(h.num a ha).2.2.1⟩
section
variable {w : World} {c base : Nat} {F L R x : Int} {A : List (Int × Int)}
theorem copies_last (h:CopiesAt w c base F L R A)(hf:A.length≤900000) :
  Calls Tryz.prog 155 #[.pointer (some ⟨c,0,none⟩)] w fun e w'=>e=.returned (.int .u64 (lastX A))∧∃ n,w'=w.drewN n:=by
 obtain⟨vx,vy,hB,hx,hy⟩:=h
 have c3:=hB.cell 3
 simp only [lTA,lCZ,lCS] at c3
 rcases List.eq_nil_or_concat A with rfl | ⟨B,k,hk⟩
 ·obtain⟨a,cap,rfl⟩:=hx.shape
  clear hB hx hy
  go_enter Tryz.func155,Tryz.ntmps155
  go_wp2
  go_ret
  exact⟨rfl,0,rfl⟩
 ·rw [List.concat_eq_append] at hk
  subst hk
  have hlen:(List.map (fun x:Int × Int=>x.1) (B ++ [k])).length=B.length+1:=by simp
  obtain⟨b,cap,hv,hbb,hbl,hcap,hcells⟩:=hx.open_ (by simp)
  have hc:=hcells B.length k.1 (by simp)
  rw [hlen] at hv hcap
  subst hv
  rw [lastX_snoc]
  have hm:B.length≤900000:=by simp at hf;omega
  generalize B.length=m at *
  have e1:((m:Int)+1) - 1=m:=by omega
  have e2:((m+1:Nat):Int)=(m:Int)+1:=by omega
  clear hB hx hy hcells hlen hf hbb hcap
  have hm0:(0:Int)≤(m:Int):=by omega
  have hm1:(m:Int) < (m:Int)+1:=by omega
  go_enter Tryz.func155,Tryz.ntmps155
  go_wp2
  go_quiet (fail)
  go_wp2
  go_ret
  exact⟨rfl,nq,rfl⟩
end
end
section
open Go.RowKit
attribute [local go_sem] quietR quietAtR quietUponR plain plainUpon
theorem W_upper {F L R u:Int} (h:MayC F L R)(hu:0≤u):W F L R u≤1048576*u:=by
 have f0:=h.f0;have f1:=h.f1;have r0:=h.r0;have r1:=h.r1;have l0:=h.l0
 unfold W
 have h1:=Int.mul_le_mul_of_nonneg_right f1 (show 0≤min u L by omega)
 have h2:=Int.mul_le_mul_of_nonneg_right r1 (show 0≤u - min u L by omega)
 omega
theorem ref_plus_low (n y:Int)(w:World)(h0:0≤n)(hy:U y)(hs:n+y < 340282366920938463463374607431768211456) :
  Calls Tryz.prog 195 #[.agg #[.int .u64 (hiW n),.int .u64 (loW n)],.agg #[.int .u64 0,.int .u64 y]] w fun e w'=>e=.returned (.tuple #[.agg #[.int .u64 (hiW (n+y)),.int .u64 (loW (n+y))],.int .i64 0])∧Below w.heap.size w w':=by
 have h:=ref_plus n y w h0 hy.1 hs
 rw [wv_small hy] at h
 exact h
section
variable {w : World} {c base : Nat} {F L R x y t : Int} {A : List (Int × Int)}
theorem copies_one (h:CopiesAt w c base F L R A)(hM:MayC F L R)(hf:A.length≤900000) {k:Nat} (hk:A[k]?=some (x,y))(ht:U t)(hx0:0≤x)(hxt:x≤t)(hy0:U y) :
  Calls Tryz.prog 189 #[.pointer (some ⟨c,0,none⟩),.int .i64 k,.int .u64 t] w fun e w'=>e=.returned (wv (hasK F L R (x,y) t))∧Below w.heap.size w w':=by
 obtain⟨vx,vy,hB,hrx,hry⟩:=h
 have hne:A≠[]:=by rintro rfl;simp at hk
 obtain⟨bx,cx,hvx,hbx,hlx,hcx,hcellx⟩:=hrx.open_ (by simpa using hne)
 obtain⟨by',cy,hvy,hby,hly,hcy,hcelly⟩:=hry.open_ (by simpa using hne)
 have hcX:=hcellx k x (by simp [hk])
 have hcY:=hcelly k y (by simp [hk])
 have hkl:k < A.length:=(List.getElem?_eq_some_iff.1 hk).1
 rw [List.length_map] at hvx hvy hcx hcy
 subst hvx;subst hvy
 have hkl2:(k:Int) < (A.length:Int):=by omega
 have hk0:(0:Int)≤(k:Int):=by omega
 have wd:IntKind.u64.wrap (t - x)=t - x:=wrap_u (by unfold U at *;omega)
 have ud:U (t - x):=by unfold U at *;omega
 have hw0:=W_nonneg hM.f0 hM.r0 hM.l0 (t:=t - x) ud.1
 have hw1:=W_upper hM (u:=t - x) ud.1
 have hW:hasK F L R (x,y) t=W F L R (t - x)+y:=by unfold hasK;simp only;omega
 rw [hW]
 have hs:W F L R (t - x)+y < 340282366920938463463374607431768211456:=by unfold U at hy0 ud;omega
 generalize hn:W F L R (t - x)=n at *
 have HN:=Lib.hid hn;have HM:=Lib.hid hM
 clear hn hW hM hrx hry hcellx hcelly hk hw1
 go_enter Tryz.func189,Tryz.ntmps189
 go_wp2
 obtain⟨W0,hW0⟩:∃ W0,w.alloc (.cells #[.int .u64 0,.int .u64 0] 236)=W0:=⟨_,rfl⟩
 have bO:Blk W0 w.heap.size 236 #[.int .u64 0,.int .u64 0]:=by rw [← hW0];exact Blk.new w _ _
 have hb0:Below w.heap.size w W0:=by rw [← hW0];go_grown
 have bC:Blk W0 c 191 #[.int .u64 F,.int .u64 L,.int .u64 R,.slice (some ⟨bx,0,none⟩) A.length cx,.slice (some ⟨by',0,none⟩) A.length cy]:=hB.below hb0 hB.lt
 have dX:=(hb0.cell (p:=⟨bx,k,none⟩) hlx).trans hcX
 have dY:=(hb0.cell (p:=⟨by',k,none⟩) hly).trans hcY
 have lx:=Nat.lt_of_lt_of_le hlx hb0.size
 have ly:=Nat.lt_of_lt_of_le hly hb0.size
 rw [hW0]
 clear hW0 hcX hcY hB
 have o0:=fun e=>(over_cell (w:=W0) (e:=e) (o:=0) bC.lt).trans (bC.cell 0)
 have o1:=fun e=>(over_cell (w:=W0) (e:=e) (o:=1) bC.lt).trans (bC.cell 1)
 have o2:=fun e=>(over_cell (w:=W0) (e:=e) (o:=2) bC.lt).trans (bC.cell 2)
 have o3:=fun e=>(over_cell (w:=W0) (e:=e) (o:=3) bC.lt).trans (bC.cell 3)
 have o4:=fun e=>(over_cell (w:=W0) (e:=e) (o:=4) bC.lt).trans (bC.cell 4)
 simp only [lTA,lCZ,lCS] at o0 o1 o2 o3 o4
 have oX:=fun e=>(over_cell (w:=W0) (e:=e) (o:=k) lx).trans dX
 have oY:=fun e=>(over_cell (w:=W0) (e:=e) (o:=k) ly).trans dY
 clear dX dY
 refine wp_region_alloc (w:=W0) 26 _ _ 7 (.cells #[.int .u64 0,.int .u64 0] 236) (by kernel_rfl) rfl rfl rfl (fun _ _=>by kernel_rfl) (by kernel_rfl) ?_
 simp only [List.take_succ_cons,List.take_zero,List.drop_succ_cons,List.drop_zero]
 repeat (refine wpQuietR_step (fun K hK=>?_);go_simp;first | (refine hK _ ?_;clear hK K) | (apply Exists.intro;refine⟨fun _=>?_,hK _ ?_⟩;(first | (go_at_call 196;(refine Calls.mono (ref_wide F L R (t - x) _ HM.out ud) ?_);rintro e' w' ⟨he,hb⟩;exact⟨he.trans (by rw [HN.out]),hb⟩) | (go_at_call 195;exact ref_plus_low n y _ hw0 hy0 hs));clear hK K))
 refine wpQuietR_nil ?_
 intro B W1 hB hb1 hO
 have bN:Blk W1 B 236 #[.int .u64 0,.int .u64 0]:=hO
 have n0:=bN.cell 0;have n1:=bN.cell 1;have f0:=bN.frozen 0;have f1:=bN.frozen 1
 simp only [lTA,lCZ,lCS] at n0 n1
 go_simp
 generalize hsum:n+y=s at *
 have HSUM:=Lib.hid hsum
 clear hsum
 have bN2:=(bN.set_ 0 (.int .u64 (hiW s))).set_ 1 (.int .u64 (loW s))
 have hb2:Below W0.heap.size W0 ((W1.setCell ⟨B,0,none⟩ (.int .u64 (hiW s))).setCell ⟨B,1,none⟩ (.int .u64 (loW s))):=(hb1.setCell hB _).setCell hB _
 refine⟨hb2,?_⟩
 obtain⟨W2,hW2⟩:∃ W2,(W1.setCell ⟨B,0,none⟩ (.int .u64 (hiW s))).setCell ⟨B,1,none⟩ (.int .u64 (loW s))=W2:=⟨_,rfl⟩
 rw [hW2] at bN2 hb2 ⊢
 clear hW2 n0 n1 f0 f1 o0 o1 o2 o3 o4 oX oY bN
 have m0:=bN2.cell 0;have m1:=bN2.cell 1
 simp at m0 m1
 have bO2:=bO.below hb2 bO.lt
 have p0:=bO2.cell 0;have p1:=bO2.cell 1;have g0:=bO2.frozen 0;have g1:=bO2.frozen 1
 simp only [lTA,lCZ,lCS] at p0 p1
 generalize hhi:hiW s=hi at *
 generalize hlo:loW s=lo at *
 have HHI:=Lib.hid hhi;have HLO:=Lib.hid hlo;clear hhi hlo
 go_wp2
 have r0:=((bO2.set_ 0 (.int .u64 hi)).set_ 1 (.int .u64 lo)).cell 0
 have r1:=((bO2.set_ 0 (.int .u64 hi)).set_ 1 (.int .u64 lo)).cell 1
 simp at r0 r1
 refine bodyPost_ret (v:=.agg #[.int .u64 hi,.int .u64 lo]) (by simp [results,Tryz.results189,go_sem,r0,r1]) rfl ⟨by unfold wv;rw [HSUM.out,HHI.out,HLO.out],?_⟩
 exact (((hb0.trans (hb2.mono hb0.size)).setCell (by simp) _).setCell (by simp) _)
end
end
section
open Go.RowKit
theorem hasK_bd {F L R t:Int} {a:Int × Int} (hM:MayC F L R)(hx0:0≤a.1)(hxt:a.1≤t)(ht:U t)(hy:0≤a.2∧a.2≤4611686018427387904):0≤hasK F L R a t∧hasK F L R a t < 340282366920938463463374607431768211456:=by
 have h0:=W_nonneg hM.f0 hM.r0 hM.l0 (t:=t - a.1) (by omega)
 have h1:=W_upper hM (u:=t - a.1) (by omega)
 unfold U at ht
 unfold hasK
 omega
theorem cmp_case (n m:Int):∃ c,cmpI n m=c∧((n < m∧c < 0)∨(m≤n∧decide (c < 0)=false)):=by
 refine⟨_,rfl,?_⟩
 by_cases h:n < m
 ·exact .inl ⟨h,by rw [cmpI_lt h];decide⟩
 ·exact .inr ⟨by omega,by unfold cmpI;rw [if_neg h];split <;> decide⟩
section
variable {w : World} {c base : Nat} {F L R x : Int} {A : List (Int × Int)}
theorem copies_wide (h:CopiesAt w c base F L R A)(hM:MayC F L R)(hN:Nums x A)(a:Int × Int)(B:List (Int × Int))(hA:A=a :: B)(t:Int)(ht:U t)(hxt:x≤t) :
  Calls Tryz.prog 179 #[.pointer (some ⟨c,0,none⟩),.int .u64 t] w fun e w'=>e=.returned (wv (leastW F L R t (hasK F L R a t) B))∧Below w.heap.size w w':=by
 have HC:=Lib.hid h;have HM:=Lib.hid hM;have HN:=Lib.hid hN;have HA:=Lib.hid hA
 have hbd:∀ q∈A,0≤q.1∧q.1≤t∧U q.2∧0≤hasK F L R q t∧hasK F L R q t < 340282366920938463463374607431768211456:=fun q hq=>by
  have hq2:=hN.num q hq
  exact⟨hq2.1,by omega,⟨hq2.2.2.1,by omega⟩,hasK_bd hM hq2.1 (by omega) ht ⟨hq2.2.2.1,hq2.2.2.2⟩⟩
 have HBD:=Lib.hid hbd
 have hfew:=hN.few
 have hlw:∀ k,0≤leastW F L R t (hasK F L R a t) (B.take k)∧leastW F L R t (hasK F L R a t) (B.take k) < 340282366920938463463374607431768211456:=fun k=>by
  have ha:=hbd a (by rw [hA];simp)
  have h1:=leastW_nonneg (F:=F) (L:=L) (R:=R) (t:=t) (B.take k) (hasK F L R a t) ha.2.2.2.1 (fun q hq=>(hbd q (by rw [hA];exact List.mem_cons_of_mem _ (List.mem_of_mem_take hq))).2.2.2.1)
  exact⟨h1.1,Int.lt_of_le_of_lt h1.2 ha.2.2.2.2⟩
 have HLW:=Lib.hid hlw
 have ha:=hbd a (by rw [hA];simp)
 obtain⟨m0,hm0⟩:∃ m0,hasK F L R a t=m0:=⟨_,rfl⟩
 have HM0:=Lib.hid hm0
 have hl:A.length=B.length+1:=by rw [hA];rfl
 obtain⟨vx,vy,hB,hrx,hry⟩:=h
 obtain⟨ax,cx,hvx⟩:=hrx.shape
 rw [List.length_map] at hvx
 subst hvx
 have HB:=Lib.hid hB
 have hlc:(A.length:Int)=(B.length:Int)+1:=by omega
 have HL:=Lib.hid hlc
 clear hM hN hbd hlw hm0 hA hB hrx hry hl hlc
 have hb0:=(Below.refl w.heap.size w).alloc (Nat.le_refl _) (.cells #[.int .u64 0,.int .u64 0] 236)
 have bP0:=Blk.new w 236 #[.int .u64 0,.int .u64 0]
 have HB0:=Lib.hid hb0;have HP0:=Lib.hid bP0
 clear hb0 bP0
 go_enter Tryz.func179,Tryz.ntmps179
 go_wp2_with (go_at_call 189;refine (copies_one (HC.out.below HB0.out) HM.out hfew (k:=0) (x:=a.1) (y:=a.2) (by rw [HA.out];rfl) ht ha.1 ha.2.1 ha.2.2.1).mono ?_;rintro e' w1 ⟨rfl,hb1⟩;rw [HM0.out])
 have bP1:=(HP0.out.below hb1 HP0.out.lt).alloc (.cells #[.int .u64 (hiW m0),.int .u64 (loW m0)] 236)
 have bL1:=Blk.new w1 236 #[.int .u64 (hiW m0),.int .u64 (loW m0)]
 have hw1:Below w.heap.size w (w1.alloc (.cells #[.int .u64 (hiW m0),.int .u64 (loW m0)] 236)):=(HB0.out.trans (hb1.mono HB0.out.size)).alloc (by have:=hb1.size;simp at this;omega) _
 have hpl:w.heap.size < w1.heap.size:=by have:=hb1.size;simp at this;omega
 have HP1:=Lib.hid bP1;have HL1:=Lib.hid bL1;have HW1:=Lib.hid hw1
 clear bP1 bL1 hw1 hb1
 go_loopw [6] (fun i W=>∃ j:Nat,j≤B.length∧i=.int .i64 ((j:Int)+1)∧Blk W w1.heap.size 236 #[.int .u64 (hiW (leastW F L R t m0 (B.take j))),.int .u64 (loW (leastW F L R t m0 (B.take j)))]∧Blk W w.heap.size 236 #[.int .u64 0,.int .u64 0]∧Below w.heap.size w W) (fun i _=>(B.length+1) - (Go.RowKit.intOf i).toNat)
 case atStart=>exact⟨0,by omega,by go_num,by simpa [leastW] using HL1.out,HP1.out,HW1.out⟩
 case round =>
  obtain⟨j,hj,rfl,hbl,hbp,hbw⟩:=hrel
  have hBw:=HB.out.below hbw HB.out.lt
  have c3:=hBw.cell 3
  simp only [lTA,lCZ,lCS] at c3
  have HBL:=Lib.hid hbl;have HBP:=Lib.hid hbp;have HBW:=Lib.hid hbw
  clear hbl hbp hBw hbw
  by_cases hlt:j < B.length
  ·obtain⟨⟨p,q⟩,hq⟩:∃ q,B[j]?=some q:=⟨_,List.getElem?_eq_getElem (by omega)⟩
   have hmem:=HBD.out (p,q) (by rw [HA.out];exact List.mem_cons_of_mem _ (List.mem_of_getElem? hq))
   obtain⟨n,hn⟩:∃ n,hasK F L R (p,q) t=n:=⟨_,rfl⟩
   have hAk:A[j+1]?=some (p,q):=by rw [HA.out];simpa using hq
   have hnext:leastW F L R t m0 (B.take (j+1))=if n < leastW F L R t m0 (B.take j) then n else leastW F L R t m0 (B.take j):=by
    rw [List.take_add_one,hq,← hn]
    exact leastW_snoc F L R t m0 _ _
   have hlwj:=HLW.out j
   rw [HM0.out] at hlwj
   obtain⟨m,hm⟩:∃ m,leastW F L R t m0 (B.take j)=m:=⟨_,rfl⟩
   have hbl2:=HBL.out
   rw [hm] at hbl2 hlwj hnext
   rw [hn] at hmem
   obtain⟨cc,hcc,htst⟩:=cmp_case n m
   have HN1:=Lib.hid hn;have HAK:=Lib.hid hAk;have HNX:=Lib.hid hnext;have HCC:=Lib.hid hcc;have HL2:=Lib.hid hbl2
   have hcs:(j:Int)+1=((j+1:Nat):Int):=by omega
   have hc1:=HC.out.below HBW.out
   have hlt2:(j:Int)+1 < (A.length:Int):=by have:=HL.out;omega
   have HCA:=Lib.hid hc1
   clear hq hn hAk hnext hm hcc hbl2 hc1 HBL
   have hone:=copies_one HCA.out HM.out hfew HAK.out ht hmem.1 hmem.2.1 hmem.2.2.1
   rw [← hcs,HN1.out] at hone
   have HONE:=Lib.hid hone
   clear hone hcs
   rcases htst with ⟨hlt1,hc0⟩ | ⟨hlt1,hc0⟩
   ·rw [if_pos hlt1] at HNX
    go_wp2_with (first
     | (go_at_call 189;refine HONE.out.mono ?_;rintro e' w2 ⟨rfl,hb2⟩;have bL2:=(HL2.out.below hb2 HL2.out.lt).alloc (.cells #[.int .u64 (hiW n),.int .u64 (loW n)] 236);have bN:=Blk.new w2 236 #[.int .u64 (hiW n),.int .u64 (loW n)];have c0:=bL2.cell 0;have c1:=bL2.cell 1;have d0:=bN.cell 0;have d1:=bN.cell 1;simp only [lTA,lCZ,lCS] at c0 c1 d0 d1;have hl2:=bL2.lt)
     | (go_at_call 190;refine (ref_cmp n m _ hmem.2.2.2.1 hmem.2.2.2.2 hlwj.1 hlwj.2).mono ?_;rintro e' w3 ⟨rfl,hb3⟩;rw [HCC.out];have bL3:=bL2.below hb3 bL2.lt;have bN3:=bN.below hb3 bN.lt;have e0:=bL3.frozen 0;have e1:=bL3.frozen 1;have x0:=bL3.cell 0;have x1:=bL3.cell 1;have f0:=bN3.cell 0;have f1:=bN3.cell 1;simp only [lTA,lCZ,lCS] at f0 f1 x0 x1;have hl3:=bL3.lt))
    have hb23:=((Below.refl w2.heap.size w2).alloc (Nat.le_refl _) (.cells #[.int .u64 (hiW n),.int .u64 (loW n)] 236)).trans (hb3.mono (by simp))
    have hbw3:=HBW.out.trans ((hb2.trans (hb23.mono hb2.size)).mono HBW.out.size)
    have hne:w.heap.size≠w1.heap.size:=by omega
    have bP3:=(HBP.out.below hb2 HBP.out.lt).below hb23 (HBP.out.below hb2 HBP.out.lt).lt
    have fin1:=(bL3.set_ 0 (.int .u64 (hiW n))).set_ 1 (.int .u64 (loW n))
    simp only [List.setIfInBounds_toArray,List.set_cons_zero,List.set_cons_succ] at fin1
    have fin2:=(bP3.far (p:=⟨w1.heap.size,0,none⟩) hne (.int .u64 (hiW n))).far (p:=⟨w1.heap.size,1,none⟩) hne (.int .u64 (loW n))
    have fin3:=(hbw3.setCell (p:=⟨w1.heap.size,0,none⟩) (by simp only;omega) (.int .u64 (hiW n))).setCell (p:=⟨w1.heap.size,1,none⟩) (by simp only;omega) (.int .u64 (loW n))
    go_roundw
    case rel=>exact⟨j+1,by omega,by go_num,by rw [HNX.out];exact fin1,fin2,fin3⟩
    case measure=>simp [Go.RowKit.intOf];omega
   ·rw [if_neg (by omega)] at HNX
    go_wp2_with (first
     | (go_at_call 189;refine HONE.out.mono ?_;rintro e' w2 ⟨rfl,hb2⟩;have bL2:=(HL2.out.below hb2 HL2.out.lt).alloc (.cells #[.int .u64 (hiW n),.int .u64 (loW n)] 236);have bN:=Blk.new w2 236 #[.int .u64 (hiW n),.int .u64 (loW n)];have c0:=bL2.cell 0;have c1:=bL2.cell 1;have d0:=bN.cell 0;have d1:=bN.cell 1;simp only [lTA,lCZ,lCS] at c0 c1 d0 d1;have hl2:=bL2.lt)
     | (go_at_call 190;refine (ref_cmp n m _ hmem.2.2.2.1 hmem.2.2.2.2 hlwj.1 hlwj.2).mono ?_;rintro e' w3 ⟨rfl,hb3⟩;rw [HCC.out];have bL3:=bL2.below hb3 bL2.lt))
    have hb23:=((Below.refl w2.heap.size w2).alloc (Nat.le_refl _) (.cells #[.int .u64 (hiW n),.int .u64 (loW n)] 236)).trans (hb3.mono (by simp))
    have hbw3:=HBW.out.trans ((hb2.trans (hb23.mono hb2.size)).mono HBW.out.size)
    have bP3:=(HBP.out.below hb2 HBP.out.lt).below hb23 (HBP.out.below hb2 HBP.out.lt).lt
    go_roundw
    case rel=>exact⟨j+1,by omega,by go_num,by rw [HNX.out];exact bL3,bP3,hbw3⟩
    case measure=>simp [Go.RowKit.intOf];omega
  ·obtain rfl:j=B.length:=by omega
   have hbl2:=HBL.out
   rw [List.take_of_length_le (Nat.le_refl _)] at hbl2
   obtain⟨m,hm⟩:∃ m,leastW F L R t m0 B=m:=⟨_,rfl⟩
   rw [hm] at hbl2
   have HMM:=Lib.hid hm
   clear hm
   have c0:=hbl2.cell 0;have c1:=hbl2.cell 1
   have d0:=HBP.out.frozen 0;have d1:=HBP.out.frozen 1
   have x0:=HBP.out.cell 0;have x1:=HBP.out.cell 1
   simp only [lTA,lCZ,lCS] at c0 c1 x0 x1
   have hge:decide ((B.length:Int)+1 < (A.length:Int))=false:=by have:=HL.out;simp;omega
   go_wp2
   have r0:=((HBP.out.set_ 0 (.int .u64 (hiW m))).set_ 1 (.int .u64 (loW m))).cell 0
   have r1:=((HBP.out.set_ 0 (.int .u64 (hiW m))).set_ 1 (.int .u64 (loW m))).cell 1
   simp at r0 r1
   refine bodyPost_ret (v:=.agg #[.int .u64 (hiW m),.int .u64 (loW m)]) (by simp [results,Tryz.results179,go_sem,r0,r1]) rfl ⟨by rw [HM0.out,HMM.out],?_⟩
   exact (HBW.out.setCell (by simp) _).setCell (by simp) _
end
end
section
open Go.RowKit
section
variable {w : World} {c base : Nat} {F L R x : Int} {A : List (Int × Int)}
theorem copies_reach0 (h:CopiesAt w c base F L R [])(y:Int) :
  Calls Tryz.prog 128 #[.pointer (some ⟨c,0,none⟩),.int .u64 y] w fun e w'=>e=.returned (.int .u64 (nevB y))∧w=w':=by
 obtain⟨vx,vy,hB,hrx,hry⟩:=h
 obtain⟨ax,cx,rfl⟩:=hrx.shape
 have c3:=hB.cell 3
 simp only [lTA,lCZ,lCS] at c3
 clear hB hrx hry
 by_cases hy:y=0
 ·subst hy
  go_enter Tryz.func128,Tryz.ntmps128
  go_wp2
  go_ret
  exact⟨rfl,rfl⟩
 ·have h0:(y == 0)=false:=by simpa using hy
  have e1:nevB y=9223372036854775808:=if_neg hy
  rw [e1]
  go_enter Tryz.func128,Tryz.ntmps128
  go_wp2
  go_ret
  exact⟨rfl,rfl⟩
theorem drewN_below (w:World)(n:Nat):Below w.heap.size w (w.drewN n):=below_drewN (Below.refl _ _) n
theorem copies_at (h:CopiesAt w c base F L R A)(hM:MayC F L R)(hN:Nums x A)(hA:A≠[])(t:Int)(ht:U t) :
  Calls Tryz.prog 156 #[.pointer (some ⟨c,0,none⟩),.int .u64 t] w fun e w'=>e=.returned (.int .u64 (vA F L R A (max t x)))∧Below w.heap.size w w':=by
 obtain⟨a,B,hAB⟩:∃ a B,A=a :: B:=by cases A with | nil=>exact absurd rfl hA | cons a B=>exact⟨a,B,rfl⟩
 have hl0:((A.length:Int) == 0)=false:=by rw [hAB];simp;omega
 have hx0:=hN.x0;have hx1:=hN.x1
 obtain⟨T,hT⟩:∃ T,(if t < x then x else t)=T:=⟨_,rfl⟩
 have hT2:max t x=T:=by rw [← hT];split <;> omega
 have hxT:x≤T:=by omega
 have hUT:U T:=by unfold U at *;omega
 have hlast:=hN.last
 have hfew:=hN.few
 have hv:vA F L R A (max t x)=cap (leastW F L R T (hasK F L R a T) B):=by
  rw [hT2,hAB];exact vA_leastW (fun k hk=>(hN.num k (by rw [hAB];exact hk)).2.2.1)
 have ha:0≤leastW F L R T (hasK F L R a T) B∧leastW F L R T (hasK F L R a T) B < 340282366920938463463374607431768211456:=by
  have hb:∀ q∈A,0≤hasK F L R q T∧hasK F L R q T < 340282366920938463463374607431768211456:=fun q hq=>by
   have hq2:=hN.num q hq
   exact hasK_bd hM hq2.1 (by omega) hUT ⟨hq2.2.2.1,hq2.2.2.2⟩
  have h1:=leastW_nonneg (F:=F) (L:=L) (R:=R) (t:=T) B (hasK F L R a T) (hb a (by rw [hAB];simp)).1 (fun q hq=>(hb q (by rw [hAB];exact List.mem_cons_of_mem _ hq)).1)
  exact⟨h1.1,Int.lt_of_le_of_lt h1.2 (hb a (by rw [hAB];simp)).2⟩
 rw [hv]
 have hw:∀ n,Calls Tryz.prog 179 #[.pointer (some ⟨c,0,none⟩),.int .u64 T] (w.drewN n) fun e w'=>e=.returned (wv (leastW F L R T (hasK F L R a T) B))∧Below w.heap.size w w':=fun n =>
  (copies_wide (h.below (drewN_below w n)) hM hN a B hAB T hUT hxT).mono fun e w' ⟨he,hb⟩=>⟨he,(drewN_below w n).trans hb⟩
 have hcl:=copies_last h hfew
 rw [hlast] at hcl
 generalize leastW F L R T (hasK F L R a T) B=m at *
 obtain⟨vx,vy,hB,hrx,hry⟩:=h
 obtain⟨ax,cx,hvx⟩:=hrx.shape
 rw [List.length_map] at hvx
 subst hvx
 have c3:=hB.cell 3
 simp only [lTA,lCZ,lCS] at c3
 have HW:=Lib.hid hw;have HCL:=Lib.hid hcl
 clear hB hrx hry hM hN hA hAB hT2 hlast hv hw hcl
 go_enter Tryz.func156,Tryz.ntmps156
 go_wp2_with (first
  | (go_at_call 155;refine HCL.out.mono ?_;rintro e w1 ⟨rfl,n,rfl⟩)
  | (go_at_call 179;refine (HW.out _).mono ?_;rintro e w2 ⟨rfl,hb2⟩)
  | (go_at_call 178;refine (ref_stop m _ ha.1 ha.2).mono ?_;rintro e w3 ⟨rfl,hb3⟩))
 go_ret
 exact⟨rfl,hb2.trans (hb3.mono hb2.size)⟩
theorem copies_reach (h:CopiesAt w c base F L R A)(hM:MayC F L R)(hN:Nums x A)(hA:A≠[])(y:Int)(hy:U y) :
  Calls Tryz.prog 128 #[.pointer (some ⟨c,0,none⟩),.int .u64 y] w (Ans (fun t=>vA F L R A (max t x)) x y w):=by
 have hl0:((A.length:Int) == 0)=false:=by
  have:=List.length_pos_iff.2 hA
  simp;omega
 have hx0:=hN.x0;have hx1:=hN.x1
 have hmono:∀ t u,x≤t→t≤u→vA F L R A (max t x)≤vA F L R A (max u x):=vA_max_mono hM hN.low
 have hat:=fun (W:World) (hb:Below w.heap.size w W) (t:Int) (ht:U t)=>copies_at (h.below hb) hM hN hA t ht
 have hcl:=copies_last h hN.few
 rw [hN.last] at hcl
 obtain⟨vx,vy,hB,hrx,hry⟩:=h
 obtain⟨ax,cx,hvx⟩:=hrx.shape
 rw [List.length_map] at hvx
 subst hvx
 have c3:=hB.cell 3
 simp only [lTA,lCZ,lCS] at c3
 have HAT:=Lib.hid hat;have HM:=Lib.hid hmono;have HCL:=Lib.hid hcl;have HB:=Lib.hid hB
 have HC:Hid (∀ W,Below w.heap.size w W→Calls Tryz.prog 155 #[.pointer (some ⟨c,0,none⟩)] W fun e w'=>e=.returned (.int .u64 x)∧Below w.heap.size w w'):=Lib.hid fun W hb=>by
  have:=copies_last (A:=A) ⟨_,vy,hB.below hb hB.lt,hrx.below hb,hry.below hb⟩ hN.few
  rw [hN.last] at this
  exact this.mono fun e w' ⟨he,n,hn⟩=>⟨he,by rw [hn];exact below_drewN hb n⟩
 clear hM hN hA hmono hat hcl hB hrx hry HCL
 have hU1:U 9223372036854775807:=⟨by decide,by decide⟩
 have hy0:=hy.1;have hy1:=hy.2
 obtain⟨v,hv⟩:∃ v:Int→Int,(fun t=>vA F L R A (max t x))=v:=⟨_,rfl⟩
 have hvt:∀ t,vA F L R A (max t x)=v t:=fun t=>by rw [← hv]
 have HVT:=Lib.hid hvt
 have HMV:Hid (∀ t u,x≤t→t≤u→v t≤v u):=Lib.hid fun t u h1 h2=>by rw [← hvt t,← hvt u];exact HM.out t u h1 h2
 rw [hv]
 obtain⟨e0,he0⟩:∃ e,v 9223372036854775807=e:=⟨_,rfl⟩
 have HE:=Lib.hid he0
 clear hvt hv he0 HM
 go_enter Tryz.func128,Tryz.ntmps128
 go_wp2_with (first
  | (go_at_call 156;refine (HAT.out _ (Below.refl _ _) 9223372036854775807 hU1).mono ?_;rintro e w1 ⟨rfl,hb1⟩;rw [HVT.out,HE.out];clear c3)
  | (go_at_call 155;refine (HC.out _ hb1).mono ?_;rintro e w2 ⟨rfl,hb2⟩))
 ·go_ret
  refine⟨9223372036854775808,rfl,Back.of hx1 (Int.le_refl _) ⟨fun _ hlt=>?_,fun hh=>by omega⟩,by omega,by omega,hb1⟩
  rw [HE.out];assumption
 ·have hge:y≤e0:=by omega
  by_cases hxn:x=9223372036854775808
  ·subst hxn
   go_loopw [5,6] (fun lo hi W=>lo=.int .u64 9223372036854775808∧hi=.int .u64 9223372036854775807∧Below w.heap.size w W) (fun _ _ _=>0)
   case atStart=>exact⟨rfl,rfl,hb2⟩
   case round =>
    obtain⟨rfl,rfl,hbw⟩:=hrel
    go_wp2
    go_ret
    exact⟨9223372036854775808,rfl,Back.of (Int.le_refl _) (Int.le_refl _) ⟨fun _ hlt=>by omega,fun hh=>by omega⟩,by omega,by omega,hbw⟩
  ·go_loopw [5,6] (fun lo hi W=>∃ l h:Int,lo=.int .u64 l∧hi=.int .u64 h∧x≤l∧l≤h∧h≤9223372036854775807∧y≤v h∧(x < l→v (l - 1) < y)∧Below w.heap.size w W) (fun lo hi _=>(Go.RowKit.intOf hi - Go.RowKit.intOf lo).toNat)
   case atStart=>exact⟨x,9223372036854775807,rfl,rfl,Int.le_refl _,by omega,Int.le_refl _,by rw [HE.out];exact hge,fun h=>by omega,hb2⟩
   case round =>
    obtain⟨l,h,rfl,rfl,hxl,hlh,hh,hyh,hlo,hbw⟩:=hrel
    have HLO:=Lib.hid hlo;have HYH:=Lib.hid hyh;have HBW:=Lib.hid hbw
    clear hlo hyh hbw hb1 hb2
    by_cases hlt:l < h
    ·obtain⟨q,hq⟩:∃ q,(h - l) / 2=q:=⟨_,rfl⟩
     have hq0:0≤q:=by omega
     have hql:l+q < h:=by omega
     have eq1:IntKind.u64.wrap ((h - l).tdiv 2)=q:=by rw [Int.tdiv_eq_ediv_of_nonneg (by omega),hq];exact wrap_u ⟨hq0,by omega⟩
     obtain⟨m,hm⟩:∃ m,l+q=m:=⟨_,rfl⟩
     have hum:U m:=⟨by omega,by omega⟩
     obtain⟨vm,hvm⟩:∃ vm,v m=vm:=⟨_,rfl⟩
     have HVM:=Lib.hid hvm
     have hml:l≤m:=by omega
     have hmh:m < h:=by omega
     clear hvm hq
     by_cases hc:y≤vm
     ·go_wp2_with (go_at_call 156;refine (HAT.out _ HBW.out m hum).mono ?_;rintro e w3 ⟨rfl,hb3⟩;rw [HVT.out,HVM.out])
      go_roundw
      case rel=>exact⟨l,m,rfl,by go_num,hxl,hml,by omega,by rw [HVM.out];exact hc,HLO.out,HBW.out.trans (hb3.mono HBW.out.size)⟩
      case measure=>simp [Go.RowKit.intOf];omega
     ·have hc2:decide (y≤vm)=false:=by simpa using hc
      go_wp2_with (go_at_call 156;refine (HAT.out _ HBW.out m hum).mono ?_;rintro e w3 ⟨rfl,hb3⟩;rw [HVT.out,HVM.out])
      go_roundw
      case rel=>exact⟨m+1,h,by go_num,rfl,by omega,by omega,hh,HYH.out,fun _=>by rw [show m+1 - 1=m by omega,HVM.out];omega,HBW.out.trans (hb3.mono HBW.out.size)⟩
      case measure=>simp [Go.RowKit.intOf];omega
    ·obtain rfl:l=h:=by omega
     go_wp2
     go_ret
     exact⟨l,rfl,Back.of hx1 (by omega) ⟨fun hh2=>by omega,fun _=>⟨hxl,HYH.out,HLO.out⟩⟩,by omega,by omega,HBW.out⟩
end
end
section
open Go.RowKit
def LimAt (w:World)(l r g:Nat)(F L R x:Int)(A:List (Int × Int)):Prop :=
 Blk w l 131 #[.iface 135 (.agg #[.pointer (some ⟨r,0,none⟩)])]∧RunAt w r g F L R x A∧r < l
def LFree (w:World)(l:Nat):Prop:=Blk w l 131 #[.iface 127 (.agg #[])]
@[go_sem] theorem as_free_bound (v:Value) (W:World):(Instr.typeAssert (.iface 127 v) 129 135 true).run Tryz.prog W=.ok (.tuple #[.agg #[.pointer none],.bool false]) W:=by kernel_rfl
@[go_sem] theorem as_free_free (v:Value) (W:World):(Instr.typeAssert (.iface 127 v) 129 127 true).run Tryz.prog W=.ok (.tuple #[v,.bool true]) W:=by kernel_rfl
@[go_sem] theorem as_bound_bound (v:Value) (W:World):(Instr.typeAssert (.iface 135 v) 129 135 true).run Tryz.prog W=.ok (.tuple #[v,.bool true]) W:=by kernel_rfl
section
variable {w w' : World} {l r g : Nat} {F L R x : Int} {A : List (Int × Int)}
theorem LimAt.below (h:LimAt w l r g F L R x A)(hb:Below w.heap.size w w'):LimAt w' l r g F L R x A:=⟨h.1.below hb h.1.lt,h.2.1.below hb,h.2.2⟩
theorem LimAt.glt (h:LimAt w l r g F L R x A):g < l:=by have:=h.2.1.lt;have:=h.2.2;omega
theorem lbound_some (h:LimAt w l r g F L R x A) :
  Calls Tryz.prog 89 #[.pointer (some ⟨l,0,none⟩)] w fun e w'=>e=.returned (.pointer (some ⟨r,0,none⟩))∧Below w.heap.size w w':=by
 have c0:=h.1.cell 0
 simp only [lTA,lCZ,lCS] at c0
 clear h
 go_enter Tryz.func89,Tryz.ntmps89
 go_wp2
 go_ret
 exact⟨rfl,by go_grown⟩
theorem lbound_free (h:LFree w l) :
  Calls Tryz.prog 89 #[.pointer (some ⟨l,0,none⟩)] w fun e w'=>e=.returned (.pointer none)∧Below w.heap.size w w':=by
 have c0:=h.cell 0
 simp only [lTA,lCZ,lCS] at c0
 clear h
 go_enter Tryz.func89,Tryz.ntmps89
 go_wp2
 go_ret
 exact⟨rfl,by go_grown⟩
theorem lfit_free (total:Int)(h:LFree w l) :
  Calls Tryz.prog 112 #[.pointer (some ⟨l,0,none⟩),.int .u64 total] w fun e w'=>e=.returned (.int .u64 0)∧Below w.heap.size w w':=by
 go_enter Tryz.func112,Tryz.ntmps112
 go_wp2_with (go_at_call 89;refine (lbound_free h).mono ?_;rintro e w1 ⟨rfl,hb1⟩)
 go_ret
 exact⟨rfl,hb1⟩
end
theorem cnone_any (F L R:Int)(w:World) :
  Calls Tryz.prog 81 #[.agg #[.int .u64 F,.int .u64 L,.int .u64 R]] w fun e w'=>e=.returned (.bool (decide (F=0∧L=0∧R=0)))∧Below w.heap.size w w':=by
 by_cases h1:F=0
 ·by_cases h2:L=0
  ·by_cases h3:R=0
   ·subst h1 h2 h3
    go_enter Tryz.func81,Tryz.ntmps81
    go_wp2
    go_ret
    exact⟨rfl,by go_grown⟩
   ·go_enter Tryz.func81,Tryz.ntmps81
    go_wp2
    go_ret
    exact⟨by simp [h3],by go_grown⟩
  ·go_enter Tryz.func81,Tryz.ntmps81
   go_wp2
   go_ret
   exact⟨by simp [h2],by go_grown⟩
 ·go_enter Tryz.func81,Tryz.ntmps81
  go_wp2
  go_ret
  exact⟨by simp [h1],by go_grown⟩
theorem cnone_no {F L R:Int} (w:World)(h:¬ (F=0∧L=0∧R=0)) :
  Calls Tryz.prog 81 #[.agg #[.int .u64 F,.int .u64 L,.int .u64 R]] w fun e w'=>e=.returned (.bool false)∧Below w.heap.size w w' :=
 (cnone_any F L R w).mono fun e w' ⟨he,hb⟩=>⟨by rw [he,decide_eq_false h],hb⟩
theorem cnone_yes {F L R:Int} (w:World)(h:F=0∧L=0∧R=0) :
  Calls Tryz.prog 81 #[.agg #[.int .u64 F,.int .u64 L,.int .u64 R]] w fun e w'=>e=.returned (.bool true)∧Below w.heap.size w w' :=
 (cnone_any F L R w).mono fun e w' ⟨he,hb⟩=>⟨by rw [he,decide_eq_true h],hb⟩
theorem lnew_free (F L R:Int)(w:World)(hL:0≤L)(hno:(F=0∧L=0∧R=0)∨mayB F L R=false) :
  Calls Tryz.prog 36 #[.agg #[.int .u64 F,.int .u64 L,.int .u64 R]] w fun e w'=>∃ l,e=.returned (.pointer (some ⟨l,0,none⟩))∧w.heap.size≤l∧LFree w' l∧Below w.heap.size w w':=by
 have hal:=(Below.refl w.heap.size w).alloc (Nat.le_refl _) (.cells #[.int .u64 F,.int .u64 L,.int .u64 R] 30)
 have nb:=Blk.new w 30 #[.int .u64 F,.int .u64 L,.int .u64 R]
 have HN:=Lib.hid nb
 clear nb
 by_cases h0:F=0∧L=0∧R=0
 ·have H0:=Lib.hid h0
  clear h0 hno
  go_enter Tryz.func36,Tryz.ntmps36
  go_wp2_with (go_at_call 81;refine (cnone_yes _ H0.out).mono ?_;rintro e w1 ⟨rfl,hb1⟩)
  go_ret
  have hb3:Below w.heap.size w w1:=hal.trans (hb1.mono hal.size)
  exact⟨w1.heap.size,rfl,hb3.size,Blk.new _ _ _,hb3.alloc hb3.size _⟩
 ·have H:=Lib.hid (hno.resolve_left h0)
  have H0:=Lib.hid h0
  clear h0 hno
  go_enter Tryz.func36,Tryz.ntmps36
  go_wp2_with (first
   | (go_at_call 81;refine (cnone_no _ H0.out).mono ?_;rintro e w1 ⟨rfl,hb1⟩;have n1:=HN.out.below hb1 HN.out.lt;have a0:=n1.cell 0;have a1:=n1.cell 1;have a2:=n1.cell 2;simp only [lTA,lCZ,lCS] at a0 a1 a2)
   | (go_at_call 82;refine (may_any F L R _ hL).mono ?_;rintro e w2 ⟨rfl,hb2⟩;rw [H.out]))
  go_ret
  have hb3:Below w.heap.size w w2:=hal.trans ((hb1.trans (hb2.mono hb1.size)).mono hal.size)
  exact⟨w2.heap.size,rfl,hb3.size,Blk.new _ _ _,hb3.alloc hb3.size _⟩
theorem lnew_some (F L R:Int)(w:World)(hF:0≤F)(hL:0≤L)(hR:0≤R)(hno:¬ (F=0∧L=0∧R=0))(h1:mayB F L R=true) :
  Calls Tryz.prog 36 #[.agg #[.int .u64 F,.int .u64 L,.int .u64 R]] w fun e w'=>∃ l r g,e=.returned (.pointer (some ⟨l,0,none⟩))∧w.heap.size≤g∧LimAt w' l r g F L R 0 []∧Below w.heap.size w w':=by
 have hal:=(Below.refl w.heap.size w).alloc (Nat.le_refl _) (.cells #[.int .u64 F,.int .u64 L,.int .u64 R] 30)
 have nb:=Blk.new w 30 #[.int .u64 F,.int .u64 L,.int .u64 R]
 have HN:=Lib.hid nb
 clear nb
 have H:=Lib.hid h1
 have H0:=Lib.hid hno
 clear h1 hno
 go_enter Tryz.func36,Tryz.ntmps36
 go_wp2_with (first
  | (go_at_call 81;refine (cnone_no _ H0.out).mono ?_;rintro e w1 ⟨rfl,hb1⟩;have n1:=HN.out.below hb1 HN.out.lt;have a0:=n1.cell 0;have a1:=n1.cell 1;have a2:=n1.cell 2;simp only [lTA,lCZ,lCS] at a0 a1 a2)
  | (go_at_call 82;refine (may_any F L R _ hL).mono ?_;rintro e w2 ⟨rfl,hb2⟩;rw [H.out];have n2:=n1.below hb2 n1.lt;have b0:=n2.cell 0;have b1:=n2.cell 1;have b2:=n2.cell 2;simp only [lTA,lCZ,lCS] at b0 b1 b2)
  | (go_at_call 83;refine (run_new F L R _ hF hL hR H.out).mono ?_;rintro e w3 ⟨r,g,rfl,hg,hr,hb3⟩;have HR:=Lib.hid hr;clear hr))
 go_ret
 have hb4:=(hb1.trans (hb2.mono hb1.size)).trans (hb3.mono (hb1.trans (hb2.mono hb1.size)).size)
 have hb5:Below w.heap.size w w3:=hal.trans (hb4.mono hal.size)
 have hal2:=(Below.refl w3.heap.size w3).alloc (Nat.le_refl _) (.cells #[.iface 135 (.agg #[.pointer (some ⟨r,0,none⟩)])] 131)
 exact⟨w3.heap.size,r,g,rfl,Nat.le_trans (Nat.le_trans hal.size (hb1.trans (hb2.mono hb1.size)).size) hg,⟨Blk.new _ _ _,HR.out.below hal2,HR.out.lt.2⟩,hb5.trans (hal2.mono hb5.size)⟩
end
end Go.Proofs.YtmmeopjemkjllaaGreat
