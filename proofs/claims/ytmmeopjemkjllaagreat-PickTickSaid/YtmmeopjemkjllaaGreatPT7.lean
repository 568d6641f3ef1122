/- Lemmas of the claim. No conditions beyond those that each states. -/
import Derived.Test.YtmmeopjemkjllaaGreatPT1
import Derived.Test.YtmmeopjemkjllaaGreatPT6
set_option linter.unusedVariables false
set_option linter.unusedSimpArgs false
set_option maxRecDepth 100000
set_option maxHeartbeats 8000000
namespace Go.Proofs.YtmmeopjemkjllaaGreat
section
open Go.RowKit
theorem compare_any (a b:Int)(w:World) :
  Calls Tryz.prog 202 #[.int .u64 a,.int .u64 b] w fun e w'=>e=.returned (.int .i64 (cmpI a b))∧w=w':=by
 go_enter Tryz.func202,Tryz.ntmps202
 go_wp2
 all_goals go_ret
 ·exact⟨ret_int (cmpI_lt (by assumption)).symm,rfl⟩
 ·exact⟨ret_int (cmpI_gt (by assumption)).symm,rfl⟩
 ·exact⟨ret_int (cmpI_eq (by omega)).symm,rfl⟩
theorem cmp_any (a b c d:Int)(w:World)(hb:U b)(hd:U d) :
  Calls Tryz.prog 193 #[.agg #[.int .u64 a,.int .u64 b],.agg #[.int .u64 c,.int .u64 d]] w fun e w'=>e=.returned (.int .i64 (cmpI (num a b) (num c d)))∧Below w.heap.size w w':=by
 go_enter Tryz.func193,Tryz.ntmps193
 go_wp2_with (go_at_call 202;refine (compare_any _ _ _).mono ?_;rintro e w' ⟨rfl,rfl⟩)
 all_goals go_ret
 ·exact⟨ret_int (cmpI_hi (cmpI_ne (by assumption)) hb hd),by go_grown⟩
 ·have h:=cmpI_same (by assumption)
  subst h
  exact⟨ret_int cmpI_lo,by go_grown⟩
def MW (w W:World)(x0 x1 y0 y1 v0 v1 v2 v3:Int):Prop :=
 Blk W w.heap.size 236 #[.int .u64 0,.int .u64 0]∧Blk W (w.heap.size+1) 267 #[.int .u64 x0,.int .u64 x1]∧Blk W (w.heap.size+1+1) 267 #[.int .u64 y0,.int .u64 y1] ∧
 Blk W (w.heap.size+1+1+1) 268 #[.int .u64 v0,.int .u64 v1,.int .u64 v2,.int .u64 v3]∧Below w.heap.size w W
theorem MW.start (w:World)(x0 x1 y0 y1:Int):MW w ((((w.alloc (.cells #[.int .u64 0,.int .u64 0] 236)).alloc (.cells #[.int .u64 x0,.int .u64 x1] 267)).alloc (.cells #[.int .u64 y0,.int .u64 y1] 267)).alloc (.cells #[.int .u64 0,.int .u64 0,.int .u64 0,.int .u64 0] 268)) x0 x1 y0 y1 0 0 0 0:=by
 refine⟨(((Blk.new w _ _).alloc _).alloc _).alloc _,?_,?_,?_,?_⟩
 ·have h:=(((Blk.new (w.alloc (.cells #[.int .u64 0,.int .u64 0] 236)) 267 #[.int .u64 x0,.int .u64 x1])).alloc (.cells #[.int .u64 y0,.int .u64 y1] 267)).alloc (.cells #[.int .u64 0,.int .u64 0,.int .u64 0,.int .u64 0] 268)
  simpa using h
 ·have h:=(Blk.new ((w.alloc (.cells #[.int .u64 0,.int .u64 0] 236)).alloc (.cells #[.int .u64 x0,.int .u64 x1] 267)) 267 #[.int .u64 y0,.int .u64 y1]).alloc (.cells #[.int .u64 0,.int .u64 0,.int .u64 0,.int .u64 0] 268)
  simpa using h
 ·have h:=Blk.new (((w.alloc (.cells #[.int .u64 0,.int .u64 0] 236)).alloc (.cells #[.int .u64 x0,.int .u64 x1] 267)).alloc (.cells #[.int .u64 y0,.int .u64 y1] 267)) 268 #[.int .u64 0,.int .u64 0,.int .u64 0,.int .u64 0]
  simpa using h
 ·go_grown
theorem MW.set_ {w W:World} {x0 x1 y0 y1 v0 v1 v2 v3:Int} (h:MW w W x0 x1 y0 y1 v0 v1 v2 v3)(n i:Nat)(u v0' v1' v2' v3':Int)
  (hs:(#[.int .u64 v0,.int .u64 v1,.int .u64 v2,.int .u64 v3]:Array Value).setIfInBounds i (.int .u64 u)=#[.int .u64 v0',.int .u64 v1',.int .u64 v2',.int .u64 v3']) :
  MW w ((W.drewN n).setCell ⟨w.heap.size+1+1+1,i,none⟩ (.int .u64 u)) x0 x1 y0 y1 v0' v1' v2' v3':=by
 obtain⟨h0,h1,h2,h3,hb⟩:=h
 exact⟨(h0.drewN n).far (by simp;omega) _,(h1.drewN n).far (by simp) _,(h2.drewN n).far (by simp) _,by rw [← hs];exact (h3.drewN n).set_ i _,(below_drewN hb n).setCell (by simp;omega) _⟩
theorem MW.set0 {w W:World} {x0 x1 y0 y1 v0 v1 v2 v3:Int} (h:MW w W x0 x1 y0 y1 v0 v1 v2 v3)(i:Nat)(u v0' v1' v2' v3':Int)
  (hs:(#[.int .u64 v0,.int .u64 v1,.int .u64 v2,.int .u64 v3]:Array Value).setIfInBounds i (.int .u64 u)=#[.int .u64 v0',.int .u64 v1',.int .u64 v2',.int .u64 v3']) :
  MW w (W.setCell ⟨w.heap.size+1+1+1,i,none⟩ (.int .u64 u)) x0 x1 y0 y1 v0' v1' v2' v3':=h.set_ 0 i u v0' v1' v2' v3' hs
theorem MW.result {w W:World} {x0 x1 y0 y1 v0 v1 v2 v3:Int} (h:MW w W x0 x1 y0 y1 v0 v1 v2 v3) :
  W.cell? ⟨w.heap.size,0,none⟩=some (.int .u64 0)∧W.cell? ⟨w.heap.size,1,none⟩=some (.int .u64 0)∧W.frozen? ⟨w.heap.size,0,none⟩=false∧W.frozen? ⟨w.heap.size,1,none⟩=false :=
 ⟨h.1.cell 0,h.1.cell 1,h.1.frozen 0,h.1.frozen 1⟩
theorem MW.facts {w W:World} {x0 x1 y0 y1 v0 v1 v2 v3:Int} (h:MW w W x0 x1 y0 y1 v0 v1 v2 v3) :
  W.cell? ⟨w.heap.size+1,0,none⟩=some (.int .u64 x0)∧W.cell? ⟨w.heap.size+1,1,none⟩=some (.int .u64 x1) ∧
  W.cell? ⟨w.heap.size+1+1,0,none⟩=some (.int .u64 y0)∧W.cell? ⟨w.heap.size+1+1,1,none⟩=some (.int .u64 y1) ∧
  W.cell? ⟨w.heap.size+1+1+1,0,none⟩=some (.int .u64 v0)∧W.cell? ⟨w.heap.size+1+1+1,1,none⟩=some (.int .u64 v1) ∧
  W.cell? ⟨w.heap.size+1+1+1,2,none⟩=some (.int .u64 v2)∧W.cell? ⟨w.heap.size+1+1+1,3,none⟩=some (.int .u64 v3) ∧
  W.frozen? ⟨w.heap.size+1+1+1,0,none⟩=false∧W.frozen? ⟨w.heap.size+1+1+1,1,none⟩=false∧W.frozen? ⟨w.heap.size+1+1+1,2,none⟩=false∧W.frozen? ⟨w.heap.size+1+1+1,3,none⟩=false ∧
  MW w W x0 x1 y0 y1 v0 v1 v2 v3:=by
 obtain⟨h0,h1,h2,h3,hb⟩:=id h
 exact⟨h1.cell 0,h1.cell 1,h2.cell 0,h2.cell 1,h3.cell 0,h3.cell 1,h3.cell 2,h3.cell 3,h3.frozen 0,h3.frozen 1,h3.frozen 2,h3.frozen 3,h⟩
theorem mul_walk (a b x0 x1 y0 y1 t00 p0 c0 u01 t01 p1 c1 u10 t10 q1 c2 u11 s11 t11 p2 c3 s3 s1 h l:Int)(w:World)
  (m1:bits .and .u64 a 4294967295=x0)(d1:a / 4294967296=x1)(m2:bits .and .u64 b 4294967295=y0)(d2:b / 4294967296=y1)
  (e00:IntKind.u64.wrap (x0*y0)=t00)(w00:IntKind.u64.wrap t00=t00)(m00:bits .and .u64 t00 4294967295=p0)(d00:t00 / 4294967296=c0)
  (e01:IntKind.u64.wrap (x0*y1)=u01)(w01:IntKind.u64.wrap u01=u01)(f01:IntKind.u64.wrap (u01+c0)=t01)(m01:bits .and .u64 t01 4294967295=p1)(d01:t01 / 4294967296=c1)
  (e10:IntKind.u64.wrap (x1*y0)=u10)(f10:IntKind.u64.wrap (u10+p1)=t10)(w10:IntKind.u64.wrap t10=t10)(m10:bits .and .u64 t10 4294967295=q1)(d10:t10 / 4294967296=c2)
  (e11:IntKind.u64.wrap (x1*y1)=u11)(f11:IntKind.u64.wrap (u11+c1)=s11)(g11:IntKind.u64.wrap (s11+c2)=t11)(m11:bits .and .u64 t11 4294967295=p2)(d11:t11 / 4294967296=c3)
  (k3:IntKind.u64.wrap (c3*4294967296)=s3)(o3:bits .or .u64 s3 p2=h)(k1:IntKind.u64.wrap (q1*4294967296)=s1)(o1:bits .or .u64 s1 p0=l) :
  Calls Tryz.prog 201 #[.int .u64 a,.int .u64 b] w fun e w'=>e=.returned (.agg #[.int .u64 h,.int .u64 l])∧Below w.heap.size w w':=by
 go_enter Tryz.func201,Tryz.ntmps201
 go_wp2
 refine wp_gen (fun W=>MW w W x0 x1 y0 y1 0 0 0 0) (MW.start w x0 x1 y0 y1) ?_
 rintro W1 hm
 obtain⟨c10,c11,c20,c21,c30,c31,c32,c33,f0,f1,f2,f3,hm⟩:=hm.facts
 have HM:=Lib.hid hm;clear hm
 refine wp_loop_rounds 3 ?_
 rw [rounds_succ]
 go_wp2
 refine wp_loop_rounds 3 ?_
 rw [rounds_succ]
 go_wp2
 go_quiet (fail)
 go_wp2
 clear c10 c11 c20 c21 c30 c31 c32 c33 f0 f1 f2 f3
 rw [rounds_succ]
 refine wp_gen (fun W=>MW w W x0 x1 y0 y1 p0 0 0 0) (by exact HM.out.set_ _ _ _ p0 0 0 0 rfl) ?_
 clear HM
 rintro W2 hm
 obtain⟨c10,c11,c20,c21,c30,c31,c32,c33,f0,f1,f2,f3,hm⟩:=hm.facts
 have HM:=Lib.hid hm;clear hm
 go_wp2
 go_quiet (fail)
 go_wp2
 clear c10 c11 c20 c21 c30 c31 c32 c33 f0 f1 f2 f3
 rw [rounds_succ]
 refine wp_gen (fun W=>MW w W x0 x1 y0 y1 p0 p1 0 0) (by exact HM.out.set_ _ _ _ p0 p1 0 0 rfl) ?_
 clear HM
 rintro W3 hm
 obtain⟨c10,c11,c20,c21,c30,c31,c32,c33,f0,f1,f2,f3,hm⟩:=hm.facts
 have HM:=Lib.hid hm;clear hm
 go_wp2
 clear c10 c11 c20 c21 c30 c31 c32 c33 f0 f1 f2 f3
 rw [rounds_succ]
 refine wp_gen (fun W=>MW w W x0 x1 y0 y1 p0 p1 c1 0) (by exact HM.out.set0 _ _ p0 p1 c1 0 rfl) ?_
 clear HM
 rintro W4 hm
 obtain⟨c10,c11,c20,c21,c30,c31,c32,c33,f0,f1,f2,f3,hm⟩:=hm.facts
 have HM:=Lib.hid hm;clear hm
 go_wp2
 refine wp_loop_rounds 3 ?_
 rw [rounds_succ]
 go_wp2
 go_quiet (fail)
 go_wp2
 clear c10 c11 c20 c21 c30 c31 c32 c33 f0 f1 f2 f3
 rw [rounds_succ]
 refine wp_gen (fun W=>MW w W x0 x1 y0 y1 p0 q1 c1 0) (by exact HM.out.set_ _ _ _ p0 q1 c1 0 rfl) ?_
 clear HM
 rintro W5 hm
 obtain⟨c10,c11,c20,c21,c30,c31,c32,c33,f0,f1,f2,f3,hm⟩:=hm.facts
 have HM:=Lib.hid hm;clear hm
 go_wp2
 go_quiet (fail)
 go_wp2
 clear c10 c11 c20 c21 c30 c31 c32 c33 f0 f1 f2 f3
 rw [rounds_succ]
 refine wp_gen (fun W=>MW w W x0 x1 y0 y1 p0 q1 p2 0) (by exact HM.out.set_ _ _ _ p0 q1 p2 0 rfl) ?_
 clear HM
 rintro W6 hm
 obtain⟨c10,c11,c20,c21,c30,c31,c32,c33,f0,f1,f2,f3,hm⟩:=hm.facts
 have HM:=Lib.hid hm;clear hm
 go_wp2
 clear c10 c11 c20 c21 c30 c31 c32 c33 f0 f1 f2 f3
 rw [rounds_succ]
 refine wp_gen (fun W=>MW w W x0 x1 y0 y1 p0 q1 p2 c3) (by exact HM.out.set0 _ _ p0 q1 p2 c3 rfl) ?_
 clear HM
 rintro W7 hm
 obtain⟨c10,c11,c20,c21,c30,c31,c32,c33,f0,f1,f2,f3,hm⟩:=hm.facts
 have HM:=Lib.hid hm;clear hm
 obtain⟨r0,r1,g0,g1⟩:=HM.out.result
 go_wp2
 have hb':=(HM.out.1.set_ 0 (.int .u64 h)).set_ 1 (.int .u64 l)
 have q0:=hb'.cell 0
 have q1:=hb'.cell 1
 simp at q0 q1
 refine bodyPost_ret (v:=.agg #[.int .u64 h,.int .u64 l]) (by simp [results,Tryz.results201,go_sem,q0,q1]) rfl ⟨rfl,?_⟩
 exact (HM.out.2.2.2.2.setCell (Nat.le_refl _) _).setCell (Nat.le_refl _) _
theorem mask_u64 (x:Int)(h:U x):bits .and .u64 x 4294967295=x % 4294967296:=by
 unfold U at h
 rw [u64_and x _ h.1 (by omega) (by decide) (by decide),show (4294967295:Int).toNat=2 ^ 32 - 1 from rfl,Nat.and_two_pow_sub_one_eq_mod]
 obtain⟨n,rfl⟩:=Int.eq_ofNat_of_zero_le h.1
 simp
theorem or_u64 (x y:Int)(hx:0≤x)(hx':x≤4294967295)(hy:0≤y)(hy':y≤4294967295):bits .or .u64 (x*4294967296) y=x*4294967296+y:=by
 rw [u64_or _ _ (by omega) (by omega) hy (by omega)]
 obtain⟨n,rfl⟩:=Int.eq_ofNat_of_zero_le hx
 obtain⟨m,rfl⟩:=Int.eq_ofNat_of_zero_le hy
 have h:=Nat.shiftLeft_add_eq_or_of_lt (b:=m) (i:=32) (by omega) n
 rw [Nat.shiftLeft_eq] at h
 have e:((n:Int)*4294967296).toNat=n*2 ^ 32:=by omega
 rw [e,Int.toNat_natCast,← h]
 omega
theorem wrap_u {x:Int} (h:U x):IntKind.u64.wrap x=x:=IntWalk.u64_in _ h
theorem prod_bd {x y:Int} (hx:0≤x)(hx':x≤4294967295)(hy:0≤y)(hy':y≤4294967295):0≤x*y∧x*y≤18446744065119617025 :=
 ⟨Int.mul_nonneg hx hy,by have:=Int.mul_le_mul hx' hy' hy (by decide);omega⟩
theorem mul_any (a b:Int)(w:World)(ha:U a)(hb:U b) :
  Calls Tryz.prog 201 #[.int .u64 a,.int .u64 b] w fun e w'=>e=.returned (.agg #[.int .u64 (hiW (a*b)),.int .u64 (loW (a*b))])∧Below w.heap.size w w':=by
 have ha':=ha;have hb':=hb
 unfold U at ha' hb'
 have b00:=prod_bd (x:=a % 4294967296) (y:=b % 4294967296) (by omega) (by omega) (by omega) (by omega)
 have b01:=prod_bd (x:=a % 4294967296) (y:=b / 4294967296) (by omega) (by omega) (by omega) (by omega)
 have b10:=prod_bd (x:=a / 4294967296) (y:=b % 4294967296) (by omega) (by omega) (by omega) (by omega)
 have b11:=prod_bd (x:=a / 4294967296) (y:=b / 4294967296) (by omega) (by omega) (by omega) (by omega)
 have hx:a=a / 4294967296*4294967296+a % 4294967296:=by omega
 have hy:b=b / 4294967296*4294967296+b % 4294967296:=by omega
 have hab:a*b=(a / 4294967296*(b / 4294967296))*18446744073709551616+(a / 4294967296*(b % 4294967296)+a % 4294967296*(b / 4294967296))*4294967296+a % 4294967296*(b % 4294967296):=by
  have:a*b=(a / 4294967296*4294967296+a % 4294967296)*(b / 4294967296*4294967296+b % 4294967296):=by rw [← hx,← hy]
  rw [this]
  generalize a / 4294967296=x1
  generalize a % 4294967296=x0
  generalize b / 4294967296=y1
  generalize b % 4294967296=y0
  have e1:x1*4294967296*(y1*4294967296)=x1*y1*18446744073709551616:=by
   rw [Int.mul_assoc,Int.mul_left_comm 4294967296,← Int.mul_assoc,show (4294967296:Int)*4294967296=18446744073709551616 from rfl]
  have e2:x1*4294967296*y0=x1*y0*4294967296:=Int.mul_right_comm _ _ _
  have e3:x0*(y1*4294967296)=x0*y1*4294967296:=(Int.mul_assoc _ _ _).symm
  rw [Int.add_mul,Int.mul_add,Int.mul_add,e1,e2,e3]
  omega
 rw [hab]
 have m1:=mask_u64 a ha
 have m2:=mask_u64 b hb
 generalize h1:a / 4294967296=x1 at *
 generalize h2:a % 4294967296=x0 at *
 generalize h3:b / 4294967296=y1 at *
 generalize h4:b % 4294967296=y0 at *
 clear hab hx hy ha' hb'
 have r0:0≤x0∧x0≤4294967295:=by omega
 have hU:∀ t:Int,0≤t→t≤18446744073709551615→U t:=fun t h h'=>⟨h,h'⟩
 generalize g00:x0*y0=t00 at *
 generalize g01:x0*y1=u01 at *
 generalize g10:x1*y0=u10 at *
 generalize g11:x1*y1=u11 at *
 have H:=mul_walk a b x0 x1 y0 y1 t00 (t00 % 4294967296) (t00 / 4294967296) u01 (u01+t00 / 4294967296) ((u01+t00 / 4294967296) % 4294967296) ((u01+t00 / 4294967296) / 4294967296)
  u10 (u10+(u01+t00 / 4294967296) % 4294967296) ((u10+(u01+t00 / 4294967296) % 4294967296) % 4294967296) ((u10+(u01+t00 / 4294967296) % 4294967296) / 4294967296)
  u11 (u11+(u01+t00 / 4294967296) / 4294967296) (u11+(u01+t00 / 4294967296) / 4294967296+(u10+(u01+t00 / 4294967296) % 4294967296) / 4294967296)
  ((u11+(u01+t00 / 4294967296) / 4294967296+(u10+(u01+t00 / 4294967296) % 4294967296) / 4294967296) % 4294967296) ((u11+(u01+t00 / 4294967296) / 4294967296+(u10+(u01+t00 / 4294967296) % 4294967296) / 4294967296) / 4294967296)
  ((u11+(u01+t00 / 4294967296) / 4294967296+(u10+(u01+t00 / 4294967296) % 4294967296) / 4294967296) / 4294967296*4294967296) ((u10+(u01+t00 / 4294967296) % 4294967296) % 4294967296*4294967296)
  (hiW (u11*18446744073709551616+(u10+u01)*4294967296+t00)) (loW (u11*18446744073709551616+(u10+u01)*4294967296+t00)) w
  m1 h1 m2 h3 (by rw [g00];exact wrap_u (hU _ (by omega) (by omega))) (wrap_u (hU _ (by omega) (by omega))) (mask_u64 _ (hU _ (by omega) (by omega))) rfl
  (by rw [g01];exact wrap_u (hU _ (by omega) (by omega))) (wrap_u (hU _ (by omega) (by omega))) (wrap_u (hU _ (by omega) (by omega))) (mask_u64 _ (hU _ (by omega) (by omega))) rfl
  (by rw [g10];exact wrap_u (hU _ (by omega) (by omega))) (wrap_u (hU _ (by omega) (by omega))) (wrap_u (hU _ (by omega) (by omega))) (mask_u64 _ (hU _ (by omega) (by omega))) rfl
  (by rw [g11];exact wrap_u (hU _ (by omega) (by omega))) (wrap_u (hU _ (by omega) (by omega))) (wrap_u (hU _ (by omega) (by omega))) (mask_u64 _ (hU _ (by omega) (by omega))) rfl
  (wrap_u (hU _ (by omega) (by omega))) (by rw [or_u64 _ _ (by omega) (by omega) (by omega) (by omega)];unfold hiW;omega) (wrap_u (hU _ (by omega) (by omega))) (by rw [or_u64 _ _ (by omega) (by omega) (by omega) (by omega)];unfold loW;omega)
 exact H
theorem add64_run (x y c:Int)(w:World)(hx:U x)(hy:U y)(hc0:0≤c)(hc:c≤1) :
  (callFunc 215 #[.int .u64 x,.int .u64 y,.int .u64 c]).run Tryz.prog w=.ok (.value (.tuple #[.int .u64 (loW (x+y+c)),.int .u64 (hiW (x+y+c))])) w:=by
 rw [run_callFunc_extern (e:=add64Entry) Tryz.func215 (by kernel_rfl) (by kernel_rfl) (by kernel_rfl) (by kernel_rfl),run_add64 x y c hx.1 hy.1 hc0 hc]
 rfl
theorem carry {b d:Int} (hb:U b)(hd:U d):0≤hiW (b+d)∧hiW (b+d)≤1:=by unfold U at hb hd;unfold hiW;omega
theorem plus_any (a b c d:Int)(w:World)(ha:U a)(hb:U b)(hc:U c)(hd:U d)(hs:num a b+num c d < 340282366920938463463374607431768211456) :
  Calls Tryz.prog 210 #[.agg #[.int .u64 a,.int .u64 b],.agg #[.int .u64 c,.int .u64 d]] w fun e w'=>e=.returned (.tuple #[.agg #[.int .u64 (hiW (num a b+num c d)),.int .u64 (loW (num a b+num c d))],.int .i64 0])∧Below w.heap.size w w':=by
 have h1:∀ W,(callFunc 215 #[.int .u64 b,.int .u64 d,.int .u64 0]).run Tryz.prog W=.ok (.value (.tuple #[.int .u64 (loW (b+d)),.int .u64 (hiW (b+d))])) W:=fun W=>by
  have h:=add64_run b d 0 W hb hd (by decide) (by decide)
  rwa [Int.add_zero] at h
 have h2:=fun W=>add64_run a c (hiW (b+d)) W ha hc (carry hb hd).1 (carry hb hd).2
 have hz:hiW (a+c+hiW (b+d))=0:=by
  unfold U at ha hb hc hd;unfold num at hs;unfold hiW;omega
 have E1:Hid (loW (a+c+hiW (b+d))=hiW (num a b+num c d)):=by
  show _=_;unfold U at ha hb hc hd;unfold num hiW loW;unfold num at hs;omega
 have E2:Hid (loW (b+d)=loW (num a b+num c d)):=by
  show _=_;unfold loW num;omega
 clear hs
 go_enter Tryz.func210,Tryz.ntmps210
 go_wp2
 go_returns
 rw [E1.out,E2.out]
 exact⟨rfl,by go_grown⟩
end
end Go.Proofs.YtmmeopjemkjllaaGreat
