/- Lemmas of the claim. No conditions beyond those that each states. -/
import Derived.Test.YtmmeopjemkjllaaGreatPT17
import Derived.Laws.EntriesVeiled
import Derived.WalkSpells
set_option linter.unusedVariables false
set_option linter.unusedSimpArgs false
set_option maxRecDepth 100000
set_option maxHeartbeats 8000000
namespace Go.Proofs.YtmmeopjemkjllaaGreat
section
open Go.RowKit
attribute [local go_sem ↓] Go.wp_at_zero Go.wp_at_succ
attribute [local go_sem] quietR quietAtR quietUponR midAt midUpon
def MayW (s:Sp)(w:World)(e:Ending)(w':World):Prop:=∃ er:Int,e=.returned (.int .i64 er)∧decide (er=0)=mayS s∧Below w.heap.size w w'
noncomputable def askB (s:Sp):Nat→Bool
 | 0=>namedB s
 | 1=>curvesB s
 | 2=>shapedB s
 | 3=>sharedB s
 | _=>underB s
theorem may_yes {s:Sp} (h:∀ j,j < 5→askB s j=true):mayS s=true:=by
 have h0:namedB s=true:=h 0 (by decide)
 have h1:curvesB s=true:=h 1 (by decide)
 have h2:shapedB s=true:=h 2 (by decide)
 have h3:sharedB s=true:=h 3 (by decide)
 have h4:underB s=true:=h 4 (by decide)
 unfold mayS
 rw [h0,h1,h2,h3,h4];rfl
theorem may_no {s:Sp} {j:Nat} (hj:j < 5)(h:askB s j=false):mayS s=false:=by
 unfold mayS
 rcases (show j=0∨j=1∨j=2∨j=3∨j=4 by omega) with rfl | rfl | rfl | rfl | rfl <;> simp only [askB] at h <;> rw [h] <;> simp
theorem spmay_any (s:Sp)(w:World)(hw:WfSp s):Calls Tryz.prog 129 #[spV s] w (MayW s w):=by
 have hq0:=fun W=>named_any s W hw
 have hq1:=fun W=>curves_any s W hw
 have hq2:=fun W=>shaped_any s W hw
 have hq3:=fun W=>shared_any s W hw
 have hq4:=fun W=>under_any s W hw
 obtain⟨ask,hask⟩:∃ ask,ask=askB s:=⟨_,rfl⟩
 rw [show namedB s=ask 0 by rw [hask];rfl] at hq0
 rw [show curvesB s=ask 1 by rw [hask];rfl] at hq1
 rw [show shapedB s=ask 2 by rw [hask];rfl] at hq2
 rw [show sharedB s=ask 3 by rw [hask];rfl] at hq3
 rw [show underB s=ask 4 by rw [hask];rfl] at hq4
 unfold spV spC at *
 have HS:=Lib.hid hask
 clear hask hw
 have hyes:(∀ j,j < 5→ask j=true)→mayS s=true:=fun h=>may_yes (by rw [← HS.out];exact h)
 have hno:∀ j,j < 5→ask j=false→mayS s=false:=fun j hj h=>may_no hj (by rw [← HS.out];exact h)
 clear HS
 unfold MayW
 generalize mayS s=ms at hyes hno ⊢
 obtain⟨id,pa,lf,⟨F1,L1,R1⟩,⟨F2,L2,R2⟩,⟨F3,L3,R3⟩,pk,by_⟩:=s
 dsimp only at hq0 hq1 hq2 hq3 hq4 ⊢
 have H0:=Lib.hid (BxAt.new w 32 #[.int .i64 id,.int .i64 pa,.bool lf,.int .u64 F1,.int .u64 L1,.int .u64 R1,.int .u64 F2,.int .u64 L2,.int .u64 R2,.int .u64 F3,.int .u64 L3,.int .u64 R3,.int .i64 pk,.int .i64 by_])
 have HY:=Lib.hid hyes;have HN:=Lib.hid hno
 have HQ:=Lib.hid (And.intro hq0 (And.intro hq1 (And.intro hq2 (And.intro hq3 hq4))))
 clear hyes hno hq0 hq1 hq2 hq3 hq4
 go_enter Tryz.func129,Tryz.ntmps129
 go_wp2_with fail
 go_loopw [11] (fun v11 W=>∃ k:Nat,v11=.int .i64 k∧k≤5∧(∀ j,j < k→ask j=true)∧BxAt w W 32 #[.int .i64 id,.int .i64 pa,.bool lf,.int .u64 F1,.int .u64 L1,.int .u64 R1,.int .u64 F2,.int .u64 L2,.int .u64 R2,.int .u64 F3,.int .u64 L3,.int .u64 R3,.int .i64 pk,.int .i64 by_]) (fun v11 _=>(5 - Go.RowKit.intOf v11).toNat)
 case atStart=>exact⟨0,rfl,by omega,fun j hj=>by omega,H0.out⟩
 case round =>
  obtain⟨k,rfl,hk,hlow,hbx⟩:=hrel
  have HL:=Lib.hid hlow
  have H:=Lib.hid hbx
  clear hlow hbx H0
  rcases (show k=0∨k=1∨k=2∨k=3∨k=4∨k=5 by omega) with rfl | rfl | rfl | rfl | rfl | rfl
  ·have hq:=HQ.out.1
   obtain⟨b,hb⟩:∃ b,ask 0=b:=⟨_,rfl⟩
   rw [hb] at hq
   have HB:=Lib.hid hb
   have hb1:=(Below.refl wr.heap.size wr).alloc (Nat.le_refl _) (.cells #[.func (.func 157) #[] #[],.int .i64 130] 222)
   have hn1:=Blk.new wr 222 #[.func (.func 157) #[] #[],.int .i64 130]
   have H1:=Lib.hid (And.intro (H.out.step hb1) hn1)
   clear hb hb1 hn1
   have i0:∀ w,(Instr.index 223 (.agg #[.func (.func 157) #[] #[],.int .i64 130,.func (.func 158) #[] #[],.int .i64 30,.func (.func 159) #[] #[],.int .i64 130,.func (.func 160) #[] #[],.int .i64 130,.func (.func 161) #[] #[],.int .i64 130]) (.int .i64 0)).run Tryz.prog w=.ok (.agg #[.func (.func 157) #[] #[],.int .i64 130]) w:=fun _=>by kernel_rfl
   go_upto_region 4 with fail
   clear i0
   generalize wr.alloc (.cells #[.func (.func 157) #[] #[],.int .i64 130] 222)=W1 at H1 ⊢
   have c0:=H1.out.2.cell 0;have c1:=H1.out.2.cell 1
   simp only [lTA,lCZ,lCS] at c0 c1
   have k0:=H1.out.1.1.cell 0;have k1:=H1.out.1.1.cell 1;have k2:=H1.out.1.1.cell 2;have k3:=H1.out.1.1.cell 3;have k4:=H1.out.1.1.cell 4;have k5:=H1.out.1.1.cell 5;have k6:=H1.out.1.1.cell 6;have k7:=H1.out.1.1.cell 7;have k8:=H1.out.1.1.cell 8;have k9:=H1.out.1.1.cell 9;have k10:=H1.out.1.1.cell 10;have k11:=H1.out.1.1.cell 11;have k12:=H1.out.1.1.cell 12;have k13:=H1.out.1.1.cell 13;simp only [lTA,lCZ,lCS] at k0 k1 k2 k3 k4 k5 k6 k7 k8 k9 k10 k11 k12 k13
   cases b
   all_goals
    go_wp2_with (go_at_call 157;(with_reducible refine (hq _).mono ?_);rintro e W2 ⟨rfl,hb2⟩;have H2:=Lib.hid (And.intro (H1.out.1.step hb2) (H1.out.2.below hb2 H1.out.2.lt));clear H1 hb2 c0 c1;clear k0 k1 k2 k3 k4 k5 k6 k7 k8 k9 k10 k11 k12 k13;have c1:=H2.out.2.cell 1;simp only [lTA,lCZ,lCS] at c1)
   ·go_ret
    exact⟨_,rfl,by rw [HN.out 0 (by decide) HB.out];rfl,H2.out.1.2⟩
   ·go_roundw
    case measure=>(simp [Go.RowKit.intOf];try omega)
    case rel=>exact⟨1,by go_num,by omega,fun j hj=>by
     by_cases e:j=0
     ·subst e;exact HB.out
     ·exact HL.out j (by omega),H2.out.1⟩
  ·have hq:=HQ.out.2.1
   obtain⟨b,hb⟩:∃ b,ask 1=b:=⟨_,rfl⟩
   rw [hb] at hq
   have HB:=Lib.hid hb
   have hb1:=(Below.refl wr.heap.size wr).alloc (Nat.le_refl _) (.cells #[.func (.func 158) #[] #[],.int .i64 30] 222)
   have hn1:=Blk.new wr 222 #[.func (.func 158) #[] #[],.int .i64 30]
   have H1:=Lib.hid (And.intro (H.out.step hb1) hn1)
   clear hb hb1 hn1
   have i0:∀ w,(Instr.index 223 (.agg #[.func (.func 157) #[] #[],.int .i64 130,.func (.func 158) #[] #[],.int .i64 30,.func (.func 159) #[] #[],.int .i64 130,.func (.func 160) #[] #[],.int .i64 130,.func (.func 161) #[] #[],.int .i64 130]) (.int .i64 1)).run Tryz.prog w=.ok (.agg #[.func (.func 158) #[] #[],.int .i64 30]) w:=fun _=>by kernel_rfl
   go_upto_region 4 with fail
   clear i0
   generalize wr.alloc (.cells #[.func (.func 158) #[] #[],.int .i64 30] 222)=W1 at H1 ⊢
   have c0:=H1.out.2.cell 0;have c1:=H1.out.2.cell 1
   simp only [lTA,lCZ,lCS] at c0 c1
   have k0:=H1.out.1.1.cell 0;have k1:=H1.out.1.1.cell 1;have k2:=H1.out.1.1.cell 2;have k3:=H1.out.1.1.cell 3;have k4:=H1.out.1.1.cell 4;have k5:=H1.out.1.1.cell 5;have k6:=H1.out.1.1.cell 6;have k7:=H1.out.1.1.cell 7;have k8:=H1.out.1.1.cell 8;have k9:=H1.out.1.1.cell 9;have k10:=H1.out.1.1.cell 10;have k11:=H1.out.1.1.cell 11;have k12:=H1.out.1.1.cell 12;have k13:=H1.out.1.1.cell 13;simp only [lTA,lCZ,lCS] at k0 k1 k2 k3 k4 k5 k6 k7 k8 k9 k10 k11 k12 k13
   cases b
   all_goals
    go_wp2_with (go_at_call 158;(with_reducible refine (hq _).mono ?_);rintro e W2 ⟨rfl,hb2⟩;have H2:=Lib.hid (And.intro (H1.out.1.step hb2) (H1.out.2.below hb2 H1.out.2.lt));clear H1 hb2 c0 c1;clear k0 k1 k2 k3 k4 k5 k6 k7 k8 k9 k10 k11 k12 k13;have c1:=H2.out.2.cell 1;simp only [lTA,lCZ,lCS] at c1)
   ·go_ret
    exact⟨_,rfl,by rw [HN.out 1 (by decide) HB.out];rfl,H2.out.1.2⟩
   ·go_roundw
    case measure=>(simp [Go.RowKit.intOf];try omega)
    case rel=>exact⟨2,by go_num,by omega,fun j hj=>by
     by_cases e:j=1
     ·subst e;exact HB.out
     ·exact HL.out j (by omega),H2.out.1⟩
  ·have hq:=HQ.out.2.2.1
   obtain⟨b,hb⟩:∃ b,ask 2=b:=⟨_,rfl⟩
   rw [hb] at hq
   have HB:=Lib.hid hb
   have hb1:=(Below.refl wr.heap.size wr).alloc (Nat.le_refl _) (.cells #[.func (.func 159) #[] #[],.int .i64 130] 222)
   have hn1:=Blk.new wr 222 #[.func (.func 159) #[] #[],.int .i64 130]
   have H1:=Lib.hid (And.intro (H.out.step hb1) hn1)
   clear hb hb1 hn1
   have i0:∀ w,(Instr.index 223 (.agg #[.func (.func 157) #[] #[],.int .i64 130,.func (.func 158) #[] #[],.int .i64 30,.func (.func 159) #[] #[],.int .i64 130,.func (.func 160) #[] #[],.int .i64 130,.func (.func 161) #[] #[],.int .i64 130]) (.int .i64 2)).run Tryz.prog w=.ok (.agg #[.func (.func 159) #[] #[],.int .i64 130]) w:=fun _=>by kernel_rfl
   go_upto_region 4 with fail
   clear i0
   generalize wr.alloc (.cells #[.func (.func 159) #[] #[],.int .i64 130] 222)=W1 at H1 ⊢
   have c0:=H1.out.2.cell 0;have c1:=H1.out.2.cell 1
   simp only [lTA,lCZ,lCS] at c0 c1
   have k0:=H1.out.1.1.cell 0;have k1:=H1.out.1.1.cell 1;have k2:=H1.out.1.1.cell 2;have k3:=H1.out.1.1.cell 3;have k4:=H1.out.1.1.cell 4;have k5:=H1.out.1.1.cell 5;have k6:=H1.out.1.1.cell 6;have k7:=H1.out.1.1.cell 7;have k8:=H1.out.1.1.cell 8;have k9:=H1.out.1.1.cell 9;have k10:=H1.out.1.1.cell 10;have k11:=H1.out.1.1.cell 11;have k12:=H1.out.1.1.cell 12;have k13:=H1.out.1.1.cell 13;simp only [lTA,lCZ,lCS] at k0 k1 k2 k3 k4 k5 k6 k7 k8 k9 k10 k11 k12 k13
   cases b
   all_goals
    go_wp2_with (go_at_call 159;(with_reducible refine (hq _).mono ?_);rintro e W2 ⟨rfl,hb2⟩;have H2:=Lib.hid (And.intro (H1.out.1.step hb2) (H1.out.2.below hb2 H1.out.2.lt));clear H1 hb2 c0 c1;clear k0 k1 k2 k3 k4 k5 k6 k7 k8 k9 k10 k11 k12 k13;have c1:=H2.out.2.cell 1;simp only [lTA,lCZ,lCS] at c1)
   ·go_ret
    exact⟨_,rfl,by rw [HN.out 2 (by decide) HB.out];rfl,H2.out.1.2⟩
   ·go_roundw
    case measure=>(simp [Go.RowKit.intOf];try omega)
    case rel=>exact⟨3,by go_num,by omega,fun j hj=>by
     by_cases e:j=2
     ·subst e;exact HB.out
     ·exact HL.out j (by omega),H2.out.1⟩
  ·have hq:=HQ.out.2.2.2.1
   obtain⟨b,hb⟩:∃ b,ask 3=b:=⟨_,rfl⟩
   rw [hb] at hq
   have HB:=Lib.hid hb
   have hb1:=(Below.refl wr.heap.size wr).alloc (Nat.le_refl _) (.cells #[.func (.func 160) #[] #[],.int .i64 130] 222)
   have hn1:=Blk.new wr 222 #[.func (.func 160) #[] #[],.int .i64 130]
   have H1:=Lib.hid (And.intro (H.out.step hb1) hn1)
   clear hb hb1 hn1
   have i0:∀ w,(Instr.index 223 (.agg #[.func (.func 157) #[] #[],.int .i64 130,.func (.func 158) #[] #[],.int .i64 30,.func (.func 159) #[] #[],.int .i64 130,.func (.func 160) #[] #[],.int .i64 130,.func (.func 161) #[] #[],.int .i64 130]) (.int .i64 3)).run Tryz.prog w=.ok (.agg #[.func (.func 160) #[] #[],.int .i64 130]) w:=fun _=>by kernel_rfl
   go_upto_region 4 with fail
   clear i0
   generalize wr.alloc (.cells #[.func (.func 160) #[] #[],.int .i64 130] 222)=W1 at H1 ⊢
   have c0:=H1.out.2.cell 0;have c1:=H1.out.2.cell 1
   simp only [lTA,lCZ,lCS] at c0 c1
   have k0:=H1.out.1.1.cell 0;have k1:=H1.out.1.1.cell 1;have k2:=H1.out.1.1.cell 2;have k3:=H1.out.1.1.cell 3;have k4:=H1.out.1.1.cell 4;have k5:=H1.out.1.1.cell 5;have k6:=H1.out.1.1.cell 6;have k7:=H1.out.1.1.cell 7;have k8:=H1.out.1.1.cell 8;have k9:=H1.out.1.1.cell 9;have k10:=H1.out.1.1.cell 10;have k11:=H1.out.1.1.cell 11;have k12:=H1.out.1.1.cell 12;have k13:=H1.out.1.1.cell 13;simp only [lTA,lCZ,lCS] at k0 k1 k2 k3 k4 k5 k6 k7 k8 k9 k10 k11 k12 k13
   cases b
   all_goals
    go_wp2_with (go_at_call 160;(with_reducible refine (hq _).mono ?_);rintro e W2 ⟨rfl,hb2⟩;have H2:=Lib.hid (And.intro (H1.out.1.step hb2) (H1.out.2.below hb2 H1.out.2.lt));clear H1 hb2 c0 c1;clear k0 k1 k2 k3 k4 k5 k6 k7 k8 k9 k10 k11 k12 k13;have c1:=H2.out.2.cell 1;simp only [lTA,lCZ,lCS] at c1)
   ·go_ret
    exact⟨_,rfl,by rw [HN.out 3 (by decide) HB.out];rfl,H2.out.1.2⟩
   ·go_roundw
    case measure=>(simp [Go.RowKit.intOf];try omega)
    case rel=>exact⟨4,by go_num,by omega,fun j hj=>by
     by_cases e:j=3
     ·subst e;exact HB.out
     ·exact HL.out j (by omega),H2.out.1⟩
  ·have hq:=HQ.out.2.2.2.2
   obtain⟨b,hb⟩:∃ b,ask 4=b:=⟨_,rfl⟩
   rw [hb] at hq
   have HB:=Lib.hid hb
   have hb1:=(Below.refl wr.heap.size wr).alloc (Nat.le_refl _) (.cells #[.func (.func 161) #[] #[],.int .i64 130] 222)
   have hn1:=Blk.new wr 222 #[.func (.func 161) #[] #[],.int .i64 130]
   have H1:=Lib.hid (And.intro (H.out.step hb1) hn1)
   clear hb hb1 hn1
   have i0:∀ w,(Instr.index 223 (.agg #[.func (.func 157) #[] #[],.int .i64 130,.func (.func 158) #[] #[],.int .i64 30,.func (.func 159) #[] #[],.int .i64 130,.func (.func 160) #[] #[],.int .i64 130,.func (.func 161) #[] #[],.int .i64 130]) (.int .i64 4)).run Tryz.prog w=.ok (.agg #[.func (.func 161) #[] #[],.int .i64 130]) w:=fun _=>by kernel_rfl
   go_upto_region 4 with fail
   clear i0
   generalize wr.alloc (.cells #[.func (.func 161) #[] #[],.int .i64 130] 222)=W1 at H1 ⊢
   have c0:=H1.out.2.cell 0;have c1:=H1.out.2.cell 1
   simp only [lTA,lCZ,lCS] at c0 c1
   have k0:=H1.out.1.1.cell 0;have k1:=H1.out.1.1.cell 1;have k2:=H1.out.1.1.cell 2;have k3:=H1.out.1.1.cell 3;have k4:=H1.out.1.1.cell 4;have k5:=H1.out.1.1.cell 5;have k6:=H1.out.1.1.cell 6;have k7:=H1.out.1.1.cell 7;have k8:=H1.out.1.1.cell 8;have k9:=H1.out.1.1.cell 9;have k10:=H1.out.1.1.cell 10;have k11:=H1.out.1.1.cell 11;have k12:=H1.out.1.1.cell 12;have k13:=H1.out.1.1.cell 13;simp only [lTA,lCZ,lCS] at k0 k1 k2 k3 k4 k5 k6 k7 k8 k9 k10 k11 k12 k13
   cases b
   all_goals
    go_wp2_with (go_at_call 161;(with_reducible refine (hq _).mono ?_);rintro e W2 ⟨rfl,hb2⟩;have H2:=Lib.hid (And.intro (H1.out.1.step hb2) (H1.out.2.below hb2 H1.out.2.lt));clear H1 hb2 c0 c1;clear k0 k1 k2 k3 k4 k5 k6 k7 k8 k9 k10 k11 k12 k13;have c1:=H2.out.2.cell 1;simp only [lTA,lCZ,lCS] at c1)
   ·go_ret
    exact⟨_,rfl,by rw [HN.out 4 (by decide) HB.out];rfl,H2.out.1.2⟩
   ·go_roundw
    case measure=>(simp [Go.RowKit.intOf];try omega)
    case rel=>exact⟨5,by go_num,by omega,fun j hj=>by
     by_cases e:j=4
     ·subst e;exact HB.out
     ·exact HL.out j (by omega),H2.out.1⟩
  ·go_wp2_with fail
   go_ret
   exact⟨_,rfl,by rw [HY.out HL.out];rfl,H.out.2⟩
end
section
open Go.RowKit
abbrev Cl:=Sp × Int
abbrev Mp:=List (Int × Cl)
def kids (M:Mp)(k:Int):List Int:=(M.filter fun q=>decide (q.2.1.pa=k)).map (·.1)
def depthM (M:Mp)(pa:Int):Int:=if pa=0 then 1 else match lookM M pa with
 | some c=>if c.1.lf=true∨8≤c.2 then 0 else c.2+1
 | none=>0
def withC (c s:Sp):Sp:={ c with r:=s.r,s:=s.s,u:=s.u }
noncomputable def addM (M:Mp)(s:Sp):Int × Mp:=if mayS s=false then (130,M) else if 64≤M.length then (4,M) else if (lookM M s.id).isSome=true then (80,M) else if depthM M s.pa=0 then (160,M) else (0,putM M s.id (s,depthM M s.pa))
noncomputable def changeM (M:Mp)(s:Sp):Int × Mp:=match lookM M s.id with
 | none=>(81,M)
 | some c=>if mayS (withC c.1 s)=false then (130,M) else (0,putM M s.id (withC c.1 s,c.2))
def dropM (M:Mp)(id:Int):Int × Mp:=match lookM M id with
 | none=>(81,M)
 | some c=>if kids M id=[] then (0,delM M id) else (161,M)
structure OkCl (M:Mp)(k:Int)(c:Cl):Prop where
 id:c.1.id=k
 wf:WfSp c.1
 may:mayS c.1=true
 d1:1≤c.2
 d8:c.2≤8
 up:c.1.pa=0∧c.2=1∨∃ p,lookM M c.1.pa=some p∧p.1.lf=false∧c.2=p.2+1
structure InvT (M:Mp):Prop where
 rise:Rising M
 few:M.length≤64
 ok:∀ k c,lookM M k=some c→OkCl M k c
theorem may_named {s:Sp} (h:mayS s=true):1≤s.id∧s.id≤65535∧0≤s.pa∧s.pa≤65535∧s.id≠s.pa:=by
 unfold mayS namedB inB at h
 simp only [Bool.and_eq_true,decide_eq_true_eq,bne_iff_ne] at h
 exact⟨h.1.1.1.1.1.1.1,h.1.1.1.1.1.1.2,h.1.1.1.1.1.2.1,h.1.1.1.1.1.2.2,h.1.1.1.1.2⟩
theorem InvT.pos {M:Mp} (h:InvT M) {k:Int} {c:Cl} (hk:lookM M k=some c):1≤k∧k≤65535:=by
 have o:=h.ok k c hk
 have:=may_named o.may
 have:=o.id
 omega
theorem InvT.zero {M:Mp} (h:InvT M):lookM M 0=none:=by
 cases e:lookM M 0 with
 | none=>rfl
 | some c=>have:=(h.pos e).1;omega
theorem look_of_mem {α:Type}:∀ {M:List (Int × α)} {k:Int} {c:α},Rising M→(k,c)∈M→lookM M k=some c
 | [],k,c,_,h=>by simp at h
 | p :: r,k,c,hr,h=>by
  have h1:=(List.pairwise_cons.1 hr).1
  rcases List.mem_cons.1 h with rfl | h
  ·simp [lookM]
  ·have:=h1 _ h
   dsimp only at this
   unfold lookM
   rw [if_neg (by omega)]
   exact look_of_mem (List.pairwise_cons.1 hr).2 h
theorem mem_of_look {α:Type}:∀ {M:List (Int × α)} {k:Int} {c:α},lookM M k=some c→(k,c)∈M
 | [],k,c,h=>by cases h
 | p :: r,k,c,h=>by
  unfold lookM at h
  split at h
  ·rename_i e
   cases h
   subst e
   exact .head _
  ·exact .tail _ (mem_of_look h)
theorem mem_kids {M:Mp} (hr:Rising M) {k x:Int}:x∈kids M k↔∃ c,lookM M x=some c∧c.1.pa=k:=by
 unfold kids
 rw [List.mem_map]
 constructor
 ·rintro ⟨⟨y,c⟩,hm,rfl⟩
  rw [List.mem_filter] at hm
  exact⟨c,look_of_mem hr hm.1,by simpa using hm.2⟩
 ·rintro ⟨c,hl,rfl⟩
  exact⟨(x,c),List.mem_filter.2 ⟨mem_of_look hl,by simp⟩,rfl⟩
theorem kids_rising {M : Mp} (hr : Rising M) (k : Int) : (kids M k).Pairwise (· < ·) := by
  unfold kids
  exact List.pairwise_map.2 (List.Pairwise.filter _ hr)
theorem kids_len (M:Mp)(k:Int):(kids M k).length≤M.length:=by unfold kids;rw [List.length_map];exact List.length_filter_le _ _
theorem kids_cons (q:Int × Cl)(M:Mp)(k:Int):kids (q :: M) k=if q.2.1.pa=k then q.1 :: kids M k else kids M k:=by
 unfold kids
 by_cases h:q.2.1.pa=k
 ·rw [List.filter_cons_of_pos (by simpa using h),if_pos h];rfl
 ·rw [List.filter_cons_of_neg (by simpa using h),if_neg h]
theorem count_none {l : List Int} {x : Int} (h : ∀ y ∈ l, x < y) : l.countP (· < x) = 0 := by
  rw [List.countP_eq_zero]
  intro y hy
  have := h y hy
  simp
  omega
theorem kids_ins {id : Int} {c : Cl} : ∀ {M : Mp}, Rising M → lookM M id = none →
    kids (putM M id c) c.1.pa = (kids M c.1.pa).take ((kids M c.1.pa).countP (· < id)) ++ [id] ++ (kids M c.1.pa).drop ((kids M c.1.pa).countP (· < id))
  | [], _, _ => by simp [putM, kids]
  | p :: r, hr, hn => by
    have h1 := (List.pairwise_cons.1 hr).1
    have hp : p.1 ≠ id := look_none.1 hn p (.head _)
    have hnr : lookM r id = none := look_none.2 fun q hq => look_none.1 hn q (.tail _ hq)
    have ih := kids_ins (c := c) (List.pairwise_cons.1 hr).2 hnr
    unfold putM
    by_cases hlt : id < p.1
    · rw [if_pos hlt]
      have h0 : (kids (p :: r) c.1.pa).countP (· < id) = 0 := count_none fun y hy => by
        obtain ⟨c', hl, _⟩ := (mem_kids hr).1 hy
        rcases List.mem_cons.1 (mem_of_look hl) with e | hm
        · have : y = p.1 := by rw [← e]
          omega
        · have := h1 _ hm
          dsimp only at this
          omega
      rw [h0, kids_cons, if_pos rfl]
      simp
    · rw [if_neg hlt, if_neg hp, kids_cons, kids_cons]
      by_cases hk : p.2.1.pa = c.1.pa
      · rw [if_pos hk, if_pos hk, ih, List.countP_cons_of_pos (by simp; omega)]
        simp
      · rw [if_neg hk, if_neg hk, ih]
theorem kids_put_other {id k:Int} {c:Cl} (hk:c.1.pa≠k):∀ {M:Mp},lookM M id=none→kids (putM M id c) k=kids M k
 | [],_=>by simp [putM,kids,hk]
 | p :: r,hn=>by
  have hp:p.1≠id:=look_none.1 hn p (.head _)
  have hnr:lookM r id=none:=look_none.2 fun q hq=>look_none.1 hn q (.tail _ hq)
  unfold putM
  by_cases hlt:id < p.1
  ·rw [if_pos hlt,kids_cons,if_neg hk]
  ·rw [if_neg hlt,if_neg hp,kids_cons,kids_cons,kids_put_other hk hnr]
theorem kids_put_same {id k:Int} {c c0:Cl} (hpa:c.1.pa=c0.1.pa):∀ {M:Mp},Rising M→lookM M id=some c0→kids (putM M id c) k=kids M k
 | [],_,h=>by cases h
 | p :: r,hr,hl=>by
  have h1:=(List.pairwise_cons.1 hr).1
  unfold lookM at hl
  unfold putM
  by_cases hp:p.1=id
  ·rw [if_pos hp] at hl
   cases hl
   rw [if_neg (by omega),if_pos hp,kids_cons,kids_cons]
   simp only [hpa,hp]
  ·rw [if_neg hp] at hl
   have:=h1 _ (mem_of_look hl)
   dsimp only at this
   rw [if_neg (by omega),if_neg hp,kids_cons,kids_cons,kids_put_same hpa (List.pairwise_cons.1 hr).2 hl]
theorem kids_del (M:Mp)(id k:Int):kids (delM M id) k=(kids M k).filter fun x=>!decide (x=id):=by
 unfold kids delM
 rw [List.filter_map,List.filter_filter,List.filter_filter]
 congr 1
 refine List.filter_congr fun q _=>?_
 simp [Bool.and_comm]
theorem put_len_same {α:Type} {id:Int} {c c0:α}:∀ {M:List (Int × α)},Rising M→lookM M id=some c0→(putM M id c).length=M.length
 | [],_,h=>by cases h
 | p :: r,hr,hl=>by
  have h1:=(List.pairwise_cons.1 hr).1
  unfold lookM at hl
  unfold putM
  by_cases hp:p.1=id
  ·rw [if_neg (by omega),if_pos hp];rfl
  ·rw [if_neg hp] at hl
   have:=h1 _ (mem_of_look hl)
   dsimp only at this
   rw [if_neg (by omega),if_neg hp,List.length_cons,put_len_same (List.pairwise_cons.1 hr).2 hl,List.length_cons]
theorem put_len_newH {α:Type} {k:Int} {v:α}:∀ {M:List (Int × α)},lookM M k=none→(putM M k v).length=M.length+1
 | [],_=>rfl
 | p :: r,hn=>by
  have hp:p.1≠k:=look_none.1 hn p (.head _)
  have hnr:lookM r k=none:=look_none.2 fun q hq=>look_none.1 hn q (.tail _ hq)
  unfold putM
  by_cases hlt:k < p.1
  ·rw [if_pos hlt];simp
  ·rw [if_neg hlt,if_neg hp,List.length_cons,put_len_newH hnr,List.length_cons]
theorem withC_lf (c s:Sp):(withC c s).lf=c.lf:=rfl
theorem inv_nil:InvT []:=⟨by simp [Rising],by simp,fun k c h=>by cases h⟩
theorem InvT.add {M:Mp} (h:InvT M) {s:Sp} (hw:WfSp s):InvT (addM M s).2:=by
 unfold addM
 by_cases h1:mayS s=false
 ·rw [if_pos h1];exact h
 ·rw [if_neg h1]
  by_cases h2:64≤M.length
  ·rw [if_pos h2];exact h
  ·rw [if_neg h2]
   by_cases h3:(lookM M s.id).isSome=true
   ·rw [if_pos h3];exact h
   ·rw [if_neg h3]
    by_cases h4:depthM M s.pa=0
    ·rw [if_pos h4];exact h
    ·rw [if_neg h4]
     have hn:lookM M s.id=none:=by simpa using h3
     have hm:mayS s=true:=by simpa using h1
     have hd:1≤depthM M s.pa∧depthM M s.pa≤8∧(s.pa=0∧depthM M s.pa=1∨∃ p,lookM M s.pa=some p∧p.1.lf=false∧depthM M s.pa=p.2+1):=by
      unfold depthM at h4 ⊢
      by_cases h5:s.pa=0
      ·simp only [h5,if_true];exact⟨by omega,by omega,.inl ⟨trivial,trivial⟩⟩
      ·rw [if_neg h5] at h4 ⊢
       cases e:lookM M s.pa with
       | none=>rw [e] at h4;simp at h4
       | some p =>
        rw [e] at h4
        simp only at h4 ⊢
        by_cases h6:p.1.lf=true∨8≤p.2
        ·rw [if_pos h6] at h4;exact absurd rfl h4
        ·rw [if_neg h6]
         have:=(h.ok _ _ e).d1
         exact⟨by omega,by omega,.inr ⟨p,rfl,by
          cases hh:p.1.lf
          ·rfl
          ·exact absurd (.inl hh) h6,rfl⟩⟩
     refine⟨rising_put _ _ h.rise,by rw [put_len_newH hn];omega,fun k c hk=>?_⟩
     by_cases e:k=s.id
     ·subst e
      rw [look_put_same] at hk
      cases hk
      refine⟨rfl,hw,hm,hd.1,hd.2.1,?_⟩
      rcases hd.2.2 with hd | ⟨p,hp,hl,hd⟩
      ·exact .inl hd
      ·refine .inr ⟨p,?_,hl,hd⟩
       have hne:s.pa≠s.id:=by intro e;rw [e,hn] at hp;cases hp
       show lookM (putM M s.id _) s.pa=some p
       rw [look_put_other _ hne];exact hp
     ·dsimp only at hk ⊢
      rw [look_put_other _ e] at hk
      have o:=h.ok k c hk
      refine⟨o.id,o.wf,o.may,o.d1,o.d8,?_⟩
      rcases o.up with hu | ⟨p,hp,hl,hd'⟩
      ·exact .inl hu
      ·refine .inr ⟨p,?_,hl,hd'⟩
       have hne:c.1.pa≠s.id:=by intro e;rw [e,hn] at hp;cases hp
       rw [look_put_other _ hne];exact hp
theorem InvT.change {M:Mp} (h:InvT M) {s:Sp} (hw:WfSp s):InvT (changeM M s).2:=by
 unfold changeM
 cases e:lookM M s.id with
 | none=>exact h
 | some c =>
  dsimp only
  by_cases h1:mayS (withC c.1 s)=false
  ·rw [if_pos h1];exact h
  ·rw [if_neg h1]
   have hm:mayS (withC c.1 s)=true:=by simpa using h1
   have o:=h.ok _ _ e
   refine⟨rising_put _ _ h.rise,by rw [put_len_same h.rise e];exact h.few,fun k c' hk=>?_⟩
   have hup:∀ (c1:Sp)(d1:Int),(c1.pa=0∧d1=1∨∃ p,lookM M c1.pa=some p∧p.1.lf=false∧d1=p.2+1)→(c1.pa=0∧d1=1∨∃ p,lookM (putM M s.id (withC c.1 s,c.2)) c1.pa=some p∧p.1.lf=false∧d1=p.2+1):=by
    rintro c1 d1 (hu | ⟨p,hp,hl,hd⟩)
    ·exact .inl hu
    ·right
     by_cases e2:c1.pa=s.id
     ·rw [e2,e] at hp
      cases hp
      exact⟨(withC c.1 s,c.2),by rw [e2,look_put_same],hl,hd⟩
     ·exact⟨p,by rw [look_put_other _ e2];exact hp,hl,hd⟩
   by_cases e3:k=s.id
   ·subst e3
    dsimp only at hk
    rw [look_put_same] at hk
    cases hk
    exact⟨o.id,⟨o.wf.1,hw.2⟩,hm,o.d1,o.d8,hup _ _ o.up⟩
   ·dsimp only at hk
    rw [look_put_other _ e3] at hk
    have o':=h.ok k c' hk
    exact⟨o'.id,o'.wf,o'.may,o'.d1,o'.d8,hup _ _ o'.up⟩
theorem InvT.drop {M:Mp} (h:InvT M)(id:Int):InvT (dropM M id).2:=by
 unfold dropM
 cases e:lookM M id with
 | none=>exact h
 | some c =>
  dsimp only
  by_cases h1:kids M id=[]
  ·rw [if_pos h1]
   refine⟨rising_del h.rise id,Nat.le_trans (del_length id M) h.few,fun k c' hk=>?_⟩
   dsimp only at hk ⊢
   have hne:k≠id:=by rintro rfl;rw [look_del_same] at hk;cases hk
   rw [look_del_other hne] at hk
   have o:=h.ok k c' hk
   refine⟨o.id,o.wf,o.may,o.d1,o.d8,?_⟩
   rcases o.up with hu | ⟨p,hp,hl,hd⟩
   ·exact .inl hu
   ·refine .inr ⟨p,?_,hl,hd⟩
    have hne2:c'.1.pa≠id:=by
     intro e2
     have:k∈kids M id:=(mem_kids h.rise).2 ⟨c',hk,e2⟩
     rw [h1] at this
     simp at this
    rw [look_del_other hne2];exact hp
  ·rw [if_neg h1];exact h
def pathF (M:Mp):Nat→Int→List Int
 | 0,_=>[]
 | n+1,id=>match lookM M id with
  | none=>[]
  | some c=>id :: pathF M n c.1.pa
theorem pathF_none {M:Mp} {id:Int} (h:lookM M id=none):∀ n,pathF M n id=[]
 | 0=>rfl
 | n+1=>by unfold pathF;rw [h]
theorem pathF_some {M:Mp} {id:Int} {c:Cl} (h:lookM M id=some c)(n:Nat):pathF M (n+1) id=id :: pathF M n c.1.pa:=by
 conv=>lhs;unfold pathF
 rw [h]
theorem InvT.pathF_len {M:Mp} (h:InvT M):∀ (n:Nat) {id:Int} {c:Cl},lookM M id=some c→c.2≤n→((pathF M n id).length:Int)=c.2
 | 0,id,c,hk,hn=>by have:=(h.ok _ _ hk).d1;omega
 | n+1,id,c,hk,hn=>by
  rw [pathF_some hk,List.length_cons]
  rcases (h.ok _ _ hk).up with ⟨h0,h1⟩ | ⟨p,hp,hl,hd⟩
  ·rw [h0,pathF_none h.zero];simp;omega
  ·have:=h.pathF_len n hp (by omega)
   omega
theorem InvT.pathF_more {M:Mp} (h:InvT M):∀ (n m:Nat) {id:Int},(∀ c,lookM M id=some c→c.2≤n∧c.2≤m)→pathF M n id=pathF M m id
 | n,m,id,hc=>by
  cases e:lookM M id with
  | none=>rw [pathF_none e,pathF_none e]
  | some c =>
   have hb:=hc c e
   have h1:=(h.ok _ _ e).d1
   obtain⟨n',rfl⟩:∃ n',n=n'+1:=⟨n - 1,by omega⟩
   obtain⟨m',rfl⟩:∃ m',m=m'+1:=⟨m - 1,by omega⟩
   rw [pathF_some e,pathF_some e,h.pathF_more n' m' (fun c' hc'=>by
    rcases (h.ok _ _ e).up with ⟨h0,_⟩ | ⟨p,hp,hl,hd⟩
    ·rw [h0,h.zero] at hc';cases hc'
    ·rw [hp] at hc';cases hc';omega)]
def pathM (M:Mp)(id:Int):List Int:=pathF M 8 id
end
end Go.Proofs.YtmmeopjemkjllaaGreat
