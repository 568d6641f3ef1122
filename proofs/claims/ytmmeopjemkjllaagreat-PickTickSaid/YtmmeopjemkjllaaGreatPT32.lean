/- Lemmas of the claim. No conditions beyond those that each states. -/
import Derived.Test.YtmmeopjemkjllaaGreatPT31
import Derived.Laws.EntriesVeiled
import Derived.WalkSpells
set_option linter.unusedVariables false
set_option linter.unusedSimpArgs false
set_option maxRecDepth 100000
set_option maxHeartbeats 8000000
namespace Go.Proofs.YtmmeopjemkjllaaGreat
section
open Go.RowKit
attribute [local go_sem ↓] Go.wp_at_zero Go.wp_at_succ
attribute [local go_sem] quietR quietAtR quietUponR midAt midUpon
def MayW (s:Sp)(w:World)(e:Ending)(w':World):Prop:=∃ er:Int,e=.returned (.int .i64 er)∧decide (er=0)=mayS s∧Below w.heap.size w w'
noncomputable def askB (s:Sp):Nat→Bool
 | 0=>namedB s
 | 1=>curvesB s
 | 2=>shapedB s
 | 3=>sharedB s
 | _=>underB s
theorem may_yes {s:Sp} (h:∀ j,j < 5→askB s j=true):mayS s=true:=by
 have h0:namedB s=true:=h 0 (by decide)
 have h1:curvesB s=true:=h 1 (by decide)
 have h2:shapedB s=true:=h 2 (by decide)
 have h3:sharedB s=true:=h 3 (by decide)
 have h4:underB s=true:=h 4 (by decide)
 unfold mayS
 rw [h0,h1,h2,h3,h4];rfl
theorem may_no {s:Sp} {j:Nat} (hj:j < 5)(h:askB s j=false):mayS s=false:=by
 unfold mayS
 rcases (show j=0∨j=1∨j=2∨j=3∨j=4 by omega) with rfl | rfl | rfl | rfl | rfl <;> simp only [askB] at h <;> rw [h] <;> simp
theorem spmay_any (s:Sp)(w:World)(hw:WfSp s):Calls Tryz.prog 129 #[spV s] w (MayW s w):=by
 have hq0:=fun W=>named_any s W hw
 have hq1:=fun W=>curves_any s W hw
 have hq2:=fun W=>shaped_any s W hw
 have hq3:=fun W=>shared_any s W hw
 have hq4:=fun W=>under_any s W hw
 obtain⟨ask,hask⟩:∃ ask,ask=askB s:=⟨_,rfl⟩
 rw [show namedB s=ask 0 by rw [hask];rfl] at hq0
 rw [show curvesB s=ask 1 by rw [hask];rfl] at hq1
 rw [show shapedB s=ask 2 by rw [hask];rfl] at hq2
 rw [show sharedB s=ask 3 by rw [hask];rfl] at hq3
 rw [show underB s=ask 4 by rw [hask];rfl] at hq4
 unfold spV spC at *
 have HS:=Lib.hid hask
 clear hask hw
 have hyes:(∀ j,j < 5→ask j=true)→mayS s=true:=fun h=>may_yes (by rw [← HS.out];exact h)
 have hno:∀ j,j < 5→ask j=false→mayS s=false:=fun j hj h=>may_no hj (by rw [← HS.out];exact h)
 clear HS
 unfold MayW
 generalize mayS s=ms at hyes hno ⊢
 obtain⟨id,pa,lf,⟨F1,L1,R1⟩,⟨F2,L2,R2⟩,⟨F3,L3,R3⟩,pk,by_⟩:=s
 dsimp only at hq0 hq1 hq2 hq3 hq4 ⊢
 have H0:=Lib.hid (BxAt.new w 32 #[.int .i64 id,.int .i64 pa,.bool lf,.int .u64 F1,.int .u64 L1,.int .u64 R1,.int .u64 F2,.int .u64 L2,.int .u64 R2,.int .u64 F3,.int .u64 L3,.int .u64 R3,.int .i64 pk,.int .i64 by_])
 have HY:=Lib.hid hyes;have HN:=Lib.hid hno
 have HQ:=Lib.hid (And.intro hq0 (And.intro hq1 (And.intro hq2 (And.intro hq3 hq4))))
 clear hyes hno hq0 hq1 hq2 hq3 hq4
 go_enter Tryz.func129,Tryz.ntmps129
 go_wp2_with fail
 go_loopw [11] (fun v11 W=>∃ k:Nat,v11=.int .i64 k∧k≤5∧(∀ j,j < k→ask j=true)∧BxAt w W 32 #[.int .i64 id,.int .i64 pa,.bool lf,.int .u64 F1,.int .u64 L1,.int .u64 R1,.int .u64 F2,.int .u64 L2,.int .u64 R2,.int .u64 F3,.int .u64 L3,.int .u64 R3,.int .i64 pk,.int .i64 by_]) (fun v11 _=>(5 - Go.RowKit.intOf v11).toNat)
 case atStart=>exact⟨0,rfl,by omega,fun j hj=>by omega,H0.out⟩
 case round =>
  obtain⟨k,rfl,hk,hlow,hbx⟩:=hrel
  have HL:=Lib.hid hlow
  have H:=Lib.hid hbx
  clear hlow hbx H0
  rcases (show k=0∨k=1∨k=2∨k=3∨k=4∨k=5 by omega) with rfl | rfl | rfl | rfl | rfl | rfl
  ·have hq:=HQ.out.1
   obtain⟨b,hb⟩:∃ b,ask 0=b:=⟨_,rfl⟩
   rw [hb] at hq
   have HB:=Lib.hid hb
   have hb1:=(Below.refl wr.heap.size wr).alloc (Nat.le_refl _) (.cells #[.func (.func 157) #[] #[],.int .i64 130] 222)
   have hn1:=Blk.new wr 222 #[.func (.func 157) #[] #[],.int .i64 130]
   have H1:=Lib.hid (And.intro (H.out.step hb1) hn1)
   clear hb hb1 hn1
   have i0:∀ w,(Instr.index 223 (.agg #[.func (.func 157) #[] #[],.int .i64 130,.func (.func 158) #[] #[],.int .i64 30,.func (.func 159) #[] #[],.int .i64 130,.func (.func 160) #[] #[],.int .i64 130,.func (.func 161) #[] #[],.int .i64 130]) (.int .i64 0)).run Tryz.prog w=.ok (.agg #[.func (.func 157) #[] #[],.int .i64 130]) w:=fun _=>by kernel_rfl
   go_upto_region 4 with fail
   clear i0
   generalize wr.alloc (.cells #[.func (.func 157) #[] #[],.int .i64 130] 222)=W1 at H1 ⊢
   have c0:=H1.out.2.cell 0;have c1:=H1.out.2.cell 1
   simp only [lTA,lCZ,lCS] at c0 c1
   have k0:=H1.out.1.1.cell 0;have k1:=H1.out.1.1.cell 1;have k2:=H1.out.1.1.cell 2;have k3:=H1.out.1.1.cell 3;have k4:=H1.out.1.1.cell 4;have k5:=H1.out.1.1.cell 5;have k6:=H1.out.1.1.cell 6;have k7:=H1.out.1.1.cell 7;have k8:=H1.out.1.1.cell 8;have k9:=H1.out.1.1.cell 9;have k10:=H1.out.1.1.cell 10;have k11:=H1.out.1.1.cell 11;have k12:=H1.out.1.1.cell 12;have k13:=H1.out.1.1.cell 13;simp only [lTA,lCZ,lCS] at k0 k1 k2 k3 k4 k5 k6 k7 k8 k9 k10 k11 k12 k13
   cases b
   all_goals
    go_wp2_with (go_at_call 157;(with_reducible refine (hq _).mono ?_);rintro e W2 ⟨rfl,hb2⟩;have H2:=Lib.hid (And.intro (H1.out.1.step hb2) (H1.out.2.below hb2 H1.out.2.lt));clear H1 hb2 c0 c1;clear k0 k1 k2 k3 k4 k5 k6 k7 k8 k9 k10 k11 k12 k13;have c1:=H2.out.2.cell 1;simp only [lTA,lCZ,lCS] at c1)
   ·go_ret
    exact⟨_,rfl,by rw [HN.out 0 (by decide) HB.out];rfl,H2.out.1.2⟩
   ·go_roundw
    case measure=>(simp [Go.RowKit.intOf];try omega)
    case rel=>exact⟨1,by go_num,by omega,fun j hj=>by
     by_cases e:j=0
     ·subst e;exact HB.out
     ·exact HL.out j (by omega),H2.out.1⟩
  ·have hq:=HQ.out.2.1
   obtain⟨b,hb⟩:∃ b,ask 1=b:=⟨_,rfl⟩
   rw [hb] at hq
   have HB:=Lib.hid hb
   have hb1:=(Below.refl wr.heap.size wr).alloc (Nat.le_refl _) (.cells #[.func (.func 158) #[] #[],.int .i64 30] 222)
   have hn1:=Blk.new wr 222 #[.func (.func 158) #[] #[],.int .i64 30]
   have H1:=Lib.hid (And.intro (H.out.step hb1) hn1)
   clear hb hb1 hn1
   have i0:∀ w,(Instr.index 223 (.agg #[.func (.func 157) #[] #[],.int .i64 130,.func (.func 158) #[] #[],.int .i64 30,.func (.func 159) #[] #[],.int .i64 130,.func (.func 160) #[] #[],.int .i64 130,.func (.func 161) #[] #[],.int .i64 130]) (.int .i64 1)).run Tryz.prog w=.ok (.agg #[.func (.func 158) #[] #[],.int .i64 30]) w:=fun _=>by kernel_rfl
   go_upto_region 4 with fail
   clear i0
   generalize wr.alloc (.cells #[.func (.func 158) #[] #[],.int .i64 30] 222)=W1 at H1 ⊢
   have c0:=H1.out.2.cell 0;have c1:=H1.out.2.cell 1
   simp only [lTA,lCZ,lCS] at c0 c1
   have k0:=H1.out.1.1.cell 0;have k1:=H1.out.1.1.cell 1;have k2:=H1.out.1.1.cell 2;have k3:=H1.out.1.1.cell 3;have k4:=H1.out.1.1.cell 4;have k5:=H1.out.1.1.cell 5;have k6:=H1.out.1.1.cell 6;have k7:=H1.out.1.1.cell 7;have k8:=H1.out.1.1.cell 8;have k9:=H1.out.1.1.cell 9;have k10:=H1.out.1.1.cell 10;have k11:=H1.out.1.1.cell 11;have k12:=H1.out.1.1.cell 12;have k13:=H1.out.1.1.cell 13;simp only [lTA,lCZ,lCS] at k0 k1 k2 k3 k4 k5 k6 k7 k8 k9 k10 k11 k12 k13
   cases b
   all_goals
    go_wp2_with (go_at_call 158;(with_reducible refine (hq _).mono ?_);rintro e W2 ⟨rfl,hb2⟩;have H2:=Lib.hid (And.intro (H1.out.1.step hb2) (H1.out.2.below hb2 H1.out.2.lt));clear H1 hb2 c0 c1;clear k0 k1 k2 k3 k4 k5 k6 k7 k8 k9 k10 k11 k12 k13;have c1:=H2.out.2.cell 1;simp only [lTA,lCZ,lCS] at c1)
   ·go_ret
    exact⟨_,rfl,by rw [HN.out 1 (by decide) HB.out];rfl,H2.out.1.2⟩
   ·go_roundw
    case measure=>(simp [Go.RowKit.intOf];try omega)
    case rel=>exact⟨2,by go_num,by omega,fun j hj=>by
     by_cases e:j=1
     ·subst e;exact HB.out
     ·exact HL.out j (by omega),H2.out.1⟩
  ·have hq:=HQ.out.2.2.1
   obtain⟨b,hb⟩:∃ b,ask 2=b:=⟨_,rfl⟩
   rw [hb] at hq
   have HB:=Lib.hid hb
   have hb1:=(Below.refl wr.heap.size wr).alloc (Nat.le_refl _) (.cells #[.func (.func 159) #[] #[],.int .i64 130] 222)
   have hn1:=Blk.new wr 222 #[.func (.func 159) #[] #[],.int .i64 130]
   have H1:=Lib.hid (And.intro (H.out.step hb1) hn1)
   clear hb hb1 hn1
   have i0:∀ w,(Instr.index 223 (.agg #[.func (.func 157) #[] #[],.int .i64 130,.func (.func 158) #[] #[],.int .i64 30,.func (.func 159) #[] #[],.int .i64 130,.func (.func 160) #[] #[],.int .i64 130,.func (.func 161) #[] #[],.int .i64 130]) (.int .i64 2)).run Tryz.prog w=.ok (.agg #[.func (.func 159) #[] #[],.int .i64 130]) w:=fun _=>by kernel_rfl
   go_upto_region 4 with fail
   clear i0
   generalize wr.alloc (.cells #[.func (.func 159) #[] #[],.int .i64 130] 222)=W1 at H1 ⊢
   have c0:=H1.out.2.cell 0;have c1:=H1.out.2.cell 1
   simp only [lTA,lCZ,lCS] at c0 c1
   have k0:=H1.out.1.1.cell 0;have k1:=H1.out.1.1.cell 1;have k2:=H1.out.1.1.cell 2;have k3:=H1.out.1.1.cell 3;have k4:=H1.out.1.1.cell 4;have k5:=H1.out.1.1.cell 5;have k6:=H1.out.1.1.cell 6;have k7:=H1.out.1.1.cell 7;have k8:=H1.out.1.1.cell 8;have k9:=H1.out.1.1.cell 9;have k10:=H1.out.1.1.cell 10;have k11:=H1.out.1.1.cell 11;have k12:=H1.out.1.1.cell 12;have k13:=H1.out.1.1.cell 13;simp only [lTA,lCZ,lCS] at k0 k1 k2 k3 k4 k5 k6 k7 k8 k9 k10 k11 k12 k13
   cases b
   all_goals
    go_wp2_with (go_at_call 159;(with_reducible refine (hq _).mono ?_);rintro e W2 ⟨rfl,hb2⟩;have H2:=Lib.hid (And.intro (H1.out.1.step hb2) (H1.out.2.below hb2 H1.out.2.lt));clear H1 hb2 c0 c1;clear k0 k1 k2 k3 k4 k5 k6 k7 k8 k9 k10 k11 k12 k13;have c1:=H2.out.2.cell 1;simp only [lTA,lCZ,lCS] at c1)
   ·go_ret
    exact⟨_,rfl,by rw [HN.out 2 (by decide) HB.out];rfl,H2.out.1.2⟩
   ·go_roundw
    case measure=>(simp [Go.RowKit.intOf];try omega)
    case rel=>exact⟨3,by go_num,by omega,fun j hj=>by
     by_cases e:j=2
     ·subst e;exact HB.out
     ·exact HL.out j (by omega),H2.out.1⟩
  ·have hq:=HQ.out.2.2.2.1
   obtain⟨b,hb⟩:∃ b,ask 3=b:=⟨_,rfl⟩
   rw [hb] at hq
   have HB:=Lib.hid hb
   have hb1:=(Below.refl wr.heap.size wr).alloc (Nat.le_refl _) (.cells #[.func (.func 160) #[] #[],.int .i64 130] 222)
   have hn1:=Blk.new wr 222 #[.func (.func 160) #[] #[],.int .i64 130]
   have H1:=Lib.hid (And.intro (H.out.step hb1) hn1)
   clear hb hb1 hn1
   have i0:∀ w,(Instr.index 223 (.agg #[.func (.func 157) #[] #[],.int .i64 130,.func (.func 158) #[] #[],.int .i64 30,.func (.func 159) #[] #[],.int .i64 130,.func (.func 160) #[] #[],.int .i64 130,.func (.func 161) #[] #[],.int .i64 130]) (.int .i64 3)).run Tryz.prog w=.ok (.agg #[.func (.func 160) #[] #[],.int .i64 130]) w:=fun _=>by kernel_rfl
   go_upto_region 4 with fail
   clear i0
   generalize wr.alloc (.cells #[.func (.func 160) #[] #[],.int .i64 130] 222)=W1 at H1 ⊢
   have c0:=H1.out.2.cell 0;have c1:=H1.out.2.cell 1
   simp only [lTA,lCZ,lCS] at c0 c1
   have k0:=H1.out.1.1.cell 0;have k1:=H1.out.1.1.cell 1;have k2:=H1.out.1.1.cell 2;have k3:=H1.out.1.1.cell 3;have k4:=H1.out.1.1.cell 4;have k5:=H1.out.1.1.cell 5;have k6:=H1.out.1.1.cell 6;have k7:=H1.out.1.1.cell 7;have k8:=H1.out.1.1.cell 8;have k9:=H1.out.1.1.cell 9;have k10:=H1.out.1.1.cell 10;have k11:=H1.out.1.1.cell 11;have k12:=H1.out.1.1.cell 12;have k13:=H1.out.1.1.cell 13;simp only [lTA,lCZ,lCS] at k0 k1 k2 k3 k4 k5 k6 k7 k8 k9 k10 k11 k12 k13
   cases b
   all_goals
    go_wp2_with (go_at_call 160;(with_reducible refine (hq _).mono ?_);rintro e W2 ⟨rfl,hb2⟩;have H2:=Lib.hid (And.intro (H1.out.1.step hb2) (H1.out.2.below hb2 H1.out.2.lt));clear H1 hb2 c0 c1;clear k0 k1 k2 k3 k4 k5 k6 k7 k8 k9 k10 k11 k12 k13;have c1:=H2.out.2.cell 1;simp only [lTA,lCZ,lCS] at c1)
   ·go_ret
    exact⟨_,rfl,by rw [HN.out 3 (by decide) HB.out];rfl,H2.out.1.2⟩
   ·go_roundw
    case measure=>(simp [Go.RowKit.intOf];try omega)
    case rel=>exact⟨4,by go_num,by omega,fun j hj=>by
     by_cases e:j=3
     ·subst e;exact HB.out
     ·exact HL.out j (by omega),H2.out.1⟩
  ·have hq:=HQ.out.2.2.2.2
   obtain⟨b,hb⟩:∃ b,ask 4=b:=⟨_,rfl⟩
   rw [hb] at hq
   have HB:=Lib.hid hb
   have hb1:=(Below.refl wr.heap.size wr).alloc (Nat.le_refl _) (.cells #[.func (.func 161) #[] #[],.int .i64 130] 222)
   have hn1:=Blk.new wr 222 #[.func (.func 161) #[] #[],.int .i64 130]
   have H1:=Lib.hid (And.intro (H.out.step hb1) hn1)
   clear hb hb1 hn1
   have i0:∀ w,(Instr.index 223 (.agg #[.func (.func 157) #[] #[],.int .i64 130,.func (.func 158) #[] #[],.int .i64 30,.func (.func 159) #[] #[],.int .i64 130,.func (.func 160) #[] #[],.int .i64 130,.func (.func 161) #[] #[],.int .i64 130]) (.int .i64 4)).run Tryz.prog w=.ok (.agg #[.func (.func 161) #[] #[],.int .i64 130]) w:=fun _=>by kernel_rfl
   go_upto_region 4 with fail
   clear i0
   generalize wr.alloc (.cells #[.func (.func 161) #[] #[],.int .i64 130] 222)=W1 at H1 ⊢
   have c0:=H1.out.2.cell 0;have c1:=H1.out.2.cell 1
   simp only [lTA,lCZ,lCS] at c0 c1
   have k0:=H1.out.1.1.cell 0;have k1:=H1.out.1.1.cell 1;have k2:=H1.out.1.1.cell 2;have k3:=H1.out.1.1.cell 3;have k4:=H1.out.1.1.cell 4;have k5:=H1.out.1.1.cell 5;have k6:=H1.out.1.1.cell 6;have k7:=H1.out.1.1.cell 7;have k8:=H1.out.1.1.cell 8;have k9:=H1.out.1.1.cell 9;have k10:=H1.out.1.1.cell 10;have k11:=H1.out.1.1.cell 11;have k12:=H1.out.1.1.cell 12;have k13:=H1.out.1.1.cell 13;simp only [lTA,lCZ,lCS] at k0 k1 k2 k3 k4 k5 k6 k7 k8 k9 k10 k11 k12 k13
   cases b
   all_goals
    go_wp2_with (go_at_call 161;(with_reducible refine (hq _).mono ?_);rintro e W2 ⟨rfl,hb2⟩;have H2:=Lib.hid (And.intro (H1.out.1.step hb2) (H1.out.2.below hb2 H1.out.2.lt));clear H1 hb2 c0 c1;clear k0 k1 k2 k3 k4 k5 k6 k7 k8 k9 k10 k11 k12 k13;have c1:=H2.out.2.cell 1;simp only [lTA,lCZ,lCS] at c1)
   ·go_ret
    exact⟨_,rfl,by rw [HN.out 4 (by decide) HB.out];rfl,H2.out.1.2⟩
   ·go_roundw
    case measure=>(simp [Go.RowKit.intOf];try omega)
    case rel=>exact⟨5,by go_num,by omega,fun j hj=>by
     by_cases e:j=4
     ·subst e;exact HB.out
     ·exact HL.out j (by omega),H2.out.1⟩
  ·go_wp2_with fail
   go_ret
   exact⟨_,rfl,by rw [HY.out HL.out];rfl,H.out.2⟩
end
end Go.Proofs.YtmmeopjemkjllaaGreat
