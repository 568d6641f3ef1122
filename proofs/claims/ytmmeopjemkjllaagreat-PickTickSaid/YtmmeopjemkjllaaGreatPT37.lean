/- Lemmas of the claim. No conditions beyond those that each states. -/
import Derived.Test.YtmmeopjemkjllaaGreatPT36
set_option linter.unusedVariables false
set_option linter.unusedSimpArgs false
set_option maxRecDepth 100000
set_option maxHeartbeats 8000000
namespace Go.Proofs.YtmmeopjemkjllaaGreat
section
open Go.RowKit Go.Maps
attribute [local go_sem ↓] Go.wp_at_zero Go.wp_at_succ
attribute [local go_sem] quietR quietAtR quietUponR midAt midUpon
def EnvO2 (B D k:Nat)(now:Int):Ob:=Star (BoxO D 28 #[.int .u64 now]) (BoxO B 24 #[.pointer (some ⟨k,0,none⟩)])
theorem envO2 (B D k:Nat)(now:Int):EnvW (EnvO2 B D k now) B D k now :=
 ⟨⟨(good_box _ _ _).star (good_box _ _ _),fun ⟨_,_,_,_,_,h⟩=>h.1⟩,fun ⟨_,_,_,_,h,_⟩=>h.1⟩
structure WakeWay (k mb:Nat)(ps:Int→Nat)(P:Pk)(leaf now:Int)(l:List Int)(I1 I2:Pk→List Int→Prop):Prop where
 up:Up P leaf l
 up1:Up (l.foldl (wake1 now) P) leaf l
 i1:I1 P l
 i2:I2 (l.foldl (wake1 now) P) l
 c1:∀ E B D,EnvW E B D k now→Climb 42 #[.pointer (some ⟨B,0,none⟩),.pointer (some ⟨D,0,none⟩)] E k mb ps (wake1 now) I1
 c2:∀ E B,EnvP E B k→Climb 45 #[.pointer (some ⟨B,0,none⟩)] E k mb ps (noteP owL) I2
theorem po_wake {W:World} {k mb:Nat} {ps:Int→Nat} {P:Pk} {leaf now:Int} {l:List Int} {I1 I2:Pk→List Int→Prop} {c:Cls} (hw:WakeWay k mb ps P leaf now l I1 I2)(h1:1≤leaf)(hid:(Lit.int .i64 leaf).wf=true)(hc:lookM P leaf=some c)(hlf:c.lf=true)(hsh:c.sh=true) :
  Acts (fun e=>e=.returned (.tuple #[])) (PkX k mb ps P) (PkX k mb ps (l.foldl (noteP owL) (l.foldl (wake1 now) P))) 11 #[.pointer (some ⟨k,0,none⟩),.int .i64 leaf,.int .u64 now] Tryz.prog W:=fun A h=>by
 have hs0:=((Sx.start (P:=PkX k mb ps P) h).alloc (good_pkX _ _ _ _) #[.pointer (some ⟨k,0,none⟩)] 24).alloc ((good_box _ _ _).star (good_pkX _ _ _ _)) #[.int .u64 now] 28
 rw [World.size_alloc] at hs0
 have H0:=Lib.hid hs0
 have HW:=Lib.hid (And.intro hw (And.intro hid (And.intro hc (And.intro hlf hsh))))
 clear h hs0 hw hid hc hlf hsh
 go_enter Tryz.func11,Tryz.ntmps11
 go_upto_region 1 with fail
 try simp only [World.size_alloc]
 generalize (W.alloc (.cells #[.pointer (some ⟨k,0,none⟩)] 24)).alloc (.cells #[.int .u64 now] 28)=W1 at H0 ⊢
 obtain⟨B,hB⟩:∃ B,B=W.heap.size:=⟨_,rfl⟩
 obtain⟨D,hD⟩:∃ D,D=W.heap.size+1:=⟨_,rfl⟩
 rw [← hD,← hB] at H0 ⊢
 clear hB hD
 have h1':Sx W A W1 (Star (EnvO2 B D k now) (PkX k mb ps P)):=H0.out.weak Star.unassoc
 obtain⟨S2,hS2⟩:=h1'.env
 obtain⟨l9,f9,q9,hr⟩:=hS2.cls HW.out.2.2.1
 have b0:=H0.out.rest.box.cell 0
 have c1:=hr.blk.cell 1
 have c2:=hr.blk.cell 2
 unfold clsC at c1 c2
 rw [HW.out.2.2.2.1] at c1
 rw [HW.out.2.2.2.2] at c2
 simp only [lTA,lCZ,lCS] at b0 c1 c2
 have ha:=pat_any leaf HW.out.2.1 hS2
 unfold cpV at ha
 rw [HW.out.2.2.1] at ha
 dsimp only at ha
 have HD1:=Lib.hid (h1'.act0 (above_wake B D k mb ps _ (envO2 B D k now).good (wake1 now) I1 (HW.out.1.c1 _ B D (envO2 B D k now)) leaf l P W1 HW.out.1.up HW.out.1.i1))
 clear hS2 hr h1' H0
 go_upto_region 4 with (first
  | (go_at_call 34;refine ha.mono ?_;rintro e w1 ⟨rfl,rfl⟩)
  | (go_at_call 41;refine HD1.out.mono ?_;rintro e w2 ⟨rfl,h2⟩;have H2:=Lib.hid h2;clear h2))
 obtain⟨S3,hS3⟩:=H2.out.first
 have b2:=((envO2 B D k now).box hS3).cell 0
 simp only [lTA,lCZ,lCS] at b2
 have HD2:=Lib.hid (H2.out.act0 (above_note B k mb ps _ (envO2 B D k now).good (noteP owL) I2 (HW.out.1.c2 _ B (envO2 B D k now).toEnvP) leaf l _ w2 HW.out.1.up1 HW.out.1.i2))
 clear hS3 H2 b0 c1 c2
 go_wp2_with (go_at_call 41;refine HD2.out.mono ?_;rintro e w3 ⟨rfl,h3⟩;have H3:=Lib.hid h3;clear h3)
 go_returns
 exact⟨rfl,H3.out.rest.done⟩
end
section
open Go.RowKit Go.Maps
attribute [local go_sem ↓] Go.wp_at_zero Go.wp_at_succ
attribute [local go_sem] quietR quietAtR quietUponR midAt midUpon
def EnvO3 (Q B D k:Nat)(now:Int)(sl:Bool):Ob:=Star (BoxO Q 4 #[.bool sl]) (EnvO2 B D k now)
theorem envO3 (Q B D k:Nat)(now:Int)(sl:Bool):EnvS (EnvO3 Q B D k now sl) B Q k sl :=
 ⟨⟨(good_box _ _ _).star (envO2 B D k now).good,fun ⟨_,_,_,_,_,h⟩=>(envO2 B D k now).box h⟩,fun ⟨_,_,_,_,h,_⟩=>h.1⟩
structure SentWay (k mb:Nat)(ps:Int→Nat)(P:Pk)(leaf n:Int)(more:Bool)(l:List Int)(I1 I2:Pk→List Int→Prop):Prop where
 up:Up P leaf l
 up1:Up (l.foldl (sent1 reachR n) P) leaf l
 i1:I1 P l
 i2:I2 (l.foldl (sent1 reachR n) P) l
 b1:PkB (l.foldl (sent1 reachR n) P)
 c1:∀ E B D,EnvW E B D k n→Climb 55 #[.pointer (some ⟨D,0,none⟩),.pointer (some ⟨B,0,none⟩)] E k mb ps (sent1 reachR n) I1
 c2:∀ E B Q,EnvS E B Q k (!more && awP (l.foldl (sent1 reachR n) P) leaf)→Climb 57 #[.pointer (some ⟨Q,0,none⟩),.pointer (some ⟨B,0,none⟩)] E k mb ps (sent2 owL (!more && awP (l.foldl (sent1 reachR n) P) leaf)) I2
theorem po_sent {W:World} {k mb:Nat} {ps:Int→Nat} {P:Pk} {leaf n:Int} {more:Bool} {l:List Int} {I1 I2:Pk→List Int→Prop} {c:Cls} (hw:SentWay k mb ps P leaf n more l I1 I2)(h1:1≤leaf)(hid:(Lit.int .i64 leaf).wf=true)(hc:lookM P leaf=some c)(hlf:c.lf=true) :
  Acts (fun e=>e=.returned (.tuple #[])) (PkX k mb ps P) (PkX k mb ps (l.foldl (sent2 owL (!more && awP (l.foldl (sent1 reachR n) P) leaf)) (l.foldl (sent1 reachR n) P))) 15 #[.pointer (some ⟨k,0,none⟩),.int .i64 leaf,.int .u64 n,.bool more] Tryz.prog W:=fun A h=>by
 have hs0:=((Sx.start (P:=PkX k mb ps P) h).alloc (good_pkX _ _ _ _) #[.pointer (some ⟨k,0,none⟩)] 24).alloc ((good_box _ _ _).star (good_pkX _ _ _ _)) #[.int .u64 n] 28
 rw [World.size_alloc] at hs0
 have H0:=Lib.hid hs0
 have HW:=Lib.hid (And.intro hw (And.intro hid (And.intro hc hlf)))
 obtain⟨sl,hsl⟩:∃ sl,sl=(!more && awP (l.foldl (sent1 reachR n) P) leaf):=⟨_,rfl⟩
 rw [← hsl]
 have HSL:=Lib.hid hsl
 clear h hs0 hw hid hc hlf hsl
 go_enter Tryz.func15,Tryz.ntmps15
 go_upto_region 1 with fail
 try simp only [World.size_alloc]
 generalize (W.alloc (.cells #[.pointer (some ⟨k,0,none⟩)] 24)).alloc (.cells #[.int .u64 n] 28)=W1 at H0 ⊢
 obtain⟨B,hB⟩:∃ B,B=W.heap.size:=⟨_,rfl⟩
 obtain⟨D,hD⟩:∃ D,D=W.heap.size+1:=⟨_,rfl⟩
 rw [← hD,← hB] at H0 ⊢
 clear hB hD
 have h1':Sx W A W1 (Star (EnvO2 B D k n) (PkX k mb ps P)):=H0.out.weak Star.unassoc
 obtain⟨S2,hS2⟩:=h1'.env
 obtain⟨l9,f9,q9,hr⟩:=hS2.cls HW.out.2.2.1
 have b0:=H0.out.rest.box.cell 0
 have c1:=hr.blk.cell 1
 unfold clsC at c1
 rw [HW.out.2.2.2] at c1
 simp only [lTA,lCZ,lCS] at b0 c1
 have ha:=pat_any leaf HW.out.2.1 hS2
 unfold cpV at ha
 rw [HW.out.2.2.1] at ha
 dsimp only at ha
 have HD1:=Lib.hid (h1'.act0 (above_gain D B k mb ps _ (envO2 B D k n).good (sent1 reachR n) I1 (HW.out.1.c1 _ B D (envO2 B D k n)) leaf l P W1 HW.out.1.up HW.out.1.i1))
 clear hS2 hr h1' H0
 go_upto_region 4 with (first
  | (go_at_call 34;refine ha.mono ?_;rintro e w1 ⟨rfl,rfl⟩)
  | (go_at_call 41;refine HD1.out.mono ?_;rintro e w2 ⟨rfl,h2⟩;have H2:=Lib.hid h2;clear h2))
 obtain⟨S3,hS3⟩:=H2.out.first
 obtain⟨S4,hS4⟩:=H2.out.env
 have b2:=((envO2 B D k n).box hS3).cell 0
 simp only [lTA,lCZ,lCS] at b2
 have haw:=pawake_any leaf HW.out.2.1 hS4 HW.out.1.b1
 have hlater:∀ w3:World,Below w2.heap.size w2 w3→Sx W A (w3.alloc (.cells #[.bool sl] 4)) (Star (EnvO3 w3.heap.size B D k n sl) (PkX k mb ps (l.foldl (sent1 reachR n) P))):=fun w3 hb3 =>
  ((H2.out.later ((envO2 B D k n).good.star (good_pkX _ _ _ _)) hb3).alloc ((envO2 B D k n).good.star (good_pkX _ _ _ _)) #[.bool sl] 4).weak Star.unassoc
 have HL:=Lib.hid hlater
 clear hS3 hS4 H2 b0 c1 hlater HD1 ha
 cases more with
 | true =>
  clear haw
  go_upto_region 5 with fail
  have hsl:sl=false:=HSL.out
  have hq:=HL.out w2 (Below.refl _ _)
  obtain⟨S5,hS5⟩:=hq.first
  have b5:=((envO3 _ B D k n _).box hS5).cell 0
  simp only [lTA,lCZ,lCS] at b5
  have hc2:=HW.out.1.c2 (EnvO3 w2.heap.size B D k n sl) B w2.heap.size (by rw [← HSL.out];exact envO3 _ _ _ _ _ _)
  rw [← HSL.out] at hc2
  have HD2:=Lib.hid (hq.act0 (above_rest w2.heap.size B k mb ps _ (envO3 _ B D k n sl).good (sent2 owL sl) I2 hc2 leaf l _ _ HW.out.1.up1 HW.out.1.i2))
  clear hS5 hc2 b2
  rw [hsl] at hq HD2 b5
  go_wp2_with (go_at_call 41;refine HD2.out.mono ?_;rintro e w6 ⟨rfl,h6⟩;have H6:=Lib.hid h6;clear h6)
  go_returns
  rw [hsl]
  exact⟨rfl,H6.out.rest.done⟩
 | false =>
  go_upto_region 5 with (go_at_call 23;refine haw.mono ?_;rintro e w3 ⟨rfl,hb3⟩;have H3:=Lib.hid (HL.out _ hb3);clear hb3)
  have hsl:sl=awP (l.foldl (sent1 reachR n) P) leaf:=HSL.out
  have hq:=H3.out
  obtain⟨S5,hS5⟩:=hq.first
  have b5:=((envO3 _ B D k n _).box hS5).cell 0
  simp only [lTA,lCZ,lCS] at b5
  have hc2:=HW.out.1.c2 (EnvO3 w3.heap.size B D k n sl) B w3.heap.size (by rw [← HSL.out];exact envO3 _ _ _ _ _ _)
  rw [← HSL.out] at hc2
  have HD2:=Lib.hid (hq.act0 (above_rest w3.heap.size B k mb ps _ (envO3 _ B D k n sl).good (sent2 owL sl) I2 hc2 leaf l _ _ HW.out.1.up1 HW.out.1.i2))
  clear hS5 hc2 b2
  rw [hsl] at hq HD2 b5
  go_wp2_with (go_at_call 41;refine HD2.out.mono ?_;rintro e w6 ⟨rfl,h6⟩;have H6:=Lib.hid h6;clear h6)
  go_returns
  rw [hsl]
  exact⟨rfl,H6.out.rest.done⟩
end
section
open Go.RowKit Go.Maps
structure RnZ (n:Nat)(r:Rn):Prop where
 x:0≤r.x∧r.x≤9223372036854775808
 few:r.A.length≤n
structure FamZ (n:Nat)(F:Fam):Prop where
 rise:Rising F.m
 v:∀ x m,lookM F.m x=some m→0≤m.v∧m.v≤9223372036854775808
 tot:∀ x m,lookM F.m x=some m→0≤m.tot∧m.tot≤4611686018427387904
 rn:∀ x m,lookM F.m x=some m→RnZ n m.rn
 mark:0≤F.mark∧F.mark≤9223372036854775808
 len:F.m.length≤n
structure PkZ (n:Nat)(P:Pk):Prop where
 tot:∀ id c,lookM P id=some c→0≤c.tot∧c.tot≤4611686018427387904
 few:∀ id c,lookM P id=some c→c.tr.length≤n
 lim:∀ id c x,lookM P id=some c→c.lim=some x→RnZ n x
 fam:∀ id c,lookM P id=some c→FamZ n c.fam
 un:∀ id c,lookM P id=some c→-(n:Int)≤c.un∧c.un≤n
section
variable {n n' : Nat} {F : Fam} {P : Pk}
theorem RnZ.mono {r:Rn} (h:RnZ n r)(hn:n≤n'):RnZ n' r:=⟨h.x,by have:=h.few;omega⟩
theorem FamZ.mono (h:FamZ n F)(hn:n≤n'):FamZ n' F:=⟨h.rise,h.v,h.tot,fun x m hx=>(h.rn x m hx).mono hn,h.mark,by have:=h.len;omega⟩
theorem PkZ.mono (h:PkZ n P)(hn:n≤n'):PkZ n' P:=⟨h.tot,fun i c hc=>by have:=h.few i c hc;omega,fun i c x hc hx=>(h.lim i c x hc hx).mono hn,fun i c hc=>(h.fam i c hc).mono hn,fun i c hc=>by have:=h.un i c hc;omega⟩
theorem FamZ.famN (h:FamZ n F)(hn:n < 100000):FamN F:=⟨h.v,h.tot,fun x m hx=>by have:=(h.rn x m hx).few;omega,h.mark,by have:=h.len;omega⟩
theorem PkZ.pkM (h:PkZ n P)(hn:n < 100000)(hB:PkB P):PkM P :=
 ⟨⟨hB,fun id c hc=>by have:=h.tot id c hc;unfold U;omega,fun id c hc=>by have:=h.few id c hc;omega⟩,fun id c hc=>(h.fam id c hc).famN hn,fun id c x hc hx=>by have:=(h.lim id c x hc hx).few;omega⟩
theorem back_is (v:Int→Int) {x:Int} (y:Int)(h0:0≤x)(h1:x≤9223372036854775808):∃ n,Back v x y n:=by
 by_cases hx:x=9223372036854775808
 ·exact⟨x,.inr (.inl ⟨hx,hx⟩)⟩
 by_cases hv:v 9223372036854775807 < y
 ·exact⟨_,.inl ⟨rfl,by omega,hv⟩⟩
 have key:∀ (k:Nat)(t:Int),x≤t→t < 9223372036854775808→t - x≤k→y≤v t→∃ n,Back v x y n:=by
  intro k
  induction k with
  | zero=>intro t a b c d;exact⟨t,.inr (.inr (.inl ⟨b,by omega,d⟩))⟩
  | succ k ih =>
   intro t a b c d
   by_cases ht:t=x
   ·exact⟨t,.inr (.inr (.inl ⟨b,by omega,d⟩))⟩
   ·by_cases hp:y≤v (t - 1)
    ·exact ih (t - 1) (by omega) (by omega) (by omega) hp
    ·exact⟨t,.inr (.inr (.inr ⟨b,by omega,d,by omega⟩))⟩
 exact key (9223372036854775807 - x).toNat 9223372036854775807 (by omega) (by omega) (by omega) (by omega)
theorem reachR_bd {r:Rn} (h:RnZ n r)(y:Int):0≤reachR r y∧reachR r y≤9223372036854775808:=by
 unfold reachR qR
 split
 ·unfold nevB;split <;> omega
 ·have hb:=back_is (fun t=>vA r.F r.L r.R r.A (max t r.x)) y h.x.1 h.x.2
  have hs:Back (fun t=>vA r.F r.L r.R r.A (max t r.x)) r.x y (ansI (fun t=>vA r.F r.L r.R r.A (max t r.x)) r.x y):=Classical.epsilon_spec hb
  have:=hs.x_le
  have:=hs.le_never
  have:=h.x
  omega
theorem rnZ_start {r:Rn} (h:RnZ n r)(t y:Int):RnZ (n+1) (startR r t y):=by
 have:=h.x
 refine⟨?_,?_⟩
 ·unfold startR nevC;dsimp only;omega
 ·unfold startR;dsimp only;rw [List.length_append];have:=h.few;simp only [List.length_cons,List.length_nil];omega
theorem owL_bd {o:Option Rn} (h:∀ x,o=some x→RnZ n x)(y:Int):0≤owL o y∧owL o y≤9223372036854775808:=by
 cases o with
 | none=>unfold owL;dsimp only;omega
 | some r=>exact reachR_bd (h r rfl) y
theorem famZ_put (h:FamZ n F) {id:Int} {m m':Mem} {mark:Int} (hm:lookM F.m id=some m)(hv:0≤m'.v∧m'.v≤9223372036854775808)(ht:0≤m'.tot∧m'.tot≤4611686018427387904)(hf:RnZ (n+1) m'.rn)(hk:0≤mark∧mark≤9223372036854775808):FamZ (n+1) ⟨putM F.m id m',mark⟩:=by
 have key:∀ x k,lookM (putM F.m id m') x=some k→k=m'∨lookM F.m x=some k:=fun x k hx=>by
  by_cases e:x=id
  ·subst e
   rw [look_put_same] at hx
   exact .inl (Option.some.inj hx).symm
  ·rw [look_put_other _ e] at hx
   exact .inr hx
 refine⟨rising_put _ _ h.rise,fun x k hx=>?_,fun x k hx=>?_,fun x k hx=>?_,hk,?_⟩
 ·rcases key x k hx with rfl | hx
  ·exact hv
  ·exact h.v x k hx
 ·rcases key x k hx with rfl | hx
  ·exact ht
  ·exact h.tot x k hx
 ·rcases key x k hx with rfl | hx
  ·exact hf
  ·exact (h.rn x k hx).mono (Nat.le_succ _)
 ·show (putM F.m id m').length≤n+1
  rw [put_len_same h.rise hm]
  have:=h.len
  omega
theorem famZ_sleep (h:FamZ n F)(id:Int):FamZ (n+1) (sleepF id F):=by
 unfold sleepF
 cases hm:lookM F.m id with
 | none=>exact h.mono (Nat.le_succ _)
 | some m=>exact famZ_put h hm (h.v id m hm) (h.tot id m hm) ((h.rn id m hm).mono (Nat.le_succ _)) h.mark
theorem famZ_wake (h:FamZ n F)(id:Int):FamZ (n+1) (wakeF id F):=by
 unfold wakeF
 cases hm:lookM F.m id with
 | none=>exact h.mono (Nat.le_succ _)
 | some m =>
  dsimp only
  by_cases ha:m.aw=true
  ·rw [if_pos ha];exact h.mono (Nat.le_succ _)
  ·rw [if_neg ha]
   have hb:=startV_bound h.rise h.v h.mark hm
   have:=h.mark
   exact famZ_put h hm hb (h.tot id m hm) (rnZ_start (h.rn id m hm) _ _) (by omega)
theorem famZ_gain (h:FamZ n F)(id:Int) {k:Int} (hk:0≤k):FamZ (n+1) (gainF reachR id k F):=by
 unfold gainF
 cases hm:lookM F.m id with
 | none=>exact h.mono (Nat.le_succ _)
 | some m =>
  dsimp only
  have ht:=h.tot id m hm
  have ht2:0≤m.tot+min k (capC - m.tot)∧m.tot+min k (capC - m.tot)≤4611686018427387904:=by unfold capC;omega
  by_cases ha:m.aw=true
  ·rw [if_pos ha]
   have hb:=reachR_bd (h.rn id m hm) (m.tot+min k (capC - m.tot))
   have:=h.mark
   exact famZ_put h hm hb ht2 ((h.rn id m hm).mono (Nat.le_succ _)) (by omega)
  ·rw [if_neg ha]
   exact famZ_put h hm (h.v id m hm) ht2 ((h.rn id m hm).mono (Nat.le_succ _)) h.mark
theorem famZ_add (h:FamZ n F)(id:Int)(c:Int × Int × Int):FamZ (n+1) (addF id c F):=by
 have key:∀ x k,lookM (putM F.m id (mem0 c)) x=some k→k=mem0 c∨lookM F.m x=some k:=fun x k hx=>by
  by_cases e:x=id
  ·subst e
   rw [look_put_same] at hx
   exact .inl (Option.some.inj hx).symm
  ·rw [look_put_other _ e] at hx
   exact .inr hx
 refine⟨rising_put _ _ h.rise,fun x k hx=>?_,fun x k hx=>?_,fun x k hx=>?_,h.mark,?_⟩
 ·rcases key x k hx with rfl | hx
  ·unfold mem0;dsimp only;omega
  ·exact h.v x k hx
 ·rcases key x k hx with rfl | hx
  ·unfold mem0;dsimp only;omega
  ·exact h.tot x k hx
 ·rcases key x k hx with rfl | hx
  ·exact⟨by unfold mem0 rn0;dsimp only;omega,Nat.zero_le _⟩
  ·exact (h.rn x k hx).mono (Nat.le_succ _)
 ·show (putM F.m id (mem0 c)).length≤n+1
  have:=h.len
  cases hl:lookM F.m id with
  | none=>rw [put_len_new _ hl];omega
  | some m=>rw [put_len_same h.rise hl];omega
theorem famZ_out (h:FamZ n F)(id:Int):FamZ n (outF id F):=by
 have key:∀ x k,lookM (delM F.m id) x=some k→lookM F.m x=some k:=fun x k hx=>by
  by_cases e:x=id
  ·subst e
   rw [look_del_same] at hx
   cases hx
  ·rwa [look_del_other e] at hx
 exact⟨rising_del h.rise _,fun x k hx=>h.v x k (key x k hx),fun x k hx=>h.tot x k (key x k hx),fun x k hx=>h.rn x k (key x k hx),h.mark,Nat.le_trans (del_length _ _) h.len⟩
theorem famZ_0:FamZ n fam0:=⟨List.Pairwise.nil,fun x m h=>(by cases h),fun x m h=>(by cases h),fun x m h=>(by cases h),by unfold fam0;dsimp only;omega,Nat.zero_le _⟩
theorem pkZ_upd (h:PkZ n P)(id:Int) {f:Cls→Cls} (hf:∀ c,lookM P id=some c→(0≤(f c).tot∧(f c).tot≤4611686018427387904)∧(f c).tr.length≤n+1∧(∀ x,(f c).lim=some x→RnZ (n+1) x)∧FamZ (n+1) (f c).fam∧(-(n:Int) - 1≤(f c).un∧(f c).un≤n+1)):PkZ (n+1) (updP P id f):=by
 have key:∀ j c',lookM (updP P id f) j=some c'→(∃ c,lookM P id=some c∧c'=f c)∨lookM P j=some c':=fun j c' hj=>by
  rw [look_upd] at hj
  by_cases e:j=id
  ·rw [if_pos e] at hj
   obtain⟨c,hc,rfl⟩:=Option.map_eq_some_iff.1 hj
   exact .inl ⟨c,hc,rfl⟩
  ·rw [if_neg e] at hj
   exact .inr hj
 refine⟨fun j c' hj=>?_,fun j c' hj=>?_,fun j c' x hj hx=>?_,fun j c' hj=>?_,fun j c' hj=>?_⟩
 ·rcases key j c' hj with ⟨c,hc,rfl⟩ | hj
  ·exact (hf c hc).1
  ·exact h.tot j c' hj
 ·rcases key j c' hj with ⟨c,hc,rfl⟩ | hj
  ·exact (hf c hc).2.1
  ·have:=h.few j c' hj;omega
 ·rcases key j c' hj with ⟨c,hc,rfl⟩ | hj
  ·exact (hf c hc).2.2.1 x hx
  ·exact (h.lim j c' x hj hx).mono (Nat.le_succ _)
 ·rcases key j c' hj with ⟨c,hc,rfl⟩ | hj
  ·exact (hf c hc).2.2.2.1
  ·exact (h.fam j c' hj).mono (Nat.le_succ _)
 ·rcases key j c' hj with ⟨c,hc,rfl⟩ | hj
  ·have:=(hf c hc).2.2.2.2;omega
  ·have:=h.un j c' hj;omega
theorem pkZ_updF (h:PkZ n P)(id:Int) {g:Fam→Fam} (hg:∀ F,FamZ n F→FamZ (n+1) (g F)):PkZ (n+1) (updF P id g):=by
 unfold updF
 cases paP P id with
 | none=>exact h.mono (Nat.le_succ _)
 | some q=>exact pkZ_upd h q fun c hc=>⟨h.tot q c hc,by have:=h.few _ _ hc;show c.tr.length≤n+1;omega,fun x hx=>(h.lim _ _ x hc hx).mono (Nat.le_succ _),hg _ (h.fam _ _ hc),by have:=h.un _ _ hc;show -(n:Int) - 1≤c.un∧c.un≤n+1;omega⟩
theorem pkZ_note {ow:Option Rn→Int→Int} (h:PkZ n P)(id:Int):PkZ (n+1) (noteP ow P id):=by
 unfold noteP
 cases paP P id with
 | none=>exact h.mono (Nat.le_succ _)
 | some q =>
  refine pkZ_upd h q fun c hc=>⟨h.tot q c hc,?_,fun x hx=>(h.lim _ _ x hc hx).mono (Nat.le_succ _),(h.fam _ _ hc).mono (Nat.le_succ _),by have:=h.un _ _ hc;show -(n:Int) - 1≤c.un∧c.un≤n+1;omega⟩
  have:=h.few _ _ hc
  dsimp only
  split
  ·have:=put_le c.tr id (vP P id) (fitP ow P id);omega
  ·have:=drop_le c.tr id;omega
theorem pkZ_wake1 (h:PkZ n P)(now id:Int):PkZ (n+2) (wake1 now P id):=by
 unfold wake1
 split
 ·exact h.mono (by omega)
 ·refine pkZ_upd (pkZ_updF h id fun F hF=>famZ_wake hF id) id fun c hc=>?_
  have h1:=pkZ_updF h id fun F hF=>famZ_wake hF id
  refine⟨h1.tot id c hc,by have:=h1.few _ _ hc;show c.tr.length≤n+1+1;omega,fun x hx=>?_,(h1.fam _ _ hc).mono (Nat.le_succ _),by have:=h1.un _ _ hc;show -((n+1:Nat):Int) - 1≤c.un∧c.un≤((n+1:Nat):Int)+1;omega⟩
  obtain⟨r,hr,rfl⟩:=Option.map_eq_some_iff.1 hx
  exact rnZ_start (h1.lim _ _ r hc hr) _ _
theorem pkZ_sent1 (h:PkZ n P) {k:Int} (hk:0≤k)(id:Int):PkZ (n+2) (sent1 reachR k P id):=by
 have h1:PkZ (n+1) (updP P id fun c=>{ c with tot:=c.tot+min k (capC - c.tot) }):=by
  refine pkZ_upd h id fun c hc=>⟨?_,?_,fun x hx=>(h.lim _ _ x hc hx).mono (Nat.le_succ _),(h.fam _ _ hc).mono (Nat.le_succ _),?_⟩
  ·have:=h.tot _ _ hc
   unfold capC
   dsimp only
   omega
  ·have:=h.few _ _ hc;show c.tr.length≤n+1;omega
  ·have:=h.un _ _ hc;show -(n:Int) - 1≤c.un∧c.un≤n+1;omega
 exact pkZ_updF h1 id fun F hF=>famZ_gain hF id hk
theorem pkZ_sent2 {ow:Option Rn→Int→Int} (h:PkZ n P)(sl:Bool)(id:Int):PkZ (n+2) (sent2 ow sl P id):=by
 unfold sent2
 split
 ·exact pkZ_note (pkZ_updF h id fun F hF=>famZ_sleep hF id) id
 ·exact (pkZ_note h id).mono (by omega)
theorem PkB.stat {Q:Pk} (h:PkB P)(hs:∀ j,statP Q j=statP P j):PkB Q:=by
 refine⟨fun id c hc=>?_,fun id c hc h0=>?_⟩
 ·obtain⟨c0,hc0,_⟩:=stat_back (hs id) hc
  exact h.ids id c0 hc0
 ·obtain⟨c0,hc0,hpa,_⟩:=stat_back (hs id) hc
  obtain⟨p,hp⟩:=h.par id c0 hc0 h0
  rw [hpa]
  have:=look_of_stat (hs c0.pa)
  rw [hp] at this
  exact Option.isSome_iff_exists.1 this
end
end
section
open Go.RowKit Go.Maps
attribute [local go_sem ↓] Go.wp_at_zero Go.wp_at_succ
attribute [local go_sem] quietR quietAtR quietUponR midAt midUpon
structure WayI (N:Nat)(P:Pk)(l:List Int):Prop where
 pb:PkB P
 num:∃ n,PkZ n P∧n+2*l.length≤N
 is:∀ j∈l,0 < j∧(lookM P j).isSome=true
section
variable {N k mb B D : Nat} {ps : Int → Nat} {P Q : Pk} {E : Ob} {l : List Int} {id : Int}
theorem WayI.look (h:WayI N P (id :: l)):∃ c,lookM P id=some c:=Option.isSome_iff_exists.1 (h.is id (.head _)).2
theorem WayI.pkM (hN:N < 100000)(h:WayI N P l):PkM P:=by
 obtain⟨n,hz,hn⟩:=h.num
 exact hz.pkM (by omega) h.pb
theorem WayI.step (h:WayI N P (id :: l))(hs:∀ j,statP Q j=statP P j)(hz:∀ n,PkZ n P→PkZ (n+2) Q):WayI N Q l:=by
 obtain⟨n,h1,h2⟩:=h.num
 refine⟨h.pb.stat hs,⟨n+2,hz n h1,by simp only [List.length_cons] at h2;omega⟩,fun j hj=>?_⟩
 have:=h.is j (.tail _ hj)
 exact⟨this.1,by rw [look_of_stat (hs j)];exact this.2⟩
theorem wake1_stat (now:Int)(P:Pk)(id j:Int):statP (wake1 now P id) j=statP P j :=
 (wake1_moved (ow:=owL) (dp:=fun _=>0) (X:=fun _=>True) (now:=now) (P:=P) (id:=id) trivial).stat j
theorem sent1_stat (n:Int)(P:Pk)(id j:Int):statP (sent1 reachR n P id) j=statP P j :=
 (sent1_moved (ow:=owL) (dp:=fun _=>0) (X:=fun _=>True) (n:=n) (P:=P) (id:=id) trivial).stat j
theorem sleep_stat (P:Pk)(id j:Int):statP (updF P id (sleepF id)) j=statP P j :=
 (updF_moved (ow:=owL) (dp:=fun _=>0) (X:=fun _=>True) (P:=P) (id:=id) (only_sleep id) (keep_sleep id) trivial).stat j
theorem sent2_stat (sl:Bool)(P:Pk)(id j:Int):statP (sent2 owL sl P id) j=statP P j:=by
 unfold sent2
 split
 ·exact (note_stat _ _ _ _).trans (sleep_stat P id j)
 ·exact note_stat _ _ _ _
theorem WayI.fold {f:Pk→Int→Pk} (hs:∀ P id j,statP (f P id) j=statP P j)(hz:∀ n P id,PkZ n P→PkZ (n+2) (f P id)):∀ {l:List Int} {P:Pk},WayI N P l→WayI N (l.foldl f P) []
 | [],P,h=>h
 | i :: l,P,h=>WayI.fold hs hz (l:=l) (h.step (fun j=>hs P i j) fun n hn=>hz n P i hn)
theorem stat_fold {f:Pk→Int→Pk} (hs:∀ P id j,statP (f P id) j=statP P j):∀ (l:List Int)(P:Pk)(j:Int),statP (l.foldl f P) j=statP P j
 | [],_,_=>rfl
 | i :: l,P,j=>(stat_fold hs l (f P i) j).trans (hs P i j)
theorem WayI.again {l0:List Int} (h:WayI N P l0)(hs:∀ j,statP Q j=statP P j)(hq:WayI N Q []):WayI (N+2*l0.length) Q l0:=by
 obtain⟨n,h1,h2⟩:=hq.num
 exact⟨hq.pb,⟨n,h1,by simp only [List.length_nil] at h2;omega⟩,fun j hj=>by
  have:=h.is j hj
  exact⟨this.1,by rw [look_of_stat (hs j)];exact this.2⟩⟩
theorem climb_wake {now:Int} (hN:N < 100000)(hnow:U now)(hE:EnvW E B D k now):Climb 42 #[.pointer (some ⟨B,0,none⟩),.pointer (some ⟨D,0,none⟩)] E k mb ps (wake1 now) (WayI N) :=
 ⟨fun P id l h=>⟨h.pb,h.look⟩,fun P id l h=>by
  obtain⟨c,hc⟩:=h.look
  exact step_wake hE hnow id (h.is id (.head _)).1 hc (h.pkM hN),fun P id l h=>h.step (fun j=>wake1_stat now P id j) fun n hn=>pkZ_wake1 hn now id,fun P id l h j=>pa_of_stat (wake1_stat now P id j)⟩
theorem climb_note (hN:N < 100000)(hE:EnvP E B k):Climb 45 #[.pointer (some ⟨B,0,none⟩)] E k mb ps (noteP owL) (WayI N) :=
 ⟨fun P id l h=>⟨h.pb,h.look⟩,fun P id l h=>by
  obtain⟨c,hc⟩:=h.look
  exact step_note hE id (h.is id (.head _)).1 hc (h.pkM hN).toPkN,fun P id l h=>h.step (fun j=>note_stat owL P id j) fun n hn=>(pkZ_note hn id).mono (Nat.le_succ _),fun P id l h j=>pa_of_stat (note_stat owL P id j)⟩
theorem climb_gain {n:Int} (hN:N < 100000)(hn:U n)(hE:EnvW E B D k n):Climb 55 #[.pointer (some ⟨D,0,none⟩),.pointer (some ⟨B,0,none⟩)] E k mb ps (sent1 reachR n) (WayI N) :=
 ⟨fun P id l h=>⟨h.pb,h.look⟩,fun P id l h=>by
  obtain⟨c,hc⟩:=h.look
  obtain⟨m,hz,_⟩:=h.num
  exact step_gain hE hn id (h.is id (.head _)).1 hc (h.pkM hN) (hz.tot _ _ hc).2,fun P id l h=>h.step (fun j=>sent1_stat n P id j) fun m hm=>pkZ_sent1 hm hn.1 id,fun P id l h j=>pa_of_stat (sent1_stat n P id j)⟩
theorem climb_rest {sl:Bool} (hN:N < 100000)(hE:EnvS E B D k sl):Climb 57 #[.pointer (some ⟨D,0,none⟩),.pointer (some ⟨B,0,none⟩)] E k mb ps (sent2 owL sl) (WayI N) :=
 ⟨fun P id l h=>⟨h.pb,h.look⟩,fun P id l h=>by
  obtain⟨c,hc⟩:=h.look
  have h0:=(h.is id (.head _)).1
  have hM:=h.pkM hN
  have hlf:lfP P id=c.lf:=lfP_of hc
  have htr:trP P id=c.tr:=by unfold trP;rw [hc]
  unfold sent2
  rw [hlf,htr]
  by_cases hgo:sl=true∧(c.lf=true∨c.tr=[])
  ·rw [if_pos hgo]
   obtain⟨hsl,hgo⟩:=hgo
   subst hsl
   obtain⟨n,hz,hn⟩:=h.num
   have hst:=sleep_stat P id
   have hz1:PkZ (n+1) (updF P id (sleepF id)):=pkZ_updF hz id fun F hF=>famZ_sleep hF id
   refine step_rest_go hE id h0 hc hM.toPkN (hz1.pkM (by simp only [List.length_cons] at hn;omega) (h.pb.stat hst)).toPkN ?_ hgo
   have:=look_of_stat (hst id)
   rw [hc] at this
   exact Option.isSome_iff_exists.1 this
  ·rw [if_neg hgo]
   exact step_rest_no hE id h0 hc hM.toPkN hgo,fun P id l h=>h.step (fun j=>sent2_stat sl P id j) fun n hn=>pkZ_sent2 hn sl id,fun P id l h j=>pa_of_stat (sent2_stat sl P id j)⟩
theorem wayI_start {n:Nat} {leaf:Int} (hB:PkB P)(hZ:PkZ n P)(hU:Up P leaf l):WayI (n+2*l.length) P l :=
 ⟨hB,⟨n,hZ,Nat.le_refl _⟩,fun j hj=>⟨hU.pos j hj,hU.look j hj⟩⟩
theorem wake_way {n:Nat} {leaf now:Int} (hB:PkB P)(hZ:PkZ n P)(hU:Up P leaf l)(hn:n+4*l.length < 100000)(hnow:U now) :
  WakeWay k mb ps P leaf now l (WayI (n+2*l.length)) (WayI (n+2*l.length+2*l.length))∧PkZ (n+4*l.length) (l.foldl (noteP owL) (l.foldl (wake1 now) P))∧∀ j,statP (l.foldl (noteP owL) (l.foldl (wake1 now) P)) j=statP P j:=by
 have h0:=wayI_start hB hZ hU
 have hf:=h0.fold (wake1_stat now) fun n P id hn=>pkZ_wake1 hn now id
 have hs1:=stat_fold (wake1_stat now) l P
 have h1:=h0.again hs1 hf
 have hf2:=h1.fold (note_stat owL) fun n P id hn=>(pkZ_note hn id).mono (Nat.le_succ _)
 refine⟨⟨hU,hU.congr fun j=>pa_of_stat (hs1 j),h0,h1,fun E B D hE=>climb_wake (by omega) hnow hE,fun E B hE=>climb_note (by omega) hE⟩,?_,fun j=>(stat_fold (note_stat owL) l _ j).trans (hs1 j)⟩
 obtain⟨m,hm,hm2⟩:=hf2.num
 exact hm.mono (by simp only [List.length_nil] at hm2;omega)
theorem sent_way {n:Nat} {leaf g:Int} {more:Bool} (hB:PkB P)(hZ:PkZ n P)(hU:Up P leaf l)(hn:n+4*l.length < 100000)(hg:U g) :
  SentWay k mb ps P leaf g more l (WayI (n+2*l.length)) (WayI (n+2*l.length+2*l.length))∧(∀ sl,PkZ (n+4*l.length) (l.foldl (sent2 owL sl) (l.foldl (sent1 reachR g) P)))∧∀ sl j,statP (l.foldl (sent2 owL sl) (l.foldl (sent1 reachR g) P)) j=statP P j:=by
 have h0:=wayI_start hB hZ hU
 have hf:=h0.fold (sent1_stat g) fun n P id hn=>pkZ_sent1 hn hg.1 id
 have hs1:=stat_fold (sent1_stat g) l P
 have h1:=h0.again hs1 hf
 have hf2:=fun sl=>h1.fold (sent2_stat sl) fun n P id hn=>pkZ_sent2 hn sl id
 refine⟨⟨hU,hU.congr fun j=>pa_of_stat (hs1 j),h0,h1,h1.pb,fun E B D hE=>climb_gain (by omega) hg hE,fun E B Q hE=>climb_rest (by omega) hE⟩,fun sl=>?_,fun sl j=>(stat_fold (sent2_stat sl) l _ j).trans (hs1 j)⟩
 obtain⟨m,hm,hm2⟩:=(hf2 sl).num
 exact hm.mono (by simp only [List.length_nil] at hm2;omega)
end
section
variable {W : World} {k mb n : Nat} {ps : Int → Nat} {P : Pk} {leaf : Int} {l : List Int} {c : Cls}
theorem pwake_not {now:Int} (hid:(Lit.int .i64 leaf).wf=true)(hc:lookM P leaf=some c)(hno:c.lf=false∨c.sh=false) :
  Acts (fun e=>e=.returned (.tuple #[])) (PkX k mb ps P) (PkX k mb ps P) 11 #[.pointer (some ⟨k,0,none⟩),.int .i64 leaf,.int .u64 now] Tryz.prog W:=fun A h=>by
 have hs0:=((Sx.start (P:=PkX k mb ps P) h).alloc (good_pkX _ _ _ _) #[.pointer (some ⟨k,0,none⟩)] 24).alloc ((good_box _ _ _).star (good_pkX _ _ _ _)) #[.int .u64 now] 28
 obtain⟨S2,hS2⟩:=hs0.rest.env
 have b0:=hs0.rest.box.cell 0
 obtain⟨l9,f9,q9,hr⟩:=hS2.cls hc
 have c1:=hr.blk.cell 1
 have c2:=hr.blk.cell 2
 unfold clsC at c1 c2
 simp only [lTA,lCZ,lCS] at b0 c1 c2
 have ha:=pat_any leaf hid hS2
 unfold cpV at ha
 rw [hc] at ha
 dsimp only at ha
 have H:=Lib.hid hs0
 clear h hs0 hS2 hc hr
 cases hlf:c.lf with
 | false =>
  rw [hlf] at c1
  clear hno hlf
  go_enter Tryz.func11,Tryz.ntmps11
  go_wp2_with (go_at_call 34;refine ha.mono ?_;rintro e w1 ⟨rfl,rfl⟩)
  all_goals (go_returns;exact⟨rfl,H.out.rest.rest.done⟩)
 | true =>
  have hsh:c.sh=false:=hno.elim (fun e=>by rw [hlf] at e;cases e) fun e=>e
  rw [hlf] at c1
  rw [hsh] at c2
  clear hno hlf hsh
  go_enter Tryz.func11,Tryz.ntmps11
  go_wp2_with (go_at_call 34;refine ha.mono ?_;rintro e w1 ⟨rfl,rfl⟩)
  all_goals (go_returns;exact⟨rfl,H.out.rest.rest.done⟩)
theorem pwake_any {now:Int} (hB:PkB P)(hZ:PkZ n P)(hU:Up P leaf l)(hn:n+4*l.length < 100000)(hnow:U now)(h1:1≤leaf)(hc:lookM P leaf=some c)(hlf:c.lf=true) :
  Acts (fun e=>e=.returned (.tuple #[])) (PkX k mb ps P) (PkX k mb ps (wakeP owL now leaf l P)) 11 #[.pointer (some ⟨k,0,none⟩),.int .i64 leaf,.int .u64 now] Tryz.prog W:=by
 have hid:=wf_small (hB.ids _ _ hc).1 (hB.ids _ _ hc).2
 unfold wakeP
 rw [lfP_of hc,shP_of hc,hlf]
 cases hsh:c.sh with
 | true =>
  rw [if_pos ⟨rfl,rfl⟩]
  exact po_wake (wake_way hB hZ hU hn hnow).1 h1 hid hc hlf hsh
 | false =>
  rw [if_neg (fun h=>by cases h.2)]
  exact pwake_not hid hc (.inr hsh)
theorem wakeP_num {now:Int} (hB:PkB P)(hZ:PkZ n P)(hU:Up P leaf l)(hn:n+4*l.length < 100000)(hnow:U now):PkZ (n+4*l.length) (wakeP owL now leaf l P)∧∀ j,statP (wakeP owL now leaf l P) j=statP P j:=by
 unfold wakeP
 split
 ·exact⟨(wake_way (k:=0) (mb:=0) (ps:=fun _=>0) hB hZ hU hn hnow).2.1,(wake_way (k:=0) (mb:=0) (ps:=fun _=>0) hB hZ hU hn hnow).2.2⟩
 ·exact⟨hZ.mono (by omega),fun _=>rfl⟩
theorem psent_any {g:Int} {more:Bool} (hB:PkB P)(hZ:PkZ n P)(hU:Up P leaf l)(hn:n+4*l.length < 100000)(hg:U g)(h1:1≤leaf)(hc:lookM P leaf=some c)(hlf:c.lf=true) :
  Acts (fun e=>e=.returned (.tuple #[])) (PkX k mb ps P) (PkX k mb ps (sentP owL reachR leaf g more l P)) 15 #[.pointer (some ⟨k,0,none⟩),.int .i64 leaf,.int .u64 g,.bool more] Tryz.prog W:=by
 have hid:=wf_small (hB.ids _ _ hc).1 (hB.ids _ _ hc).2
 unfold sentP
 rw [lfP_of hc,if_pos hlf]
 exact po_sent (sent_way hB hZ hU hn hg).1 h1 hid hc hlf
theorem sentP_num {g:Int} {more:Bool} (hB:PkB P)(hZ:PkZ n P)(hU:Up P leaf l)(hn:n+4*l.length < 100000)(hg:U g):PkZ (n+4*l.length) (sentP owL reachR leaf g more l P)∧∀ j,statP (sentP owL reachR leaf g more l P) j=statP P j:=by
 unfold sentP
 split
 ·exact⟨(sent_way (k:=0) (mb:=0) (ps:=fun _=>0) (more:=more) hB hZ hU hn hg).2.1 _,(sent_way (k:=0) (mb:=0) (ps:=fun _=>0) (more:=more) hB hZ hU hn hg).2.2 _⟩
 ·exact⟨hZ.mono (by omega),fun _=>rfl⟩
end
end
section
open Go.RowKit Go.Maps
attribute [local go_sem ↓] Go.wp_at_zero Go.wp_at_succ
attribute [local go_sem] quietR quietAtR quietUponR midAt midUpon
theorem owns_slice {w:World} {base sz n:Nat} {e:TypeId} {v:Value} {xs:List Value} (h:w.ownsRow base e sz v n xs):∃ a cap,v=.slice a n cap:=by
 rcases h.2 with ⟨rfl,rfl⟩ | ⟨g,c,cur,rfl,_⟩
 ·exact⟨none,0,rfl⟩
 ·exact⟨_,_,rfl⟩
open Go.RowKit Go.Maps
section
variable {w W W' : World} {base g ma mu : Nat} {M : Mp}
end
end
end Go.Proofs.YtmmeopjemkjllaaGreat
