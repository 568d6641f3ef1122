/- Lemmas of the claim. No conditions beyond those that each states. -/
import Derived.Test.YtmmeopjemkjllaaGreatPU40
set_option linter.unusedVariables false
set_option linter.unusedSimpArgs false
set_option maxRecDepth 100000
set_option maxHeartbeats 8000000
namespace Go.Proofs.YtmmeopjemkjllaaGreat
section
open Go.RowKit Go.Maps
structure RnZ (n:Nat)(r:Rn):Prop where
 x:0≤r.x∧r.x≤9223372036854775808
 few:r.A.length≤n
structure FamZ (n:Nat)(F:Fam):Prop where
 rise:Rising F.m
 v:∀ x m,lookM F.m x=some m→0≤m.v∧m.v≤9223372036854775808
 tot:∀ x m,lookM F.m x=some m→0≤m.tot∧m.tot≤4611686018427387904
 rn:∀ x m,lookM F.m x=some m→RnZ n m.rn
 mark:0≤F.mark∧F.mark≤9223372036854775808
 len:F.m.length≤n
structure PkZ (n:Nat)(P:Pk):Prop where
 tot:∀ id c,lookM P id=some c→0≤c.tot∧c.tot≤4611686018427387904
 few:∀ id c,lookM P id=some c→c.tr.length≤n
 lim:∀ id c x,lookM P id=some c→c.lim=some x→RnZ n x
 fam:∀ id c,lookM P id=some c→FamZ n c.fam
 un:∀ id c,lookM P id=some c→-(n:Int)≤c.un∧c.un≤n
section
variable {n n' : Nat} {F : Fam} {P : Pk}
theorem RnZ.mono {r:Rn} (h:RnZ n r)(hn:n≤n'):RnZ n' r:=⟨h.x,by have:=h.few;omega⟩
theorem FamZ.mono (h:FamZ n F)(hn:n≤n'):FamZ n' F:=⟨h.rise,h.v,h.tot,fun x m hx=>(h.rn x m hx).mono hn,h.mark,by have:=h.len;omega⟩
theorem PkZ.mono (h:PkZ n P)(hn:n≤n'):PkZ n' P:=⟨h.tot,fun i c hc=>by have:=h.few i c hc;omega,fun i c x hc hx=>(h.lim i c x hc hx).mono hn,fun i c hc=>(h.fam i c hc).mono hn,fun i c hc=>by have:=h.un i c hc;omega⟩
theorem FamZ.famN (h:FamZ n F)(hn:n < 100000):FamN F:=⟨h.v,h.tot,fun x m hx=>by have:=(h.rn x m hx).few;omega,h.mark,by have:=h.len;omega⟩
theorem PkZ.pkM (h:PkZ n P)(hn:n < 100000)(hB:PkB P):PkM P :=
 ⟨⟨hB,fun id c hc=>by have:=h.tot id c hc;unfold U;omega,fun id c hc=>by have:=h.few id c hc;omega⟩,fun id c hc=>(h.fam id c hc).famN hn,fun id c x hc hx=>by have:=(h.lim id c x hc hx).few;omega⟩
theorem back_is (v:Int→Int) {x:Int} (y:Int)(h0:0≤x)(h1:x≤9223372036854775808):∃ n,Back v x y n:=by
 by_cases hx:x=9223372036854775808
 ·exact⟨x,.inr (.inl ⟨hx,hx⟩)⟩
 by_cases hv:v 9223372036854775807 < y
 ·exact⟨_,.inl ⟨rfl,by omega,hv⟩⟩
 have key:∀ (k:Nat) (t:Int),x≤t→t < 9223372036854775808→t - x≤k→y≤v t→∃ n,Back v x y n:=by
  intro k
  induction k with
  | zero=>intro t a b c d;exact⟨t,.inr (.inr (.inl ⟨b,by omega,d⟩))⟩
  | succ k ih =>
   intro t a b c d
   by_cases ht:t=x
   ·exact⟨t,.inr (.inr (.inl ⟨b,by omega,d⟩))⟩
   ·by_cases hp:y≤v (t - 1)
    ·exact ih (t - 1) (by omega) (by omega) (by omega) hp
    ·exact⟨t,.inr (.inr (.inr ⟨b,by omega,d,by omega⟩))⟩
 exact key (9223372036854775807 - x).toNat 9223372036854775807 (by omega) (by omega) (by omega) (by omega)
theorem reachR_bd {r:Rn} (h:RnZ n r)(y:Int):0≤reachR r y∧reachR r y≤9223372036854775808:=by
 unfold reachR qR
 split
 ·unfold nevB;split <;> omega
 ·have hb:=back_is (fun t=>vA r.F r.L r.R r.A (max t r.x)) y h.x.1 h.x.2
  have hs:Back (fun t=>vA r.F r.L r.R r.A (max t r.x)) r.x y (ansI (fun t=>vA r.F r.L r.R r.A (max t r.x)) r.x y):=Classical.epsilon_spec hb
  have:=hs.x_le
  have:=hs.le_never
  have:=h.x
  omega
theorem rnZ_start {r:Rn} (h:RnZ n r)(t y:Int):RnZ (n+1) (startR r t y):=by
 have:=h.x
 refine⟨?_,?_⟩
 ·unfold startR nevC;dsimp only;omega
 ·unfold startR;dsimp only;rw [List.length_append];have:=h.few;simp only [List.length_cons,List.length_nil];omega
theorem famZ_put (h:FamZ n F) {id:Int} {m m':Mem} {mark:Int} (hm:lookM F.m id=some m)(hv:0≤m'.v∧m'.v≤9223372036854775808)(ht:0≤m'.tot∧m'.tot≤4611686018427387904)(hf:RnZ (n+1) m'.rn)(hk:0≤mark∧mark≤9223372036854775808):FamZ (n+1) ⟨putM F.m id m',mark⟩:=by
 have key:∀ x k,lookM (putM F.m id m') x=some k→k=m'∨lookM F.m x=some k:=fun x k hx=>by
  by_cases e:x=id
  ·subst e
   rw [look_put_same] at hx
   exact .inl (Option.some.inj hx).symm
  ·rw [look_put_other _ e] at hx
   exact .inr hx
 refine⟨rising_put _ _ h.rise,fun x k hx=>?_,fun x k hx=>?_,fun x k hx=>?_,hk,?_⟩
 ·rcases key x k hx with rfl | hx
  ·exact hv
  ·exact h.v x k hx
 ·rcases key x k hx with rfl | hx
  ·exact ht
  ·exact h.tot x k hx
 ·rcases key x k hx with rfl | hx
  ·exact hf
  ·exact (h.rn x k hx).mono (Nat.le_succ _)
 ·show (putM F.m id m').length≤n+1
  rw [put_len_same h.rise hm]
  have:=h.len
  omega
theorem famZ_sleep (h:FamZ n F)(id:Int):FamZ (n+1) (sleepF id F):=by
 unfold sleepF
 cases hm:lookM F.m id with
 | none=>exact h.mono (Nat.le_succ _)
 | some m=>exact famZ_put h hm (h.v id m hm) (h.tot id m hm) ((h.rn id m hm).mono (Nat.le_succ _)) h.mark
theorem famZ_wake (h:FamZ n F)(id:Int):FamZ (n+1) (wakeF id F):=by
 unfold wakeF
 cases hm:lookM F.m id with
 | none=>exact h.mono (Nat.le_succ _)
 | some m =>
  dsimp only
  by_cases ha:m.aw=true
  ·rw [if_pos ha];exact h.mono (Nat.le_succ _)
  ·rw [if_neg ha]
   have hb:=startV_bound h.rise h.v h.mark hm
   have:=h.mark
   exact famZ_put h hm hb (h.tot id m hm) (rnZ_start (h.rn id m hm) _ _) (by omega)
theorem famZ_gain (h:FamZ n F)(id:Int) {k:Int} (hk:0≤k):FamZ (n+1) (gainF reachR id k F):=by
 unfold gainF
 cases hm:lookM F.m id with
 | none=>exact h.mono (Nat.le_succ _)
 | some m =>
  dsimp only
  have ht:=h.tot id m hm
  have ht2:0≤m.tot+min k (capC - m.tot)∧m.tot+min k (capC - m.tot)≤4611686018427387904:=by unfold capC;omega
  by_cases ha:m.aw=true
  ·rw [if_pos ha]
   have hb:=reachR_bd (h.rn id m hm) (m.tot+min k (capC - m.tot))
   have:=h.mark
   exact famZ_put h hm hb ht2 ((h.rn id m hm).mono (Nat.le_succ _)) (by omega)
  ·rw [if_neg ha]
   exact famZ_put h hm (h.v id m hm) ht2 ((h.rn id m hm).mono (Nat.le_succ _)) h.mark
theorem famZ_add (h:FamZ n F)(id:Int)(c:Int × Int × Int):FamZ (n+1) (addF id c F):=by
 have key:∀ x k,lookM (putM F.m id (mem0 c)) x=some k→k=mem0 c∨lookM F.m x=some k:=fun x k hx=>by
  by_cases e:x=id
  ·subst e
   rw [look_put_same] at hx
   exact .inl (Option.some.inj hx).symm
  ·rw [look_put_other _ e] at hx
   exact .inr hx
 refine⟨rising_put _ _ h.rise,fun x k hx=>?_,fun x k hx=>?_,fun x k hx=>?_,h.mark,?_⟩
 ·rcases key x k hx with rfl | hx
  ·unfold mem0;dsimp only;omega
  ·exact h.v x k hx
 ·rcases key x k hx with rfl | hx
  ·unfold mem0;dsimp only;omega
  ·exact h.tot x k hx
 ·rcases key x k hx with rfl | hx
  ·exact⟨by unfold mem0 rn0;dsimp only;omega,Nat.zero_le _⟩
  ·exact (h.rn x k hx).mono (Nat.le_succ _)
 ·show (putM F.m id (mem0 c)).length≤n+1
  have:=h.len
  cases hl:lookM F.m id with
  | none=>rw [put_len_new _ hl];omega
  | some m=>rw [put_len_same h.rise hl];omega
theorem famZ_0:FamZ n fam0:=⟨List.Pairwise.nil,fun x m h=>(by cases h),fun x m h=>(by cases h),fun x m h=>(by cases h),by unfold fam0;dsimp only;omega,Nat.zero_le _⟩
theorem pkZ_upd (h:PkZ n P)(id:Int) {f:Cls→Cls} (hf:∀ c,lookM P id=some c→(0≤(f c).tot∧(f c).tot≤4611686018427387904)∧(f c).tr.length≤n+1∧(∀ x,(f c).lim=some x→RnZ (n+1) x)∧FamZ (n+1) (f c).fam∧(-(n:Int) - 1≤(f c).un∧(f c).un≤n+1)):PkZ (n+1) (updP P id f):=by
 have key:∀ j c',lookM (updP P id f) j=some c'→(∃ c,lookM P id=some c∧c'=f c)∨lookM P j=some c':=fun j c' hj=>by
  rw [look_upd] at hj
  by_cases e:j=id
  ·rw [if_pos e] at hj
   obtain⟨c,hc,rfl⟩:=Option.map_eq_some_iff.1 hj
   exact .inl ⟨c,hc,rfl⟩
  ·rw [if_neg e] at hj
   exact .inr hj
 refine⟨fun j c' hj=>?_,fun j c' hj=>?_,fun j c' x hj hx=>?_,fun j c' hj=>?_,fun j c' hj=>?_⟩
 ·rcases key j c' hj with ⟨c,hc,rfl⟩ | hj
  ·exact (hf c hc).1
  ·exact h.tot j c' hj
 ·rcases key j c' hj with ⟨c,hc,rfl⟩ | hj
  ·exact (hf c hc).2.1
  ·have:=h.few j c' hj;omega
 ·rcases key j c' hj with ⟨c,hc,rfl⟩ | hj
  ·exact (hf c hc).2.2.1 x hx
  ·exact (h.lim j c' x hj hx).mono (Nat.le_succ _)
 ·rcases key j c' hj with ⟨c,hc,rfl⟩ | hj
  ·exact (hf c hc).2.2.2.1
  ·exact (h.fam j c' hj).mono (Nat.le_succ _)
 ·rcases key j c' hj with ⟨c,hc,rfl⟩ | hj
  ·have:=(hf c hc).2.2.2.2;omega
  ·have:=h.un j c' hj;omega
theorem pkZ_updF (h:PkZ n P)(id:Int) {g:Fam→Fam} (hg:∀ F,FamZ n F→FamZ (n+1) (g F)):PkZ (n+1) (updF P id g):=by
 unfold updF
 cases paP P id with
 | none=>exact h.mono (Nat.le_succ _)
 | some q=>exact pkZ_upd h q fun c hc=>⟨h.tot q c hc,by have:=h.few _ _ hc;show c.tr.length≤n+1;omega,fun x hx=>(h.lim _ _ x hc hx).mono (Nat.le_succ _),hg _ (h.fam _ _ hc),by have:=h.un _ _ hc;show -(n:Int) - 1≤c.un∧c.un≤n+1;omega⟩
theorem pkZ_note {ow:Option Rn→Int→Int} (h:PkZ n P)(id:Int):PkZ (n+1) (noteP ow P id):=by
 unfold noteP
 cases paP P id with
 | none=>exact h.mono (Nat.le_succ _)
 | some q =>
  refine pkZ_upd h q fun c hc=>⟨h.tot q c hc,?_,fun x hx=>(h.lim _ _ x hc hx).mono (Nat.le_succ _),(h.fam _ _ hc).mono (Nat.le_succ _),by have:=h.un _ _ hc;show -(n:Int) - 1≤c.un∧c.un≤n+1;omega⟩
  have:=h.few _ _ hc
  dsimp only
  split
  ·have:=put_le c.tr id (vP P id) (fitP ow P id);omega
  ·have:=drop_le c.tr id;omega
theorem pkZ_wake1 (h:PkZ n P)(now id:Int):PkZ (n+2) (wake1 now P id):=by
 unfold wake1
 split
 ·exact h.mono (by omega)
 ·refine pkZ_upd (pkZ_updF h id fun F hF=>famZ_wake hF id) id fun c hc=>?_
  have h1:=pkZ_updF h id fun F hF=>famZ_wake hF id
  refine⟨h1.tot id c hc,by have:=h1.few _ _ hc;show c.tr.length≤n+1+1;omega,fun x hx=>?_,(h1.fam _ _ hc).mono (Nat.le_succ _),by have:=h1.un _ _ hc;show -((n+1:Nat):Int) - 1≤c.un∧c.un≤((n+1:Nat):Int)+1;omega⟩
  obtain⟨r,hr,rfl⟩:=Option.map_eq_some_iff.1 hx
  exact rnZ_start (h1.lim _ _ r hc hr) _ _
theorem pkZ_sent1 (h:PkZ n P) {k:Int} (hk:0≤k)(id:Int):PkZ (n+2) (sent1 reachR k P id):=by
 have h1:PkZ (n+1) (updP P id fun c=>{ c with tot:=c.tot+min k (capC - c.tot) }):=by
  refine pkZ_upd h id fun c hc=>⟨?_,?_,fun x hx=>(h.lim _ _ x hc hx).mono (Nat.le_succ _),(h.fam _ _ hc).mono (Nat.le_succ _),?_⟩
  ·have:=h.tot _ _ hc
   unfold capC
   dsimp only
   omega
  ·have:=h.few _ _ hc;show c.tr.length≤n+1;omega
  ·have:=h.un _ _ hc;show -(n:Int) - 1≤c.un∧c.un≤n+1;omega
 exact pkZ_updF h1 id fun F hF=>famZ_gain hF id hk
theorem pkZ_sent2 {ow:Option Rn→Int→Int} (h:PkZ n P)(sl:Bool)(id:Int):PkZ (n+2) (sent2 ow sl P id):=by
 unfold sent2
 split
 ·exact pkZ_note (pkZ_updF h id fun F hF=>famZ_sleep hF id) id
 ·exact (pkZ_note h id).mono (by omega)
theorem PkB.stat {Q:Pk} (h:PkB P)(hs:∀ j,statP Q j=statP P j):PkB Q:=by
 refine⟨fun id c hc=>?_,fun id c hc h0=>?_⟩
 ·obtain⟨c0,hc0,_⟩:=stat_back (hs id) hc
  exact h.ids id c0 hc0
 ·obtain⟨c0,hc0,hpa,_⟩:=stat_back (hs id) hc
  obtain⟨p,hp⟩:=h.par id c0 hc0 h0
  rw [hpa]
  have:=look_of_stat (hs c0.pa)
  rw [hp] at this
  exact Option.isSome_iff_exists.1 this
end
end
section
open Go.RowKit Go.Maps
attribute [local go_sem ↓] Go.wp_at_zero Go.wp_at_succ
attribute [local go_sem] quietR quietAtR quietUponR midAt midUpon
structure WayI (N:Nat)(P:Pk)(l:List Int):Prop where
 pb:PkB P
 num:∃ n,PkZ n P∧n+2*l.length≤N
 is:∀ j∈l,0 < j∧(lookM P j).isSome=true
section
variable {N k mb B D : Nat} {ps : Int → Nat} {P Q : Pk} {E : Ob} {l : List Int} {id : Int}
theorem WayI.look (h:WayI N P (id :: l)):∃ c,lookM P id=some c:=Option.isSome_iff_exists.1 (h.is id (.head _)).2
theorem WayI.pkM (hN:N < 100000)(h:WayI N P l):PkM P:=by
 obtain⟨n,hz,hn⟩:=h.num
 exact hz.pkM (by omega) h.pb
theorem WayI.step (h:WayI N P (id :: l))(hs:∀ j,statP Q j=statP P j)(hz:∀ n,PkZ n P→PkZ (n+2) Q):WayI N Q l:=by
 obtain⟨n,h1,h2⟩:=h.num
 refine⟨h.pb.stat hs,⟨n+2,hz n h1,by simp only [List.length_cons] at h2;omega⟩,fun j hj=>?_⟩
 have:=h.is j (.tail _ hj)
 exact⟨this.1,by rw [look_of_stat (hs j)];exact this.2⟩
theorem wake1_stat (now:Int)(P:Pk)(id j:Int):statP (wake1 now P id) j=statP P j :=
 (wake1_moved (ow:=owL) (dp:=fun _=>0) (X:=fun _=>True) (now:=now) (P:=P) (id:=id) trivial).stat j
theorem sent1_stat (n:Int)(P:Pk)(id j:Int):statP (sent1 reachR n P id) j=statP P j :=
 (sent1_moved (ow:=owL) (dp:=fun _=>0) (X:=fun _=>True) (n:=n) (P:=P) (id:=id) trivial).stat j
theorem sleep_stat (P:Pk)(id j:Int):statP (updF P id (sleepF id)) j=statP P j :=
 (updF_moved (ow:=owL) (dp:=fun _=>0) (X:=fun _=>True) (P:=P) (id:=id) (only_sleep id) (keep_sleep id) trivial).stat j
theorem sent2_stat (sl:Bool)(P:Pk)(id j:Int):statP (sent2 owL sl P id) j=statP P j:=by
 unfold sent2
 split
 ·exact (note_stat _ _ _ _).trans (sleep_stat P id j)
 ·exact note_stat _ _ _ _
theorem WayI.fold {f:Pk→Int→Pk} (hs:∀ P id j,statP (f P id) j=statP P j)(hz:∀ n P id,PkZ n P→PkZ (n+2) (f P id)):∀ {l:List Int} {P:Pk},WayI N P l→WayI N (l.foldl f P) []
 | [],P,h=>h
 | i :: l,P,h=>WayI.fold hs hz (l:=l) (h.step (fun j=>hs P i j) fun n hn=>hz n P i hn)
theorem stat_fold {f:Pk→Int→Pk} (hs:∀ P id j,statP (f P id) j=statP P j):∀ (l:List Int)(P:Pk)(j:Int),statP (l.foldl f P) j=statP P j
 | [],_,_=>rfl
 | i :: l,P,j=>(stat_fold hs l (f P i) j).trans (hs P i j)
theorem WayI.again {l0:List Int} (h:WayI N P l0)(hs:∀ j,statP Q j=statP P j)(hq:WayI N Q []):WayI (N+2*l0.length) Q l0:=by
 obtain⟨n,h1,h2⟩:=hq.num
 exact⟨hq.pb,⟨n,h1,by simp only [List.length_nil] at h2;omega⟩,fun j hj=>by
  have:=h.is j hj
  exact⟨this.1,by rw [look_of_stat (hs j)];exact this.2⟩⟩
theorem climb_wake {now:Int} (hN:N < 100000)(hnow:U now)(hE:EnvW E B D k now):Climb 42 #[.pointer (some ⟨B,0,none⟩),.pointer (some ⟨D,0,none⟩)] E k mb ps (wake1 now) (WayI N) :=
 ⟨fun P id l h=>⟨h.pb,h.look⟩,fun P id l h=>by
  obtain⟨c,hc⟩:=h.look
  exact step_wake hE hnow id (h.is id (.head _)).1 hc (h.pkM hN),fun P id l h=>h.step (fun j=>wake1_stat now P id j) fun n hn=>pkZ_wake1 hn now id,fun P id l h j=>pa_of_stat (wake1_stat now P id j)⟩
theorem climb_note (hN:N < 100000)(hE:EnvP E B k):Climb 45 #[.pointer (some ⟨B,0,none⟩)] E k mb ps (noteP owL) (WayI N) :=
 ⟨fun P id l h=>⟨h.pb,h.look⟩,fun P id l h=>by
  obtain⟨c,hc⟩:=h.look
  exact step_note hE id (h.is id (.head _)).1 hc (h.pkM hN).toPkN,fun P id l h=>h.step (fun j=>note_stat owL P id j) fun n hn=>(pkZ_note hn id).mono (Nat.le_succ _),fun P id l h j=>pa_of_stat (note_stat owL P id j)⟩
theorem climb_gain {n:Int} (hN:N < 100000)(hn:U n)(hE:EnvW E B D k n):Climb 55 #[.pointer (some ⟨D,0,none⟩),.pointer (some ⟨B,0,none⟩)] E k mb ps (sent1 reachR n) (WayI N) :=
 ⟨fun P id l h=>⟨h.pb,h.look⟩,fun P id l h=>by
  obtain⟨c,hc⟩:=h.look
  obtain⟨m,hz,_⟩:=h.num
  exact step_gain hE hn id (h.is id (.head _)).1 hc (h.pkM hN) (hz.tot _ _ hc).2,fun P id l h=>h.step (fun j=>sent1_stat n P id j) fun m hm=>pkZ_sent1 hm hn.1 id,fun P id l h j=>pa_of_stat (sent1_stat n P id j)⟩
theorem climb_rest {sl:Bool} (hN:N < 100000)(hE:EnvS E B D k sl):Climb 57 #[.pointer (some ⟨D,0,none⟩),.pointer (some ⟨B,0,none⟩)] E k mb ps (sent2 owL sl) (WayI N) :=
 ⟨fun P id l h=>⟨h.pb,h.look⟩,fun P id l h=>by
  obtain⟨c,hc⟩:=h.look
  have h0:=(h.is id (.head _)).1
  have hM:=h.pkM hN
  have hlf:lfP P id=c.lf:=lfP_of hc
  have htr:trP P id=c.tr:=by unfold trP;rw [hc]
  unfold sent2
  rw [hlf,htr]
  by_cases hgo:sl=true∧(c.lf=true∨c.tr=[])
  ·rw [if_pos hgo]
   obtain⟨hsl,hgo⟩:=hgo
   subst hsl
   obtain⟨n,hz,hn⟩:=h.num
   have hst:=sleep_stat P id
   have hz1:PkZ (n+1) (updF P id (sleepF id)):=pkZ_updF hz id fun F hF=>famZ_sleep hF id
   refine step_rest_go hE id h0 hc hM.toPkN (hz1.pkM (by simp only [List.length_cons] at hn;omega) (h.pb.stat hst)).toPkN ?_ hgo
   have:=look_of_stat (hst id)
   rw [hc] at this
   exact Option.isSome_iff_exists.1 this
  ·rw [if_neg hgo]
   exact step_rest_no hE id h0 hc hM.toPkN hgo,fun P id l h=>h.step (fun j=>sent2_stat sl P id j) fun n hn=>pkZ_sent2 hn sl id,fun P id l h j=>pa_of_stat (sent2_stat sl P id j)⟩
theorem wayI_start {n:Nat} {leaf:Int} (hB:PkB P)(hZ:PkZ n P)(hU:Up P leaf l):WayI (n+2*l.length) P l :=
 ⟨hB,⟨n,hZ,Nat.le_refl _⟩,fun j hj=>⟨hU.pos j hj,hU.look j hj⟩⟩
theorem wake_way {n:Nat} {leaf now:Int} (hB:PkB P)(hZ:PkZ n P)(hU:Up P leaf l)(hn:n+4*l.length < 100000)(hnow:U now) :
  WakeWay k mb ps P leaf now l (WayI (n+2*l.length)) (WayI (n+2*l.length+2*l.length))∧PkZ (n+4*l.length) (l.foldl (noteP owL) (l.foldl (wake1 now) P))∧∀ j,statP (l.foldl (noteP owL) (l.foldl (wake1 now) P)) j=statP P j:=by
 have h0:=wayI_start hB hZ hU
 have hf:=h0.fold (wake1_stat now) fun n P id hn=>pkZ_wake1 hn now id
 have hs1:=stat_fold (wake1_stat now) l P
 have h1:=h0.again hs1 hf
 have hf2:=h1.fold (note_stat owL) fun n P id hn=>(pkZ_note hn id).mono (Nat.le_succ _)
 refine⟨⟨hU,hU.congr fun j=>pa_of_stat (hs1 j),h0,h1,fun E B D hE=>climb_wake (by omega) hnow hE,fun E B hE=>climb_note (by omega) hE⟩,?_,fun j=>(stat_fold (note_stat owL) l _ j).trans (hs1 j)⟩
 obtain⟨m,hm,hm2⟩:=hf2.num
 exact hm.mono (by simp only [List.length_nil] at hm2;omega)
theorem sent_way {n:Nat} {leaf g:Int} {more:Bool} (hB:PkB P)(hZ:PkZ n P)(hU:Up P leaf l)(hn:n+4*l.length < 100000)(hg:U g) :
  SentWay k mb ps P leaf g more l (WayI (n+2*l.length)) (WayI (n+2*l.length+2*l.length))∧(∀ sl,PkZ (n+4*l.length) (l.foldl (sent2 owL sl) (l.foldl (sent1 reachR g) P)))∧∀ sl j,statP (l.foldl (sent2 owL sl) (l.foldl (sent1 reachR g) P)) j=statP P j:=by
 have h0:=wayI_start hB hZ hU
 have hf:=h0.fold (sent1_stat g) fun n P id hn=>pkZ_sent1 hn hg.1 id
 have hs1:=stat_fold (sent1_stat g) l P
 have h1:=h0.again hs1 hf
 have hf2:=fun sl=>h1.fold (sent2_stat sl) fun n P id hn=>pkZ_sent2 hn sl id
 refine⟨⟨hU,hU.congr fun j=>pa_of_stat (hs1 j),h0,h1,h1.pb,fun E B D hE=>climb_gain (by omega) hg hE,fun E B Q hE=>climb_rest (by omega) hE⟩,fun sl=>?_,fun sl j=>(stat_fold (sent2_stat sl) l _ j).trans (hs1 j)⟩
 obtain⟨m,hm,hm2⟩:=(hf2 sl).num
 exact hm.mono (by simp only [List.length_nil] at hm2;omega)
end
section
variable {W : World} {k mb n : Nat} {ps : Int → Nat} {P : Pk} {leaf : Int} {l : List Int} {c : Cls}
theorem pwake_not {now:Int} (hid:(Lit.int .i64 leaf).wf=true)(hc:lookM P leaf=some c)(hno:c.lf=false∨c.sh=false) :
  Acts (fun e=>e=.returned (.tuple #[])) (PkX k mb ps P) (PkX k mb ps P) 11 #[.pointer (some ⟨k,0,none⟩),.int .i64 leaf,.int .u64 now] Tryz.prog W:=fun A h=>by
 have hs0:=((Sx.start (P:=PkX k mb ps P) h).alloc (good_pkX _ _ _ _) #[.pointer (some ⟨k,0,none⟩)] 24).alloc ((good_box _ _ _).star (good_pkX _ _ _ _)) #[.int .u64 now] 28
 obtain⟨S2,hS2⟩:=hs0.rest.env
 have b0:=hs0.rest.box.cell 0
 obtain⟨l9,f9,q9,hr⟩:=hS2.cls hc
 have c1:=hr.blk.cell 1
 have c2:=hr.blk.cell 2
 unfold clsC at c1 c2
 simp only [lTA,lCZ,lCS] at b0 c1 c2
 have ha:=pat_any leaf hid hS2
 unfold cpV at ha
 rw [hc] at ha
 dsimp only at ha
 have H:=Lib.hid hs0
 clear h hs0 hS2 hc hr
 cases hlf:c.lf with
 | false =>
  rw [hlf] at c1
  clear hno hlf
  go_enter Tryz.func11,Tryz.ntmps11
  go_wp2_with (go_at_call 34;refine ha.mono ?_;rintro e w1 ⟨rfl,rfl⟩)
  all_goals (go_returns;exact⟨rfl,H.out.rest.rest.done⟩)
 | true =>
  have hsh:c.sh=false:=hno.elim (fun e=>by rw [hlf] at e;cases e) fun e=>e
  rw [hlf] at c1
  rw [hsh] at c2
  clear hno hlf hsh
  go_enter Tryz.func11,Tryz.ntmps11
  go_wp2_with (go_at_call 34;refine ha.mono ?_;rintro e w1 ⟨rfl,rfl⟩)
  all_goals (go_returns;exact⟨rfl,H.out.rest.rest.done⟩)
theorem pwake_any {now:Int} (hB:PkB P)(hZ:PkZ n P)(hU:Up P leaf l)(hn:n+4*l.length < 100000)(hnow:U now)(h1:1≤leaf)(hc:lookM P leaf=some c)(hlf:c.lf=true) :
  Acts (fun e=>e=.returned (.tuple #[])) (PkX k mb ps P) (PkX k mb ps (wakeP owL now leaf l P)) 11 #[.pointer (some ⟨k,0,none⟩),.int .i64 leaf,.int .u64 now] Tryz.prog W:=by
 have hid:=wf_small (hB.ids _ _ hc).1 (hB.ids _ _ hc).2
 unfold wakeP
 rw [lfP_of hc,shP_of hc,hlf]
 cases hsh:c.sh with
 | true =>
  rw [if_pos ⟨rfl,rfl⟩]
  exact po_wake (wake_way hB hZ hU hn hnow).1 h1 hid hc hlf hsh
 | false =>
  rw [if_neg (fun h=>by cases h.2)]
  exact pwake_not hid hc (.inr hsh)
theorem wakeP_num {now:Int} (hB:PkB P)(hZ:PkZ n P)(hU:Up P leaf l)(hn:n+4*l.length < 100000)(hnow:U now):PkZ (n+4*l.length) (wakeP owL now leaf l P)∧∀ j,statP (wakeP owL now leaf l P) j=statP P j:=by
 unfold wakeP
 split
 ·exact⟨(wake_way (k:=0) (mb:=0) (ps:=fun _=>0) hB hZ hU hn hnow).2.1,(wake_way (k:=0) (mb:=0) (ps:=fun _=>0) hB hZ hU hn hnow).2.2⟩
 ·exact⟨hZ.mono (by omega),fun _=>rfl⟩
theorem psent_any {g:Int} {more:Bool} (hB:PkB P)(hZ:PkZ n P)(hU:Up P leaf l)(hn:n+4*l.length < 100000)(hg:U g)(h1:1≤leaf)(hc:lookM P leaf=some c)(hlf:c.lf=true) :
  Acts (fun e=>e=.returned (.tuple #[])) (PkX k mb ps P) (PkX k mb ps (sentP owL reachR leaf g more l P)) 15 #[.pointer (some ⟨k,0,none⟩),.int .i64 leaf,.int .u64 g,.bool more] Tryz.prog W:=by
 have hid:=wf_small (hB.ids _ _ hc).1 (hB.ids _ _ hc).2
 unfold sentP
 rw [lfP_of hc,if_pos hlf]
 exact po_sent (sent_way hB hZ hU hn hg).1 h1 hid hc hlf
theorem sentP_num {g:Int} {more:Bool} (hB:PkB P)(hZ:PkZ n P)(hU:Up P leaf l)(hn:n+4*l.length < 100000)(hg:U g):PkZ (n+4*l.length) (sentP owL reachR leaf g more l P)∧∀ j,statP (sentP owL reachR leaf g more l P) j=statP P j:=by
 unfold sentP
 split
 ·exact⟨(sent_way (k:=0) (mb:=0) (ps:=fun _=>0) (more:=more) hB hZ hU hn hg).2.1 _,(sent_way (k:=0) (mb:=0) (ps:=fun _=>0) (more:=more) hB hZ hU hn hg).2.2 _⟩
 ·exact⟨hZ.mono (by omega),fun _=>rfl⟩
end
end
section
open Go.RowKit Go.Maps
attribute [local go_sem ↓] Go.wp_at_zero Go.wp_at_succ
attribute [local go_sem] quietR quietAtR quietUponR midAt midUpon
theorem wpList_insert {P:Program} (w w1:World) {ops:Array Oper} {rest:List Oper} {o:Oper} {a:Act} {Q:Exit→Act→World→Prop} (hg:o.guard=none)(m x v:Operand)(t:TypeId)(hop:o.op=Op.insert t m x v) {vm vx vv:Value}
  (hm:a.eval m=vm) (hx:a.eval x=vx) (hv:a.eval v=vv) (hrun:(Instr.mapUpdate t vm vx vv).run P w=.ok () w1) (h:wpList P ops Q rest (a.put o.dst undef) w1):wpList P ops Q (o :: rest) a w:=by
 refine wpList_plain hg fun K' hK'=>?_
 unfold Oper.wp
 simp [execOp,hop,hm,hx,hv,hrun,Result.andThen]
 exact hK' _ _ h
def pk0:Pk:=[(0,⟨0,false,false,0,none,fam0,[],0⟩)]
theorem cls_made {w0 W:World} {A:Nat→Prop} {p q f:Nat} {c:Cls} {R:Ob} {l:Option Nat} (h:Sx w0 A W (Star (BoxO p 65 (clsC c l f q)) (Star (TrO q c.tr) (Star (FamO f c.fam) (Star (LimX l c.lim) R))))):Sx w0 A W (Star (ClsO p c) R):=by
 have h1:Sx w0 A W (Star (BoxO p 65 (clsC c l f q)) (Star (LimX l c.lim) (Star (FamO f c.fam) (Star (TrO q c.tr) R)))):=h.weak fun h=>h.under fun h=>(Star.swap (h.under Star.swap)).under Star.swap
 refine h1.weak fun h=>?_
 have h2:=Star.unassoc (Star.under h fun h=>Star.unassoc (h.under Star.unassoc))
 exact h2.over fun h=>⟨l,f,q,h⟩
theorem pk_laid {w0 W W':World} {A:Nat→Prop} {k mb p:Nat} {ps:Int→Nat} {P:Pk} {id:Int} {c:Cls} {E:Ob} (hE:Good E)(hn:lookM P id=none)
  (h:Sx w0 A W (Star (ClsO p c) (Star E (PkX k mb ps P)))) (hm:MapI Tryz.prog 3 W' mb (putM (ptV ps P) id (.pointer (some ⟨p,0,none⟩)))) (ht:W.mapTurned W' mb):Sx w0 A W' (Star E (PkX k mb (fun j=>if j=id then p else ps j) (putM P id c))):=by
 have h1:Sx w0 A W (Star (MapO mb (ptV ps P)) (Star (ClsO p c) (Star E (Star (BoxO k 68 #[.map (some mb)]) (StarL (fun q=>ClsO (ps q.1) q.2) P))))):=(h.swap3.swap2.swap)
 have hR:Rising P:=by
  obtain⟨S,hs⟩:=h1.first
  exact rising_pt.1 (hs.1.rising (int_keyed Tryz.underlying3))
 have h2:=h1.turn ((good_cls _ _).star (hE.star ((good_box _ _ _).star (good_starL (fun q=>good_cls _ _) _)))) hm ht
 have h3:Sx w0 A W' (Star E (Star (BoxO k 68 #[.map (some mb)]) (Star (MapO mb (putM (ptV ps P) id (.pointer (some ⟨p,0,none⟩)))) (Star (ClsO p c) (StarL (fun q=>ClsO (ps q.1) q.2) P))))):=h2.weak fun h=>(Star.swap (h.under fun h=>(Star.swap h).under Star.swap)).under Star.swap
 refine h3.weak fun {S} h=>h.under fun h=>?_
 have hne:∀ q∈P,q.1≠id:=look_none.1 hn
 have e1:ptV (fun j=>if j=id then p else ps j) (putM P id c)=putM (ptV ps P) id (.pointer (some ⟨p,0,none⟩)):=by
  rw [put_pt (ps:=ps) hR fun q hq hk=>if_neg hk,if_pos rfl]
 refine h.under fun h=>(h.over fun h=>?_).under fun h=>?_
 ·show MapO mb (ptV _ (putM P id c)) _ _
  rw [e1];exact h
 ·refine (starL_put hR).2 ?_
  rw [del_none hn]
  refine (h.over fun h=>?_).under fun h=>starL_congr (fun q hq S hs=>?_) h
  ·show ClsO (if id=id then p else ps id) c _ _
   rw [if_pos rfl];exact h
  ·show ClsO (if q.1=id then p else ps q.1) q.2 _ _
   rw [if_neg (hne q hq)];exact hs
theorem pnew_any (w:World):Calls Tryz.prog 7 #[] w (NewO w fun k=>PkO k pk0):=by
 have hmm:=@run_makeMap Tryz.prog
 have h1:Sx w (fun _=>False) (w.alloc (.map #[] 0)) (Star (MapO w.heap.size []) Emp) :=
  (Sx.start (P:=Emp) (fun b h=>h)).made (S:=fun b=>b=w.heap.size) good_emp (good_map _ _) ((Below.refl w.heap.size w).alloc (Nat.le_refl _) (.map #[] 0)) ⟨MapI.made w,fun b=>Iff.rfl⟩ fun b hb=>by rw [hb];exact Nat.le_refl _
 have H1:=Lib.hid h1
 have hst:∀ f q w3,Sx w (fun _=>False) w3 (Star (TrO q []) (Star (FamO f fam0) (Star (MapO w.heap.size []) Emp)))→∃ W5,(Instr.mapUpdate 66 (.map (some w.heap.size)) (.int .i64 0) (.pointer (some ⟨w3.heap.size,0,none⟩))).run Tryz.prog (w3.alloc (.cells #[.int .i64 0,.bool false,.bool false,.int .u64 0,.pointer none,.pointer (some ⟨f,0,none⟩),.pointer (some ⟨q,0,none⟩),.int .i64 0] 65))=.ok () W5 ∧
   Sx w (fun _=>False) (W5.alloc (.cells #[.map (some w.heap.size)] 68)) (PkO W5.heap.size pk0):=fun f q w3 h3=>by
  obtain⟨c0,hc0⟩:∃ c0:Cls,c0=⟨0,false,false,0,none,fam0,[],0⟩:=⟨_,rfl⟩
  have h4:=h3.alloc ((good_tr _ _).star ((good_fam _ _).star ((good_map _ _).star good_emp))) (clsC c0 none f q) 65
  have h5:Sx w (fun _=>False) (w3.alloc (.cells (clsC c0 none f q) 65)) (Star (BoxO w3.heap.size 65 (clsC c0 none f q)) (Star (TrO q c0.tr) (Star (FamO f c0.fam) (Star (LimX none c0.lim) (Star (MapO w.heap.size []) Emp))))):=by
   subst hc0
   exact h4.weak fun h=>h.under fun h=>h.under fun h=>h.under fun h=>⟨fun _=>False,_,fun b=>by simp,fun b h=>h.elim,⟨rfl,fun b h=>h⟩,h⟩
  have h6:=(cls_made h5).swap
  obtain⟨S6,hS6⟩:=h6.first
  obtain⟨W5,hr5,hm5,ht5⟩:=hS6.1.store (k:=0) (E:=58) (T:=66) Tryz.underlying3 Tryz.underlying66 (by decide) (by decide) (.pointer (some ⟨w3.heap.size,0,none⟩))
  subst hc0
  refine⟨W5,hr5,?_⟩
  have h7:=h6.turn ((good_cls _ _).star good_emp) hm5 ht5
  have h8:=h7.alloc ((good_map _ _).star ((good_cls _ _).star good_emp)) #[.map (some w.heap.size)] 68
  exact h8.weak fun h=>⟨w.heap.size,fun _=>w3.heap.size,h⟩
 have HST:=Lib.hid hst
 clear hst h1
 go_enter Tryz.func7,Tryz.ntmps7
 go_wp2_with (first
  | (go_at_call 31;refine (fo_new _).mono ?_;rintro e w2 hw2;obtain⟨f,rfl,h2⟩:=H1.out.new ((good_map _ _).star good_emp) (fun q=>good_fam q _) hw2;have H2:=Lib.hid h2;clear h2 hw2)
  | (go_at_call 32;refine (tr_new _).mono ?_;rintro e w3 hw3;obtain⟨q,rfl,h3⟩:=H2.out.new ((good_fam _ _).star ((good_map _ _).star good_emp)) (fun q=>good_tr q _) hw3;obtain⟨W5,hr5,h5⟩:=HST.out f q w3 h3;have H5:=Lib.hid h5;clear h3 hw3 h5)
  | (refine wpList_insert _ _ rfl _ _ _ _ rfl rfl rfl rfl hr5 ?_))
 go_ret
 obtain⟨S,hs,hw⟩:=H5.out
 exact⟨_,rfl,⟨hw.fr.os,hw.fr.tape,hw.fr.output,hw.fr.size,fun b hb=>hw.fr.block b hb fun h=>h⟩,S,hs,fun b hb=>(hw.own b hb).elim (fun h=>h.elim) id⟩
def shB (s:Sp):Bool:=!noneB s.s && okC s.s
theorem shares_any (s:Sp)(W:World)(hw:WfSp s):Calls Tryz.prog 35 #[spV s] W fun e W'=>e=.returned (.bool (shB s))∧Below W.heap.size W W':=by
 have hX:=Blk.new W 32 (spC s)
 have hb:=(Below.refl W.heap.size W).alloc (Nat.le_refl _) (.cells (spC s) 32)
 have hc1:=fun W=>cnoneH_any s.s.1 s.s.2.1 s.s.2.2 W
 have hc2:=fun W=>may_any s.s.1 s.s.2.1 s.s.2.2 W hw.2.2.1.2.1.1
 unfold spV spC at *
 have HX:=Lib.hid hX
 have HC2:=Lib.hid hc2
 unfold shB okC
 clear hw hX hc2
 generalize hn:noneB s.s=n at hc1 ⊢
 clear hn
 cases n with
 | true =>
  go_enter Tryz.func35,Tryz.ntmps35
  go_wp2_with (go_at_call 81;refine (hc1 _).mono ?_;rintro e w1 ⟨rfl,hb1⟩;have HB1:=Lib.hid (hb.trans (hb1.mono hb.size));clear hb1)
  go_ret
  exact⟨rfl,HB1.out⟩
 | false =>
  go_enter Tryz.func35,Tryz.ntmps35
  go_wp2_with (first
   | (go_at_call 81;refine (hc1 _).mono ?_;rintro e w1 ⟨rfl,hb1⟩;have n1:=HX.out.below hb1 HX.out.lt;have a6:=n1.cell 6;have a7:=n1.cell 7;have a8:=n1.cell 8;simp only [lTA,lCZ,lCS] at a6 a7 a8;have HB1:=Lib.hid (hb.trans (hb1.mono hb.size));clear hb1 n1)
   | (go_at_call 82;refine (HC2.out _).mono ?_;rintro e w2 ⟨rfl,hb2⟩;have HB2:=Lib.hid (HB1.out.trans (hb2.mono HB1.out.size));clear hb2))
  go_ret
  exact⟨by simp,HB2.out⟩
end
section
open Go.RowKit Go.Maps
attribute [local go_sem ↓] Go.wp_at_zero Go.wp_at_succ
attribute [local go_sem] quietR quietAtR quietUponR midAt midUpon
theorem put_cells {w0 W:World} {A:Nat→Prop} {B k mb:Nat} {ps:Int→Nat} {P:Pk} {s:Sp} (h:Sx w0 A W (Star (BoxO B 32 (spC s)) (PkX k mb ps P))) :
  W.cell? ⟨k,0,none⟩=some (.map (some mb))∧W.cell? ⟨B,0,none⟩=some (.int .i64 s.id)∧W.cell? ⟨B,1,none⟩=some (.int .i64 s.pa)∧W.cell? ⟨B,2,none⟩=some (.bool s.lf)∧W.cell? ⟨B,3,none⟩=some (.int .u64 s.r.1)∧W.cell? ⟨B,4,none⟩=some (.int .u64 s.r.2.1)∧W.cell? ⟨B,5,none⟩=some (.int .u64 s.r.2.2) ∧
   W.cell? ⟨B,6,none⟩=some (.int .u64 s.s.1)∧W.cell? ⟨B,7,none⟩=some (.int .u64 s.s.2.1)∧W.cell? ⟨B,8,none⟩=some (.int .u64 s.s.2.2)∧W.cell? ⟨B,9,none⟩=some (.int .u64 s.u.1)∧W.cell? ⟨B,10,none⟩=some (.int .u64 s.u.2.1)∧W.cell? ⟨B,11,none⟩=some (.int .u64 s.u.2.2)∧W.cell? ⟨B,12,none⟩=some (.int .i64 s.pk)∧W.cell? ⟨B,13,none⟩=some (.int .i64 s.by_):=by
 obtain⟨S,hS⟩:=h.env
 exact⟨hS.box.cell 0,h.box.cell 0,h.box.cell 1,h.box.cell 2,h.box.cell 3,h.box.cell 4,h.box.cell 5,h.box.cell 6,h.box.cell 7,h.box.cell 8,h.box.cell 9,h.box.cell 10,h.box.cell 11,h.box.cell 12,h.box.cell 13⟩
structure PkG (P:Pk):Prop extends PkB P where
 fam:∀ id c,lookM P id=some c→FamN c.fam
 un:∀ id c,lookM P id=some c→-1000000≤c.un∧c.un≤1000000
 len:P.length < 100000
theorem pput_any {W:World} {k mb:Nat} {ps:Int→Nat} {P:Pk} (s:Sp) {p:Cls} (hw:WfSp s)(hG:PkG P)(h1:1≤s.id)(hn:lookM P s.id=none)(hp:lookM P s.pa=some p)(hpl:p.lf=false)(hnm:lookM p.fam.m s.id=none) :
  Acts (fun e=>e=.returned (.bool true)) (PkX k mb ps P) (PkO k (putP P s.id s.pa s.lf (shB s) s.s (limN s.u))) 9 #[.pointer (some ⟨k,0,none⟩),spV s] Tryz.prog W:=fun A h=>by
 have hid:(Lit.int .i64 s.id).wf=true:=hw.1.1
 have hpa:(Lit.int .i64 s.pa).wf=true:=hw.1.2.1
 have hs0:=(Sx.start (P:=PkX k mb ps P) h).alloc (good_pkX _ _ _ _) (spC s) 32
 have H0:=Lib.hid hs0
 have HC:=Lib.hid (And.intro hw (And.intro hG (And.intro hn (And.intro hp hnm))))
 have HID:=Lib.hid (And.intro hid hpa)
 have hshw:=fun W=>shares_any s W hw
 obtain⟨sb,hsb⟩:∃ sb,shB s=sb:=⟨_,rfl⟩
 simp only [hsb] at hshw ⊢
 have HSB:=Lib.hid hsb
 clear hsb
 have hlim:=fun W=>lim_newO s.u W hw.2.2.2.1.1 hw.2.2.2.2.1.1 hw.2.2.2.2.2.1
 unfold spV spC at *
 clear h hs0 hw hG hid hpa
 go_enter Tryz.func9,Tryz.ntmps9
 go_upto_region 1 with fail
 generalize hW1:W.alloc (.cells #[.int .i64 s.id,.int .i64 s.pa,.bool s.lf,.int .u64 s.r.1,.int .u64 s.r.2.1,.int .u64 s.r.2.2,.int .u64 s.s.1,.int .u64 s.s.2.1,.int .u64 s.s.2.2,.int .u64 s.u.1,.int .u64 s.u.2.1,.int .u64 s.u.2.2,.int .i64 s.pk,.int .i64 s.by_] 32)=W1 at H0 ⊢
 obtain⟨B,hB⟩:∃ B,B=W.heap.size:=⟨_,rfl⟩
 rw [← hB] at H0 ⊢
 clear hB hW1
 obtain⟨k0,b0,b1,b2,b3,b4,b5,b6,b7,b8,b9,b10,b11,b12,b13⟩:=put_cells (s:=s) H0.out
 obtain⟨S1,hS1⟩:=H0.out.env
 have ha1:=pat_any s.pa HID.out.2 hS1
 have ha2:=pat_any s.id HID.out.1 hS1
 unfold cpV at ha1 ha2
 rw [hp] at ha1
 rw [hn] at ha2
 dsimp only at ha1 ha2
 obtain⟨lp,fp,qp,hr⟩:=hS1.cls hp
 have c1:=hr.blk.cell 1
 unfold clsC at c1
 rw [hpl] at c1
 simp only [lTA,lCZ,lCS] at c1
 clear hS1 hr hn hp hnm hpl
 go_upto_region 4 with (first
  | (go_at_call 34;with_reducible refine ha1.mono ?_;rintro e w1 ⟨rfl,rfl⟩;clear ha1)
  | (go_at_call 34;with_reducible refine ha2.mono ?_;rintro e w1 ⟨rfl,rfl⟩;clear ha2))
 clear k0 b0 b1 b2 b3 b4 b5 b6 b7 b8 b9 b10 b11 b12 b13 c1
 have hst:∀ l f q w6,Sx W A w6 (Star (TrO q []) (Star (FamO f fam0) (Star (LimO l (limN s.u)) (Star (BoxO B 32 (spC s)) (PkX k mb ps P))))) →
   ∃ W7,(Instr.mapUpdate 66 (.map (some mb)) (.int .i64 s.id) (.pointer (some ⟨w6.heap.size,0,none⟩))).run Tryz.prog (w6.alloc (.cells #[.int .i64 s.pa,.bool s.lf,.bool sb,.int .u64 0,.pointer (some ⟨l,0,none⟩),.pointer (some ⟨f,0,none⟩),.pointer (some ⟨q,0,none⟩),.int .i64 0] 65))=.ok () W7 ∧
    Sx W A W7 (Star (BoxO B 32 (spC s)) (PkX k mb (fun j=>if j=s.id then w6.heap.size else ps j) (putM P s.id (cls0 s.pa s.lf sb (limN s.u))))):=fun l f q w6 h6=>by
  obtain⟨c0,hc0⟩:∃ c0:Cls,c0=cls0 s.pa s.lf sb (limN s.u):=⟨_,rfl⟩
  have h7:=h6.alloc ((good_tr _ _).star ((good_fam _ _).star ((good_lim _ _).star ((good_box _ _ _).star (good_pkX _ _ _ _))))) (clsC c0 (some l) f q) 65
  have h8:Sx W A (w6.alloc (.cells (clsC c0 (some l) f q) 65)) (Star (BoxO w6.heap.size 65 (clsC c0 (some l) f q)) (Star (TrO q c0.tr) (Star (FamO f c0.fam) (Star (LimX (some l) c0.lim) (Star (BoxO B 32 (spC s)) (PkX k mb ps P)))))):=by
   subst hc0
   exact h7
  have h9:=cls_made h8
  obtain⟨S9,hS9⟩:=h9.rest.env
  obtain⟨W7,hr7,hm7,ht7⟩:=hS9.map.store (k:=s.id) (E:=58) (T:=66) Tryz.underlying3 Tryz.underlying66 HID.out.1 (by unfold ptV;rw [List.length_map];have:=HC.out.2.1.len;unfold maxLen;omega) (.pointer (some ⟨w6.heap.size,0,none⟩))
  subst hc0
  exact⟨W7,hr7,pk_laid (good_box _ _ _) HC.out.2.2.1 h9 hm7 ht7⟩
 unfold spC at hst
 have HST:=Lib.hid hst
 clear hst
 have s1:=put_cells (s:=s) H0.out
 go_region_held3 (fun W'=>W'.cell? ⟨k,0,none⟩=some (.map (some mb))∧W'.cell? ⟨B,0,none⟩=some (.int .i64 s.id)∧W'.cell? ⟨B,1,none⟩=some (.int .i64 s.pa)∧W'.cell? ⟨B,2,none⟩=some (.bool s.lf)∧W'.cell? ⟨B,3,none⟩=some (.int .u64 s.r.1)∧W'.cell? ⟨B,4,none⟩=some (.int .u64 s.r.2.1)∧W'.cell? ⟨B,5,none⟩=some (.int .u64 s.r.2.2)∧W'.cell? ⟨B,6,none⟩=some (.int .u64 s.s.1)∧W'.cell? ⟨B,7,none⟩=some (.int .u64 s.s.2.1)∧W'.cell? ⟨B,8,none⟩=some (.int .u64 s.s.2.2)∧W'.cell? ⟨B,9,none⟩=some (.int .u64 s.u.1)∧W'.cell? ⟨B,10,none⟩=some (.int .u64 s.u.2.1)∧W'.cell? ⟨B,11,none⟩=some (.int .u64 s.u.2.2)∧W'.cell? ⟨B,12,none⟩=some (.int .i64 s.pk)∧W'.cell? ⟨B,13,none⟩=some (.int .i64 s.by_)) (first | exact s1 | exact s3 | exact s4 | exact s5 | exact s6 | exact s7 | exact s8) (first
  | (go_at_call 35;refine (hshw _).mono ?_;rintro e w3 ⟨rfl,hb3⟩;have h3:=(H0.out.later ((good_box _ _ _).star (good_pkX _ _ _ _)) (by first | exact Below.refl _ _ | exact⟨rfl,rfl,rfl,Nat.le_refl _,fun _ _=>rfl⟩)).later ((good_box _ _ _).star (good_pkX _ _ _ _)) hb3;have s3:=put_cells (s:=s) h3;have H3:=Lib.hid h3;clear h3 hb3)
  | (go_at_call 36;refine (hlim _).mono ?_;rintro e w4 hw4;obtain⟨l,rfl,h4⟩:=(H3.out.later ((good_box _ _ _).star (good_pkX _ _ _ _)) (by first | exact Below.refl _ _ | exact⟨rfl,rfl,rfl,Nat.le_refl _,fun _ _=>rfl⟩)).new ((good_box _ _ _).star (good_pkX _ _ _ _)) (fun q=>good_lim q _) hw4;have s4:=put_cells (s:=s) h4.rest;have H4:=Lib.hid h4;clear h4 hw4)
  | (go_at_call 31;refine (fo_new _).mono ?_;rintro e w5 hw5;obtain⟨f,rfl,h5⟩:=(H4.out.later ((good_lim _ _).star ((good_box _ _ _).star (good_pkX _ _ _ _))) (by first | exact Below.refl _ _ | exact⟨rfl,rfl,rfl,Nat.le_refl _,fun _ _=>rfl⟩)).new ((good_lim _ _).star ((good_box _ _ _).star (good_pkX _ _ _ _))) (fun q=>good_fam q _) hw5;have s5:=put_cells (s:=s) h5.rest.rest;have H5:=Lib.hid h5;clear h5 hw5)
  | (go_at_call 32;refine (tr_new _).mono ?_;rintro e w6 hw6;obtain⟨q,rfl,h6⟩:=(H5.out.later ((good_fam _ _).star ((good_lim _ _).star ((good_box _ _ _).star (good_pkX _ _ _ _)))) (by first | exact Below.refl _ _ | exact⟨rfl,rfl,rfl,Nat.le_refl _,fun _ _=>rfl⟩)).new ((good_fam _ _).star ((good_lim _ _).star ((good_box _ _ _).star (good_pkX _ _ _ _)))) (fun q=>good_tr q _) hw6;have s6:=put_cells (s:=s) h6.rest.rest.rest;have s7:=put_cells (s:=s) (h6.alloc ((good_tr _ _).star ((good_fam _ _).star ((good_lim _ _).star ((good_box _ _ _).star (good_pkX _ _ _ _))))) #[.int .i64 s.pa,.bool s.lf,.bool sb,.int .u64 0,.pointer (some ⟨l,0,none⟩),.pointer (some ⟨f,0,none⟩),.pointer (some ⟨q,0,none⟩),.int .i64 0] 65).rest.rest.rest.rest;obtain⟨W7,hr7,h7⟩:=HST.out l f q w6 h6;have s8:=put_cells (s:=s) h7;have H7:=Lib.hid h7;clear h6 hw6 h7))
 clear hlim H3 H4 H5 s1 s3 s4 s5 s6 s7 s8 hr7 HST H0
 have hpne:s.pa≠s.id:=fun e=>by
  have h1:=HC.out.2.2.1
  have h2:=HC.out.2.2.2.1
  rw [e,h1] at h2;cases h2
 obtain⟨P1,hP1⟩:∃ P1,P1=putM P s.id (cls0 s.pa s.lf sb (limN s.u)):=⟨_,rfl⟩
 have hp1:lookM P1 s.pa=some p:=by rw [hP1,look_put_other _ hpne];exact HC.out.2.2.2.1
 have h7:=H7.out
 rw [← hP1] at h7
 obtain⟨ps1,hps1⟩:∃ ps1:Int→Nat,ps1=fun j=>if j=s.id then w6.heap.size else ps j:=⟨_,rfl⟩
 rw [← hps1] at h7
 have hpsa:ps s.pa=ps1 s.pa:=by rw [hps1];exact (if_neg hpne).symm
 rw [hpsa]
 have hfin:∀ c',putM P1 s.pa c'=updP P1 s.pa fun _=>c':=fun c'=>by unfold updP;rw [hp1]
 obtain⟨lp2,fp2,qp2,hf⟩:=h7.focE hp1
 have HP:=Lib.hid (And.intro hp1 hP1)
 have HF:=Lib.hid hf
 clear hP1 h7 hps1 hpsa hp1 H7 hf
 have hun:=HC.out.2.1.un _ _ HC.out.2.2.2.1
 cases sb with
 | false =>
  go_wp2_with (go_at_call 35;refine (hshw _).mono ?_;rintro e w8 ⟨rfl,hb8⟩;have h8:=HF.out.later ((good_box _ _ _).star good_focC) hb8;have c7:=h8.rest.box.cell 7;have f7:=h8.rest.box.frozen 7;unfold clsC at c7;simp only [lTA,lCZ,lCS] at c7;have H8:=Lib.hid h8;clear h8 hb8)
  go_returns
  have h9:=Sx.setE (good_box _ _ _) H8.out (u:=.int .i64 (p.un+1)) (i:=7) (cs':=clsC { p with un:=p.un+1 } lp2 fp2 qp2) rfl
  have h10:=Sx.unfocE (c':={ p with un:=p.un+1 }) h9 HP.out.1
  refine⟨rfl,?_⟩
  have hq:putP P s.id s.pa s.lf false s.s (limN s.u)=putM P1 s.pa { p with un:=p.un+1 }:=by
   unfold putP
   rw [← HP.out.2]
   unfold updP
   rw [HP.out.1]
   rfl
  rw [hq]
  exact (h10.rest.weak fun h=>⟨mb,ps1,h⟩).done
 | true =>
  go_upto_region 6 with (go_at_call 35;refine (hshw _).mono ?_;rintro e w8 ⟨rfl,hb8⟩;have h8:=HF.out.later ((good_box _ _ _).star good_focC) hb8;have H8:=Lib.hid h8;clear h8 hb8)
  have hbx:=H8.out.box
  have hbp:=H8.out.rest.box
  have o0:=fun e=>(over_cell (w:=w8) (e:=e) (o:=0) hbx.lt).trans (hbx.cell 0)
  have o6:=fun e=>(over_cell (w:=w8) (e:=e) (o:=6) hbx.lt).trans (hbx.cell 6)
  have o7:=fun e=>(over_cell (w:=w8) (e:=e) (o:=7) hbx.lt).trans (hbx.cell 7)
  have o8:=fun e=>(over_cell (w:=w8) (e:=e) (o:=8) hbx.lt).trans (hbx.cell 8)
  have o5:=fun e=>(over_cell (w:=w8) (e:=e) (o:=5) hbp.lt).trans (hbp.cell 5)
  unfold clsC at o5
  unfold spC at o0 o6 o7 o8
  simp only [lTA,lCZ,lCS] at o0 o5 o6 o7 o8
  clear hbx hbp hshw HF
  refine wp_region_over_tail 8 (by kernel_rfl) (by kernel_rfl) ?_
  simp only [List.take_succ_cons,List.take_zero,List.drop_succ_cons,List.drop_zero]
  repeat (first | go_big_quiet_skip | (go_big_quiet_want;go_big_quiet_op;go_big_quiet_on))
  refine wpQuiet_nil ?_
  rintro w3 ⟨e,he⟩
  have hb3:=over_below w8 e
  rw [← he] at hb3
  have hf3:=H8.out.later ((good_box _ _ _).star good_focC) hb3
  have hsb:=HSB.out
  unfold shB okC at hsb
  simp only [Bool.and_eq_true] at hsb
  have HD:=Lib.hid (Sx.act4 (good_box _ _ _) (good_box _ _ _) (good_limX _ _) (good_fam _ _) good_focC3 hf3 (fo_add s.id s.s HID.out.1 HC.out.2.2.2.2 HC.out.1.2.2.1.1.1 HC.out.1.2.2.1.2.1.1 HC.out.1.2.2.1.2.2.1 hsb.2 (HC.out.2.1.fam _ _ HC.out.2.2.2.1).len))
  clear he hb3 hf3 o0 o5 o6 o7 o8 H8 hsb
  go_wp2_with (go_at_call 37;refine HD.out.mono ?_;rintro e w9 ⟨rfl,h9⟩;have c7:=h9.rest.box.cell 7;have f7:=h9.rest.box.frozen 7;unfold clsC at c7;simp only [lTA,lCZ,lCS] at c7;have H9:=Lib.hid h9;clear h9)
  go_returns
  have h10:=Sx.setE (good_box _ _ _) H9.out (u:=.int .i64 (p.un+1)) (i:=7) (cs':=clsC { p with fam:=addF s.id s.s p.fam,un:=p.un+1 } lp2 fp2 qp2) rfl
  have h11:=Sx.unfocE (c':={ p with fam:=addF s.id s.s p.fam,un:=p.un+1 }) h10 HP.out.1
  refine⟨rfl,?_⟩
  have hq:putP P s.id s.pa s.lf true s.s (limN s.u)=putM P1 s.pa { p with fam:=addF s.id s.s p.fam,un:=p.un+1 }:=by
   unfold putP
   rw [← HP.out.2]
   unfold updP
   rw [HP.out.1]
   rfl
  rw [hq]
  exact (h11.rest.weak fun h=>⟨mb,ps1,h⟩).done
end
section
open Go.RowKit Go.Maps
section
variable {ow : Option Rn → Int → Int} {dp dp' : Int → Nat} {P Q : Pk} {wt : Int → Bool}
theorem PAll.deep (h:PAll ow dp P wt)(he:∀ id c,lookM P id=some c→dp' id=dp id):PAll ow dp' P wt:=by
 refine⟨⟨⟨h.wf.rise,h.wf.root,fun id c hc h0=>?_,h.wf.pos,h.wf.inv,h.wf.kids⟩,h.noted,h.awk⟩,h.fams⟩
 obtain⟨p,hp,hl,hd⟩:=h.wf.par id c hc h0
 exact⟨p,hp,hl,by rw [he id c hc,he c.pa p hp,hd]⟩
end
structure SpR (c:Cls)(s:Cl):Prop where
 pa:c.pa=s.1.pa
 lf:c.lf=s.1.lf
 sh:c.sh=!noneB s.1.s
structure GInv (n k:Nat)(P:Pk)(M:Mp)(wt:Int→Bool)(sent:Int→Int):Prop where
 all:PAll owL (dep M) P wt
 inv:InvT M
 num:PkZ n P
 len:P.length≤M.length+1
 ids:∀ id c,lookM M id=some c→id≤63
 is:∀ id,id≠0→(lookM P id).isSome=(lookM M id).isSome
 rel:∀ id c s,id≠0→lookM P id=some c→lookM M id=some s→SpR c s∧c.tot=sent id
 sent:∀ id,0≤sent id∧sent id≤k*524288
section
variable {n k : Nat} {P : Pk} {M : Mp} {wt : Int → Bool} {sent : Int → Int}
theorem GInv.put_len {P Q:Pk} (hR:Rising P)(hR2:Rising Q)(h:∀ j,(lookM Q j).isSome=(lookM P j).isSome):Q.length=P.length:=by
 have key:∀ {P Q:Pk},Rising P→Rising Q→(∀ j,(lookM Q j).isSome=true→(lookM P j).isSome=true)→Q.length≤P.length:=fun {P Q} h1 h2 h3=>by
  have:=nodup_leH (l:=Q.map (·.1)) (m:=P.map (·.1)) (List.pairwise_map.2 (List.Pairwise.imp (fun h=>by omega) h2)) fun x hx=>by
   obtain⟨⟨y,c⟩,hm,rfl⟩:=List.mem_map.1 hx
   have h4:=h3 y (by rw [look_of_mem h2 hm];rfl)
   obtain⟨c',hc'⟩:=Option.isSome_iff_exists.1 h4
   exact List.mem_map.2 ⟨(y,c'),mem_of_look hc',rfl⟩
  simpa using this
 have h1:=key hR hR2 fun j hj=>by rw [← h j];exact hj
 have h2:=key hR2 hR fun j hj=>by rw [h j];exact hj
 omega
theorem limZ (n:Nat)(u:Int × Int × Int):∀ x,limN u=some x→RnZ n x:=fun x hx=>by
 unfold limN at hx
 split at hx
 ·cases hx
 ·cases hx
  exact⟨by unfold rn0;dsimp only;omega,Nat.zero_le _⟩
end
end
section
open Go.RowKit Go.Maps
def essP (P:Pk)(j:Int):Option (Int × Option Rn × Fam):=(lookM P j).map fun c=>(c.tot,c.lim,c.fam)
theorem ess_of {P:Pk} {j:Int} {c:Cls} (h:lookM P j=some c):essP P j=some (c.tot,c.lim,c.fam):=by unfold essP;rw [h];rfl
theorem ess_upd (P:Pk)(q:Int)(f:Cls→Cls)(j:Int):essP (updP P q f) j=if j=q then (lookM P q).map (fun c=>((f c).tot,(f c).lim,(f c).fam)) else essP P j:=by
 unfold essP
 rw [look_upd]
 by_cases e:j=q
 ·rw [if_pos e,if_pos e]
  cases lookM P q <;> rfl
 ·rw [if_neg e,if_neg e]
theorem ess_note (ow:Option Rn→Int→Int)(P:Pk)(id j:Int):essP (noteP ow P id) j=essP P j:=by
 unfold noteP
 cases paP P id with
 | none=>rfl
 | some q =>
  dsimp only
  rw [ess_upd]
  by_cases e:j=q
  ·rw [if_pos e,e]
   unfold essP
   cases lookM P q <;> rfl
  ·rw [if_neg e]
theorem ess_updF {P:Pk} {id:Int} (hp:paP P id=some 0)(g:Fam→Fam)(j:Int):essP (updF P id g) j=if j=0 then (essP P 0).map (fun x=>(x.1,x.2.1,g x.2.2)) else essP P j:=by
 unfold updF
 rw [hp]
 dsimp only
 rw [ess_upd]
 by_cases e:j=0
 ·rw [if_pos e,if_pos e]
  unfold essP
  cases lookM P 0 <;> rfl
 ·rw [if_neg e,if_neg e]
def dpF (j:Int):Nat:=if j=0 then 0 else 1
structure FlatR (n:Nat)(P:Pk)(wt:Int→Bool)(D:List DC)(F:Fam)(fl:Nat):Prop where
 all:PAll owL dpF P wt
 flat:FlatP P
 fd:FlatD D fl
 num:PkZ n P
 len:P.length≤D.length
 is:∀ id,(lookM P id).isSome=(decide (0≤id) && decide (id < (D.length:Int)))
 root:(essP P 0).map (·.2.2)=some F
 rel:∀ (i:Nat) e,i≠0→D[i]?=some e→(essP P i).map (fun x=>(x.1,x.2.1))=some (e.tot,e.o)
 shr:∀ (i:Nat) e,i≠0→D[i]?=some e→shP P i=!noneB e.s.s
 tot:∀ (i:Nat) e,D[i]?=some e→0≤e.tot∧e.tot≤4611686018427387904
section
variable {n fl : Nat} {P : Pk} {wt : Int → Bool} {D : List DC} {F : Fam}
theorem FlatR.c0 (h:FlatR n P wt D F fl):∃ c,lookM P 0=some c∧c.fam=F∧c.lf=false:=by
 obtain⟨c,hc,hl⟩:=h.all.wf.root
 have:=h.root
 rw [ess_of hc] at this
 exact⟨c,hc,Option.some.inj this,hl⟩
theorem FlatR.famZ (h:FlatR n P wt D F fl):FamZ n F:=by
 obtain⟨c,hc,rfl,_⟩:=h.c0
 exact h.num.fam 0 c hc
theorem FlatR.leaf (h:FlatR n P wt D F fl) {i:Nat} {e:DC} (h1:1≤i)(he:D[i]?=some e):∃ c,lookM P i=some c∧c.lf=true∧c.pa=0∧c.tot=e.tot∧c.lim=e.o∧c.sh=!noneB e.s.s:=by
 have hl:=(List.getElem?_eq_some_iff.1 he).1
 have hs:=h.is i
 rw [decide_eq_true (by omega),decide_eq_true (by omega)] at hs
 obtain⟨c,hc⟩:=Option.isSome_iff_exists.1 hs
 have hr:=h.rel i e (by omega) he
 rw [ess_of hc] at hr
 have hr2:=Option.some.inj hr
 have hsh:=h.shr i e (by omega) he
 rw [shP_of hc] at hsh
 exact⟨c,hc,h.flat.lf i c hc (by omega),h.flat.pa i c hc,congrArg (·.1) hr2,congrArg (·.2) hr2,hsh⟩
theorem FlatR.pb (h:FlatR n P wt D F fl):PkB P:=by
 have hf:=h.fd.few
 refine⟨fun id c hc=>?_,fun id c hc h0=>?_⟩
 ·have:=h.is id
  rw [hc] at this
  have:=this.symm
  simp only [Option.isSome_some,Bool.and_eq_true,decide_eq_true_eq] at this
  omega
 ·obtain⟨p,hp,_⟩:=h.all.wf.par id c hc h0
  exact⟨p,hp⟩
theorem FlatR.pg (h:FlatR n P wt D F fl)(hn:n < 100000):PkG P :=
 ⟨h.pb,fun id c hc=>(h.num.fam id c hc).famN hn,fun id c hc=>by have:=h.num.un id c hc;omega,by have:=h.len;have:=h.fd.few;omega⟩
theorem FlatR.isD (h:FlatR n P wt D F fl)(id:Int):isD D id=(decide (0 < id) && (lookM P id).isSome):=by
 rw [h.is]
 unfold Proofs.YtmmeopjemkjllaaGreat.isD
 by_cases h1:1≤id
 ·rw [decide_eq_true h1,decide_eq_true (show 0 < id by omega),decide_eq_true (show 0≤id by omega),Bool.true_and,Bool.true_and]
 ·rw [decide_eq_false h1,decide_eq_false (show ¬ 0 < id by omega),Bool.false_and,Bool.false_and]
theorem FlatR.look (h:FlatR n P wt D F fl) {id:Int} (hd:Proofs.YtmmeopjemkjllaaGreat.isD D id=true):∃ i:Nat,∃ e c,id=i∧1≤i∧D[i]?=some e∧lookM P i=some c∧c.lf=true∧c.pa=0∧c.tot=e.tot∧c.lim=e.o∧c.sh=!noneB e.s.s:=by
 obtain⟨_,i,rfl,hlt,h1⟩:=posD_is hd
 obtain⟨c,hc⟩:=h.leaf h1 (List.getElem?_eq_getElem hlt)
 exact⟨i,_,c,rfl,h1,List.getElem?_eq_getElem hlt,hc⟩
theorem FlatR.mem (h:FlatR n P wt D F fl):MemD D F:=fun q hq=>by
 obtain⟨c,hc,rfl,_⟩:=h.c0
 have hl:=look_of_mem h.famZ.rise hq
 obtain⟨h0,hpa⟩:=h.all.fams 0 q.1 (by rw [kf_of hc,hl];rfl)
 obtain⟨c',hc',_⟩:=paP_some hpa
 rw [h.isD,hc',decide_eq_true h0]
 rfl
theorem FlatR.aw (h:FlatR n P wt D F fl)(id:Int):awP P id=(Proofs.YtmmeopjemkjllaaGreat.isD D id && fawF F id):=by
 cases hd:Proofs.YtmmeopjemkjllaaGreat.isD D id with
 | true =>
  obtain⟨i,e,c,rfl,h1,he,hc,hlf,hpa,_⟩:=h.look hd
  obtain⟨c0,hc0,rfl,_⟩:=h.c0
  rw [awP_fam (by omega) hc (by rw [hpa];exact hc0),Bool.true_and]
 | false =>
  rw [h.isD] at hd
  rw [Bool.false_and]
  by_cases h0:0 < id
  ·rw [decide_eq_true h0,Bool.true_and] at hd
   exact awP_none (by cases e:lookM P id with | none=>rfl | some c=>rw [e] at hd;cases hd)
  ·unfold awP
   rw [decide_eq_false h0,Bool.false_and]
theorem FlatR.v (h:FlatR n P wt D F fl)(id:Int):vP P id=if Proofs.YtmmeopjemkjllaaGreat.isD D id=true then fvF F id else 0:=by
 cases hd:Proofs.YtmmeopjemkjllaaGreat.isD D id with
 | true =>
  obtain⟨i,e,c,rfl,h1,he,hc,hlf,hpa,_⟩:=h.look hd
  obtain⟨c0,hc0,rfl,_⟩:=h.c0
  rw [vP_fam (by omega) hc (by rw [hpa];exact hc0),if_pos rfl]
 | false =>
  rw [h.isD] at hd
  rw [if_neg (by decide)]
  unfold vP
  by_cases h0:0 < id
  ·rw [decide_eq_true h0,Bool.true_and] at hd
   rw [if_pos h0]
   have:lookM P id=none:=by cases e:lookM P id with | none=>rfl | some c=>rw [e] at hd;cases hd
   unfold memP paP
   rw [this]
   rfl
  ·rw [if_neg h0]
theorem FlatR.total (h:FlatR n P wt D F fl)(id:Int):totP P id=totD D id:=by
 unfold totP totD
 cases hd:Proofs.YtmmeopjemkjllaaGreat.isD D id with
 | true =>
  obtain⟨i,e,c,rfl,h1,he,hc,hlf,hpa,ht,_⟩:=h.look hd
  rw [if_pos (by omega),hc,if_pos rfl,show ((i:Int).toNat)=i by omega,he]
  exact ht
 | false =>
  rw [h.isD] at hd
  rw [if_neg (c:=false=true) (by decide)]
  by_cases h0:0 < id
  ·rw [decide_eq_true h0,Bool.true_and] at hd
   rw [if_pos h0]
   have:lookM P id=none:=by cases e:lookM P id with | none=>rfl | some c=>rw [e] at hd;cases hd
   rw [this]
  ·rw [if_neg h0]
theorem FlatR.fitP (h:FlatR n P wt D F fl) {id:Int} (hd:Proofs.YtmmeopjemkjllaaGreat.isD D id=true):Proofs.YtmmeopjemkjllaaGreat.fitP owL P id=fitD D id:=by
 obtain⟨i,e,c,rfl,h1,he,hc,hlf,hpa,ht,hlm,_⟩:=h.look hd
 unfold Proofs.YtmmeopjemkjllaaGreat.fitP fitD
 rw [hc,show ((i:Int).toNat)=i by omega,he]
 show fitC owL c=_
 rw [flat_fit h.flat hc (by omega),ht,hlm]
theorem FlatR.fit (h:FlatR n P wt D F fl)(id:Int):fitA P id=if (Proofs.YtmmeopjemkjllaaGreat.isD D id && fawF F id)=true then fitD D id else 9223372036854775808:=by
 unfold fitA
 rw [h.aw]
 cases hd:Proofs.YtmmeopjemkjllaaGreat.isD D id with
 | true=>rw [h.fitP hd];rfl
 | false=>rfl
theorem FlatR.tree (h:FlatR n P wt D F fl):∃ c,lookM P 0=some c∧c.lf=false∧c.tr=(ordK F.m).map fun k=>(k,fitD D k.2):=by
 obtain⟨c,hc,hf,hl⟩:=h.c0
 refine⟨c,hc,hl,?_⟩
 rw [flat_tree h.all h.flat hc (by rw [hf];exact h.famZ.rise),hf]
 exact List.map_congr_left fun k hk=>by rw [h.fitP (ord_is h.mem hk)]
theorem FlatR.tick (h:FlatR n P wt D F fl):tickP P=tickO D (ordK F.m):=by
 obtain⟨c,hc,_,ht⟩:=h.tree
 unfold tickP tickO
 rw [hc]
 dsimp only
 rw [ht]
 cases lowV ((ordK F.m).map fun k=>(k,fitD D k.2)) <;> rfl
theorem FlatR.next (h:FlatR n P wt D F fl)(now:Int):∃ m,Desc P now 0 ((firstO D now (ordK F.m)).map (·.2)) m:=by
 obtain⟨c,hc,hl,ht⟩:=h.tree
 have hw:withinV c.tr now=(firstO D now (ordK F.m)).map (·.2):=by
  unfold withinV firstO
  rw [ht,List.find?_map,Option.map_map]
  rfl
 cases hf:firstO D now (ordK F.m) with
 | none =>
  rw [hf] at hw
  exact⟨0,.stop hc hl hw⟩
 | some x =>
  rw [hf] at hw
  have hx:=ord_is h.mem (List.mem_of_find?_eq_some hf)
  obtain⟨i,e,c',hxi,h1,he,hc',hlf,_⟩:=h.look hx
  rw [Option.map_some] at hw ⊢
  rw [hxi] at hw ⊢
  exact⟨1,.go hc hl hw (.leaf hc' hlf)⟩
end
end
section
open Go.RowKit Go.Maps
attribute [local go_sem ↓] Go.wp_at_zero Go.wp_at_succ
attribute [local go_sem] quietR quietAtR quietUponR midAt midUpon
section
variable {p t : Nat} {now : Int} {sent : Int → Int} {wt : Int → Bool} {i : Nat}
end
structure GAct where
 k:Int
 s:Sp
 af:Int
 g:Int
 mo:Bool
end
section
open Go.RowKit Go.Maps
attribute [local go_sem ↓] Go.wp_at_zero Go.wp_at_succ
attribute [local go_sem] quietR quietAtR quietUponR midAt midUpon
theorem Acts.pk {W:World} {k:Nat} {P P':Pk} {φ:Ending→Prop} {f:FuncId} {args:Array Value} {prog:Program} (h:∀ mb ps,Acts φ (PkX k mb ps P) (PkX k mb ps P') f args prog W):Acts φ (PkO k P) (PkO k P') f args prog W:=fun A ⟨mb,ps,hA⟩ =>
 (h mb ps A hA).mono fun e W' ⟨h1,A',hq,hw⟩=>⟨h1,A',⟨mb,ps,hq⟩,hw⟩
theorem Acts.pkO {W:World} {k:Nat} {P P':Pk} {φ:Ending→Prop} {f:FuncId} {args:Array Value} {prog:Program} (h:∀ mb ps,Acts φ (PkX k mb ps P) (PkO k P') f args prog W):Acts φ (PkO k P) (PkO k P') f args prog W:=fun A ⟨mb,ps,hA⟩=>h mb ps A hA
end
section
open Go.RowKit Go.Maps
open Go.ChangeShapes Go.WideShapes Go.Deep
attribute [local go_sem ↓] Go.wp_at_zero Go.wp_at_succ
attribute [local go_sem] quietR quietAtR quietUponR midAt midUpon
theorem look_pk0 {id:Int} {c:Cls} (h:lookM pk0 id=some c):id=0∧c=⟨0,false,false,0,none,fam0,[],0⟩:=by
 unfold pk0 lookM at h
 by_cases e:(0:Int)=id
 ·rw [if_pos e] at h
  exact⟨e.symm,(Option.some.inj h).symm⟩
 ·rw [if_neg e] at h
  cases h
theorem ginv_0:GInv 0 0 pk0 [] (fun _=>false) (fun _=>0):=by
 have hpos:∀ id c,0 < id→¬ lookM pk0 id=some c:=fun id c h0 h=>by have:=(look_pk0 h).1;omega
 refine⟨⟨⟨⟨by simp [pk0,Rising],⟨_,rfl,rfl⟩,fun id c hc h0=>absurd (look_pk0 hc).1 h0,fun id c hc=>by rw [(look_pk0 hc).1];exact Int.le_refl _,fun id c hc=>by rw [(look_pk0 hc).2];exact InvE.nil',fun id c e hc he=>by rw [(look_pk0 hc).2] at he;cases he⟩,fun id c p h0 _ hc=>absurd hc (hpos id c h0),⟨fun id h0 hs=>?_,fun id h0 hs=>?_,fun id h0 hs=>?_,fun id h0 hs=>?_⟩⟩,fun q j hk=>?_⟩,inv_nil,⟨fun id c hc=>?_,fun id c hc=>?_,fun id c x hc hx=>?_,fun id c hc=>?_,fun id c hc=>?_⟩,by simp [pk0],fun id c h=>(by cases h),fun id h0=>?_,fun id c s h0 hc=>absurd (look_pk0 hc).1 h0,fun id=>by omega⟩
 ·obtain⟨c,hc⟩:=Option.isSome_iff_exists.1 hs;exact absurd hc (hpos id c h0)
 ·obtain⟨c,hc⟩:=Option.isSome_iff_exists.1 hs;exact absurd hc (hpos id c h0)
 ·obtain⟨c,hc⟩:=Option.isSome_iff_exists.1 hs;exact absurd hc (hpos id c h0)
 ·obtain⟨c,hc⟩:=Option.isSome_iff_exists.1 hs;exact absurd hc (hpos id c h0)
 ·unfold kf famP at hk
  cases hq:lookM pk0 q with
  | none=>rw [hq] at hk;cases hk
  | some c=>rw [hq,(look_pk0 hq).2] at hk;cases hk
 ·rw [(look_pk0 hc).2];dsimp only;omega
 ·rw [(look_pk0 hc).2];exact Nat.zero_le _
 ·rw [(look_pk0 hc).2] at hx;cases hx
 ·rw [(look_pk0 hc).2];exact famZ_0
 ·rw [(look_pk0 hc).2];dsimp only;omega
 ·cases hc:lookM pk0 id with
  | none=>rfl
  | some c=>exact absurd (look_pk0 hc).1 h0
theorem gu64_U {n:Int} (h:(Lit.int .u64 n).wf=true):U n:=by
 simp [Lit.wf,IntKind.min,IntKind.max,IntKind.signed,IntKind.bits] at h
 unfold U
 omega
instance:Inhabited GAct:=⟨⟨0,⟨0,0,false,(0,0,0),(0,0,0),(0,0,0),0,0⟩,0,0,false⟩⟩
theorem Sx.newO {w w':World} {P:Ob} (h:Sx w (fun _=>False) w' P):Below w.heap.size w w'∧∃ S,P w' S∧∀ b,S b→w.heap.size≤b:=by
 obtain⟨S,hs,hw⟩:=h
 exact⟨⟨hw.fr.os,hw.fr.tape,hw.fr.output,hw.fr.size,fun b hb=>hw.fr.block b hb fun h=>h⟩,S,hs,fun b hb=>(hw.own b hb).elim (fun h=>h.elim) id⟩
end
section
open Go.RowKit Go.Maps
section
variable {n fl : Nat} {P : Pk} {wt : Int → Bool} {D : List DC} {F : Fam}
theorem flatR_0 (q fl:Nat):FlatR 0 pk0 (fun _=>false) [⟨sp00,0,q,fl,none⟩] fam0 fl:=by
 have hone:∀ (i:Nat) (e:DC),[(⟨sp00,0,q,fl,none⟩:DC)][i]?=some e→i=0∧e=⟨sp00,0,q,fl,none⟩:=fun i e h=>by
  obtain⟨h1,h2⟩:=List.getElem?_eq_some_iff.1 h
  simp at h1
  subst h1
  exact⟨rfl,h2.symm⟩
 refine⟨ginv_0.all.deep fun id c hc=>?_,⟨fun id c hc=>by rw [(look_pk0 hc).2],fun id c hc h0=>absurd (look_pk0 hc).1 h0⟩,⟨⟨_,rfl,rfl,rfl⟩,fun i e he=>?_,fun i e he h0=>absurd (hone i e he).1 h0,by simp⟩,ginv_0.num,by simp [pk0],fun id=>?_,rfl,fun i e h0 he=>absurd (hone i e he).1 h0,fun i e h0 he=>absurd (hone i e he).1 h0,fun i e he=>?_⟩
 ·rw [(look_pk0 hc).1];rfl
 ·obtain⟨rfl,rfl⟩:=hone i e he
  exact⟨rfl,rfl⟩
 ·unfold pk0 lookM
  by_cases e:(0:Int)=id
  ·rw [if_pos e,← e];rfl
  ·rw [if_neg e]
   have:¬ (0≤id∧id < (([⟨sp00,0,q,fl,none⟩]:List DC).length:Int)):=by simp;omega
   by_cases h0:0≤id
   ·rw [decide_eq_true h0,decide_eq_false (fun h=>this ⟨h0,h⟩)];rfl
   ·rw [decide_eq_false h0];rfl
 ·rw [(hone i e he).2]
  exact⟨Int.le_refl _,show (0:Int)≤_ by decide⟩
theorem shD_is (s:Sp):noneB (shD s.s)=!shB s:=by
 unfold shD shB
 by_cases h:okC s.s=true
 ·rw [if_pos h,h,Bool.and_true,Bool.not_not]
 ·rw [if_neg h]
  rw [show okC s.s=false by simpa using h,Bool.and_false]
  rfl
theorem FlatR.put (h:FlatR n P wt D F fl) {s:Sp} (q f:Nat)(hid:s.id=(D.length:Int))(hpa:s.pa=0)(hlf:s.lf=true)(hl:D.length < 1000) :
  FlatR (n+1) (putP P s.id s.pa s.lf (shB s) s.s (limN s.u)) (fun j=>if j=s.id then false else wt j) (D ++ [⟨{ s with s:=shD s.s },0,q,f,limN s.u⟩]) (if noneB (shD s.s)=true then F else addF s.id (shD s.s) F) fl∧lookM P s.id=none:=by
 obtain⟨c0,hc0,hf0,hl0⟩:=h.c0
 have hD1:0 < D.length:=by
  obtain⟨e0,he0,_⟩:=h.fd.zero
  exact (List.getElem?_eq_some_iff.1 he0).1
 have hnP:lookM P s.id=none:=by
  have:=h.is s.id
  rw [decide_eq_false (show ¬ s.id < (D.length:Int) by omega),Bool.and_false] at this
  cases e:lookM P s.id with
  | none=>rfl
  | some c=>rw [e] at this;cases this
 refine⟨?_,hnP⟩
 have hp:lookM P s.pa=some c0:=by rw [hpa];exact hc0
 obtain⟨h1,hlook⟩:=put_inv (share:=s.s) (lim:=limN s.u) (lf:=s.lf) (sh:=shB s) h.all (by omega) hnP hp hl0 fun hl=>by rw [hlf] at hl;cases hl
 have h2:PAll owL dpF (putP P s.id s.pa s.lf (shB s) s.s (limN s.u)) (fun j=>if j=s.id then false else wt j):=h1.deep fun id c _=>by
  by_cases e:id=s.id
  ·rw [if_pos e,hpa];unfold dpF;rw [if_neg (by omega),if_pos rfl]
  ·rw [if_neg e]
 have hlenQ:(putP P s.id s.pa s.lf (shB s) s.s (limN s.u)).length=P.length+1:=by
  unfold putP
  rw [GInv.put_len (P:=putM P s.id (cls0 s.pa s.lf (shB s) (limN s.u))) (rising_put _ _ h.all.wf.rise) (rising_upd (rising_put _ _ h.all.wf.rise) _ _) fun j=>?_,put_len_new _ hnP]
  rw [look_upd]
  by_cases e:j=s.pa
  ·rw [if_pos e,e];exact Option.isSome_map
  ·rw [if_neg e]
 have hFn:(if shB s=true then addF s.id s.s c0.fam else c0.fam)=if noneB (shD s.s)=true then F else addF s.id (shD s.s) F:=by
  rw [shD_is,hf0]
  cases hb:shB s with
  | true =>
   have:okC s.s=true:=by unfold shB at hb;exact (Bool.and_eq_true _ _ ▸ hb).2
   rw [if_pos rfl,if_neg (by decide)]
   unfold shD
   rw [if_pos this]
  | false=>rw [if_neg (by decide),Bool.not_false,if_pos rfl]
 generalize putP P s.id s.pa s.lf (shB s) s.s (limN s.u)=Q at *
 have happ:∀ (i:Nat) (e:DC),(D ++ [(⟨{ s with s:=shD s.s },0,q,f,limN s.u⟩:DC)])[i]?=some e→(i=D.length∧e=⟨{ s with s:=shD s.s },0,q,f,limN s.u⟩)∨(i < D.length∧D[i]?=some e):=fun i e he=>by
  by_cases hi:i < D.length
  ·rw [List.getElem?_append_left hi] at he
   exact .inr ⟨hi,he⟩
  ·have hi2:=(List.getElem?_eq_some_iff.1 he).1
   simp at hi2
   have:i=D.length:=by omega
   subst this
   rw [List.getElem?_append_right (Nat.le_refl _),Nat.sub_self] at he
   exact .inl ⟨rfl,(Option.some.inj he).symm⟩
 have hz:∀ id c,lookM Q id=some c→(id=s.id∧c=cls0 s.pa s.lf (shB s) (limN s.u))∨(id≠s.id∧id=0∧c={ c0 with fam:=if shB s=true then addF s.id s.s c0.fam else c0.fam,un:=c0.un+1 })∨(id≠s.id∧id≠0∧lookM P id=some c):=fun id c hc=>by
  rw [hlook] at hc
  by_cases e:id=s.id
  ·rw [if_pos e] at hc;exact .inl ⟨e,(Option.some.inj hc).symm⟩
  ·rw [if_neg e,hpa] at hc
   by_cases e2:id=0
   ·rw [if_pos e2] at hc;exact .inr (.inl ⟨e,e2,(Option.some.inj hc).symm⟩)
   ·rw [if_neg e2] at hc;exact .inr (.inr ⟨e,e2,hc⟩)
 refine⟨h2,⟨fun id c hc=>?_,fun id c hc h0=>?_⟩,⟨?_,fun i e he=>?_,fun i e he h0=>?_,by simp;omega⟩,⟨fun id c hc=>?_,fun id c hc=>?_,fun id c x hc hx=>?_,fun id c hc=>?_,fun id c hc=>?_⟩,?_,fun id=>?_,?_,fun i e h0 he=>?_,fun i e h0 he=>?_,fun i e he=>?_⟩
 ·rcases hz id c hc with ⟨_,rfl⟩ | ⟨_,_,rfl⟩ | ⟨_,_,hc⟩
  ·exact hpa
  ·exact h.flat.pa 0 c0 hc0
  ·exact h.flat.pa id c hc
 ·rcases hz id c hc with ⟨_,rfl⟩ | ⟨_,e,rfl⟩ | ⟨_,_,hc⟩
  ·exact hlf
  ·exact absurd e h0
  ·exact h.flat.lf id c hc h0
 ·obtain⟨e0,he0,hh⟩:=h.fd.zero
  exact⟨e0,by rw [List.getElem?_append_left hD1];exact he0,hh⟩
 ·rcases happ i e he with ⟨rfl,rfl⟩ | ⟨_,he⟩
  ·exact⟨hid,hpa⟩
  ·exact h.fd.id i e he
 ·rcases happ i e he with ⟨rfl,rfl⟩ | ⟨_,he⟩
  ·exact hlf
  ·exact h.fd.lf i e he h0
 ·rcases hz id c hc with ⟨_,rfl⟩ | ⟨_,_,rfl⟩ | ⟨_,_,hc⟩
  ·unfold cls0;dsimp only;omega
  ·exact h.num.tot 0 c0 hc0
  ·exact h.num.tot id c hc
 ·rcases hz id c hc with ⟨_,rfl⟩ | ⟨_,_,rfl⟩ | ⟨_,_,hc⟩
  ·exact Nat.zero_le _
  ·have:=h.num.few _ _ hc0;show c0.tr.length≤n+1;omega
  ·have:=h.num.few id c hc;omega
 ·rcases hz id c hc with ⟨_,rfl⟩ | ⟨_,_,rfl⟩ | ⟨_,_,hc⟩
  ·exact limZ _ _ x hx
  ·exact (h.num.lim 0 c0 x hc0 hx).mono (Nat.le_succ _)
  ·exact (h.num.lim id c x hc hx).mono (Nat.le_succ _)
 ·rcases hz id c hc with ⟨_,rfl⟩ | ⟨_,_,rfl⟩ | ⟨_,_,hc⟩
  ·exact famZ_0
  ·dsimp only
   split
   ·exact famZ_add (h.num.fam _ _ hc0) _ _
   ·exact (h.num.fam _ _ hc0).mono (Nat.le_succ _)
  ·exact (h.num.fam id c hc).mono (Nat.le_succ _)
 ·rcases hz id c hc with ⟨_,rfl⟩ | ⟨_,_,rfl⟩ | ⟨_,_,hc⟩
  ·unfold cls0;dsimp only;omega
  ·have:=h.num.un _ _ hc0;dsimp only;omega
  ·have:=h.num.un id c hc;omega
 ·rw [hlenQ];have:=h.len;simp;exact this
 ·rw [hlook,List.length_append,List.length_singleton,hpa]
  by_cases e:id=s.id
  ·rw [if_pos e,decide_eq_true (by omega),decide_eq_true (by omega)];rfl
  ·rw [if_neg e]
   have:(decide (0≤id) && decide (id < ((D.length+1:Nat):Int)))=(decide (0≤id) && decide (id < (D.length:Int))):=by
    congr 1
    exact decide_eq_decide.2 (by omega)
   rw [this]
   by_cases e2:id=0
   ·have h3:=h.is id
    rw [e2,hc0] at h3
    rw [if_pos e2,e2]
    exact h3
   ·rw [if_neg e2];exact h.is id
 ·have:lookM Q 0=some { c0 with fam:=if shB s=true then addF s.id s.s c0.fam else c0.fam,un:=c0.un+1 }:=by rw [hlook,if_neg (by omega),hpa,if_pos rfl]
  rw [ess_of this]
  exact congrArg some hFn
 ·rcases happ i e he with ⟨rfl,rfl⟩ | ⟨hi,he⟩
  ·have:lookM Q (D.length:Nat)=some (cls0 s.pa s.lf (shB s) (limN s.u)):=by rw [hlook,if_pos hid.symm]
   rw [ess_of this]
   rfl
  ·have:=h.rel i e h0 he
   unfold essP at this ⊢
   rw [hlook,if_neg (by omega),hpa,if_neg (by omega)]
   exact this
 ·rcases happ i e he with ⟨rfl,rfl⟩ | ⟨hi,he⟩
  ·have:lookM Q (D.length:Nat)=some (cls0 s.pa s.lf (shB s) (limN s.u)):=by rw [hlook,if_pos hid.symm]
   rw [shP_of this]
   show shB s=!noneB (shD s.s)
   rw [shD_is,Bool.not_not]
  ·have:=h.shr i e h0 he
   unfold shP at this ⊢
   rw [hlook,if_neg (by omega),hpa,if_neg (by omega)]
   exact this
 ·rcases happ i e he with ⟨rfl,rfl⟩ | ⟨hi,he⟩
  ·exact⟨Int.le_refl _,show (0:Int)≤_ by decide⟩
  ·exact h.tot i e he
theorem set_look {i:Nat} {e e':DC} (he:D[i]?=some e)(j:Nat)(x:DC):(D.set i e')[j]?=some x→(j=i∧x=e')∨(j≠i∧D[j]?=some x):=fun h=>by
 by_cases hj:j=i
 ·subst hj
  rw [set_at he] at h
  exact .inl ⟨rfl,(Option.some.inj h).symm⟩
 ·rw [List.getElem?_set_ne (fun e=>hj e.symm)] at h
  exact .inr ⟨hj,h⟩
theorem FlatR.turn {n':Nat} {Q:Pk} {wt':Int→Bool} {F':Fam} (h:FlatR n P wt D F fl) {i:Nat} {e:DC} {tt:Int} {o:Option Rn} (h1:1≤i)(he:D[i]?=some e)
  (hA:PAll owL dpF Q wt') (hs:∀ j,statP Q j=statP P j) (hZ:PkZ n' Q) (hroot:(essP Q 0).map (·.2.2)=some F') (hi:(essP Q i).map (fun x=>(x.1,x.2.1))=some (tt,o)) (ho:∀ j:Int,j≠0→j≠i→essP Q j=essP P j) (ht:0≤tt∧tt≤4611686018427387904) :
  FlatR n' Q wt' (D.set i { e with tot:=tt,o:=o }) F' fl:=by
 refine⟨hA,⟨fun id c hc=>?_,fun id c hc h0=>?_⟩,flatD_set h.fd he,hZ,?_,fun id=>?_,hroot,fun j x h0 hx=>?_,fun j x h0 hx=>?_,fun j x hx=>?_⟩
 ·obtain⟨c',hc',e1,_⟩:=stat_back (hs id) hc
  rw [e1,h.flat.pa id c' hc']
 ·obtain⟨c',hc',_,e1,_⟩:=stat_back (hs id) hc
  rw [e1,h.flat.lf id c' hc' h0]
 ·rw [List.length_set,GInv.put_len h.all.wf.rise hA.wf.rise fun j=>look_of_stat (hs j)]
  exact h.len
 ·rw [look_of_stat (hs id),List.length_set,h.is id]
 ·rcases set_look he j x hx with ⟨rfl,rfl⟩ | ⟨hj,hx⟩
  ·exact hi
  ·rw [ho j (by omega) (by omega)]
   exact h.rel j x h0 hx
 ·rw [sh_of_stat (hs j)]
  rcases set_look he j x hx with ⟨rfl,rfl⟩ | ⟨hj,hx⟩
  ·exact h.shr j e h0 he
  ·exact h.shr j x h0 hx
 ·rcases set_look he j x hx with ⟨rfl,rfl⟩ | ⟨hj,hx⟩
  ·exact ht
  ·exact h.tot j x hx
theorem FlatR.up (h:FlatR n P wt D F fl) {i:Nat} {e:DC} (h1:1≤i)(he:D[i]?=some e):Up P i [(i:Int)]:=by
 obtain⟨c,hc,_,hpa,_⟩:=h.leaf h1 he
 exact .step (by omega) (show paP P i=some 0 by rw [paP_of hc,hpa]) .root
theorem ess_wake1 {i:Nat} {c:Cls} {now:Int} (h1:1≤i)(hc:lookM P i=some c)(hpa:c.pa=0)(haw:awP P i=false)(hsh:c.sh=true)(j:Int) :
  essP (wake1 now P i) j=if j=i then some (c.tot,wakeL c.lim now c.tot,c.fam) else if j=0 then (essP P 0).map (fun x=>(x.1,x.2.1,wakeF i x.2.2)) else essP P j:=by
 have hp:paP P i=some 0:=by rw [paP_of hc,hpa]
 unfold wake1
 rw [if_neg (by rw [haw,shP_of hc,hsh];decide),ess_upd]
 have hl:lookM (updF P i (wakeF i)) i=some c:=by
  unfold updF
  rw [hp]
  dsimp only
  rw [look_upd,if_neg (by omega)]
  exact hc
 by_cases e:j=i
 ·rw [if_pos e,if_pos e,hl];rfl
 ·rw [if_neg e,if_neg e,ess_updF hp]
theorem FlatR.wake (h:FlatR n P wt D F fl) {i:Nat} {e:DC} {now:Int} (h1:1≤i)(he:D[i]?=some e)(hwt:wt i=false)(hnow:U now)(hn:n+4 < 100000) :
  fawF F i=false∧FlatR (n+4) (wakeP owL now i [(i:Int)] P) (fun j=>if j=i then true else wt j) (if noneB e.s.s=true then D else D.set i { e with tot:=e.tot,o:=wakeL e.o now e.tot }) (if noneB e.s.s=true then F else wakeF i F) fl:=by
 obtain⟨c,hc,hlf,hpa,ht,hlm,hsh⟩:=h.leaf h1 he
 have haw:awP P i=false:=by
  rw [h.all.awk.leaf i (by omega) (by rw [hc];rfl) (by rw [lfP_of hc,hlf]),hwt,Bool.and_false]
 have hU:=h.up h1 he
 have hlt:=(List.getElem?_eq_some_iff.1 he).1
 have hfaw:fawF F i=false:=by
  have:=h.aw i
  rw [haw] at this
  have hd:Proofs.YtmmeopjemkjllaaGreat.isD D i=true:=by unfold Proofs.YtmmeopjemkjllaaGreat.isD;rw [decide_eq_true (by omega),decide_eq_true (by omega)];rfl
  rw [hd,Bool.true_and] at this
  exact this.symm
 refine⟨hfaw,?_⟩
 obtain⟨hA,hs⟩:=h.all.wake (now:=now) hU (by rw [lfP_of hc,hlf]) (by omega)
 obtain⟨hZ,_⟩:=wakeP_num (leaf:=(i:Int)) (now:=now) h.pb h.num hU (by simpa using hn) hnow
 cases hb:noneB e.s.s with
 | true =>
  rw [if_pos rfl,if_pos rfl]
  have e1:wakeP owL now i [(i:Int)] P=P:=by
   unfold wakeP
   rw [if_neg (fun h=>by rw [shP_of hc,hsh,hb] at h;exact absurd h.2 (by decide))]
  rw [e1] at hA ⊢
  exact⟨hA,h.flat,h.fd,h.num.mono (by omega),h.len,h.is,h.root,h.rel,h.shr,h.tot⟩
 | false =>
  rw [if_neg (by decide),if_neg (by decide)]
  rw [hb] at hsh
  have hess:∀ j,essP (wakeP owL now i [(i:Int)] P) j=if j=i then some (c.tot,wakeL c.lim now c.tot,c.fam) else if j=0 then (essP P 0).map (fun x=>(x.1,x.2.1,wakeF i x.2.2)) else essP P j:=fun j=>by
   unfold wakeP
   rw [if_pos ⟨by rw [lfP_of hc,hlf],by rw [shP_of hc,hsh];rfl⟩]
   exact (ess_note owL _ _ j).trans (ess_wake1 (now:=now) h1 hc hpa haw hsh j)
  refine h.turn h1 he hA hs hZ ?_ ?_ (fun j h0 hj=>?_) (h.tot i e he)
  ·have:=h.root
   rw [hess,if_neg (by omega),if_pos rfl]
   cases hx:essP P 0 with
   | none=>rw [hx] at this;cases this
   | some x=>rw [hx] at this;rw [← Option.some.inj this];rfl
  ·rw [hess,if_pos rfl,ht,hlm];rfl
  ·rw [hess,if_neg hj,if_neg h0]
theorem fawF_gain {i:Int} (g:Int)(h:fawF F i=true):fawF (gainF reachR i g F) i=true:=by
 unfold fawF at h
 unfold gainF fawF
 cases hm:lookM F.m i with
 | none=>rw [hm] at h;cases h
 | some m =>
  rw [hm] at h
  dsimp only
  rw [if_pos h]
  dsimp only
  rw [look_put_same]
  exact h
theorem ess_sent1 {i:Nat} {c:Cls} (g:Int)(h1:1≤i)(hc:lookM P i=some c)(hpa:c.pa=0)(j:Int) :
  essP (sent1 reachR g P i) j=if j=i then some (c.tot+min g (capC - c.tot),c.lim,c.fam) else if j=0 then (essP P 0).map (fun x=>(x.1,x.2.1,gainF reachR i g x.2.2)) else essP P j:=by
 unfold sent1
 have hp:paP (updP P i fun c=>{ c with tot:=c.tot+min g (capC - c.tot) }) i=some 0:=by
  rw [paP_upd (by intro c;rfl),paP_of hc,hpa]
 rw [ess_updF hp]
 by_cases e:j=i
 ·rw [if_neg (by omega),if_pos e,ess_upd,if_pos e,hc];rfl
 ·rw [if_neg e]
  by_cases e2:j=0
  ·rw [if_pos e2,if_pos e2,ess_upd,if_neg (by omega)]
  ·rw [if_neg e2,if_neg e2,ess_upd,if_neg e]
theorem FlatR.send (h:FlatR n P wt D F fl) {i:Nat} {e:DC} {g:Int} {more:Bool} (h1:1≤i)(he:D[i]?=some e)(haw:fawF F i=true)(hg:U g)(hn:n+4 < 100000) :
  FlatR (n+4) (sentP owL reachR i g more [(i:Int)] P) (fun j=>if j=i then more else wt j) (D.set i { e with tot:=e.tot+min g (capC - e.tot) }) (if more=true then gainF reachR i g F else sleepF i (gainF reachR i g F)) fl:=by
 obtain⟨c,hc,hlf,hpa,ht,hlm,hsh⟩:=h.leaf h1 he
 have hlt:=(List.getElem?_eq_some_iff.1 he).1
 have hd:Proofs.YtmmeopjemkjllaaGreat.isD D i=true:=by unfold Proofs.YtmmeopjemkjllaaGreat.isD;rw [decide_eq_true (by omega),decide_eq_true (by omega)];rfl
 have hawP:awP P i=true:=by rw [h.aw,hd,haw];rfl
 have hwt:wt i=true:=by
  rw [h.all.awk.leaf i (by omega) (by rw [hc];rfl) (by rw [lfP_of hc,hlf])] at hawP
  exact (Bool.and_eq_true _ _ ▸ hawP).2
 have hU:=h.up h1 he
 obtain⟨hA,hs⟩:=h.all.sent (rc:=reachR) (n:=g) (more:=more) hU (by rw [lfP_of hc,hlf]) (by omega) hwt
 obtain⟨hZ,_⟩:=sentP_num (leaf:=(i:Int)) (g:=g) (more:=more) h.pb h.num hU (by simpa using hn) hg
 have hp1:paP (sent1 reachR g P i) i=some 0:=by
  rw [pa_of_stat (sent1_moved (ow:=owL) (rc:=reachR) (dp:=dpF) (X:=fun _=>True) (n:=g) (P:=P) (id:=i) trivial |>.stat i),paP_of hc,hpa]
 have hl1:lfP (sent1 reachR g P i) i=true:=by
  rw [lf_of_stat (sent1_moved (ow:=owL) (rc:=reachR) (dp:=dpF) (X:=fun _=>True) (n:=g) (P:=P) (id:=i) trivial |>.stat i),lfP_of hc,hlf]
 have ha1:awP (sent1 reachR g P i) i=true:=by
  have:=sent1_aw (rc:=reachR) (P:=P) (n:=g) (id:=i) i
  unfold awP at hawP ⊢
  cases e1:memP P i with
  | none=>rw [e1,Bool.and_false] at hawP;cases hawP
  | some m =>
   rw [e1] at this hawP
   cases e2:memP (sent1 reachR g P i) i with
   | none=>rw [e2] at this;cases this
   | some m' =>
    rw [e2] at this
    have h3:m'.aw=m.aw:=Option.some.inj this
    show (decide (0 < (i:Int)) && m'.aw)=true
    rw [h3]
    exact hawP
 have hess:∀ j,essP (sentP owL reachR i g more [(i:Int)] P) j=if j=i then some (c.tot+min g (capC - c.tot),c.lim,c.fam) else if j=0 then (essP P 0).map (fun x=>(x.1,x.2.1,if more=true then gainF reachR i g x.2.2 else sleepF i (gainF reachR i g x.2.2))) else essP P j:=fun j=>by
  unfold sentP
  rw [if_pos (by rw [lfP_of hc,hlf])]
  show essP (sent2 owL (!more && awP (sent1 reachR g P i) i) (sent1 reachR g P i) i) j=_
  rw [ha1,Bool.and_true]
  unfold sent2
  rw [ess_note]
  cases more with
  | true =>
   rw [if_neg (fun h=>absurd h.1 (by decide)),ess_sent1 g h1 hc hpa]
   simp only [if_true]
  | false =>
   rw [if_pos ⟨rfl,.inl hl1⟩,ess_updF hp1,ess_sent1 g h1 hc hpa,ess_sent1 g h1 hc hpa,if_neg (show ¬ (0:Int)=i by omega),if_pos rfl]
   by_cases e:j=i
   ·rw [if_pos e,if_pos e,if_neg (by omega)]
   ·rw [if_neg e,if_neg e]
    by_cases e2:j=0
    ·rw [if_pos e2,if_pos e2,Option.map_map];rfl
    ·rw [if_neg e2,if_neg e2,if_neg e2]
 refine h.turn (o:=e.o) h1 he hA hs hZ ?_ ?_ (fun j h0 hj=>?_) ?_
 ·have:=h.root
  rw [hess,if_neg (by omega),if_pos rfl]
  cases hx:essP P 0 with
  | none=>rw [hx] at this;cases this
  | some x=>rw [hx] at this;rw [← Option.some.inj this];rfl
 ·rw [hess,if_pos rfl,ht,hlm];rfl
 ·rw [hess,if_neg hj,if_neg h0]
 ·have:=h.tot i e he
  unfold U at hg
  unfold capC
  omega
end
end
section
open Go.RowKit Go.Maps
attribute [local go_sem ↓] Go.wp_at_zero Go.wp_at_succ
attribute [local go_sem] quietR quietAtR quietUponR midAt midUpon
def TwoO (kp kd n m b:Nat):Ob:=fun W S=>∃ P wt D F v fl,FlatR n P wt D F fl∧D.length=m∧(∀ j:Int,(b:Int)≤j→wt j=false)∧Star (PkO kp P) (PdX kd v fl D F) W S
theorem good_two {kp kd n m b:Nat}:Good (TwoO kp kd n m b) :=
 ⟨fun ⟨P,wt,D,F,v,fl,_,_,_,h⟩=>((good_pk _ _).star (good_pdX _ _ _ _ _)).lt h,fun ⟨P,wt,D,F,v,fl,h1,h2,h3,h⟩ hs hk=>⟨P,wt,D,F,v,fl,h1,h2,h3,((good_pk _ _).star (good_pdX _ _ _ _ _)).kept h hs hk⟩⟩
structure TwoQ (W:World)(kp kd m:Nat)(now:Int)(g cap:Nat)(a:Int)(is:Bool)(tk:Int)(aw:Int→Bool)(vv tt ff:Int→Int):Prop where
 n1:∀ W',Below W.heap.size W W'→Calls Tryz.prog 13 #[.pointer (some ⟨kp,0,none⟩),.int .u64 now] W' fun e w=>e=.returned (.tuple #[.int .i64 a,.bool is])∧Below W'.heap.size W' w
 n2:∀ W',Below W.heap.size W W'→Calls Tryz.prog 14 #[.pointer (some ⟨kd,0,none⟩),.int .u64 now] W' fun e w=>e=.returned (.tuple #[.int .i64 a,.bool is])∧Below W'.heap.size W' w
 t1:∀ W',Below W.heap.size W W'→Calls Tryz.prog 21 #[.pointer (some ⟨kp,0,none⟩)] W' fun e w=>e=.returned (.int .u64 tk)∧Below W'.heap.size W' w
 t2:∀ W',Below W.heap.size W W'→Calls Tryz.prog 62 #[.pointer (some ⟨kd,0,none⟩)] W' fun e w=>e=.returned (.int .u64 tk)∧Below W'.heap.size W' w
 a1:∀ W' id,Below W.heap.size W W'→(Lit.int .i64 id).wf=true→Calls Tryz.prog 23 #[.pointer (some ⟨kp,0,none⟩),.int .i64 id] W' fun e w=>e=.returned (.bool (aw id))∧Below W'.heap.size W' w
 a2:∀ W' id,Below W.heap.size W W'→Calls Tryz.prog 48 #[.pointer (some ⟨kd,0,none⟩),.int .i64 id] W' fun e w=>e=.returned (.bool (aw id))∧Below W'.heap.size W' w
 v1:∀ W' id,Below W.heap.size W W'→(Lit.int .i64 id).wf=true→Calls Tryz.prog 30 #[.pointer (some ⟨kp,0,none⟩),.int .i64 id] W' fun e w=>e=.returned (.int .u64 (vv id))∧Below W'.heap.size W' w
 v2:∀ W' id,Below W.heap.size W W'→Calls Tryz.prog 63 #[.pointer (some ⟨kd,0,none⟩),.int .i64 id] W' fun e w=>e=.returned (.int .u64 (vv id))∧Below W'.heap.size W' w
 o1:∀ W' id,Below W.heap.size W W'→(Lit.int .i64 id).wf=true→Calls Tryz.prog 27 #[.pointer (some ⟨kp,0,none⟩),.int .i64 id] W' fun e w=>e=.returned (.int .u64 (tt id))∧Below W'.heap.size W' w
 o2:∀ W' id,Below W.heap.size W W'→Calls Tryz.prog 64 #[.pointer (some ⟨kd,0,none⟩),.int .i64 id] W' fun e w=>e=.returned (.int .u64 (tt id))∧Below W'.heap.size W' w
 f1:∀ W' id,Below W.heap.size W W'→(Lit.int .i64 id).wf=true→Calls Tryz.prog 24 #[.pointer (some ⟨kp,0,none⟩),.int .i64 id] W' fun e w=>e=.returned (.int .u64 (ff id))∧Below W'.heap.size W' w
 f2:∀ W' id,Below W.heap.size W W'→Calls Tryz.prog 65 #[.pointer (some ⟨kd,0,none⟩),.int .i64 id] W' fun e w=>e=.returned (.int .u64 (ff id))∧Below W'.heap.size W' w
 c0:∀ W',Below W.heap.size W W'→W'.cell? ⟨kd,0,none⟩=some (.slice (some ⟨g,0,none⟩) m cap)
 ids:∀ W' (i:Nat),Below W.heap.size W W'→i < m→W'.cell? ⟨g,i*17,none⟩=some (.int .i64 i)
 few:1≤m∧m≤1000
 who:is=true→1≤a∧a < m∧aw a=true
section
variable {W : World} {kp kd n m b : Nat} {S : Nat → Prop}
theorem two_qs {P:Pk} {wt:Int→Bool} {D:List DC} {F:Fam} {v:Value} {fl:Nat} (now:Int)(hR:FlatR n P wt D F fl)(hm:D.length=m)(hst:Star (PkO kp P) (PdX kd v fl D F) W S)(hn:n≤1000):∃ g cap a is tk vv tt ff,TwoQ W kp kd m now g cap a is tk (awP P) vv tt ff:=by
 subst hm
 obtain⟨A,B,_,_,⟨mb,ps,hp⟩,hd⟩:=hst
 have hpl:∀ W',Below W.heap.size W W'→PkX kp mb ps P W' A:=fun W' hb=>(good_pkX _ _ _ _).kept hp hb.size fun b hb2=>hb.block b ((good_pkX _ _ _ _).lt hp b hb2)
 have hdl:∀ W',Below W.heap.size W W'→PdX kd v fl D F W' B:=fun W' hb=>pdX_later hd hb
 obtain⟨c0,hc0,_,_⟩:=hR.c0
 have hZ:=hR.famZ
 have hN:F.m.length≤1000:=Nat.le_trans hZ.len hn
 have hU:∀ (i:Nat) e,D[i]?=some e→U e.tot:=fun i e he=>by have:=hR.tot i e he;unfold U;omega
 have hM:=(hR.num.pkM (by omega) hR.pb).toPkN
 obtain⟨m',hdesc⟩:=hR.next now
 obtain⟨e0,he0,_⟩:=hR.fd.zero
 obtain⟨g,cap,hv,_,hg,hc,_⟩:=hd.cells he0
 have hD1:1≤D.length:=(List.getElem?_eq_some_iff.1 he0).1
 refine⟨g,cap,((firstO D now (ordK F.m)).map fun x:Ky=>x.2).getD 0,((firstO D now (ordK F.m)).map fun x:Ky=>x.2).isSome,tickP P,vP P,totP P,fitA P,⟨fun W' hb=>pnext_any (hpl W' hb) hR.pb hdesc,fun W' hb=>?_,fun W' hb=>ptick_any (hpl W' hb) hc0,fun W' hb=>?_,fun W' id hb hid=>pawake_any id hid (hpl W' hb) hR.pb,fun W' id hb=>?_,fun W' id hb hid=>(pv_any id hid (hpl W' hb) hR.pb).mono fun e w h=>?_,fun W' id hb=>?_,fun W' id hb hid=>ptotal_any id hid (hpl W' hb),fun W' id hb=>?_,fun W' id hb hid=>pfit_any id hid (hpl W' hb) hM awP_look,fun W' id hb=>?_,fun W' hb=>?_,fun W' i hb hi=>?_,⟨hD1,hR.fd.few⟩,fun his=>?_⟩⟩
 ·refine (pdnext_any now (hdl W' hb) hR.fd hR.mem hZ.rise hN hU).mono fun e w h=>⟨h.1.trans ?_,h.2⟩
  cases firstO D now (ordK F.m) <;> rfl
 ·rw [hR.tick];exact pdtick_any (hdl W' hb) hR.fd hR.mem hZ.rise hN hU
 ·rw [hR.aw];exact pdaw_any id (hdl W' hb) hR.fd hN
 ·exact h
 ·rw [hR.v];exact pdv_any id (hdl W' hb) hR.fd hN
 ·rw [hR.total];exact pdtotal_any id (hdl W' hb) hR.fd
 ·rw [hR.fit];exact pdFit_any id (hdl W' hb) hR.fd hN hU
 ·have:=(hdl W' hb).box.cell 0
  simp only [lTA,lCZ,lCS] at this
  rw [this,hv]
 ·obtain⟨g',cp',hv',_,_,hc',_⟩:=(hdl W' hb).cells (List.getElem?_eq_getElem hi)
  rw [hv] at hv'
  cases hv'
  have:=hc' 0 (by decide)
  rw [Nat.add_zero] at this
  rw [this]
  show some (Value.int .i64 (D[i].s.id))=_
  rw [(hR.fd.id i _ (List.getElem?_eq_getElem hi)).1]
 ·cases hf:firstO D now (ordK F.m) with
  | none=>rw [hf] at his;cases his
  | some x =>
   have hx:=ord_is hR.mem (List.mem_of_find?_eq_some hf)
   obtain⟨_,i,hxi,hlt,h1⟩:=posD_is hx
   show 1≤x.2∧x.2 < (D.length:Int)∧awP P x.2=true
   refine⟨by omega,by omega,?_⟩
   rw [hR.aw,hx]
   obtain⟨q,hq,ha,hxq⟩:=mem_ordK.1 (List.mem_of_find?_eq_some hf)
   unfold fawF
   rw [hxq]
   dsimp only
   rw [look_of_mem hZ.rise hq]
   exact ha
theorem two_q (now:Int)(h:TwoO kp kd n m b W S)(hn:n≤1000):∃ g cap a is tk aw vv tt ff,TwoQ W kp kd m now g cap a is tk aw vv tt ff:=by
 obtain⟨P,wt,D,F,v,fl,hR,hm,_,hst⟩:=h
 obtain⟨g,cap,a,is,tk,vv,tt,ff,h⟩:=two_qs now hR hm hst hn
 exact⟨g,cap,a,is,tk,_,vv,tt,ff,h⟩
def IdsQ (wr W:World)(v:Value)(j:Nat):Prop:=∃ A:List Int,RowI wr W.heap.size v A∧A.length=j+2∧∀ x∈A,(Lit.int .i64 x).wf=true
end
end
section
open Go.RowKit Go.Maps
attribute [local go_sem ↓] Go.wp_at_zero Go.wp_at_succ
attribute [local go_sem] quietR quietAtR quietUponR midAt midUpon
theorem meas_to {m j:Nat} {x:Int} (h:j < m)(hx:x=(j:Int)+1):((m:Int) - Go.RowKit.intOf (.int .i64 x)).toNat < ((m:Int) - Go.RowKit.intOf (.int .i64 (j:Int))).toNat:=by
 show ((m:Int) - x).toNat < ((m:Int) - (j:Int)).toNat
 omega
theorem meas_to2 {m j:Nat} {x:Int} (h:j < m+2)(hx:x=(j:Int)+1):((m:Int)+2 - Go.RowKit.intOf (.int .i64 x)).toNat < ((m:Int)+2 - Go.RowKit.intOf (.int .i64 (j:Int))).toNat:=by
 show ((m:Int)+2 - x).toNat < ((m:Int)+2 - (j:Int)).toNat
 omega
section
variable {W : World} {kp kd m : Nat} {now : Int} {g cap : Nat} {a : Int} {is : Bool} {tk : Int} {aw : Int → Bool} {vv tt ff : Int → Int}
theorem same_any (id:Int)(hid:(Lit.int .i64 id).wf=true)(hQ:TwoQ W kp kd m now g cap a is tk aw vv tt ff) :
  Calls Tryz.prog 17 #[.pointer (some ⟨kp,0,none⟩),.pointer (some ⟨kd,0,none⟩),.int .u64 now,.int .i64 id] W fun e W'=>e=.returned (.bool true)∧Below W.heap.size W W':=by
 have HQ:=Lib.hid hQ
 have HID:=Lib.hid hid
 obtain⟨hm1,hm2⟩:=hQ.few
 have HM:=Lib.hid (And.intro hm1 hm2)
 clear hQ hid hm1 hm2
 go_enter Tryz.func17,Tryz.ntmps17
 go_upto_region 3 with (first
  | (go_at_call 13;refine (HQ.out.n1 _ (Below.refl _ _)).mono ?_;rintro e w1 ⟨rfl,hb1⟩)
  | (go_at_call 14;refine (HQ.out.n2 _ hb1).mono ?_;rintro e w2 ⟨rfl,hb2⟩))
 have hb2W:=hb1.trans (hb2.mono hb1.size)
 clear hb1 hb2
 have HB2:=Lib.hid hb2W
 clear hb2W
 go_wp2_with (first
  | (go_at_call 21;refine (HQ.out.t1 _ HB2.out).mono ?_;rintro e w3 ⟨rfl,hb3⟩;have HB3:=Lib.hid (HB2.out.trans (hb3.mono HB2.out.size));clear hb3)
  | (go_at_call 62;refine (HQ.out.t2 _ HB3.out).mono ?_;rintro e w4 ⟨rfl,hb4⟩;have HB4:=Lib.hid (HB3.out.trans (hb4.mono HB3.out.size));clear hb4))
 go_loopw [13,14] (fun v13 v14 wr=>∃ (j:Nat),v14=.int .i64 j∧1≤j∧j≤m∧IdsQ wr W v13 j∧Below W.heap.size W wr) (fun _ v14 _=>(m - Go.RowKit.intOf v14).toNat)
 case atStart =>
  refine⟨1,rfl,Nat.le_refl _,HM.out.1,⟨[id,0,-1],?_,rfl,fun x hx=>?_⟩,?_⟩
  ·have hb:=HB4.out.size
   exact World.ownsRow_lit (base:=W.heap.size) (e:=3) (size:=1) _ #[.int .i64 id,.int .i64 0,.int .i64 (-1)] 3 (by simpa using hb) (by decide) rfl
  ·rcases List.mem_cons.1 hx with rfl | hx
   ·exact HID.out
   rcases List.mem_cons.1 hx with rfl | hx
   ·decide
   rcases List.mem_cons.1 hx with rfl | hx
   ·decide
   cases hx
  ·exact HB4.out.alloc HB4.out.size _
 case round =>
  obtain⟨j,hv14,h1,hj,⟨A,hrow,hA,hwf⟩,hbr⟩:=hrel
  rw [hv14]
  clear hv14
  have c0:=HQ.out.c0 wr hbr
  obtain⟨a3,c3,rfl⟩:∃ a3 c3,u13=.slice a3 (j+2) c3:=by
   rcases hrow.form hA with ⟨e,_⟩ | ⟨g4,c4,e,_⟩
   ·exact⟨_,_,e⟩
   ·exact⟨_,_,e⟩
  by_cases hlt:j < m
  ·have k0:=HQ.out.ids wr j hbr hlt
   have hw64:wrap64 ((j:Int)+1)=(j:Int)+1:=by have:=HM.out.2;unfold wrap64;omega
   have hb1:=(Below.refl wr.heap.size wr).alloc (Nat.le_refl _) (.cells #[.int .i64 (j:Int)] 3)
   obtain⟨v1,w9,r1,hr9,hg9,_⟩:=app_src (c:=1) (a:=some ⟨wr.heap.size,0,none⟩) 51 (B:=[(j:Int)]) (RowI.later hrow hb1) rfl (srcI_lit wr j) (Nat.le_trans hbr.size hb1.size) (by have:=HM.out.2;simp;omega)
   have hb9:Below W.heap.size W w9:=((hbr.alloc hbr.size _).grown hg9 (Nat.le_trans hbr.size hb1.size) fun k hk=>(hrow.lt k hk).1)
   have H9:=Lib.hid (And.intro hr9 (And.intro hb9 (And.intro hA hwf)))
   have hwfj:(Lit.int .i64 (j:Int)).wf=true:=wf_small (by omega) (by have:=HM.out.2;omega)
   have HJ:=Lib.hid hwfj
   clear hr9 hb9 hg9 hb1 hrow hbr hA hwf hwfj
   go_wp2_with (at_builtin;refine wpList_append_runH rfl _ _ _ rfl _ _ _ rfl rfl r1 ?_;clear r1)
   go_roundw
   case measure=>exact meas_to hlt hw64
   case rel=>exact⟨j+1,congrArg (Value.int .i64) hw64,by omega,by omega,⟨A ++ [(j:Int)],H9.out.1,by rw [List.length_append,H9.out.2.2.1];rfl,fun x hx=>(List.mem_append.1 hx).elim (H9.out.2.2.2 x) fun hx=>by rw [List.mem_singleton.1 hx];exact HJ.out⟩,H9.out.2.1⟩
  ·obtain rfl:j=m:=by omega
   have HR:=Lib.hid (And.intro hrow (And.intro hbr (And.intro hA hwf)))
   obtain⟨g3,hg3⟩:∃ g3,a3=some ⟨g3,0,none⟩:=by
    rcases hrow.form hA with ⟨e,h0⟩ | ⟨g4,c4,e,_⟩
    ·omega
    ·cases e;exact⟨_,rfl⟩
   subst hg3
   clear hrow hbr hA hwf
   obtain⟨w1,hw1⟩:∃ w1,w1=wr:=⟨wr,rfl⟩
   subst hw1
   go_wp2_with fail
   go_loopw [15] (fun v15 wr=>∃ i:Nat,v15=.int .i64 i∧i≤j+2∧Below w1.heap.size w1 wr) (fun v15 _=>(j+2 - Go.RowKit.intOf v15).toNat)
   case atStart=>exact⟨0,rfl,Nat.zero_le _,Below.refl _ _⟩
   case round =>
    obtain⟨i,hv15,hi,hbi⟩:=hrel
    rw [hv15]
    clear hv15
    have hbW:=HR.out.2.1.trans (hbi.mono HR.out.2.1.size)
    by_cases hlt2:i < j+2
    ·obtain⟨x,hx⟩:∃ x,A[i]?=some x:=⟨_,List.getElem?_eq_getElem (by rw [HR.out.2.2.1];exact hlt2)⟩
     have kx:=((HR.out.1.later hbi).cellAt' HR.out.2.2.1 hx).2
     have hwx:=HR.out.2.2.2 x (List.mem_of_getElem? hx)
     have HX:=Lib.hid (And.intro hwx (And.intro hbi hbW))
     have hw64:wrap64 ((i:Int)+1)=(i:Int)+1:=by have:=HM.out.2;unfold wrap64;omega
     clear hwx hbi hbW hx
     go_wp2_with (first
      | (go_at_call 23;refine (HQ.out.a1 _ _ HX.out.2.2 HX.out.1).mono ?_;rintro e w2 ⟨rfl,hb2⟩;have HB2:=Lib.hid (HX.out.2.2.trans (hb2.mono HX.out.2.2.size));have HC2:=Lib.hid (HX.out.2.1.trans (hb2.mono HX.out.2.1.size));clear hb2)
      | (go_at_call 48;refine (HQ.out.a2 _ _ HB2.out).mono ?_;rintro e w3 ⟨rfl,hb3⟩;have HB3:=Lib.hid (HB2.out.trans (hb3.mono HB2.out.size));have HC3:=Lib.hid (HC2.out.trans (hb3.mono HC2.out.size));clear hb3)
      | (go_at_call 30;refine (HQ.out.v1 _ _ HB3.out HX.out.1).mono ?_;rintro e w4 ⟨rfl,hb4⟩;have HB4:=Lib.hid (HB3.out.trans (hb4.mono HB3.out.size));have HC4:=Lib.hid (HC3.out.trans (hb4.mono HC3.out.size));clear hb4)
      | (go_at_call 63;refine (HQ.out.v2 _ _ HB4.out).mono ?_;rintro e w5 ⟨rfl,hb5⟩;have HB5:=Lib.hid (HB4.out.trans (hb5.mono HB4.out.size));have HC5:=Lib.hid (HC4.out.trans (hb5.mono HC4.out.size));clear hb5)
      | (go_at_call 27;refine (HQ.out.o1 _ _ HB5.out HX.out.1).mono ?_;rintro e w6 ⟨rfl,hb6⟩;have HB6:=Lib.hid (HB5.out.trans (hb6.mono HB5.out.size));have HC6:=Lib.hid (HC5.out.trans (hb6.mono HC5.out.size));clear hb6)
      | (go_at_call 64;refine (HQ.out.o2 _ _ HB6.out).mono ?_;rintro e w7 ⟨rfl,hb7⟩;have HB7:=Lib.hid (HB6.out.trans (hb7.mono HB6.out.size));have HC7:=Lib.hid (HC6.out.trans (hb7.mono HC6.out.size));clear hb7)
      | (go_at_call 24;refine (HQ.out.f1 _ _ HB7.out HX.out.1).mono ?_;rintro e w8 ⟨rfl,hb8⟩;have HB8:=Lib.hid (HB7.out.trans (hb8.mono HB7.out.size));have HC8:=Lib.hid (HC7.out.trans (hb8.mono HC7.out.size));clear hb8)
      | (go_at_call 65;refine (HQ.out.f2 _ _ HB8.out).mono ?_;rintro e w9 ⟨rfl,hb9⟩;have HC9:=Lib.hid (HC8.out.trans (hb9.mono HC8.out.size));clear hb9))
     go_roundw
     case measure=>exact meas_to2 hlt2 hw64
     case rel=>exact⟨i+1,congrArg (Value.int .i64) hw64,by omega,HC9.out⟩
    ·have HX:=Lib.hid hbW
     clear hbW hbi
     go_wp2_with fail
     go_ret
     exact⟨rfl,HX.out⟩
end
end
end Go.Proofs.YtmmeopjemkjllaaGreat
