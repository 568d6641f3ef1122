/- Lemmas of the claim. No conditions beyond those that each states. -/
import Derived.Test.YtmmeopjemkjllaaGreatPT21
set_option linter.unusedVariables false
set_option linter.unusedSimpArgs false
set_option maxRecDepth 100000
set_option maxHeartbeats 8000000
namespace Go.Proofs.YtmmeopjemkjllaaGreat
section
open Go.RowKit
theorem reachC_U {F L R y:Int} (h:MayC F L R)(hy:0≤y)(hy1:y≤4611686018427387904):U (reachC F L R y):=by
 rcases reachC_spec h hy hy1 with ⟨h1,_⟩ | ⟨h1,h2,_⟩
 ·rw [h1];unfold U;omega
 ·unfold U;omega
theorem reach1_any (c g:Nat)(F L R m:Int)(w:World)(h:MayC F L R)(hm:U m)(hc:c < w.heap.size)(hg:g < w.heap.size)
  (cc:w.cell? ⟨c,0,none⟩=some (.pointer (some ⟨g,0,none⟩)))
  (c0:w.cell? ⟨g,0,none⟩=some (.int .u64 F))(c1:w.cell? ⟨g,1,none⟩=some (.int .u64 L))(c2:w.cell? ⟨g,2,none⟩=some (.int .u64 R)) :
  Calls Tryz.prog 274 #[.int .u64 m,.pointer (some ⟨c,0,none⟩)] w fun e w'=>e=.returned (.int .u64 (reachC F L R m))∧Below w.heap.size w w':=by
 have hF:U F:=⟨h.f0,by have:=h.f1;omega⟩
 have hL:U L:=⟨h.l0,by have:=h.l1;omega⟩
 have hR:U R:=⟨h.r0,by have:=h.r1;omega⟩
 go_enter Tryz.func274,Tryz.ntmps274
 go_wp2_with (go_at_call 275;refine (reach_any F L R m _ hF hL hR h.l1 hm).mono ?_;rintro e w1 ⟨rfl,hb1⟩)
 go_ret
 exact⟨rfl,hb1⟩
theorem lastL_drop {needs:Int→Int} {y a:Int} {K:List (Int × Int)} {k:Nat} {p:Int × Int} (h:K[k]?=some p) :
  lastL needs y (K.drop k) a=if 9223372036854775808 - p.1≤needs (less y p.2) then 9223372036854775808 else lastL needs y (K.drop (k+1)) (max a (p.1+needs (less y p.2))):=by
 obtain⟨hk,rfl⟩:=List.getElem?_eq_some_iff.1 h
 rw [List.drop_eq_getElem_cons hk]
 rfl
theorem last_reach (g c:Nat)(F L R n x y:Int)(K:List (Int × Int))(w:World)(hM:MayC F L R)(hy:U y)(hx:U x)(hn:n≠0)(hK0:K≠[])(hbig:K.length≤1000000)
  (hK:∀ k∈K,0≤k.1∧k.1≤9223372036854775808∧U k.2)(hs:SagAt w g F L R n x K)(hc:c < w.heap.size)(cc:w.cell? ⟨c,0,none⟩=some (.pointer (some ⟨g,0,none⟩))) :
  Calls Tryz.prog 273 #[.pointer (some ⟨g,0,none⟩),.int .u64 y,.func (.func 274) #[] #[.pointer (some ⟨c,0,none⟩)]] w fun e w' =>
   e=.returned (.int .u64 (lastAt (reachC F L R) y K x))∧Below w.heap.size w w':=by
 obtain⟨v,hb,hrow⟩:=hs
 obtain⟨b,cp,rfl,hgb,hbw,hcap,hcells⟩:=hrow.open_ hK0
 have hg:=hb.lt
 have c4:=hb.cell 4;have c5:=hb.cell 5;have c6:=hb.cell 6
 have HB:=Lib.hid hb;have HR:=Lib.hid hcells;have HK:=Lib.hid hK
 clear hb hrow hcells hK
 simp only [lTA,lCZ,lCS] at c4 c5 c6
 by_cases hy1:4611686018427387904 < y
 ·have hl:lastAt (reachC F L R) y K x=9223372036854775808:=by unfold lastAt;rw [if_pos hy1]
  rw [hl]
  go_enter Tryz.func273,Tryz.ntmps273
  go_wp2_with (go_at_call 279;refine (snone_no _ _ _ hn c4).mono ?_;rintro e w' ⟨rfl,rfl⟩)
  go_ret
  exact⟨rfl,Below.refl _ _⟩
 have hl:lastAt (reachC F L R) y K x=lastL (reachC F L R) y K x:=by unfold lastAt;rw [if_neg hy1]
 rw [hl]
 have hy2:y≤4611686018427387904:=by omega
 go_enter Tryz.func273,Tryz.ntmps273
 go_wp2_with (go_at_call 279;refine (snone_no _ _ _ hn c4).mono ?_;rintro e w' ⟨rfl,rfl⟩)
 go_loopw [34,7] (fun i o W=>∃ (k:Nat)(a:Int),k≤K.length∧i=.int .i64 k∧o=.int .u64 a∧lastL (reachC F L R) y (K.drop k) a=lastL (reachC F L R) y K x∧Below w.heap.size w W) (fun i _ _=>K.length - (Go.RowKit.intOf i).toNat)
 case atStart=>exact⟨0,x,by omega,rfl,rfl,by simp,Below.refl _ _⟩
 case round =>
  obtain⟨k,a,hk,rfl,rfl,hla,hbW⟩:=hrel
  clear c4 c5 c6
  by_cases hlt:k < K.length
  ·have hp:K[k]?=some K[k]:=List.getElem?_eq_getElem hlt
   have hpm:=HK.out _ (List.getElem_mem hlt)
   generalize K[k]=p at hp hpm
   obtain⟨d0,d1⟩:=HR.out k p hp
   have e0:=(hbW.cell (p:=⟨b,k*2,none⟩) hbw).trans d0
   have e1:=(hbW.cell (p:=⟨b,k*2+1,none⟩) hbw).trans d1
   clear d0 d1
   have hld:=lastL_drop (needs:=reachC F L R) (y:=y) (a:=a) hp
   rw [hla] at hld
   have hLD:=Lib.hid hld
   clear hld hla
   have hcW:c < wr.heap.size:=Nat.lt_of_lt_of_le hc hbW.size
   have hgW:g < wr.heap.size:=Nat.lt_of_lt_of_le hg hbW.size
   have hal:=(Below.refl wr.heap.size wr).alloc (Nat.le_refl _) (.cells #[.int .u64 p.1,.int .u64 p.2] 315)
   have nb:=Blk.new wr 315 #[.int .u64 p.1,.int .u64 p.2]
   have nl:=nb.lt
   have ccW:=(hal.cell (p:=⟨c,0,none⟩) hcW).trans ((hbW.cell (p:=⟨c,0,none⟩) hc).trans cc)
   have hB:=(HB.out.below hbW hg).below hal hgW
   have HF:=Lib.hid (And.intro ccW (And.intro hB nb))
   have hcW1:=Nat.lt_of_lt_of_le hcW hal.size
   clear ccW hB nb
   have wd:IntKind.u64.wrap (9223372036854775808 - p.1)=9223372036854775808 - p.1:=wrap_u (by unfold U;omega)
   have hrU:=reachC_U hM (U_less (a:=y) (b:=p.2)).1 (show less y p.2≤4611686018427387904 by unfold less cap;omega)
   generalize hnn:reachC F L R (less y p.2)=m at *
   go_wp2_with (first
    | (go_at_call 280;refine (minus_any _ _ _ hy hpm.2.2).mono ?_;rintro e w' ⟨rfl,rfl⟩)
    | (go_at_call 274;refine (reach1_any c g F L R _ _ hM U_less hcW1 HF.out.2.1.lt HF.out.1 (HF.out.2.1.cell 0) (HF.out.2.1.cell 1) (HF.out.2.1.cell 2)).mono ?_;rintro e w2 ⟨rfl,hb2⟩;have n0:=(hb2.cell (p:=⟨wr.heap.size,0,none⟩) nl).trans (HF.out.2.2.cell 0);simp only [lTA,lCZ,lCS] at n0))
   all_goals have hbW2:Below w.heap.size w w2:=(hbW.trans (hal.mono hbW.size)).trans (hb2.mono (Nat.le_trans hbW.size hal.size))
   ·go_ret
    have h1:=hLD.out
    rw [if_pos (by omega)] at h1
    exact⟨ret_int h1.symm,hbW2⟩
   all_goals
    have h1:=hLD.out
    rw [if_neg (by omega)] at h1
    have hwm:p.1+m < 18446744073709551616→IntKind.u64.wrap (p.1+m)=p.1+m:=fun h=>wrap_u (by unfold U at *;omega)
    have hwm2:=hwm (by omega)
    simp only [hwm2] at *
    go_roundw
    case rel=>exact⟨k+1,max a (p.1+m),by omega,by go_num,val_int (by omega),h1.symm,hbW2⟩
    case measure=>simp [Go.RowKit.intOf];omega
  ·obtain rfl:k=K.length:=by omega
   go_wp2
   go_ret
   have hla':lastL (reachC F L R) y (K.drop K.length) a=a:=by rw [List.drop_length];rfl
   exact⟨ret_int (by rw [← hla,hla']),hbW⟩
theorem sreach_any (g:Nat)(F L R n x y:Int)(K:List (Int × Int))(w:World)(hM:MayC F L R)(hy:U y)(hx:U x)(hn:n≠0)(hK0:K≠[])(hbig:K.length≤1000000)
  (hK:∀ k∈K,0≤k.1∧k.1≤9223372036854775808∧U k.2)(hs:SagAt w g F L R n x K) :
  Calls Tryz.prog 270 #[.pointer (some ⟨g,0,none⟩),.int .u64 y] w fun e w' =>
   e=.returned (.int .u64 (lastAt (reachC F L R) y K x))∧Below w.heap.size w w':=by
 have hal:=(Below.refl w.heap.size w).alloc (Nat.le_refl _) (.cells #[.pointer (some ⟨g,0,none⟩)] 177)
 have hs1:=hs.below hal
 have nb:=Blk.new w 177 #[.pointer (some ⟨g,0,none⟩)]
 have nl:=nb.lt
 have cc:=nb.cell 0
 simp only [lTA,lCZ,lCS] at cc
 have H:=Lib.hid (And.intro hs1 (And.intro nl cc))
 clear hs hs1 nb
 go_enter Tryz.func270,Tryz.ntmps270
 go_wp2_with (go_at_call 273;refine (last_reach g w.heap.size F L R n x y K _ hM hy hx hn hK0 hbig hK H.out.1 H.out.2.1 H.out.2.2).mono ?_;rintro e w1 ⟨rfl,hb1⟩)
 go_ret
 exact⟨rfl,hal.trans (hb1.mono hal.size)⟩
end
section
open Go.RowKit
theorem snew_ok (F L R:Int)(w:World)(hL:0≤L)(h1:mayB F L R=true)(h2:F≤R) :
  Calls Tryz.prog 119 #[.agg #[.int .u64 F,.int .u64 L,.int .u64 R]] w fun e w' =>
   ∃ g,e=.returned (.tuple #[.pointer (some ⟨g,0,none⟩),.int .i64 0])∧w.heap.size≤g∧SagAt w' g F L R 0 0 []∧Below w.heap.size w w':=by
 have hal:=(Below.refl w.heap.size w).alloc (Nat.le_refl _) (.cells #[.int .u64 F,.int .u64 L,.int .u64 R] 30)
 have nb:=Blk.new w 30 #[.int .u64 F,.int .u64 L,.int .u64 R]
 have nl:=nb.lt
 have HN:=Lib.hid nb
 clear nb
 have hd:decide (R < F)=false:=by simp;omega
 go_enter Tryz.func119,Tryz.ntmps119
 go_wp2_with (first
  | (go_at_call 82;refine (may_any F L R _ hL).mono ?_;rintro e w1 ⟨rfl,hb1⟩;have n1:=HN.out.below hb1 nl;have a0:=n1.cell 0;have a1:=n1.cell 1;have a2:=n1.cell 2;simp only [lTA,lCZ,lCS] at a0 a1 a2)
  | (go_at_call 149;refine (bent_any F L R _).mono ?_;rintro e w2 ⟨rfl,hb2⟩;have n2:=n1.below hb2 n1.lt;have b0:=n2.cell 0;have b1:=n2.cell 1;have b2:=n2.cell 2;simp only [lTA,lCZ,lCS] at b0 b1 b2))
 have hb3:Below w.heap.size w w2:=(hal.trans (hb1.mono hal.size)).trans (hb2.mono (Nat.le_trans hal.size hb1.size))
 go_ret2
 exact⟨w2.heap.size,rfl,hb3.size,⟨_,Blk.new _ _ _,World.ownsRow_nil _ _ _ _⟩,hb3.alloc hb3.size _⟩
end
section
open Go.RowKit
structure Live (w:World)(g:Nat)(F L R x:Int)(K A:List (Int × Int)):Prop where
 at_:SagAt w g F L R A.length x K
 may:MayC F L R
 le:F≤R
 run:Run F L R x K A
 num:∀ a∈A,0≤a.1∧0≤a.2∧a.2≤4611686018427387904
 x0:0≤x
 x1:x≤9223372036854775808
 few:A.length≤900000
 one:(∀ a∈A,L≤x - a.1)→K.length≤1
section
variable {w w' : World} {g : Nat} {F L R x : Int} {K A : List (Int × Int)}
theorem Live.below (h:Live w g F L R x K A)(hb:Below w.heap.size w w'):Live w' g F L R x K A:=⟨h.at_.below hb,h.may,h.le,h.run,h.num,h.x0,h.x1,h.few,h.one⟩
theorem Live.lt (h:Live w g F L R x K A):g < w.heap.size:=by obtain⟨v,hb,_⟩:=h.at_;exact hb.lt
theorem Live.sag (h:Live w g F L R x K A):SagC F L R:=⟨h.may,.inr h.le⟩
theorem Live.ux (h:Live w g F L R x K A):U x:=⟨h.x0,by have:=h.x1;omega⟩
theorem Live.kept (h:Live w g F L R x K A):∀ k∈K,0≤k.1∧k.1≤x∧U k.2:=fun k hk=>by
 have h1:=h.run.sub.subset hk
 have h2:=h.num k h1
 exact⟨h2.1,h.run.le k h1,h2.2.1,by omega⟩
theorem Live.kept' (h:Live w g F L R x K A):∀ k∈K,0≤k.1∧k.1≤9223372036854775808∧U k.2:=fun k hk=>by
 have h1:=h.kept k hk;have h2:=h.x1
 exact⟨h1.1,by omega,h1.2.2⟩
theorem Live.fewK (h:Live w g F L R x K A):K.length≤900000:=Nat.le_trans h.run.sub.length_le h.few
theorem Live.someK (h:Live w g F L R x K A)(hA:A≠[]):K≠[]:=by
 have:=(h.run.some hA).1
 rintro rfl
 simp at this
theorem Live.n0 (h:Live w g F L R x K A)(hA:A≠[]):(A.length:Int)≠0:=by
 have:=List.length_pos_iff.2 hA
 omega
theorem Live.none (h:Live w g F L R x K []):NoneAt w (some ⟨g,0,none⟩):=by
 obtain⟨v,hb,_⟩:=h.at_
 exact .inr ⟨g,rfl,hb.lt,hb.cell 4⟩
theorem Live.rest (h:Live w g F L R x K A):MayC 0 0 R:=⟨Int.le_refl _,by omega,h.may.r0,h.may.r1,Int.le_refl _,by omega,fun _=>rfl⟩
theorem live_new (w:World)(hF:0≤F)(hL:0≤L)(hR:0≤R)(h1:mayB F L R=true)(h2:F≤R) :
  Calls Tryz.prog 119 #[.agg #[.int .u64 F,.int .u64 L,.int .u64 R]] w fun e w' =>
   ∃ g,e=.returned (.tuple #[.pointer (some ⟨g,0,none⟩),.int .i64 0])∧w.heap.size≤g∧Live w' g F L R 0 [] []∧Below w.heap.size w w' :=
 (snew_ok F L R w hL h1 h2).mono fun _ _ ⟨g,he,hg,hs,hb⟩ =>
  ⟨g,he,hg,⟨hs,mayB_spec hF hL hR h1,h2,Run.nil F L R 0,by intro a ha;simp at ha,by omega,by omega,by simp,fun _=>by simp⟩,hb⟩
theorem live_start_own (h:Live w g F L R x K A)(t y X Y:Int)(ht:U t)(hy:U y)(hX:X=max (min t 9223372036854775808) x)(hY:Y=min y 4611686018427387904)(hfew:A.length < 900000) :
  Calls Tryz.prog 271 #[.pointer (some ⟨g,0,none⟩),.int .u64 t,.int .u64 y] w fun e w' =>
   e=.returned (.tuple #[])∧Live w' g F L R X (startK F L R X K (X,Y)) (A ++ [(X,Y)])∧w.grownBy w' (some g)∧NewRow w w' g:=by
 have hxX:x≤X:=by omega
 have h0:=h.x0;have h1:=h.x1
 refine (sstart_own g F L R A.length x y t X Y K w hX hY h.ux ht hy (by omega) (by omega) h.fewK h.sag h.kept h.at_).mono fun e w' ⟨he,hs,hg,hn⟩=>⟨he,?_,hg,hn⟩
 refine⟨?_,h.may,h.le,h.run.start h.sag hxX,fun a ha=>?_,by omega,by omega,by simp;omega,fun hall=>?_⟩
 ·rw [List.length_append]
  exact hs
 ·rcases List.mem_append.1 ha with ha | ha
  ·exact h.num a ha
  ·obtain rfl:a=(X,Y):=by simpa using ha
   unfold U at hy
   exact⟨by simp only;omega,by simp only;omega,by simp only;omega⟩
 ·refine start_one h.sag (fun o ho=>hall o ?_) (hall (X,Y) (by simp))
  exact List.mem_append_left _ (h.run.sub.subset ho)
theorem live_reach (h:Live w g F L R x K A)(hA:A≠[])(y:Int)(hy:U y) :
  Calls Tryz.prog 270 #[.pointer (some ⟨g,0,none⟩),.int .u64 y] w fun e w' =>
   e=.returned (.int .u64 (lastAt (reachC F L R) y K x))∧Below w.heap.size w w' :=
 sreach_any g F L R A.length x y K w h.may hy h.ux (h.n0 hA) (h.someK hA) (Nat.le_trans h.fewK (by omega)) h.kept' h.at_
end
end
section
open Go.RowKit
section
variable {w : World} {g : Nat} {F L R x : Int} {K A : List (Int × Int)}
end
theorem lastAt_le (needs:Int→Int)(y:Int)(K:List (Int × Int)) {s:Int} (hs:s≤9223372036854775808):lastAt needs y K s≤9223372036854775808:=by
 unfold lastAt;split
 ·exact Int.le_refl _
 ·exact lastL_never needs y K s hs
theorem reach_first {F L R:Int} (h:MayC F L R):∀ m,0≤m→m≤4611686018427387904→FirstF (W F L R) m (reachC F L R m):=by
 intro m h0 h1
 rcases reachC_spec h h0 h1 with h2 | ⟨h2,_,h3,h4⟩
 ·exact .inl h2
 ·exact .inr ⟨h2,h3,h4⟩
theorem W_line (R t:Int)(ht:0≤t):W 0 0 R t=R*t:=by
 unfold W;rw [Int.min_eq_right ht];simp
theorem reach_mono {F L R m:Int} (h:MayC F L R)(hs:F≤R)(h0:0≤m)(h1:m≤4611686018427387904):reachC 0 0 R m≤reachC F L R m:=by
 have hr:MayC 0 0 R:=⟨Int.le_refl _,by omega,h.r0,h.r1,Int.le_refl _,by omega,fun _=>rfl⟩
 rcases reach_first h m h0 h1 with ⟨e,_⟩ | ⟨a0,a1,_⟩
 ·rw [e]
  rcases reach_first hr m h0 h1 with ⟨e2,_⟩ | ⟨b0,b1,b2⟩
  ·omega
  ·rcases reachC_spec hr h0 h1 with ⟨e3,_⟩ | ⟨_,b3,_⟩ <;> omega
 ·rcases reach_first hr m h0 h1 with ⟨e2,b2⟩ | ⟨b0,b1,b2⟩
  ·exfalso
   have h4:=b2 (reachC F L R m) a0
   have hg:=gap_nonneg (F:=F) (L:=L) (R:=R) ⟨h,.inr hs⟩ a0
   have:=W_gap F L R (reachC F L R m)
   rw [W_line _ _ a0] at h4
   omega
  ·rcases Int.lt_or_le (reachC F L R m) (reachC 0 0 R m) with h3 | h3
   ·exfalso
    have h4:=b2 (reachC F L R m) a0 h3
    have hg:=gap_nonneg (F:=F) (L:=L) (R:=R) ⟨h,.inr hs⟩ a0
    have:=W_gap F L R (reachC F L R m)
    rw [W_line _ _ a0] at h4
    omega
   ·exact h3
theorem live_back {w:World} {g:Nat} {F L R x y:Int} {K A:List (Int × Int)} (h:Live w g F L R x K A)(hA:A≠[]) :
  Back (fun t=>minF (atK F L R (max t x)) 4611686018427387904 A) x y (lastAt (reachC F L R) y K x) ∧
  Back (fun t=>minF (linK R (max t x)) 4611686018427387904 A) x y (lastAt (reachC 0 0 R) y K x) ∧
  lastAt (reachC 0 0 R) y K x≤lastAt (reachC F L R) y K x:=by
 have hrun:=fun t (ht:x≤t)=>h.run.least (t:=t) (fun a ha=>(h.num a ha).2.1) ht
 have hk:∀ k∈K,0≤k.1∧k.1≤x∧0≤k.2:=fun k hk=>by have:=h.kept k hk;exact⟨this.1,this.2.1,this.2.2.1⟩
 refine⟨?_,?_,?_⟩
 ·refine Back.of h.x1 (lastAt_le _ _ _ h.x1) (back_any (y:=y) (f:=W F L R) (fun t=>minF (atK F L R (max t x)) 4611686018427387904 A) (reach_first h.may) (fun t ht=>W_nonneg h.may.f0 h.may.r0 h.may.l0 ht) (fun t u _ htu=>W_mono h.may.f0 h.may.r0 htu) hk h.x1 ?_ ?_ ?_)
  ·intro t;exact minF_le_start _ _ _
  ·intro t ht k hkK
   simp only [Int.max_eq_left ht];rw [← (hrun t ht).1]
   refine Int.le_trans (minF_le _ K _ k hkK) ?_
   rw [atK_has (hk k hkK).2.2]
   exact cap_le_self _
  ·intro t ht hy hall
   simp only [Int.max_eq_left ht];rw [← (hrun t ht).1]
   refine le_minF _ _ K _ hy fun k hkK=>?_
   rw [atK_has (hk k hkK).2.2]
   have:=hall k hkK
   unfold hasK cap;split <;> omega
 ·refine Back.of h.x1 (lastAt_le _ _ _ h.x1) (back_any (y:=y) (f:=W 0 0 R) (fun t=>minF (linK R (max t x)) 4611686018427387904 A) (reach_first h.rest) (fun t ht=>W_nonneg (by omega) h.may.r0 (by omega) ht) (fun t u _ htu=>W_mono (by omega) h.may.r0 htu) hk h.x1 ?_ ?_ ?_)
  ·intro t;exact minF_le_start _ _ _
  ·intro t ht k hkK
   simp only [Int.max_eq_left ht];rw [← (hrun t ht).2]
   refine Int.le_trans (minF_le _ K _ k hkK) ?_
   rw [linK_line (hk k hkK).2.2,W_line _ _ (by have:=hk k hkK;omega)]
   exact cap_le_self _
  ·intro t ht hy hall
   simp only [Int.max_eq_left ht];rw [← (hrun t ht).2]
   refine le_minF _ _ K _ hy fun k hkK=>?_
   rw [linK_line (hk k hkK).2.2]
   have:=hall k hkK
   rw [W_line _ _ (by have:=hk k hkK;omega)] at this
   unfold lineK cap;split <;> omega
 ·unfold lastAt
  split
  ·exact Int.le_refl _
  ·exact lastL_le (fun m h0 h1=>reach_mono h.may h.le h0 h1) K x x (Int.le_refl _) h.x1
end
section
open Go.RowKit
abbrev ifB (g:Nat):Value:=.iface 172 (.agg #[.pointer (some ⟨g,0,none⟩)])
abbrev ifS (g:Nat):Value:=.iface 181 (.agg #[.pointer (some ⟨g,0,none⟩)])
def RunB (w:World)(r g:Nat)(F L R x:Int)(A:List (Int × Int)):Prop :=
 Blk w r 176 #[.int .u64 F,.int .u64 L,.int .u64 R,ifB g]∧BentAt w g F L R x A∧g < r
def RunS (w:World)(r g:Nat)(F L R x:Int)(A:List (Int × Int)):Prop :=
 Blk w r 176 #[.int .u64 F,.int .u64 L,.int .u64 R,ifS g]∧(∃ K,Live w g F L R x K A)∧g < r
def RunAt (w:World)(r g:Nat)(F L R x:Int)(A:List (Int × Int)):Prop:=RunB w r g F L R x A∨RunS w r g F L R x A
section
variable {w w' : World} {r g : Nat} {F L R x : Int} {A : List (Int × Int)}
theorem RunB.below (h:RunB w r g F L R x A)(hb:Below w.heap.size w w'):RunB w' r g F L R x A:=⟨h.1.below hb h.1.lt,h.2.1.below hb,h.2.2⟩
theorem RunS.below (h:RunS w r g F L R x A)(hb:Below w.heap.size w w'):RunS w' r g F L R x A:=⟨h.1.below hb h.1.lt,by obtain⟨K,hK⟩:=h.2.1;exact⟨K,hK.below hb⟩,h.2.2⟩
theorem RunAt.below (h:RunAt w r g F L R x A)(hb:Below w.heap.size w w'):RunAt w' r g F L R x A:=by
 rcases h with h | h
 ·exact .inl (h.below hb)
 ·exact .inr (h.below hb)
theorem RunAt.lt (h:RunAt w r g F L R x A):g < r∧r < w.heap.size:=by
 rcases h with h | h
 ·exact⟨h.2.2,h.1.lt⟩
 ·exact⟨h.2.2,h.1.lt⟩
theorem RunAt.may (h:RunAt w r g F L R x A):MayC F L R:=by
 rcases h with h | ⟨_,⟨K,hK⟩,_⟩
 ·exact h.2.1.may
 ·exact hK.may
theorem RunAt.num (h:RunAt w r g F L R x A):(∀ a∈A,a.1≤x∧0≤a.2)∧0≤x∧x≤9223372036854775808:=by
 rcases h with h | ⟨_,⟨K,hK⟩,_⟩
 ·exact⟨h.2.1.low,h.2.1.x0,h.2.1.x1⟩
 ·exact⟨fun a ha=>⟨hK.run.le a ha,(hK.num a ha).2.1⟩,hK.x0,hK.x1⟩
theorem of_bent (h:RunB w r g F L R x A):Calls Tryz.prog 122 #[.pointer (some ⟨r,0,none⟩)] w fun e w'=>e=.returned (ifB g)∧w=w':=by
 have c3:=h.1.cell 3
 simp only [lTA,lCZ,lCS] at c3
 clear h
 go_enter Tryz.func122,Tryz.ntmps122
 go_wp2
 all_goals go_ret
 all_goals exact⟨rfl,rfl⟩
theorem of_sag (h:RunS w r g F L R x A):Calls Tryz.prog 122 #[.pointer (some ⟨r,0,none⟩)] w fun e w'=>e=.returned (ifS g)∧w=w':=by
 have c3:=h.1.cell 3
 simp only [lTA,lCZ,lCS] at c3
 clear h
 go_enter Tryz.func122,Tryz.ntmps122
 go_wp2
 all_goals go_ret
 all_goals exact⟨rfl,rfl⟩
theorem run_start_own (h:RunAt w r g F L R x A)(t y X Y:Int)(ht:U t)(hy:U y)(hX:X=max (min t 9223372036854775808) x)(hY:Y=min y 4611686018427387904)(hfew:A.length < 900000) :
  Calls Tryz.prog 88 #[.pointer (some ⟨r,0,none⟩),.int .u64 t,.int .u64 y] w fun e w' =>
   e=.returned (.tuple #[])∧RunAt w' r g F L R X (A ++ [(X,Y)])∧w.grownBy w' (some g)∧NewRow w w' g:=by
 rcases h with h | h
 ·have HH:=Lib.hid h;have HX:=Lib.hid hX;have HY:=Lib.hid hY;clear h hX hY
  go_enter Tryz.func88,Tryz.ntmps88
  go_wp2_with (first
   | (go_at_call 122;refine (of_bent HH.out).mono ?_;rintro e w' ⟨rfl,rfl⟩)
   | (go_at_call 252;refine (bent_start HH.out.2.1 t y X Y ht hy HX.out HY.out hfew).mono ?_;rintro e w1 ⟨rfl,hb1,hg1⟩;have HB1:=Lib.hid hb1;clear hb1))
  go_returns
  exact⟨rfl,.inl ⟨HH.out.1.grown hg1 (by have:=HH.out.2.2;simp;omega),HB1.out,HH.out.2.2⟩,hg1,fun v b hv hb=>by
   obtain⟨h1,h2,hB,_⟩:=HB1.out.blk
   have:=Option.some.inj (hv.symm.trans (hB.cell 6))
   rw [this] at hb
   cases hb⟩
 ·obtain⟨hB,⟨K,hK⟩,hlt⟩:=h
  have HH:=Lib.hid (show RunS w r g F L R x A from ⟨hB,⟨K,hK⟩,hlt⟩);have HK:=Lib.hid hK;have HX:=Lib.hid hX;have HY:=Lib.hid hY;clear hB hK hX hY
  go_enter Tryz.func88,Tryz.ntmps88
  go_wp2_with (first
   | (go_at_call 122;refine (of_sag HH.out).mono ?_;rintro e w' ⟨rfl,rfl⟩)
   | (go_at_call 271;refine (live_start_own HK.out t y X Y ht hy HX.out HY.out hfew).mono ?_;rintro e w1 ⟨rfl,hb1,hg1,hn1⟩;have HB1:=Lib.hid (And.intro hb1 hn1);clear hb1 hn1))
  go_returns
  exact⟨rfl,.inr ⟨HH.out.1.grown hg1 (by simp;omega),⟨_,HB1.out.1⟩,hlt⟩,hg1,HB1.out.2⟩
end
end
section
open Go.RowKit
section
variable {w w' : World} {r g : Nat} {F L R x : Int} {A : List (Int × Int)}
theorem run_reach (h:RunAt w r g F L R x A)(hA:A≠[])(y:Int)(hy:U y) :
  Calls Tryz.prog 102 #[.pointer (some ⟨r,0,none⟩),.int .u64 y] w (Ans (fun t=>vA F L R A (max t x)) x y w):=by
 have HA:=Lib.hid hA;clear hA
 rcases h with h | h
 ·have HH:=Lib.hid h;clear h
  go_enter Tryz.func102,Tryz.ntmps102
  go_wp2_with (first
   | (go_at_call 122;refine (of_bent HH.out).mono ?_;rintro e w' ⟨rfl,rfl⟩)
   | (go_at_call 251;refine (bent_reach HH.out.2.1 HA.out y hy).mono ?_;rintro e w1 ⟨n,rfl,hk,hn0,hn1,hb1⟩))
  go_ret
  exact⟨n,rfl,hk,hn0,hn1,hb1⟩
 ·obtain⟨K,hK⟩:=h.2.1
  have HH:=Lib.hid h;have HK:=Lib.hid hK;have HB:=Lib.hid (live_back (y:=y) hK HA.out).1;clear h hK
  go_enter Tryz.func102,Tryz.ntmps102
  go_wp2_with (first
   | (go_at_call 122;refine (of_sag HH.out).mono ?_;rintro e w' ⟨rfl,rfl⟩)
   | (go_at_call 270;refine (live_reach HK.out HA.out y hy).mono ?_;rintro e w1 ⟨rfl,hb1⟩))
  go_ret
  have hk:=HB.out;have hx0:=HK.out.x0
  exact⟨_,rfl,hk,by have:=hk.x_le;omega,hk.le_never,hb1⟩
theorem run_reach0 (h:RunAt w r g F L R x [])(y:Int) :
  Calls Tryz.prog 102 #[.pointer (some ⟨r,0,none⟩),.int .u64 y] w fun e w'=>e=.returned (.int .u64 (nev y))∧Below w.heap.size w w':=by
 rcases h with h | h
 ·have HH:=Lib.hid h;clear h
  go_enter Tryz.func102,Tryz.ntmps102
  go_wp2_with (first
   | (go_at_call 122;refine (of_bent HH.out).mono ?_;rintro e w' ⟨rfl,rfl⟩)
   | (go_at_call 251;refine (bent_reach0 HH.out.2.1 y).mono ?_;rintro e w1 ⟨rfl,rfl⟩))
  go_ret
  exact⟨rfl,Below.refl _ _⟩
 ·obtain⟨K,hK⟩:=h.2.1
  have hK0:K=[]:=List.eq_nil_of_length_eq_zero (Nat.le_zero.1 hK.run.sub.length_le)
  subst hK0
  have hN:=hK.none;have HN:=Lib.hid hN;clear hN
  have HH:=Lib.hid h;have HK:=Lib.hid hK;clear h hK
  go_enter Tryz.func102,Tryz.ntmps102
  go_wp2_with (first
   | (go_at_call 122;refine (of_sag HH.out).mono ?_;rintro e w' ⟨rfl,rfl⟩)
   | (go_at_call 270;refine (sreach_none _ y _ HN.out).mono ?_;rintro e w1 ⟨rfl,hb1⟩))
  go_ret
  exact⟨rfl,hb1⟩
end
end
section
open Go.RowKit
attribute [local go_sem] quietR quietAtR quietUponR midAt midUpon
def Made (w:World)(F L R:Int)(e:Ending)(w':World):Prop :=
 ∃ r g,e=.returned (.pointer (some ⟨r,0,none⟩))∧w.heap.size≤g∧RunAt w' r g F L R 0 []∧Below w.heap.size w w'
theorem run_new (F L R:Int)(w:World)(hF:0≤F)(hL:0≤L)(hR:0≤R)(h1:mayB F L R=true) :
  Calls Tryz.prog 83 #[.agg #[.int .u64 F,.int .u64 L,.int .u64 R]] w (Made w F L R):=by
 have hal:=(Below.refl w.heap.size w).alloc (Nat.le_refl _) (.cells #[.int .u64 F,.int .u64 L,.int .u64 R] 30)
 have nb:=Blk.new w 30 #[.int .u64 F,.int .u64 L,.int .u64 R]
 have nl:=nb.lt
 have HN:=Lib.hid nb;have H:=Lib.hid h1
 clear nb h1
 by_cases h2:R < F
 ·go_enter Tryz.func83,Tryz.ntmps83
  go_wp2_with (first
   | (go_at_call 82;refine (may_any F L R _ hL).mono ?_;rintro e w1 ⟨rfl,hb1⟩;rw [H.out];have n1:=HN.out.below hb1 nl;have a0:=n1.cell 0;have a1:=n1.cell 1;have a2:=n1.cell 2;simp only [lTA,lCZ,lCS] at a0 a1 a2)
   | (go_at_call 118;refine (bnew_ok F L R _ hF hL hR H.out h2).mono ?_;rintro e w2 ⟨g,rfl,hg,hB,hb2⟩;have HB:=Lib.hid hB;clear hB;have n2:=n1.below hb2 n1.lt;have b0:=n2.cell 0;have b1:=n2.cell 1;have b2:=n2.cell 2;simp only [lTA,lCZ,lCS] at b0 b1 b2))
  have hb3:Below w.heap.size w w2:=(hal.trans (hb1.mono hal.size)).trans (hb2.mono (Nat.le_trans hal.size hb1.size))
  go_ret
  have hal2:=(Below.refl w2.heap.size w2).alloc (Nat.le_refl _) (.cells #[.int .u64 F,.int .u64 L,.int .u64 R,ifB g] 176)
  exact⟨w2.heap.size,g,rfl,Nat.le_trans (Nat.le_trans hal.size hb1.size) hg,.inl ⟨Blk.new _ _ _,HB.out.below hal2,HB.out.lt⟩,hb3.trans (hal2.mono hb3.size)⟩
 ·have h2':F≤R:=by omega
  go_enter Tryz.func83,Tryz.ntmps83
  go_wp2_with (first
   | (go_at_call 82;refine (may_any F L R _ hL).mono ?_;rintro e w1 ⟨rfl,hb1⟩;rw [H.out];have n1:=HN.out.below hb1 nl;have a0:=n1.cell 0;have a1:=n1.cell 1;have a2:=n1.cell 2;simp only [lTA,lCZ,lCS] at a0 a1 a2)
   | (go_at_call 118;refine (bnew_no F L R _ hL H.out h2').mono ?_;rintro e w2 ⟨rfl,hb2⟩;have n2:=n1.below hb2 n1.lt;have b0:=n2.cell 0;have b1:=n2.cell 1;have b2:=n2.cell 2;simp only [lTA,lCZ,lCS] at b0 b1 b2)
   | (go_at_call 119;refine (live_new _ hF hL hR H.out h2').mono ?_;rintro e w3 ⟨g,rfl,hg,hB,hb3⟩;have HB:=Lib.hid hB;clear hB;have n3:=n2.below hb3 n2.lt;have d0:=n3.cell 0;have d1:=n3.cell 1;have d2:=n3.cell 2;simp only [lTA,lCZ,lCS] at d0 d1 d2))
  have hb4:Below w.heap.size w w2:=(hal.trans (hb1.mono hal.size)).trans (hb2.mono (Nat.le_trans hal.size hb1.size))
  have hb5:Below w.heap.size w w3:=hb4.trans (hb3.mono hb4.size)
  go_ret
  have hal2:=(Below.refl w3.heap.size w3).alloc (Nat.le_refl _) (.cells #[.int .u64 F,.int .u64 L,.int .u64 R,ifS g] 176)
  exact⟨w3.heap.size,g,rfl,Nat.le_trans hb4.size hg,.inr ⟨Blk.new _ _ _,⟨_,HB.out.below hal2⟩,HB.out.lt⟩,hb5.trans (hal2.mono hb5.size)⟩
end
end Go.Proofs.YtmmeopjemkjllaaGreat
