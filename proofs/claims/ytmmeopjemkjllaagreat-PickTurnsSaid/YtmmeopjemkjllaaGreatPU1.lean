/- Lemmas of the claim. No conditions beyond those that each states. -/
set_option linter.unusedVariables false
set_option linter.unusedSimpArgs false
set_option maxRecDepth 100000
set_option maxHeartbeats 8000000
namespace Go.Proofs.YtmmeopjemkjllaaGreat
theorem lTA {α:Type} (l:List α)(i:Nat):l.toArray[i]?=l[i]?:=List.getElem?_toArray
theorem lCZ {α:Type} (a:α)(l:List α):(a::l)[0]?=some a:=List.getElem?_cons_zero
theorem lCS {α:Type} (a:α)(l:List α)(i:Nat):(a::l)[i+1]?=l[i]?:=List.getElem?_cons_succ
section
def hiW (n:Int):Int:=n / 18446744073709551616
def loW (n:Int):Int:=n % 18446744073709551616
def num (h l:Int):Int:=h*18446744073709551616+l
def U (n:Int):Prop:=0≤n∧n≤18446744073709551615
theorem num_words (n:Int):num (hiW n) (loW n)=n:=by unfold num hiW loW;omega
theorem U_lo (n:Int):U (loW n):=by unfold U loW;omega
theorem U_hi {n:Int} (h:0≤n)(h':n < 340282366920938463463374607431768211456):U (hiW n):=by unfold U hiW;omega
theorem hi_small {n:Int} (h:U n):hiW n=0:=by unfold U at h;unfold hiW;omega
theorem lo_small {n:Int} (h:U n):loW n=n:=by unfold U at h;unfold loW;omega
def cmpI (a b:Int):Int:=if a < b then -1 else if a=b then 0 else 1
theorem cmpI_lt {a b:Int} (h:a < b):cmpI a b=-1:=by simp [cmpI,h]
theorem cmpI_gt {a b:Int} (h:b < a):cmpI a b=1:=by unfold cmpI;rw [if_neg (by omega),if_neg (by omega)]
theorem cmpI_eq {a b:Int} (h:a=b):cmpI a b=0:=by subst h;simp [cmpI]
theorem cmpI_ne {a b:Int} (h:(cmpI a b != 0)=true):a≠b:=by rintro rfl;simp [cmpI] at h
theorem cmpI_same {a b:Int} (h:(cmpI a b != 0)=false):a=b:=by
 unfold cmpI at h
 by_cases h1:a < b
 ·simp [h1] at h
 ·by_cases h2:a=b
  ·exact h2
  ·simp [h1,h2] at h
theorem cmpI_hi {a b c d:Int} (h:a≠c)(hb:U b)(hd:U d):cmpI a c=cmpI (num a b) (num c d):=by
 unfold U at hb hd
 by_cases h1:a < c
 ·rw [cmpI_lt h1,cmpI_lt (by unfold num;omega)]
 ·rw [cmpI_gt (by omega),cmpI_gt (by unfold num;omega)]
theorem cmpI_lo {a b d:Int}:cmpI b d=cmpI (num a b) (num a d):=by
 by_cases h1:b < d
 ·rw [cmpI_lt h1,cmpI_lt (by unfold num;omega)]
 ·by_cases h2:b=d
  ·rw [cmpI_eq h2,cmpI_eq (by unfold num;omega)]
  ·rw [cmpI_gt (by omega),cmpI_gt (by unfold num;omega)]
def cap (n:Int):Int:=if 4611686018427387904 < n then 4611686018427387904 else n
theorem cap_le (n:Int):cap n≤4611686018427387904:=by unfold cap;omega
theorem cap_nonneg {n:Int} (h:0≤n):0≤cap n:=by unfold cap;omega
theorem cap_le_self (n:Int):cap n≤n:=by unfold cap;omega
theorem U_cap {n:Int} (h:0≤n):U (cap n):=by unfold U cap;omega
theorem cap_of_le {n:Int} (h:n≤4611686018427387904):cap n=n:=by unfold cap;omega
theorem cap_of_ge {n:Int} (h:4611686018427387904≤n):cap n=4611686018427387904:=by unfold cap;omega
def less (a b:Int):Int:=if a < b then 0 else cap (a - b)
theorem U_less {a b : Int} : U (less a b) := by unfold less; split; · exact ⟨by omega, by omega⟩
                                                exact U_cap (by omega)
def ceil (y c:Int):Int:=(y+c - 1) / c
def few (r:Int):Int:=if 1 < r then 1 else r
theorem U_few {r:Int} (h:0≤r):U (few r):=by unfold U few;omega
theorem ceil_eq {y c:Int} (hc:1≤c):y / c+few (y % c)=ceil y c:=by
 have h1:=Int.emod_nonneg y (show c≠0 by omega)
 have h2:=Int.emod_lt_of_pos y (show 0 < c by omega)
 unfold few ceil
 generalize hq:y / c=q at *
 generalize hr:y % c=r at *
 have h3:c*q+r=y:=by rw [← hq,← hr];exact Int.mul_ediv_add_emod y c
 have h4:y+c - 1=(r+c - 1)+c*q:=by omega
 rw [h4,Int.add_mul_ediv_left _ _ (by omega)]
 by_cases h:r=0
 ·subst h
  rw [if_neg (by omega),Int.ediv_eq_zero_of_lt (by omega) (by omega)]
  exact Int.add_comm _ _
 ·have h5:(r+c - 1) / c=1:=by
   rw [show r+c - 1=(r - 1)+c*1 by omega,Int.add_mul_ediv_left _ _ (by omega),Int.ediv_eq_zero_of_lt (by omega) (by omega)];rfl
  rw [h5]
  split <;> omega
theorem div_U {l c:Int} (h:U l)(hc:1≤c):U (l / c):=by
 unfold U at h ⊢
 exact⟨Int.ediv_nonneg h.1 (by omega),Int.le_trans (Int.ediv_le_self _ h.1) h.2⟩
end
section
def W (F L R t:Int):Int:=F*min t L+R*(t - min t L)
structure MayC (F L R:Int):Prop where
 f0:0≤F
 f1:F≤1048576
 r0:0≤R
 r1:R≤1048576
 l0:0≤L
 l1:L≤1099511627776
 fl:L=0→F=0
theorem W_early {F L R t:Int} (h:t≤L):W F L R t=F*t:=by
 unfold W;rw [Int.min_eq_left h,Int.sub_self,Int.mul_zero,Int.add_zero]
theorem W_late {F L R t:Int} (h:L≤t):W F L R t=F*L+R*(t - L):=by
 unfold W;rw [Int.min_eq_right h]
theorem W_zero {F L R:Int} (hL:0≤L):W F L R 0=0:=by rw [W_early hL,Int.mul_zero]
theorem W_nonneg {F L R t:Int} (hF:0≤F)(hR:0≤R)(hL:0≤L)(ht:0≤t):0≤W F L R t:=by
 unfold W
 have h1:=Int.mul_nonneg hF (show 0≤min t L by omega)
 have h2:=Int.mul_nonneg hR (show 0≤t - min t L by omega)
 omega
theorem W_mono {F L R t u:Int} (hF:0≤F)(hR:0≤R)(h:t≤u):W F L R t≤W F L R u:=by
 unfold W
 have h1:=Int.mul_le_mul_of_nonneg_left (show min t L≤min u L by omega) hF
 have h2:=Int.mul_le_mul_of_nonneg_left (show t - min t L≤u - min u L by omega) hR
 omega
theorem ceil_mul {y c:Int} (hc:1≤c):y≤c*ceil y c:=by
 have h:=Int.lt_mul_ediv_self_add (x:=y+c - 1) (k:=c) (by omega)
 unfold ceil
 omega
theorem ceil_lt {y c t:Int} (hc:1≤c)(h:t < ceil y c):c*t < y:=by
 unfold ceil at h
 have h1:=Int.mul_ediv_self_le (x:=y+c - 1) (k:=c) (by omega)
 have h2:=Int.mul_le_mul_of_nonneg_left (show t+1≤(y+c - 1) / c by omega) (show 0≤c by omega)
 rw [Int.mul_add] at h2
 omega
theorem ceil_nonneg {y c:Int} (hc:1≤c)(hy:0≤y):0≤ceil y c:=by
 unfold ceil;exact Int.ediv_nonneg (by omega) (by omega)
theorem ceil_pos {y c:Int} (hc:1≤c)(hy:1≤y):1≤ceil y c:=by
 have h:=ceil_mul (y:=y) hc
 have h0:=ceil_nonneg (y:=y) hc (by omega)
 by_cases h1:ceil y c=0
 ·rw [h1,Int.mul_zero] at h;omega
 ·omega
theorem ceil_le {y c:Int} (hc:1≤c)(hy:0≤y):ceil y c≤y:=by
 by_cases h:y < ceil y c
 ·have h1:=ceil_lt hc h
  have h2:=Int.mul_le_mul_of_nonneg_right hc hy
  omega
 ·omega
def reachC (F L R y:Int):Int :=
 if 4611686018427387904 < y then 9223372036854775808
 else if 0 < L∧y≤cap (F*L) then (if y=0 then 0 else cap (ceil y F))
 else if (if 0 < L then y - cap (F*L) else y)≤cap (R*18446744073709551615) then
  (if (if 0 < L then y - cap (F*L) else y)=0 then (if 0 < L then L else 0) else (if 0 < L then L else 0)+cap (ceil (if 0 < L then y - cap (F*L) else y) R))
 else 9223372036854775808
def First (F L R y r:Int):Prop :=
 (r=9223372036854775808∧∀ t,0≤t→W F L R t < y)∨(0≤r∧r≤4611687117939015680∧y≤W F L R r∧∀ t,0≤t→t < r→W F L R t < y)
theorem reachC_over {F L R y:Int} (h:4611686018427387904 < y):reachC F L R y=9223372036854775808:=by unfold reachC;rw [if_pos h]
theorem reachC_zero {F L R:Int} (h:MayC F L R):reachC F L R 0=0:=by
 unfold reachC
 rw [if_neg (by omega)]
 have h1:=cap_nonneg (Int.mul_nonneg h.f0 h.l0)
 have h2:=cap_nonneg (n:=R*18446744073709551615) (Int.mul_nonneg h.r0 (by decide))
 by_cases hL:0 < L
 ·rw [if_pos ⟨hL,h1⟩,if_pos rfl]
 ·rw [if_neg (by omega)];simp only [hL,if_false,if_true];rw [if_pos h2]
theorem reachC_spec {F L R y:Int} (h:MayC F L R)(hy0:0≤y)(hy:y≤4611686018427387904):First F L R y (reachC F L R y):=by
 have hF:=h.f0;have hR:=h.r0;have hL0:=h.l0;have hL1:=h.l1
 have hFL:=Int.mul_nonneg hF hL0
 have hRM:1≤R→cap (R*18446744073709551615)=4611686018427387904:=fun hR1=>cap_of_ge (by omega)
 by_cases y0:y=0
 ·subst y0
  rw [reachC_zero h]
  exact .inr ⟨by omega,by omega,by rw [W_zero hL0];omega,fun t h1 h2=>by omega⟩
 unfold reachC
 rw [if_neg (by omega)]
 by_cases c1:0 < L∧y≤cap (F*L)
 ·rw [if_pos c1,if_neg y0]
  obtain⟨hL,h1⟩:=c1
  have h2:=cap_le_self (F*L)
  have hF1:1≤F:=by
   by_cases hF0:F=0
   ·subst hF0;rw [Int.zero_mul] at h2 h1;omega
   ·omega
  have h3:=ceil_le hF1 hy0
  rw [cap_of_le (by omega)]
  have h4:ceil y F≤L:=by
   by_cases hlt:L < ceil y F
   ·have:=ceil_lt hF1 hlt;omega
   ·omega
  refine .inr ⟨ceil_nonneg hF1 hy0,by omega,by rw [W_early h4];exact ceil_mul hF1,fun t ht htr=>by rw [W_early (by omega)];exact ceil_lt hF1 htr⟩
 ·rw [if_neg c1]
  by_cases hL:0 < L
  ·simp only [hL,if_true]
   have h1:cap (F*L) < y:=by omega
   have h2:cap (F*L)=F*L:=cap_of_le (by unfold cap at h1;omega)
   rw [h2] at h1 ⊢
   by_cases hR1:1≤R
   ·rw [hRM hR1,if_pos (by omega),if_neg (by omega)]
    have h3:=ceil_le hR1 (show 0≤y - F*L by omega)
    have h4:=ceil_pos hR1 (show 1≤y - F*L by omega)
    rw [cap_of_le (by omega)]
    refine .inr ⟨by omega,by omega,?_,fun t ht htr=>?_⟩
    ·rw [W_late (by omega),show L+ceil (y - F*L) R - L=ceil (y - F*L) R by omega]
     have:=ceil_mul (y:=y - F*L) hR1
     omega
    ·by_cases hlt:t≤L
     ·have:=W_mono (F:=F) (L:=L) (R:=R) hF hR hlt
      rw [W_early (Int.le_refl L)] at this
      omega
     ·rw [W_late (by omega)]
      have:=ceil_lt (y:=y - F*L) (t:=t - L) hR1 (by omega)
      omega
   ·have hR0:R=0:=by omega
    subst hR0
    rw [Int.zero_mul,if_neg (by unfold cap;omega)]
    refine .inl ⟨rfl,fun t ht=>?_⟩
    have h5:=Int.mul_le_mul_of_nonneg_left (show min t L≤L by omega) hF
    unfold W
    omega
  ·have hL':L=0:=by omega
   subst hL'
   simp only [hL,if_false]
   by_cases hR1:1≤R
   ·rw [hRM hR1,if_pos (by omega),if_neg (by omega)]
    have h3:=ceil_le hR1 hy0
    have h4:=ceil_pos hR1 (show 1≤y by omega)
    rw [cap_of_le (by omega)]
    refine .inr ⟨by omega,by omega,?_,fun t ht htr=>?_⟩
    ·rw [W_late (by omega)]
     have:=ceil_mul (y:=y) hR1
     simp;omega
    ·rw [W_late (by omega)]
     have:=ceil_lt (y:=y) (t:=t) hR1 (by omega)
     simp;omega
   ·have hR0:R=0:=by omega
    subst hR0
    rw [Int.zero_mul,if_neg (by unfold cap;omega)]
    refine .inl ⟨rfl,fun t ht=>?_⟩
    rw [W_late (by omega)]
    simp;omega
end
section
def hasK (F L R:Int)(k:Int × Int)(t:Int):Int:=k.2+W F L R (t - k.1)
def lineK (R:Int)(k:Int × Int)(t:Int):Int:=k.2+R*(t - k.1)
def gapK (F L R u:Int):Int:=(R - F)*min u L
theorem W_gap (F L R u:Int):W F L R u=R*u - gapK F L R u:=by
 unfold W gapK
 rw [Int.mul_sub,Int.sub_mul]
 omega
theorem line_gap (F L R:Int)(k:Int × Int)(t:Int):lineK R k t=hasK F L R k t+gapK F L R (t - k.1):=by
 unfold lineK hasK
 rw [W_gap]
 omega
structure SagC (F L R:Int):Prop where
 may:MayC F L R
 sag:L=0∨F≤R
theorem gap_mono {F L R a b:Int} (h:SagC F L R)(hb:0≤b)(hab:b≤a):gapK F L R b≤gapK F L R a:=by
 unfold gapK
 rcases h.sag with h0 | h0
 ·rw [h0,Int.min_eq_right hb,Int.min_eq_right (Int.le_trans hb hab)];exact Int.le_refl _
 ·exact Int.mul_le_mul_of_nonneg_left (by omega) (by omega)
theorem gap_conc {F L R a b d:Int} (h:SagC F L R)(hb:0≤b)(hab:b≤a)(hd:0≤d):gapK F L R (a+d) - gapK F L R a≤gapK F L R (b+d) - gapK F L R b:=by
 unfold gapK
 rcases h.sag with h0 | h0
 ·rw [h0,Int.min_eq_right hb,Int.min_eq_right (Int.le_trans hb hab),Int.min_eq_right (by omega),Int.min_eq_right (by omega)];exact Int.le_refl _
 ·rw [← Int.mul_sub,← Int.mul_sub]
  exact Int.mul_le_mul_of_nonneg_left (by omega) (by omega)
theorem gap_nonneg {F L R a:Int} (h:SagC F L R)(ha:0≤a):0≤gapK F L R a:=by
 have:=gap_mono h (Int.le_refl 0) ha
 unfold gapK at *
 rw [Int.min_eq_left h.may.l0] at this
 omega
theorem gap_late {F L R a:Int} (h:SagC F L R)(ha:L≤a):gapK F L R a=(if L=0 then 0 else (R - F)*L):=by
 unfold gapK
 rw [Int.min_eq_right ha]
 split
 ·rename_i h1;rw [h1,Int.mul_zero]
 ·rfl
theorem line_add (R:Int)(k:Int × Int)(s t:Int):lineK R k t=lineK R k s+R*(t - s):=by
 unfold lineK
 have:R*(t - k.1)=R*(s - k.1)+R*(t - s):=by rw [← Int.mul_add];congr 1;omega
 omega
def Beats (F L R:Int)(a b:Int × Int)(s:Int):Prop:=∀ t,s≤t→hasK F L R a t≤hasK F L R b t∧lineK R a t≤lineK R b t
theorem Beats.refl {F L R:Int} (a:Int × Int)(s:Int):Beats F L R a a s:=fun _ _=>⟨Int.le_refl _,Int.le_refl _⟩
theorem Beats.trans {F L R s:Int} {a b c:Int × Int} (h:Beats F L R a b s)(k:Beats F L R b c s):Beats F L R a c s :=
 fun t ht=>⟨Int.le_trans (h t ht).1 (k t ht).1,Int.le_trans (h t ht).2 (k t ht).2⟩
theorem Beats.mono {F L R s s':Int} {a b:Int × Int} (h:Beats F L R a b s)(hs:s≤s'):Beats F L R a b s':=fun t ht=>h t (Int.le_trans hs ht)
theorem later_beats {F L R s:Int} {o k:Int × Int} (h:SagC F L R)(hok:o.1≤k.1)(hks:k.1≤s)(hh:hasK F L R k s≤hasK F L R o s):Beats F L R k o s:=by
 intro t ht
 have e1:=line_gap F L R k s;have e2:=line_gap F L R o s
 have e3:=line_gap F L R k t;have e4:=line_gap F L R o t
 have a1:=line_add R k s t;have a2:=line_add R o s t
 have c:=gap_conc (a:=s - o.1) (b:=s - k.1) (d:=t - s) h (by omega) (by omega) (by omega)
 have m:=gap_mono (a:=s - o.1) (b:=s - k.1) h (by omega) (by omega)
 rw [show s - o.1+(t - s)=t - o.1 by omega,show s - k.1+(t - s)=t - k.1 by omega] at c
 exact⟨by omega,by omega⟩
theorem earlier_beats {F L R s:Int} {o k:Int × Int} (h:SagC F L R)(hok:o.1≤k.1)(hks:k.1≤s)(hh:lineK R o s≤lineK R k s):Beats F L R o k s:=by
 intro t ht
 have e3:=line_gap F L R k t;have e4:=line_gap F L R o t
 have a1:=line_add R k s t;have a2:=line_add R o s t
 have m:=gap_mono (a:=t - o.1) (b:=t - k.1) h (by omega) (by omega)
 exact⟨by omega,by omega⟩
def popN (v:Int × Int→Bool)(l:List (Int × Int)):Nat→List (Int × Int)
 | 0=>[]
 | n+1=>if (match l[n]? with | some o=>v o | none=>false) then popN v l n else l.take (n+1)
theorem popN_spec (v:Int × Int→Bool)(l:List (Int × Int)):∀ n,∃ m,m≤n∧popN v l n=l.take m∧(∀ j o,m≤j→j < n→l[j]?=some o→v o=true)∧(∀ j o,m=j+1→l[j]?=some o→v o=false):=by
 intro n
 induction n with
 | zero=>exact⟨0,Nat.le_refl _,by simp [popN],fun j o h1 h2=>by omega,fun j o h=>by omega⟩
 | succ n ih =>
  unfold popN
  by_cases hc:(match l[n]? with | some o=>v o | none=>false)=true
  ·rw [if_pos hc]
   obtain⟨m,hm,he,h1,h2⟩:=ih
   refine⟨m,by omega,he,fun j o hj hj2 ho=>?_,h2⟩
   by_cases hjn:j=n
   ·subst hjn;rw [ho] at hc;exact hc
   ·exact h1 j o hj (by omega) ho
  ·rw [if_neg hc]
   refine⟨n+1,Nat.le_refl _,rfl,fun j o h1 h2=>by omega,fun j o hj ho=>?_⟩
   obtain rfl:j=n:=by omega
   rw [ho] at hc
   simpa using hc
def push1 (F L R s:Int)(out:List (Int × Int))(k:Int × Int):List (Int × Int) :=
 let o:=popN (fun o=>decide (hasK F L R k s≤hasK F L R o s)) out out.length
 match o.getLast? with
 | some p=>if lineK R p s≤lineK R k s then o else o ++ [k]
 | none=>o ++ [k]
def startK (F L R s:Int)(K:List (Int × Int))(k:Int × Int):List (Int × Int):=(K ++ [k]).foldl (push1 F L R s) []
def Cov (F L R s:Int)(K A:List (Int × Int)):Prop:=∀ a∈A,∃ k∈K,Beats F L R k a s
theorem push1_ok {F L R s:Int} {out P:List (Int × Int)} {k:Int × Int} (h:SagC F L R)(hok:∀ o∈out,o.1≤k.1)(hks:k.1≤s)(hsub:out.Sublist P)(hc:Cov F L R s out P) :
  (push1 F L R s out k).Sublist (P ++ [k])∧Cov F L R s (push1 F L R s out k) (P ++ [k]):=by
 obtain⟨m,hm,he,h1,h2⟩:=popN_spec (fun o=>decide (hasK F L R k s≤hasK F L R o s)) out out.length
 unfold push1
 rw [he]
 have hts:(out.take m).Sublist P:=(List.take_sublist _ _).trans hsub
 -- what is popped is beaten by k
 have hp:∀ o∈out,o∈out.take m∨Beats F L R k o s:=by
  intro o ho
  obtain⟨j,hj,rfl⟩:=List.mem_iff_getElem.1 ho
  by_cases hjm:j < m
  ·exact .inl (List.mem_iff_getElem.2 ⟨j,by rw [List.length_take];omega,by rw [List.getElem_take]⟩)
  ·have:=h1 j out[j] (by omega) hj (by simp [hj])
   exact .inr (later_beats h (hok _ ho) hks (of_decide_eq_true this))
 have happ:(out.take m ++ [k]).Sublist (P ++ [k])∧Cov F L R s (out.take m ++ [k]) (P ++ [k]):=by
  refine⟨hts.append (List.Sublist.refl _),fun a ha=>?_⟩
  rcases List.mem_append.1 ha with ha | ha
  ·obtain⟨o,ho,hb⟩:=hc a ha
   rcases hp o ho with h3 | h3
   ·exact⟨o,List.mem_append_left _ h3,hb⟩
   ·exact⟨k,by simp,h3.trans hb⟩
  ·obtain rfl:a=k:=by simpa using ha
   exact⟨a,by simp,Beats.refl _ _⟩
 cases hl:(out.take m).getLast? with
 | none=>simpa [hl] using happ
 | some p =>
  simp only [hl]
  by_cases hline:lineK R p s≤lineK R k s
  ·rw [if_pos hline]
   have hpm:p∈out.take m:=List.mem_of_getLast? hl
   have hpo:p∈out:=List.mem_of_mem_take hpm
   have hb:=earlier_beats h (hok p hpo) hks hline
   refine⟨hts.trans (List.sublist_append_left _ _),fun a ha=>?_⟩
   rcases List.mem_append.1 ha with ha | ha
   ·obtain⟨o,ho,hb2⟩:=hc a ha
    rcases hp o ho with h3 | h3
    ·exact⟨o,h3,hb2⟩
    ·exact⟨p,hpm,(hb.trans h3).trans hb2⟩
   ·obtain rfl:a=k:=by simpa using ha
    exact⟨p,hpm,hb⟩
  ·rw [if_neg hline];exact happ
theorem fold_ok {F L R s:Int} (h:SagC F L R):∀ (l P out:List (Int × Int)),(P ++ l).Pairwise (fun a b=>a.1≤b.1)→(∀ k∈l,k.1≤s)→out.Sublist P→Cov F L R s out P →
  (l.foldl (push1 F L R s) out).Sublist (P ++ l)∧Cov F L R s (l.foldl (push1 F L R s) out) (P ++ l)
 | [],P,out,_,_,hsub,hc=>by simpa using ⟨hsub,hc⟩
 | k :: l,P,out,hp,hs,hsub,hc=>by
  have hle:∀ o∈out,o.1≤k.1:=fun o ho=>(List.pairwise_append.1 hp).2.2 o (hsub.subset ho) k (by simp)
  have h1:=push1_ok h hle (hs k (by simp)) hsub hc
  have h2:=fold_ok h l (P ++ [k]) (push1 F L R s out k) (by simpa using hp) (fun x hx=>hs x (by simp [hx])) h1.1 h1.2
  simpa using h2
structure Run (F L R s:Int)(K A:List (Int × Int)):Prop where
 sub:K.Sublist A
 cov:Cov F L R s K A
 sort:A.Pairwise (fun a b=>a.1≤b.1)
 le:∀ a∈A,a.1≤s
theorem Run.nil (F L R s:Int):Run F L R s [] []:=⟨List.Sublist.refl _,(by intro a ha;simp at ha),List.Pairwise.nil,(by intro a ha;simp at ha)⟩
theorem Run.start {F L R s s' y:Int} {K A:List (Int × Int)} (h:SagC F L R)(r:Run F L R s K A)(hs:s≤s'):Run F L R s' (startK F L R s' K (s',y)) (A ++ [(s',y)]):=by
 have hsub:(K ++ [(s',y)]).Sublist (A ++ [(s',y)]):=r.sub.append (List.Sublist.refl _)
 have hle:∀ a∈A ++ [(s',y)],a.1≤s':=by
  intro a ha
  rcases List.mem_append.1 ha with ha | ha
  ·exact Int.le_trans (r.le a ha) hs
  ·obtain rfl:a=(s',y):=by simpa using ha
   exact Int.le_refl _
 have hsort:(A ++ [(s',y)]).Pairwise (fun a b=>a.1≤b.1):=by
  refine List.pairwise_append.2 ⟨r.sort,by simp,fun a ha b hb=>?_⟩
  obtain rfl:b=(s',y):=by simpa using hb
  exact Int.le_trans (r.le a ha) hs
 have h1:=fold_ok (s:=s') h (K ++ [(s',y)]) [] [] (by simpa using hsort.sublist hsub) (fun k hk=>hle k (hsub.subset hk)) (List.Sublist.refl _) (by intro a ha;simp at ha)
 simp only [List.nil_append] at h1
 refine⟨h1.1.trans hsub,fun a ha=>?_,hsort,hle⟩
 have hcov:∃ k∈K ++ [(s',y)],Beats F L R k a s':=by
  rcases List.mem_append.1 ha with ha | ha
  ·obtain⟨k,hk,hb⟩:=r.cov a ha
   exact⟨k,List.mem_append_left _ hk,hb.mono hs⟩
  ·exact⟨a,List.mem_append_right _ ha,Beats.refl _ _⟩
 obtain⟨k,hk,hb⟩:=hcov
 obtain⟨k2,hk2,hb2⟩:=h1.2 k hk
 exact⟨k2,hk2,hb2.trans hb⟩
def minF (g:Int × Int→Int)(m:Int)(l:List (Int × Int)):Int:=l.foldl (fun m k=>min m (g k)) m
theorem minF_le_start (g:Int × Int→Int):∀ (l:List (Int × Int))(m:Int),minF g m l≤m
 | [],m=>Int.le_refl _
 | k :: l,m=>by
  have:=minF_le_start g l (min m (g k))
  unfold minF at *
  simp only [List.foldl_cons]
  omega
theorem minF_le (g:Int × Int→Int):∀ (l:List (Int × Int))(m:Int)(k:Int × Int),k∈l→minF g m l≤g k
 | x :: l,m,k,hk=>by
  have h1:=minF_le_start g l (min m (g x))
  rcases List.mem_cons.1 hk with rfl | hk
  ·unfold minF at *;simp only [List.foldl_cons];omega
  ·have:=minF_le g l (min m (g x)) k hk
   unfold minF at *;simp only [List.foldl_cons];omega
theorem le_minF (g:Int × Int→Int)(b:Int):∀ (l:List (Int × Int))(m:Int),b≤m→(∀ k∈l,b≤g k)→b≤minF g m l
 | [],m,hm,_=>hm
 | k :: l,m,hm,h=>by
  have h1:=h k (by simp)
  have:=le_minF g b l (min m (g k)) (by omega) (fun x hx=>h x (by simp [hx]))
  unfold minF at *;simpa using this
theorem minF_eq (g:Int × Int→Int)(m:Int) {K A:List (Int × Int)} (h1:∀ k∈K,k∈A)(h2:∀ a∈A,∃ k∈K,g k≤g a):minF g m K=minF g m A:=by
 apply Int.le_antisymm
 ·refine le_minF g _ A m (minF_le_start g K m) fun a ha=>?_
  obtain⟨k,hk,hg⟩:=h2 a ha
  exact Int.le_trans (minF_le g K m k hk) hg
 ·exact le_minF g _ K m (minF_le_start g A m) fun k hk=>minF_le g A m k (h1 k hk)
def atK (F L R t:Int)(k:Int × Int):Int:=cap (k.2+cap (W F L R (t - k.1)))
def linK (R t:Int)(k:Int × Int):Int:=cap (k.2+cap (R*(t - k.1)))
theorem atK_has {F L R t:Int} {k:Int × Int} (h:0≤k.2):atK F L R t k=cap (hasK F L R k t):=by unfold atK hasK cap;omega
theorem linK_line {R t:Int} {k:Int × Int} (h:0≤k.2):linK R t k=cap (lineK R k t):=by unfold linK lineK cap;omega
theorem cap_mono {a b:Int} (h:a≤b):cap a≤cap b:=by unfold cap;omega
theorem Run.least {F L R s t:Int} {K A:List (Int × Int)} (r:Run F L R s K A)(hy:∀ a∈A,0≤a.2)(ht:s≤t) :
  minF (atK F L R t) 4611686018427387904 K=minF (atK F L R t) 4611686018427387904 A∧minF (linK R t) 4611686018427387904 K=minF (linK R t) 4611686018427387904 A:=by
 constructor
 ·refine minF_eq _ _ (fun k hk=>r.sub.subset hk) fun a ha=>?_
  obtain⟨k,hk,hb⟩:=r.cov a ha
  refine⟨k,hk,?_⟩
  rw [atK_has (hy _ (r.sub.subset hk)),atK_has (hy _ ha)]
  exact cap_mono (hb t ht).1
 ·refine minF_eq _ _ (fun k hk=>r.sub.subset hk) fun a ha=>?_
  obtain⟨k,hk,hb⟩:=r.cov a ha
  refine⟨k,hk,?_⟩
  rw [linK_line (hy _ (r.sub.subset hk)),linK_line (hy _ ha)]
  exact cap_mono (hb t ht).2
theorem Run.some {F L R s:Int} {K A:List (Int × Int)} (r:Run F L R s K A)(hA:A≠[]):1≤K.length∧K.length≤A.length:=by
 refine⟨?_,r.sub.length_le⟩
 obtain⟨a,ha⟩:=List.exists_mem_of_ne_nil A hA
 obtain⟨k,hk,_⟩:=r.cov a ha
 exact List.length_pos_of_mem hk
theorem push1_one {F L R s:Int} {out:List (Int × Int)} {k:Int × Int} (h:SagC F L R)(hout:out.length≤1)(ho:∀ o∈out,L≤s - o.1)(hk:L≤s - k.1):(push1 F L R s out k).length=1:=by
 have e1:=line_gap F L R k s
 rw [gap_late h hk] at e1
 match out,hout with
 | [],_=>rfl
 | [o],_ =>
  have e2:=line_gap F L R o s
  rw [gap_late h (ho o (by simp))] at e2
  by_cases hh:hasK F L R k s≤hasK F L R o s
  ·simp [push1,popN,hh]
  ·have:lineK R o s≤lineK R k s:=by omega
   simp [push1,popN,hh,this]
theorem push1_mem {F L R s:Int} {out:List (Int × Int)} {k o:Int × Int} (h:o∈push1 F L R s out k):o∈out∨o=k:=by
 obtain⟨m,_,he,_,_⟩:=popN_spec (fun o=>decide (hasK F L R k s≤hasK F L R o s)) out out.length
 unfold push1 at h
 rw [he] at h
 have hin:o∈out.take m ++ [k]→o∈out∨o=k:=fun h=>by
  rcases List.mem_append.1 h with h | h
  ·exact .inl (List.mem_of_mem_take h)
  ·exact .inr (by simpa using h)
 cases hl:(out.take m).getLast? with
 | none=>simp only [hl] at h;exact hin h
 | some p =>
  simp only [hl] at h
  split at h
  ·exact .inl (List.mem_of_mem_take h)
  ·exact hin h
theorem fold_one {F L R s:Int} (h:SagC F L R):∀ (l out:List (Int × Int)),out.length≤1→(∀ o∈out,L≤s - o.1)→(∀ k∈l,L≤s - k.1)→(l.foldl (push1 F L R s) out).length≤1
 | [],out,h1,_,_=>h1
 | k :: l,out,h1,h2,h3=>by
  refine fold_one h l _ (Nat.le_of_eq (push1_one h h1 h2 (h3 k (by simp)))) (fun o ho=>?_) (fun x hx=>h3 x (by simp [hx]))
  rcases push1_mem ho with ho | rfl
  ·exact h2 o ho
  ·exact h3 _ (by simp)
theorem start_one {F L R s:Int} {K:List (Int × Int)} {k:Int × Int} (h:SagC F L R)(hK:∀ o∈K,L≤s - o.1)(hk:L≤s - k.1):(startK F L R s K k).length≤1 :=
 fold_one h _ [] (by simp) (by intro o ho;simp at ho) (by
  intro o ho
  rcases List.mem_append.1 ho with ho | ho
  ·exact hK o ho
  ·obtain rfl:o=k:=by simpa using ho
   exact hk)
end
section
def lastL (needs:Int→Int)(y:Int):List (Int × Int)→Int→Int
 | [],a=>a
 | k :: K,a=>if 9223372036854775808 - k.1≤needs (less y k.2) then 9223372036854775808 else lastL needs y K (max a (k.1+needs (less y k.2)))
def lastAt (needs:Int→Int)(y:Int)(K:List (Int × Int))(s:Int):Int:=if 4611686018427387904 < y then 9223372036854775808 else lastL needs y K s
theorem lastL_never (needs:Int→Int)(y:Int):∀ (K:List (Int × Int))(a:Int),a≤9223372036854775808→lastL needs y K a≤9223372036854775808
 | [],a,h=>h
 | k :: K,a,h=>by
  unfold lastL
  split
  ·exact Int.le_refl _
  ·exact lastL_never needs y K _ (by omega)
theorem lastL_le {n1 n2:Int→Int} {y:Int} (hn:∀ m,0≤m→m≤4611686018427387904→n1 m≤n2 m):∀ (K:List (Int × Int))(a b:Int),a≤b→a≤9223372036854775808→lastL n1 y K a≤lastL n2 y K b
 | [],a,b,h,_=>h
 | k :: K,a,b,h,ha=>by
  have h0:0≤less y k.2:=U_less.1
  have h1:less y k.2≤4611686018427387904:=by unfold less cap;omega
  have h2:=hn _ h0 h1
  unfold lastL
  by_cases c1:9223372036854775808 - k.1≤n1 (less y k.2)
  ·rw [if_pos c1,if_pos (by omega)];exact Int.le_refl _
  ·rw [if_neg c1]
   by_cases c2:9223372036854775808 - k.1≤n2 (less y k.2)
   ·rw [if_pos c2];exact lastL_never _ _ _ _ (by omega)
   ·rw [if_neg c2];exact lastL_le hn K _ _ (by omega) (by omega)
def FirstF (f:Int→Int)(m r:Int):Prop :=
 (r=9223372036854775808∧∀ t,0≤t→f t < m)∨(0≤r∧m≤f r∧∀ t,0≤t→t < r→f t < m)
theorem lastL_spec {f needs:Int→Int} {y:Int} (hn:∀ m,0≤m→m≤4611686018427387904→FirstF f m (needs m))(hf:∀ t,0≤t→0≤f t)(hm:∀ t u,0≤t→t≤u→f t≤f u)(hy:y≤4611686018427387904) :
  ∀ (K:List (Int × Int)) (a:Int),(∀ k∈K,0≤k.1∧k.1≤a∧0≤k.2) →
  (lastL needs y K a=9223372036854775808∧∃ k∈K,∀ t,k.1≤t→t < 9223372036854775808→k.2+f (t - k.1) < y) ∨
  (a≤lastL needs y K a∧(∀ k∈K,y≤k.2+f (lastL needs y K a - k.1))∧(lastL needs y K a=a∨∃ k∈K,∀ t,k.1≤t→t < lastL needs y K a→k.2+f (t - k.1) < y))
 | [],a,_=>.inr ⟨Int.le_refl _,(by intro k hk;simp at hk),.inl rfl⟩
 | k :: K,a,hK=>by
  obtain⟨hk0,hka,hk2⟩:=hK k (by simp)
  have h0:0≤less y k.2:=U_less.1
  have h1:less y k.2≤4611686018427387904:=by unfold less cap;omega
  have h2:0 < less y k.2→less y k.2=y - k.2:=by unfold less cap;intro h;omega
  have h3:y≤k.2+less y k.2:=by unfold less cap;omega
  have hF:=hn _ h0 h1
  unfold lastL
  by_cases c1:9223372036854775808 - k.1≤needs (less y k.2)
  ·rw [if_pos c1]
   refine .inl ⟨rfl,k,by simp,fun t ht htn=>?_⟩
   have hlt:f (t - k.1) < less y k.2:=by
    rcases hF with ⟨_,h4⟩ | ⟨_,_,h4⟩
    ·exact h4 _ (by omega)
    ·exact h4 _ (by omega) (by omega)
   have:=hf (t - k.1) (by omega)
   have:=h2 (by omega)
   omega
  ·rw [if_neg c1]
   obtain⟨hr0,hr1,hr2⟩:0≤needs (less y k.2)∧less y k.2≤f (needs (less y k.2))∧∀ t,0≤t→t < needs (less y k.2)→f t < less y k.2:=by
    rcases hF with ⟨h4,_⟩ | h4
    ·omega
    ·exact h4
   generalize hnn:needs (less y k.2)=n at *
   rcases lastL_spec hn hf hm hy K (max a (k.1+n)) (fun x hx=>by have:=hK x (by simp [hx]);exact⟨this.1,by omega,this.2.2⟩) with ⟨e,x,hx,h4⟩ | ⟨e,h4,h5⟩
   ·exact .inl ⟨e,x,by simp [hx],h4⟩
   ·generalize lastL needs y K (max a (k.1+n))=r at *
    refine .inr ⟨by omega,fun x hx=>?_,?_⟩
    ·rcases List.mem_cons.1 hx with rfl | hx
     ·have:=hm n (r - x.1) hr0 (by omega)
      omega
     ·exact h4 x hx
    ·rcases h5 with h5 | ⟨x,hx,h5⟩
     ·by_cases hc:r=a
      ·exact .inl hc
      ·refine .inr ⟨k,by simp,fun t ht htr=>?_⟩
       have hlt:=hr2 (t - k.1) (by omega) (by omega)
       have:=hf (t - k.1) (by omega)
       have:=h2 (by omega)
       omega
     ·exact .inr ⟨x,by simp [hx],h5⟩
theorem back_any {f needs:Int→Int} {y s:Int} {K:List (Int × Int)} (v:Int→Int)(hn:∀ m,0≤m→m≤4611686018427387904→FirstF f m (needs m))(hf:∀ t,0≤t→0≤f t)(hm:∀ t u,0≤t→t≤u→f t≤f u)
  (hK:∀ k∈K,0≤k.1∧k.1≤s∧0≤k.2) (hs:s≤9223372036854775808)
  (hv1:∀ t,v t≤4611686018427387904) (hv2:∀ t,s≤t→∀ k∈K,v t≤k.2+f (t - k.1)) (hv3:∀ t,s≤t→y≤4611686018427387904→(∀ k∈K,y≤k.2+f (t - k.1))→y≤v t) :
  (lastAt needs y K s=9223372036854775808→s < 9223372036854775808→v 9223372036854775807 < y) ∧
  (lastAt needs y K s < 9223372036854775808→s≤lastAt needs y K s∧y≤v (lastAt needs y K s)∧(s < lastAt needs y K s→v (lastAt needs y K s - 1) < y)):=by
 unfold lastAt
 by_cases hy:4611686018427387904 < y
 ·rw [if_pos hy]
  exact⟨fun _ _=>by have:=hv1 9223372036854775807;omega,fun h=>by omega⟩
 ·rw [if_neg hy]
  rcases lastL_spec (y:=y) hn hf hm (by omega) K s hK with ⟨e,k,hk,h1⟩ | ⟨h0,h1,h2⟩
  ·rw [e]
   refine⟨fun _ h=>?_,fun h=>by omega⟩
   have:=h1 9223372036854775807 (by have:=hK k hk;omega) (by omega)
   have:=hv2 9223372036854775807 (by omega) k hk
   omega
  ·generalize lastL needs y K s=r at *
   refine⟨fun hr hs2=>?_,fun hr=>⟨h0,hv3 r h0 (by omega) h1,fun hlt=>?_⟩⟩
   ·rcases h2 with h2 | ⟨k,hk,h2⟩
    ·omega
    ·have:=h2 9223372036854775807 (by have:=hK k hk;omega) (by omega)
     have:=hv2 9223372036854775807 (by omega) k hk
     omega
   ·rcases h2 with h2 | ⟨k,hk,h2⟩
    ·omega
    ·have:=h2 (r - 1) (by have:=hK k hk;omega) (by omega)
     have:=hv2 (r - 1) (by omega) k hk
     omega
end
section
structure Below1 (s m x h:Int)(A:List (Int × Int)):Prop where
 h0:0≤h
 h1:h≤4611686018427387904
 eq:∀ t,x≤t→cap (h+s*(t - x))=minF (fun k=>cap (k.2+m+s*(t - k.1))) 4611686018427387904 A
theorem mul_split (s a b c:Int):s*(c - a)=s*(b - a)+s*(c - b):=by rw [← Int.mul_add];congr 1;omega
theorem Below1.first {s m x y:Int} (hs:0≤s)(hm:0≤m)(hy0:0≤y):Below1 s m x (cap (y+m)) [(x,y)]:=by
 refine⟨cap_nonneg (by omega),cap_le _,fun t ht=>?_⟩
 have:=Int.mul_nonneg hs (show 0≤t - x by omega)
 simp only [minF,List.foldl_cons,List.foldl_nil]
 unfold cap;split <;> split <;> (try split) <;> omega
theorem Below1.next {s m x x' y h:Int} {A:List (Int × Int)} (hs:0≤s)(hm:0≤m)(hy0:0≤y)(hx:x≤x')(b:Below1 s m x h A) :
  Below1 s m x' (min (cap (h+cap (s*(x' - x)))) (cap (y+m))) (A ++ [(x',y)]):=by
 have b0:=b.h0
 have hd:=Int.mul_nonneg hs (show 0≤x' - x by omega)
 have c1:=cap_nonneg hd
 refine⟨?_,?_,fun t ht=>?_⟩
 ·have:=cap_nonneg (show 0≤h+cap (s*(x' - x)) by omega);have:=cap_nonneg (show 0≤y+m by omega);omega
 ·have:=cap_le (y+m);omega
 ·have h1:=b.eq t (by omega)
  have h2:minF (fun k=>cap (k.2+m+s*(t - k.1))) 4611686018427387904 (A ++ [(x',y)])=min (minF (fun k=>cap (k.2+m+s*(t - k.1))) 4611686018427387904 A) (cap (y+m+s*(t - x'))):=by
   simp [minF,List.foldl_append]
  rw [h2,← h1,mul_split s x x' t]
  have hd2:=Int.mul_nonneg hs (show 0≤t - x' by omega)
  generalize s*(x' - x)=d at *
  generalize s*(t - x')=e at *
  unfold cap;omega
theorem minF_two (f g:Int × Int→Int)(m:Int):∀ (A:List (Int × Int)),min (minF f m A) (minF g m A)=minF (fun k=>min (f k) (g k)) m A:=by
 intro A
 apply Int.le_antisymm
 ·refine le_minF _ _ A m ?_ fun k hk=>?_
  ·have:=minF_le_start f A m;omega
  ·have:=minF_le f A m k hk;have:=minF_le g A m k hk
   omega
 ·have h1:=le_minF f (minF (fun k=>min (f k) (g k)) m A) A m (minF_le_start _ A m) fun k hk=>by have:=minF_le (fun k=>min (f k) (g k)) A m k hk;omega
  have h2:=le_minF g (minF (fun k=>min (f k) (g k)) m A) A m (minF_le_start _ A m) fun k hk=>by have:=minF_le (fun k=>min (f k) (g k)) A m k hk;omega
  omega
theorem W_bent {F L R u:Int} (h:R < F)(hL:0≤L)(hu:0≤u):W F L R u=min (F*u) ((F - R)*L+R*u):=by
 by_cases hul:u≤L
 ·rw [W_early hul]
  have:(F - R)*u≤(F - R)*L:=Int.mul_le_mul_of_nonneg_left hul (by omega)
  rw [Int.sub_mul] at this
  rw [Int.sub_mul] at this ⊢
  omega
 ·rw [W_late (by omega)]
  have:(F - R)*L≤(F - R)*u:=Int.mul_le_mul_of_nonneg_left (by omega) (by omega)
  rw [Int.sub_mul,Int.sub_mul] at this
  rw [Int.sub_mul,Int.mul_sub]
  omega
theorem bent_at {F L R x t h1 h2:Int} {A:List (Int × Int)} (h:R < F)(hL:0≤L)(hA:∀ a∈A,a.1≤x∧0≤a.2)(b1:Below1 F 0 x h1 A)(b2:Below1 R ((F - R)*L) x h2 A)(ht:x≤t) :
  min (cap (h1+F*(t - x))) (cap (h2+R*(t - x)))=minF (atK F L R t) 4611686018427387904 A:=by
 rw [b1.eq t ht,b2.eq t ht,minF_two]
 have:∀ (l:List (Int × Int)) (m:Int),(∀ a∈l,a.1≤x∧0≤a.2)→minF (fun k=>min (cap (k.2+0+F*(t - k.1))) (cap (k.2+(F - R)*L+R*(t - k.1)))) m l=minF (atK F L R t) m l:=by
  intro l
  induction l with
  | nil=>intro m _;rfl
  | cons k l ih =>
   intro m hl
   have hk:=hl k (by simp)
   have e:min (cap (k.2+0+F*(t - k.1))) (cap (k.2+(F - R)*L+R*(t - k.1)))=atK F L R t k:=by
    rw [atK_has hk.2]
    unfold hasK
    rw [W_bent h hL (by omega)]
    generalize F*(t - k.1)=p
    generalize (F - R)*L=q
    generalize R*(t - k.1)=r
    unfold cap;omega
   simp only [minF,List.foldl_cons] at ih ⊢
   rw [e]
   exact ih _ fun a ha=>hl a (by simp [ha])
 exact this A _ hA
def untilL (s h y:Int):Int:=if y≤h then 0 else if s=0∨4611686018427387904 < y then 9223372036854775808 else ceil (y - h) s
theorem untilL_bd {s h y:Int} (hs:0≤s)(hh:0≤h):0≤untilL s h y∧untilL s h y≤9223372036854775808:=by
 unfold untilL
 split
 ·omega
 ·split
  ·omega
  ·rename_i h1 h2
   have h3:=ceil_nonneg (y:=y - h) (c:=s) (by omega) (by omega)
   have h4:=ceil_le (y:=y - h) (c:=s) (by omega) (by omega)
   omega
theorem untilL_spec {s h y:Int} (hs:0≤s)(hh:0≤h)(hh1:h≤4611686018427387904) :
  (untilL s h y=9223372036854775808∧∀ n,0≤n→cap (h+s*n) < y)∨(untilL s h y≤4611686018427387904∧(∀ n,untilL s h y≤n→y≤cap (h+s*n))∧∀ n,0≤n→n < untilL s h y→cap (h+s*n) < y):=by
 unfold untilL
 by_cases h1:y≤h
 ·rw [if_pos h1]
  refine .inr ⟨by omega,fun n hn=>?_,fun n h0 hn=>by omega⟩
  have:=Int.mul_nonneg hs hn
  unfold cap;split <;> omega
 ·rw [if_neg h1]
  by_cases h2:s=0∨4611686018427387904 < y
  ·rw [if_pos h2]
   refine .inl ⟨rfl,fun n hn=>?_⟩
   rcases h2 with h2 | h2
   ·rw [h2,Int.zero_mul];unfold cap;split <;> omega
   ·have:=cap_le (h+s*n);omega
  ·rw [if_neg h2]
   have h3:=ceil_le (y:=y - h) (c:=s) (by omega) (by omega)
   have h4:=ceil_mul (y:=y - h) (c:=s) (by omega)
   refine .inr ⟨by omega,fun n hn=>?_,fun n h0 hn=>?_⟩
   ·have:=Int.mul_le_mul_of_nonneg_left hn hs
    unfold cap;split <;> omega
   ·have:=ceil_lt (y:=y - h) (c:=s) (t:=n) (by omega) hn
    unfold cap;split <;> omega
def Back (v:Int→Int)(x y n:Int):Prop :=
 (n=9223372036854775808∧x < 9223372036854775808∧v 9223372036854775807 < y)∨(n=9223372036854775808∧x=9223372036854775808) ∨
 (n < 9223372036854775808∧x=n∧y≤v n)∨(n < 9223372036854775808∧x < n∧y≤v n∧v (n - 1) < y)
theorem Back.of {v:Int→Int} {x y n:Int} (hx:x≤9223372036854775808)(hn:n≤9223372036854775808)(h:(n=9223372036854775808→x < 9223372036854775808→v 9223372036854775807 < y)∧(n < 9223372036854775808→x≤n∧y≤v n∧(x < n→v (n - 1) < y))):Back v x y n:=by
 by_cases h1:n=9223372036854775808
 ·by_cases h2:x=9223372036854775808
  ·exact .inr (.inl ⟨h1,h2⟩)
  ·exact .inl ⟨h1,by omega,h.1 h1 (by omega)⟩
 ·have h3:=h.2 (by omega)
  by_cases h2:x=n
  ·exact .inr (.inr (.inl ⟨by omega,h2,h3.2.1⟩))
  ·exact .inr (.inr (.inr ⟨by omega,by omega,h3.2.1,h3.2.2 (by omega)⟩))
def reachB (F R x h1 h2 y:Int):Int :=
 if 9223372036854775808 - x≤max (untilL F h1 y) (untilL R h2 y) then 9223372036854775808 else x+max (untilL F h1 y) (untilL R h2 y)
theorem bent_back {F L R x y h1 h2:Int} {A:List (Int × Int)} (h:R < F)(hR:0≤R)(hL:0≤L)(hx0:0≤x)(hx1:x≤9223372036854775808)(hA:∀ a∈A,a.1≤x∧0≤a.2)(b1:Below1 F 0 x h1 A)(b2:Below1 R ((F - R)*L) x h2 A) :
  Back (fun t=>minF (atK F L R (max t x)) 4611686018427387904 A) x y (reachB F R x h1 h2 y):=by
 have hv:∀ t,x≤t→minF (atK F L R (max t x)) 4611686018427387904 A=min (cap (h1+F*(t - x))) (cap (h2+R*(t - x))):=fun t ht=>by
  rw [Int.max_eq_left ht,bent_at h hL hA b1 b2 ht]
 have s1:=untilL_spec (y:=y) (show 0≤F by omega) b1.h0 b1.h1
 have s2:=untilL_spec (y:=y) hR b2.h0 b2.h1
 have d1:=untilL_bd (y:=y) (show 0≤F by omega) b1.h0
 have d2:=untilL_bd (y:=y) hR b2.h0
 unfold reachB
 generalize untilL F h1 y=u1 at *
 generalize untilL R h2 y=u2 at *
 by_cases hn:9223372036854775808 - x≤max u1 u2
 ·rw [if_pos hn]
  refine Back.of hx1 (Int.le_refl _) ⟨fun _ hlt=>?_,fun hh=>by omega⟩
  rw [hv _ (by omega)]
  rcases Int.lt_or_le u1 (9223372036854775808 - x) with hu | hu
  ·rcases s2 with ⟨_,e⟩ | ⟨_,_,e⟩
   ·have:=e (9223372036854775807 - x) (by omega);omega
   ·have:=e (9223372036854775807 - x) (by omega) (by omega);omega
  ·rcases s1 with ⟨_,e⟩ | ⟨_,_,e⟩
   ·have:=e (9223372036854775807 - x) (by omega);omega
   ·have:=e (9223372036854775807 - x) (by omega) (by omega);omega
 ·rw [if_neg hn]
  refine Back.of hx1 (by omega) ⟨fun hh=>by omega,fun _=>⟨by omega,?_,fun hlt=>?_⟩⟩
  ·rw [hv _ (by omega)]
   rcases s1 with ⟨e,_⟩ | ⟨_,e1,_⟩
   ·omega
   ·rcases s2 with ⟨e,_⟩ | ⟨_,e2,_⟩
    ·omega
    ·have:=e1 (x+max u1 u2 - x) (by omega);have:=e2 (x+max u1 u2 - x) (by omega)
     omega
  ·rw [hv _ (by omega)]
   rcases Int.lt_or_le u1 (max u1 u2) with hu | hu
   ·rcases s2 with ⟨e,_⟩ | ⟨_,_,e⟩
    ·omega
    ·have:=e (x+max u1 u2 - 1 - x) (by omega) (by omega);omega
   ·rcases s1 with ⟨e,_⟩ | ⟨_,_,e⟩
    ·omega
    ·have:=e (x+max u1 u2 - 1 - x) (by omega) (by omega);omega
end
section
theorem minF_mono {f g:Int × Int→Int} {m:Int} {A:List (Int × Int)} (h:∀ a∈A,f a≤g a):minF f m A≤minF g m A :=
 le_minF g _ A m (minF_le_start f A m) fun k hk=>Int.le_trans (minF_le f A m k hk) (h k hk)
def vA (F L R:Int)(A:List (Int × Int))(t:Int):Int:=minF (atK F L R t) 4611686018427387904 A
def vL (R:Int)(A:List (Int × Int))(t:Int):Int:=minF (linK R t) 4611686018427387904 A
section
variable {F L R x : Int} {A : List (Int × Int)}
theorem vA_mono (h:MayC F L R)(hA:∀ a∈A,a.1≤x∧0≤a.2) {t u:Int} (ht:x≤t)(htu:t≤u):vA F L R A t≤vA F L R A u:=by
 refine minF_mono fun a ha=>?_
 rw [atK_has (hA a ha).2,atK_has (hA a ha).2]
 refine cap_mono ?_
 unfold hasK
 have:=W_mono h.f0 h.r0 (F:=F) (L:=L) (R:=R) (show t - a.1≤u - a.1 by omega)
 omega
end
section
variable {v : Int → Int} {x y n : Int}
theorem Back.gt (h:Back v x y n)(hm:∀ t u,x≤t→t≤u→v t≤v u) {s:Int} (hs:x≤s)(hsn:s < n):v s < y:=by
 rcases h with ⟨h1,h2,h3⟩ | ⟨h1,h2⟩ | ⟨h1,h2,h3⟩ | ⟨h1,h2,h3,h4⟩
 ·have:=hm s 9223372036854775807 hs (by omega);omega
 ·omega
 ·omega
 ·have:=hm s (n - 1) hs (by omega);omega
theorem Back.x_le (h:Back v x y n):x≤n:=by
 rcases h with ⟨h1,h2,h3⟩ | ⟨h1,h2⟩ | ⟨h1,h2,h3⟩ | ⟨h1,h2,h3,h4⟩ <;> omega
theorem Back.le_never (h:Back v x y n):n≤9223372036854775808:=by
 rcases h with ⟨h1,h2,h3⟩ | ⟨h1,h2⟩ | ⟨h1,h2,h3⟩ | ⟨h1,h2,h3,h4⟩ <;> omega
theorem Back.less {w:Int→Int} {m:Int} (h:Back v x y n)(k:Back w x y m)(hm:∀ t u,x≤t→t≤u→w t≤w u)(hvw:∀ t,x≤t→v t≤w t):m≤n:=by
 have hk:=k.le_never
 rcases Int.lt_or_le n m with hlt | hle
 ·exfalso
  have h1:=h.x_le
  have h2:n < 9223372036854775808:=by omega
  have h3:=k.gt hm h1 hlt
  have h4:=hvw n h1
  rcases h with ⟨a,_⟩ | ⟨a,_⟩ | ⟨_,_,a⟩ | ⟨_,_,a,_⟩ <;> omega
 ·exact hle
end
end
section
theorem cap_min (a b:Int):cap (min a b)=min (cap a) (cap b):=by unfold cap;omega
def leastW (F L R t:Int)(m:Int)(A:List (Int × Int)):Int:=A.foldl (fun m k=>if hasK F L R k t < m then hasK F L R k t else m) m
theorem leastW_cap (F L R t:Int):∀ (A:List (Int × Int))(m:Int),cap (leastW F L R t m A)=minF (fun k=>cap (hasK F L R k t)) (cap m) A
 | [],m=>rfl
 | k :: A,m=>by
  have h:=leastW_cap F L R t A (if hasK F L R k t < m then hasK F L R k t else m)
  have e:leastW F L R t m (k :: A)=leastW F L R t (if hasK F L R k t < m then hasK F L R k t else m) A:=rfl
  have e2:minF (fun k=>cap (hasK F L R k t)) (cap m) (k :: A)=minF (fun k=>cap (hasK F L R k t)) (min (cap m) (cap (hasK F L R k t))) A:=rfl
  rw [e,h,e2,← cap_min]
  congr 1
  congr 1
  split <;> omega
theorem leastW_nonneg {F L R t:Int}:∀ (A:List (Int × Int))(m:Int),0≤m→(∀ a∈A,0≤hasK F L R a t)→0≤leastW F L R t m A∧leastW F L R t m A≤m
 | [],m,h,_=>⟨h,Int.le_refl _⟩
 | k :: A,m,h,hA=>by
  have hk:=hA k (List.mem_cons_self ..)
  have h2:=leastW_nonneg A (if hasK F L R k t < m then hasK F L R k t else m) (by split <;> omega) (fun a ha=>hA a (List.mem_cons_of_mem _ ha))
  have e:leastW F L R t m (k :: A)=leastW F L R t (if hasK F L R k t < m then hasK F L R k t else m) A:=rfl
  rw [e]
  refine⟨h2.1,Int.le_trans h2.2 ?_⟩
  split <;> omega
theorem leastW_snoc (F L R t m:Int)(A:List (Int × Int))(k:Int × Int):leastW F L R t m (A ++ [k])=if hasK F L R k t < leastW F L R t m A then hasK F L R k t else leastW F L R t m A:=by
 unfold leastW
 rw [List.foldl_append]
 rfl
theorem minF_congr {f g:Int × Int→Int}:∀ (A:List (Int × Int))(m:Int),(∀ a∈A,f a=g a)→minF f m A=minF g m A
 | [],m,_=>rfl
 | k :: A,m,h=>by
  have e:minF f m (k :: A)=minF f (min m (f k)) A:=rfl
  have e2:minF g m (k :: A)=minF g (min m (g k)) A:=rfl
  rw [e,e2,h k (List.mem_cons_self ..),minF_congr A _ (fun a ha=>h a (List.mem_cons_of_mem _ ha))]
theorem vA_leastW {F L R t:Int} {a:Int × Int} {B:List (Int × Int)} (h:∀ k∈a :: B,0≤k.2):vA F L R (a :: B) t=cap (leastW F L R t (hasK F L R a t) B):=by
 rw [leastW_cap]
 have e:vA F L R (a :: B) t=minF (atK F L R t) (min 4611686018427387904 (atK F L R t a)) B:=rfl
 rw [e,atK_has (h a (List.mem_cons_self ..))]
 have e2:min 4611686018427387904 (cap (hasK F L R a t))=cap (hasK F L R a t):=by unfold cap;omega
 rw [e2]
 exact minF_congr B _ fun k hk=>atK_has (h k (List.mem_cons_of_mem _ hk))
end
section
abbrev Ky:=Int × Int
abbrev En:=Ky × Int
def lessK (x y:Ky):Bool:=decide (x.1 < y.1) || (decide (x.1=y.1) && decide (x.2 < y.2))
def ownK (k:Ky)(v:Int):Ky:=(v,k.2)
def lessH (a b:Ky):Ky:=if a=b∨lessK a b=true then a else b
inductive RB where
 | nil
 | node (a:Nat) (k:Ky) (v:Int) (s:Ky) (c:Bool) (l r:RB)
def isR:RB→Bool
 | .nil=>false
 | .node _ _ _ _ c _ _=>c
def lft:RB→RB
 | .nil=>.nil
 | .node _ _ _ _ _ l _=>l
def rgt:RB→RB
 | .nil=>.nil
 | .node _ _ _ _ _ _ r=>r
def adr:RB→Option Nat
 | .nil=>none
 | .node a _ _ _ _ _ _=>some a
def joinL (t:RB)(s:Ky):Ky:=match t with
 | .nil=>s
 | .node _ _ _ s2 _ _ _=>lessH s2 s
def joinR (t:RB)(s:Ky):Ky:=match t with
 | .nil=>s
 | .node _ _ _ s2 _ _ _=>lessH s s2
def total (k:Ky)(v:Int)(l r:RB):Ky:=joinR r (joinL l (ownK k v))
def rotL:RB→Option RB
 | .node a k v _ c l (.node b k2 v2 _ _ m r)=>some (.node b k2 v2 (total k2 v2 (.node a k v (total k v l m) true l m) r) c (.node a k v (total k v l m) true l m) r)
 | _=>none
def rotR:RB→Option RB
 | .node a k v _ c (.node b k2 v2 _ _ l m) r=>some (.node b k2 v2 (total k2 v2 l (.node a k v (total k v m r) true m r)) c l (.node a k v (total k v m r) true m r))
 | _=>none
def paint:RB→RB
 | .nil=>.nil
 | .node a k v s c l r=>.node a k v s (!c) l r
def flipT:RB→Option RB
 | .node a k v s c (.node b k2 v2 s2 c2 l2 r2) (.node d k3 v3 s3 c3 l3 r3)=>some (.node a k v s (!c) (.node b k2 v2 s2 (!c2) l2 r2) (.node d k3 v3 s3 (!c3) l3 r3))
 | _=>none
def resum:RB→Option RB
 | .nil=>none
 | .node a k v _ c l r=>some (.node a k v (total k v l r) c l r)
def bal1 (t:RB):Option RB:=if isR (rgt t)=true∧isR (lft t)=false then rotL t else some t
def bal2 (t:RB):Option RB:=if isR (lft t)=true∧isR (lft (lft t))=true then rotR t else some t
def bal3 (t:RB):Option RB:=if isR (lft t)=true∧isR (rgt t)=true then flipT t else some t
def bal (t:RB):Option RB:=(bal1 t).bind fun t=>(bal2 t).bind fun t=>(bal3 t).bind resum
def putR (a:Nat)(k:Ky)(v:Int):RB→Option RB
 | .nil=>some (.node a k v (ownK k v) true .nil .nil)
 | .node b k2 v2 s c l r=>if lessK k k2=true then (putR a k v l).bind fun l'=>bal (.node b k2 v2 s c l' r) else (putR a k v r).bind fun r'=>bal (.node b k2 v2 s c l r')
def setR (t r:RB):RB:=match t with
 | .nil=>.nil
 | .node a k v s c l _=>.node a k v s c l r
def setL (t l:RB):RB:=match t with
 | .nil=>.nil
 | .node a k v s c _ r=>.node a k v s c l r
def redL (t:RB):Option RB:=(flipT t).bind fun t=>if isR (lft (rgt t))=true then (rotR (rgt t)).bind fun r=>(rotL (setR t r)).bind flipT else some t
def redRt (t:RB):Option RB:=(flipT t).bind fun t=>if isR (lft (lft t))=true then (rotR t).bind flipT else some t
def goL (t:RB):Option RB:=match lft t with
 | .nil=>none
 | .node _ _ _ _ c l _=>if c=false∧isR l=false then redL t else some t
def goR (t:RB):Option RB:=match rgt t with
 | .nil=>none
 | .node _ _ _ _ c l _=>if c=false∧isR l=false then redRt t else some t
def leanR (t:RB):Option RB:=if isR (lft t)=true then rotR t else some t
def dropF:Nat→RB→Option RB
 | 0,_=>none
 | n+1,.nil=>none
 | n+1,.node a k v s c l r=>if adr l=none then (if adr r=none then some .nil else none) else (goL (.node a k v s c l r)).bind fun t=>(dropF n (lft t)).bind fun l'=>bal (setL t l')
def firstE:RB→Option En
 | .nil=>none
 | .node _ k v _ _ .nil _=>some (k,v)
 | .node _ _ _ _ _ l _=>firstE l
def keyT:RB→Option Ky
 | .nil=>none
 | .node _ k _ _ _ _ _=>some k
def setE (t:RB)(e:En):RB:=match t with
 | .nil=>.nil
 | .node a _ _ s c l r=>.node a e.1 e.2 s c l r
def dropR:Nat→Ky→RB→Option RB
 | 0,_,_=>none
 | n+1,x,.nil=>none
 | n+1,x,.node a k v s c l r=>if lessK x k=true then (goL (.node a k v s c l r)).bind fun t=>(dropR n x (lft t)).bind fun l'=>bal (setL t l')
  else (leanR (.node a k v s c l r)).bind fun t=>if keyT t=some x∧adr (rgt t)=none then (if adr (lft t)=none then some .nil else none) else (goR t).bind fun t=>if keyT t=some x
   then (firstE (rgt t)).bind fun e=>(dropF n (rgt t)).bind fun r'=>bal (setR (setE t e) r')
   else (dropR n x (rgt t)).bind fun r'=>bal (setR t r')
def listT:RB→List En
 | .nil=>[]
 | .node _ k v _ _ l r=>listT l ++ (k,v) :: listT r
def addrs:RB→List Nat
 | .nil=>[]
 | .node a _ _ _ _ l r=>a :: (addrs l ++ addrs r)
def sizeT:RB→Nat
 | .nil=>0
 | .node _ _ _ _ _ l r=>sizeT l+sizeT r+1
inductive Str:RB→Nat→Prop
 | nil:Str .nil 0
 | red {a k v s l r n}:Str l n→Str r n→isR l=false→isR r=false→Str (.node a k v s true l r) n
 | black {a k v s l r n}:Str l n→Str r n→isR r=false→Str (.node a k v s false l r) (n+1)
inductive Alm:RB→Nat→Prop
 | mk {a k v s l r n}:Str l n→Str r n→isR r=false→Alm (.node a k v s true l r) n
/-! ### What turning leaves -/
def SumOk:RB→Prop
 | .nil=>True
 | .node _ k v s _ l r=>s=total k v l r∧SumOk l∧SumOk r
def KidsOk (t:RB):Prop:=SumOk (lft t)∧SumOk (rgt t)
theorem SumOk.kids {t:RB} (h:SumOk t):KidsOk t:=by
 cases t with
 | nil=>exact⟨trivial,trivial⟩
 | node a k v s c l r=>exact h.2
structure Same (t t':RB):Prop where
 list:listT t'=listT t
 addr:(addrs t').Perm (addrs t)
theorem Same.refl (t:RB):Same t t:=⟨rfl,.refl _⟩
theorem Same.trans {a b c:RB} (h:Same a b)(k:Same b c):Same a c:=⟨k.list.trans h.list,k.addr.trans h.addr⟩
theorem rotL_same {t t':RB} (h:rotL t=some t'):Same t t'∧(KidsOk t→SumOk t'):=by
 cases t with
 | nil=>cases h
 | node a k v s c l r =>
  cases r with
  | nil=>cases h
  | node b k2 v2 s2 c2 m r =>
   cases h
   refine⟨⟨by simp [listT],?_⟩,fun hk=>⟨rfl,⟨rfl,hk.1,hk.2.2.1⟩,hk.2.2.2⟩⟩
   simp only [addrs]
   refine List.Perm.trans ?_ (List.perm_middle (l₁:=a :: addrs l) (a:=b) (l₂:=addrs m ++ addrs r)).symm
   simp
theorem rotR_same {t t':RB} (h:rotR t=some t'):Same t t'∧(KidsOk t→SumOk t'):=by
 cases t with
 | nil=>cases h
 | node a k v s c l r =>
  cases l with
  | nil=>cases h
  | node b k2 v2 s2 c2 l m =>
   cases h
   refine⟨⟨by simp [listT],?_⟩,fun hk=>⟨rfl,hk.1.2.1,rfl,hk.1.2.2,hk.2⟩⟩
   simp only [addrs]
   refine .trans (.cons b (List.perm_middle (l₁:=addrs l) (a:=a) (l₂:=addrs m ++ addrs r))) ?_
   refine (List.Perm.swap a b _).trans ?_
   simp
theorem flip_same {t t':RB} (h:flipT t=some t'):Same t t'∧(KidsOk t→KidsOk t')∧(SumOk t→SumOk t'):=by
 cases t with
 | nil=>cases h
 | node a k v s c l r =>
  cases l with
  | nil=>cases h
  | node b k2 v2 s2 c2 l2 r2 =>
   cases r with
   | nil=>cases h
   | node d k3 v3 s3 c3 l3 r3 =>
    cases h
    exact⟨⟨rfl,.refl _⟩,id,id⟩
theorem resum_same {t t':RB} (h:resum t=some t'):Same t t'∧(KidsOk t→SumOk t'):=by
 cases t with
 | nil=>cases h
 | node a k v s c l r =>
  cases h
  exact⟨⟨rfl,.refl _⟩,fun hk=>⟨rfl,hk⟩⟩
theorem bal_same {t t':RB} (h:bal t=some t'):Same t t'∧(KidsOk t→SumOk t'):=by
 unfold bal at h
 obtain⟨t1,h1,h⟩:=Option.bind_eq_some_iff.1 h
 obtain⟨t2,h2,h⟩:=Option.bind_eq_some_iff.1 h
 obtain⟨t3,h3,h4⟩:=Option.bind_eq_some_iff.1 h
 have e1:Same t t1∧(KidsOk t→KidsOk t1):=by
  unfold bal1 at h1
  split at h1
  ·exact⟨(rotL_same h1).1,fun k=>((rotL_same h1).2 k).kids⟩
  ·cases h1;exact⟨.refl _,id⟩
 have e2:Same t1 t2∧(KidsOk t1→KidsOk t2):=by
  unfold bal2 at h2
  split at h2
  ·exact⟨(rotR_same h2).1,fun k=>((rotR_same h2).2 k).kids⟩
  ·cases h2;exact⟨.refl _,id⟩
 have e3:Same t2 t3∧(KidsOk t2→KidsOk t3):=by
  unfold bal3 at h3
  split at h3
  ·exact⟨(flip_same h3).1,(flip_same h3).2.1⟩
  ·cases h3;exact⟨.refl _,id⟩
 have e4:=resum_same h4
 exact⟨((e1.1.trans e2.1).trans e3.1).trans e4.1,fun k=>e4.2 (e3.2 (e2.2 (e1.2 k)))⟩
theorem setR_list {t r:RB} (h:t≠.nil)(ha:(addrs r).Perm (addrs (rgt t)))(hl:listT r=listT (rgt t)):Same t (setR t r):=by
 cases t with
 | nil=>exact absurd rfl h
 | node a k v s c l r0 =>
  refine⟨?_,?_⟩
  ·simp only [setR,listT,rgt] at *;rw [hl]
  ·exact .cons _ (.append_left _ ha)
theorem redL_same {t t':RB} (h:redL t=some t'):Same t t'∧(SumOk t→SumOk t'):=by
 unfold redL at h
 obtain⟨t1,h1,h⟩:=Option.bind_eq_some_iff.1 h
 have e1:=flip_same h1
 split at h
 ·obtain⟨r,h2,h⟩:=Option.bind_eq_some_iff.1 h
  obtain⟨t3,h3,h4⟩:=Option.bind_eq_some_iff.1 h
  have e2:=rotR_same h2
  have e3:=rotL_same h3
  have e4:=flip_same h4
  have hne:t1≠.nil:=by rintro rfl;cases h2
  have e5:=setR_list hne e2.1.addr e2.1.list
  refine⟨((e1.1.trans e5).trans e3.1).trans e4.1,fun k=>e4.2.2 (e3.2 ?_)⟩
  have k1:=e1.2.2 k
  cases t1 with
  | nil=>exact absurd rfl hne
  | node a k v s c l r0=>exact⟨k1.2.1,e2.2 k1.2.2.kids⟩
 ·cases h;exact⟨e1.1,e1.2.2⟩
theorem redRt_same {t t':RB} (h:redRt t=some t'):Same t t'∧(SumOk t→SumOk t'):=by
 unfold redRt at h
 obtain⟨t1,h1,h⟩:=Option.bind_eq_some_iff.1 h
 have e1:=flip_same h1
 split at h
 ·obtain⟨t3,h3,h4⟩:=Option.bind_eq_some_iff.1 h
  have e3:=rotR_same h3
  have e4:=flip_same h4
  exact⟨(e1.1.trans e3.1).trans e4.1,fun k=>e4.2.2 (e3.2 (e1.2.2 k).kids)⟩
 ·cases h;exact⟨e1.1,e1.2.2⟩
theorem goL_same {t t':RB} (h:goL t=some t'):Same t t'∧(SumOk t→SumOk t'):=by
 unfold goL at h
 split at h
 ·cases h
 ·split at h
  ·exact redL_same h
  ·cases h;exact⟨.refl _,id⟩
theorem goR_same {t t':RB} (h:goR t=some t'):Same t t'∧(SumOk t→SumOk t'):=by
 unfold goR at h
 split at h
 ·cases h
 ·split at h
  ·exact redRt_same h
  ·cases h;exact⟨.refl _,id⟩
theorem leanR_same {t t':RB} (h:leanR t=some t'):Same t t'∧(SumOk t→SumOk t'):=by
 unfold leanR at h
 split at h
 ·exact⟨(rotR_same h).1,fun k=>(rotR_same h).2 k.kids⟩
 ·cases h;exact⟨.refl _,id⟩
/-! ### Keys in order -/
theorem lessK_iff {x y:Ky}:lessK x y=true↔x.1 < y.1∨(x.1=y.1∧x.2 < y.2):=by
 unfold lessK
 simp only [Bool.or_eq_true,Bool.and_eq_true,decide_eq_true_eq]
theorem lessK_irr (x:Ky):lessK x x=false:=by
 cases h:lessK x x
 ·rfl
 ·rcases lessK_iff.1 h with h | h <;> omega
theorem lessK_trans {x y z:Ky} (h:lessK x y=true)(k:lessK y z=true):lessK x z=true:=by
 rw [lessK_iff] at *
 omega
theorem lessK_asym {x y:Ky} (h:lessK x y=true):lessK y x=false:=by
 cases e:lessK y x
 ·rfl
 ·have:=lessK_trans h e;rw [lessK_irr] at this;cases this
theorem lessK_tri {x y:Ky} (h1:lessK x y=false)(h2:lessK y x=false):x=y:=by
 have a:¬ (x.1 < y.1∨(x.1=y.1∧x.2 < y.2)):=fun h=>by rw [lessK_iff.2 h] at h1;cases h1
 have b:¬ (y.1 < x.1∨(y.1=x.1∧y.2 < x.2)):=fun h=>by rw [lessK_iff.2 h] at h2;cases h2
 have:x.1=y.1:=by omega
 exact Prod.ext this (by omega)
def SortE (L:List En):Prop:=L.Pairwise fun a b=>lessK a.1 b.1=true
def insE:List En→En→List En
 | [],e=>[e]
 | x :: L,e=>if lessK e.1 x.1=true then e :: x :: L else x :: insE L e
def delE (L:List En)(x:Ky):List En:=L.filter fun e=>!decide (e.1=x)
theorem insE_left {e x:En} {B:List En} (h:lessK e.1 x.1=true):∀ A:List En,insE (A ++ x :: B) e=insE A e ++ x :: B
 | []=>by show insE (x :: B) e=e :: x :: B;unfold insE;rw [if_pos h]
 | y :: A=>by
  show insE (y :: (A ++ x :: B)) e=insE (y :: A) e ++ x :: B
  unfold insE
  split
  ·rfl
  ·rw [insE_left h A];rfl
theorem insE_right {e x : En} {B : List En} (h : lessK e.1 x.1 = false) : ∀ A : List En, (∀ a ∈ A, lessK a.1 x.1 = true) → insE (A ++ x :: B) e = A ++ x :: insE B e
  | [], _ => by show insE (x :: B) e = x :: insE B e; conv => lhs; unfold insE
                rw [if_neg (by rw [h]; simp)]
  | y :: A, hA => by
    show insE (y :: (A ++ x :: B)) e = y :: (A ++ x :: insE B e)
    conv => lhs; unfold insE
    have hy := hA y (.head _)
    rw [if_neg, insE_right h A fun a ha => hA a (.tail _ ha)]
    intro h2
    rw [lessK_trans h2 hy] at h
    cases h
theorem sort_mid {A B:List En} {x:En} (h:SortE (A ++ x :: B)):(∀ a∈A,lessK a.1 x.1=true)∧(∀ b∈B,lessK x.1 b.1=true)∧SortE A∧SortE B:=by
 have h1:=List.pairwise_append.1 h
 have h2:=List.pairwise_cons.1 h1.2.1
 exact⟨fun a ha=>h1.2.2 a ha x (.head _),h2.1,h1.1,h2.2⟩
theorem put_list (a:Nat)(k:Ky)(v:Int):∀ (t t':RB),SortE (listT t)→putR a k v t=some t'→listT t'=insE (listT t) (k,v)∧(addrs t').Perm (a :: addrs t)∧(SumOk t→SumOk t')
 | .nil,t',_,h=>by
  cases h
  exact⟨rfl,.refl _,fun _=>⟨rfl,trivial,trivial⟩⟩
 | .node b k2 v2 s c l r,t',hs,h=>by
  have hm:=sort_mid (A:=listT l) (x:=(k2,v2)) (B:=listT r) hs
  unfold putR at h
  split at h
  ·rename_i hlt
   obtain⟨l',h1,h2⟩:=Option.bind_eq_some_iff.1 h
   have ih:=put_list a k v l l' hm.2.2.1 h1
   have hb:=bal_same h2
   refine⟨?_,?_,fun hk=>hb.2 ⟨ih.2.2 hk.2.1,hk.2.2⟩⟩
   ·rw [hb.1.list]
    show listT l' ++ (k2,v2) :: listT r=_
    rw [ih.1]
    exact (insE_left (x:=(k2,v2)) hlt _).symm
   ·refine hb.1.addr.trans ?_
    show (b :: (addrs l' ++ addrs r)).Perm (a :: b :: (addrs l ++ addrs r))
    exact (List.Perm.cons b (ih.2.1.append_right _)).trans (.swap a b _)
  ·rename_i hlt
   obtain⟨r',h1,h2⟩:=Option.bind_eq_some_iff.1 h
   have ih:=put_list a k v r r' hm.2.2.2 h1
   have hb:=bal_same h2
   refine⟨?_,?_,fun hk=>hb.2 ⟨hk.2.1,ih.2.2 hk.2.2⟩⟩
   ·rw [hb.1.list]
    show listT l ++ (k2,v2) :: listT r'=_
    rw [ih.1]
    exact (insE_right (x:=(k2,v2)) (by simpa using hlt) _ hm.1).symm
   ·refine hb.1.addr.trans ?_
    show (b :: (addrs l ++ addrs r')).Perm (a :: b :: (addrs l ++ addrs r))
    refine (List.Perm.cons b ((ih.2.1.append_left _).trans List.perm_middle)).trans (.swap a b _)
theorem adr_none {t:RB}:adr t=none↔t=.nil:=by cases t <;> simp [adr]
theorem setL_node {t l':RB} (h:t≠.nil):∃ a k v s c l r,t=.node a k v s c l r∧setL t l'=.node a k v s c l' r:=by
 cases t with
 | nil=>exact absurd rfl h
 | node a k v s c l r=>exact⟨a,k,v,s,c,l,r,rfl,rfl⟩
theorem first_some (t:RB)(h:t≠.nil):∃ e0 L,listT t=e0 :: L∧firstE t=some e0:=by
 induction t with
 | nil=>exact absurd rfl h
 | node a k v s c l r ih1 _ =>
  cases l with
  | nil=>exact⟨(k,v),listT r,rfl,rfl⟩
  | node a2 k2 v2 s2 c2 l2 r2 =>
   obtain⟨e0,L,h1,h2⟩:=ih1 (by simp)
   exact⟨e0,L ++ (k,v) :: listT r,by rw [listT,h1];rfl,h2⟩
theorem dropF_list:∀ (n:Nat)(t t':RB),dropF n t=some t'→(∃ e,firstE t=some e∧listT t=e :: listT t')∧(∃ x,(addrs t).Perm (x :: addrs t'))∧(SumOk t→SumOk t')
 | 0,t,t',h=>by cases h
 | n+1,.nil,t',h=>by cases h
 | n+1,.node a k v s c l r,t',h=>by
  unfold dropF at h
  split at h
  ·rename_i hl
   have hl:=adr_none.1 hl
   subst hl
   split at h
   ·rename_i hr
    have hr:=adr_none.1 hr
    subst hr
    cases h
    exact⟨⟨(k,v),rfl,rfl⟩,⟨a,.refl _⟩,fun _=>trivial⟩
   ·cases h
  ·rename_i hl
   obtain⟨t1,h1,h⟩:=Option.bind_eq_some_iff.1 h
   obtain⟨l',h2,h3⟩:=Option.bind_eq_some_iff.1 h
   have e1:=goL_same h1
   have ih:=dropF_list n _ _ h2
   have hb:=bal_same h3
   have hne:t1≠.nil:=by
    rintro rfl
    cases n <;> cases h2
   obtain⟨⟨e,f1,f2⟩,⟨x,f3⟩,f4⟩:=ih
   have e2:=e1.1.list
   have e3:=e1.1.addr
   have e4:=e1.2
   obtain⟨a1,k1,v1,s1,c1,l1,r1,rfl,hset⟩:=setL_node (l':=l') hne
   rw [hset] at hb
   have g1:listT l1=e :: listT l':=f2
   have g2:(addrs l1).Perm (x :: addrs l'):=f3
   have hf:=first_some (.node a k v s c l r) (by simp)
   obtain⟨e0,L0,q1,q2⟩:=hf
   refine⟨⟨e0,q2,?_⟩,⟨x,?_⟩,fun hk=>hb.2 ?_⟩
   ·rw [hb.1.list]
    rw [← e2] at q1 ⊢
    have:e0 :: L0=e :: (listT l' ++ (k1,v1) :: listT r1):=by
     rw [← q1]
     show listT l1 ++ (k1,v1) :: listT r1=_
     rw [g1];rfl
    injection this with a1 a2
    rw [q1,a2]
    rfl
   ·refine e3.symm.trans ?_
    refine .trans ?_ (.cons x hb.1.addr.symm)
    show (a1 :: (addrs l1 ++ addrs r1)).Perm (x :: a1 :: (addrs l' ++ addrs r1))
    exact (List.Perm.cons a1 (g2.append_right _)).trans (.swap x a1 _)
   ·have:=e4 hk
    exact⟨f4 this.2.1,this.2.2⟩
theorem delE_not {x:Ky}:∀ {L:List En},(∀ e∈L,e.1≠x)→delE L x=L:=by
 intro L h
 unfold delE
 rw [List.filter_eq_self]
 intro e he
 simpa using h e he
theorem lessK_ne {x y:Ky} (h:lessK x y=true):x≠y:=by
 rintro rfl
 rw [lessK_irr] at h
 cases h
theorem delE_append (A B:List En)(x:Ky):delE (A ++ B) x=delE A x ++ delE B x:=List.filter_append ..
theorem delE_cons_same (B:List En)(x:Ky)(v:Int):delE ((x,v) :: B) x=delE B x:=by unfold delE;rw [List.filter_cons_of_neg (by simp)]
theorem delE_cons_other (B:List En) {x:Ky} {e:En} (h:e.1≠x):delE (e :: B) x=e :: delE B x:=by unfold delE;rw [List.filter_cons_of_pos (by simpa using h)]
theorem goL_key {a:Nat} {k:Ky} {v:Int} {s:Ky} {c:Bool} {l r t1:RB} (hs:SortE (listT (.node a k v s c l r)))(h1:goL (.node a k v s c l r)=some t1):keyT t1=some k∨∃ k1,keyT t1=some k1∧lessK k k1=true:=by
 unfold goL at h1
 split at h1
 ·cases h1
 ·split at h1
  ·unfold redL at h1
   obtain⟨t2,f1,h1⟩:=Option.bind_eq_some_iff.1 h1
   cases l with
   | nil=>cases f1
   | node b k2 v2 s2 c2 l2 r2 =>
    cases r with
    | nil=>cases f1
    | node d k3 v3 s3 c3 l3 r3 =>
     cases f1
     split at h1
     ·obtain⟨t3,f2,h1⟩:=Option.bind_eq_some_iff.1 h1
      obtain⟨t4,f3,h1⟩:=Option.bind_eq_some_iff.1 h1
      cases l3 with
      | nil=>cases f2
      | node d2 k4 v4 s4 c4 l4 r4 =>
       cases f2
       cases f3
       cases l4 <;> cases r4 <;> cases h1 <;> (right;refine⟨k4,rfl,?_⟩;have:=sort_mid (A:=listT (.node b k2 v2 s2 c2 l2 r2)) (x:=(k,v)) hs;exact this.2.1 (k4,v4) (by simp [listT]))
     ·cases h1;left;rfl
  ·cases h1;left;rfl
theorem leanR_key {x:Ky} {a:Nat} {k:Ky} {v:Int} {s:Ky} {c:Bool} {l r t1:RB} (hs:SortE (listT (.node a k v s c l r)))(hlt:lessK x k=false)(h1:leanR (.node a k v s c l r)=some t1):∀ k1,keyT t1=some k1→lessK x k1=false:=by
 intro k1 hk1
 unfold leanR at h1
 split at h1
 ·cases l with
  | nil=>cases h1
  | node b k2 v2 s2 c2 l2 r2 =>
   cases h1
   cases hk1
   have:=sort_mid (A:=listT (.node b k1 v2 s2 c2 l2 r2)) (x:=(k,v)) hs
   have:=this.1 (k1,v2) (by simp [listT])
   cases e:lessK x k1
   ·rfl
   ·rw [lessK_trans e this] at hlt;cases hlt
 ·cases h1;cases hk1;exact hlt
theorem goR_key {x:Ky} {t1 t2:RB} (hs1:SortE (listT t1))(k1le:∀ k1,keyT t1=some k1→lessK x k1=false)(h2:goR t1=some t2):∀ k2,keyT t2=some k2→lessK x k2=false:=by
 intro k2 hk2
 unfold goR at h2
 split at h2
 ·cases h2
 ·split at h2
  ·unfold redRt at h2
   obtain⟨t3,f1,h2⟩:=Option.bind_eq_some_iff.1 h2
   cases t1 with
   | nil=>cases f1
   | node a1 k1 v1 s1 c1 l1 r1 =>
    have hk1:=k1le k1 rfl
    cases l1 with
    | nil=>cases f1
    | node b k4 v4 s4 c4 l4 r4 =>
     cases r1 with
     | nil=>cases f1
     | node d k5 v5 s5 c5 l5 r5 =>
      cases f1
      split at h2
      ·obtain⟨t4,f3,h2⟩:=Option.bind_eq_some_iff.1 h2
       cases f3
       cases l4 with
       | nil=>cases h2
       | node b2 k6 v6 s6 c6 l6 r6 =>
        cases h2
        cases hk2
        have:=sort_mid (A:=listT (.node b k2 v4 s4 c4 (.node b2 k6 v6 s6 c6 l6 r6) r4)) (x:=(k1,v1)) hs1
        have:=this.1 (k2,v4) (by simp [listT])
        cases e:lessK x k2
        ·rfl
        ·rw [lessK_trans e this] at hk1;cases hk1
      ·cases h2;cases hk2;exact hk1
  ·cases h2;exact k1le _ hk2
theorem dropR_list (x:Ky):∀ (n:Nat)(t t':RB),SortE (listT t)→dropR n x t=some t'→listT t'=delE (listT t) x∧(∃ b,(addrs t).Perm (b :: addrs t'))∧(SumOk t→SumOk t')
 | 0,t,t',_,h=>by cases h
 | n+1,.nil,t',_,h=>by cases h
 | n+1,.node a k v s c l r,t',hs,h=>by
  unfold dropR at h
  split at h
  ·rename_i hlt
   obtain⟨t1,h1,h⟩:=Option.bind_eq_some_iff.1 h
   obtain⟨l',h2,h3⟩:=Option.bind_eq_some_iff.1 h
   have e1:=goL_same h1
   have hb:=bal_same h3
   have hne:t1≠.nil:=by
    rintro rfl
    cases n <;> cases h2
   have e2:=e1.1.list
   have e3:=e1.1.addr
   have e4:=e1.2
   have hs1:=hs
   rw [← e2] at hs1
   have hkey:∀ k1,keyT t1=some k1→lessK x k1=true:=by
    intro k1 hk1
    have:=goL_key hs h1
    rcases this with e | ⟨k2,e,h5⟩
    ·rw [e] at hk1;cases hk1;exact hlt
    ·rw [e] at hk1;cases hk1;exact lessK_trans hlt h5
   obtain⟨a1,k1,v1,s1,c1,l1,r1,rfl,hset⟩:=setL_node (l':=l') hne
   have hx:=hkey k1 rfl
   rw [hset] at hb
   have hm:=sort_mid (A:=listT l1) (x:=(k1,v1)) (B:=listT r1) hs1
   obtain⟨f1,⟨b,f2⟩,f3⟩:=dropR_list x n _ _ hm.2.2.1 h2
   refine⟨?_,⟨b,?_⟩,fun hk=>hb.2 ?_⟩
   ·rw [hb.1.list,← e2]
    show listT l' ++ (k1,v1) :: listT r1=delE (listT l1 ++ (k1,v1) :: listT r1) x
    rw [delE_append,delE_not (L:=(k1,v1) :: listT r1) fun e he=>?_]
    ·have f1:listT l'=delE (listT l1) x:=f1
     rw [f1]
    ·rcases List.mem_cons.1 he with rfl | he
     ·exact (lessK_ne hx).symm
     ·exact (lessK_ne (lessK_trans hx (hm.2.1 e he))).symm
   ·refine e3.symm.trans ?_
    refine .trans ?_ (.cons b hb.1.addr.symm)
    show (a1 :: (addrs l1 ++ addrs r1)).Perm (b :: a1 :: (addrs l' ++ addrs r1))
    exact (List.Perm.cons a1 (List.Perm.append_right _ f2)).trans (.swap b a1 _)
   ·have:=e4 hk
    exact⟨f3 this.2.1,this.2.2⟩
  ·rename_i hlt
   have hlt:lessK x k=false:=by simpa using hlt
   obtain⟨t1,h1,h⟩:=Option.bind_eq_some_iff.1 h
   have e1:=leanR_same h1
   have k1le:=leanR_key hs hlt h1
   split at h
   ·rename_i hx
    split at h
    ·rename_i hl
     have hl:=adr_none.1 hl
     have hr:=adr_none.1 hx.2
     cases h
     cases t1 with
     | nil=>cases hx.1
     | node a1 k1 v1 s1 c1 l1 r1 =>
      cases hl
      cases hr
      have hk:=hx.1
      cases hk
      refine⟨?_,⟨a1,e1.1.addr.symm⟩,fun _=>trivial⟩
      rw [← e1.1.list]
      show []=delE [(x,v1)] x
      rw [delE_cons_same];rfl
    ·cases h
   ·obtain⟨t2,h2,h⟩:=Option.bind_eq_some_iff.1 h
    have e2:=goR_same h2
    have e3:=e1.1.trans e2.1
    have e4:SumOk (.node a k v s c l r)→SumOk t2:=fun hk=>e2.2 (e1.2 hk)
    have hs2:=hs
    rw [← e3.list] at hs2
    have hs1:=hs
    rw [← e1.1.list] at hs1
    have k2le:=goR_key hs1 k1le h2
    cases t2 with
    | nil =>
     split at h
     ·rename_i hx;cases hx
     ·obtain⟨r',f1,h⟩:=Option.bind_eq_some_iff.1 h
      cases n <;> cases f1
    | node a2 k2 v2 s2 c2 l2 r2 =>
     have hm:=sort_mid (A:=listT l2) (x:=(k2,v2)) (B:=listT r2) hs2
     split at h
     ·rename_i hx
      cases hx
      obtain⟨e,f1,h⟩:=Option.bind_eq_some_iff.1 h
      obtain⟨r',f2,h⟩:=Option.bind_eq_some_iff.1 h
      have hb:=bal_same h
      obtain⟨⟨e',g1,g2⟩,⟨b,g3⟩,g4⟩:=dropF_list n _ _ f2
      have:e'=e:=by
       have f1:firstE r2=some e:=f1
       have g1:firstE r2=some e':=g1
       rw [f1] at g1;cases g1;rfl
      subst this
      refine⟨?_,⟨b,?_⟩,fun hk=>hb.2 ?_⟩
      ·rw [hb.1.list,← e3.list]
       show listT l2 ++ (e'.1,e'.2) :: listT r'=delE (listT l2 ++ (x,v2) :: listT r2) x
       rw [delE_append,delE_not (L:=listT l2) fun e he=>lessK_ne (hm.1 e he),delE_cons_same,delE_not (L:=listT r2) fun e he=>(lessK_ne (hm.2.1 e he)).symm]
       have g2:listT r2=e' :: listT r':=g2
       rw [g2]
      ·refine e3.addr.symm.trans ?_
       refine .trans ?_ (.cons b hb.1.addr.symm)
       show (a2 :: (addrs l2 ++ addrs r2)).Perm (b :: a2 :: (addrs l2 ++ addrs r'))
       have g3:(addrs r2).Perm (b :: addrs r'):=g3
       exact (List.Perm.cons a2 ((g3.append_left _).trans List.perm_middle)).trans (.swap b a2 _)
      ·have:=e4 hk
       exact⟨this.2.1,g4 this.2.2⟩
     ·rename_i hx
      obtain⟨r',f2,h⟩:=Option.bind_eq_some_iff.1 h
      have hb:=bal_same h
      obtain⟨f1,⟨b,g3⟩,g4⟩:=dropR_list x n _ _ hm.2.2.2 f2
      have hk2:=k2le k2 rfl
      have hlt2:lessK k2 x=true:=by
       cases e:lessK k2 x
       ·exact absurd (by rw [lessK_tri hk2 e];rfl) hx
       ·rfl
      refine⟨?_,⟨b,?_⟩,fun hk=>hb.2 ?_⟩
      ·rw [hb.1.list,← e3.list]
       show listT l2 ++ (k2,v2) :: listT r'=delE (listT l2 ++ (k2,v2) :: listT r2) x
       have f1:listT r'=delE (listT r2) x:=f1
       rw [f1,delE_append,delE_not (L:=listT l2) fun e he=>lessK_ne (lessK_trans (hm.1 e he) hlt2),delE_cons_other _ (lessK_ne hlt2)]
      ·refine e3.addr.symm.trans ?_
       refine .trans ?_ (.cons b hb.1.addr.symm)
       show (a2 :: (addrs l2 ++ addrs r2)).Perm (b :: a2 :: (addrs l2 ++ addrs r'))
       have g3:(addrs r2).Perm (b :: addrs r'):=g3
       exact (List.Perm.cons a2 ((g3.append_left _).trans List.perm_middle)).trans (.swap b a2 _)
      ·have:=e4 hk
       exact⟨this.2.1,g4 this.2.2⟩
end
section
theorem isR_node (a k v s c l r):isR (.node a k v s c l r)=c:=rfl
theorem lft_node (a k v s c l r):lft (.node a k v s c l r)=l:=rfl
theorem rgt_node (a k v s c l r):rgt (.node a k v s c l r)=r:=rfl
theorem Str.nil_of {t:RB} (h:Str t 0)(hb:isR t=false):t=.nil:=by
 cases h with
 | nil=>rfl
 | red=>cases hb
theorem Str.some {t:RB} {n:Nat} (h:Str t (n+1)):∃ a k v s c l r,t=.node a k v s c l r:=by
 cases h with
 | red=>exact⟨_,_,_,_,_,_,_,rfl⟩
 | black=>exact⟨_,_,_,_,_,_,_,rfl⟩
theorem bal_black {a:Nat} {k:Ky} {v:Int} {s:Ky} {l r:RB} {n:Nat} (hl:Str l n∨(Alm l n∧isR r=false))(hr:Str r n) :
  ∃ t',bal (.node a k v s false l r)=some t'∧Str t' (n+1)∧(isR l=false∨(isR r=false∧Str l n)→isR t'=false):=by
 rcases hl with hl | ⟨hl,hrb⟩
 ·cases hrc:isR r
  ·refine⟨.node a k v (total k v l r) false l r,?_,.black hl hr hrc,fun _=>rfl⟩
   cases hlc:isR l
   ·simp [bal,bal1,bal2,bal3,resum,lft_node,rgt_node,hrc,hlc]
   ·cases hl with
    | nil=>cases hlc
    | black=>cases hlc
    | red h1 h2 h3 h4=>simp [bal,bal1,bal2,bal3,resum,lft_node,rgt_node,isR_node,hrc,h3]
  ·cases hr with
   | nil=>cases hrc
   | black=>cases hrc
   | @red b k2 v2 s2 l2 r2 _ h1 h2 h3 h4 =>
    cases hlc:isR l
    ·have:∃ sa sb,bal (.node a k v s false l (.node b k2 v2 s2 true l2 r2))=some (.node b k2 v2 sa false (.node a k v sb true l l2) r2):=by
      simp [bal,bal1,bal2,bal3,resum,lft_node,rgt_node,isR_node,hlc,rotL,h4]
     obtain⟨sa,sb,hgo⟩:=this
     exact⟨_,hgo,.black (.red hl h1 hlc h3) h2 h4,fun _=>rfl⟩
    ·cases hl with
     | nil=>cases hlc
     | black=>cases hlc
     | @red d k3 v3 s3 l3 r3 _ g1 g2 g3 g4 =>
      have:∃ sa sb sc,bal (.node a k v s false (.node d k3 v3 s3 true l3 r3) (.node b k2 v2 s2 true l2 r2))=some (.node a k v sa true (.node d k3 v3 sb false l3 r3) (.node b k2 v2 sc false l2 r2)):=by
       simp [bal,bal1,bal2,bal3,resum,lft_node,rgt_node,isR_node,g3,flipT]
      obtain⟨sa,sb,sc,hgo⟩:=this
      refine⟨_,hgo,.red (.black g1 g2 g4) (.black h1 h2 h4) rfl rfl,fun h=>?_⟩
      rcases h with h | h
      ·cases h
      ·cases h.1
 ·cases hl with
  | @mk b k2 v2 s2 l2 r2 _ h1 h2 h3 =>
   cases hlc:isR l2
   ·refine⟨.node a k v (total k v (.node b k2 v2 s2 true l2 r2) r) false (.node b k2 v2 s2 true l2 r2) r,?_,.black (.red h1 h2 hlc h3) hr hrb,fun _=>rfl⟩
    simp [bal,bal1,bal2,bal3,resum,lft_node,rgt_node,isR_node,hrb,hlc]
   ·cases h1 with
    | nil=>cases hlc
    | black=>cases hlc
    | @red d k3 v3 s3 l3 r3 _ g1 g2 g3 g4 =>
     have:∃ sa sb sc,bal (.node a k v s false (.node b k2 v2 s2 true (.node d k3 v3 s3 true l3 r3) r2) r)=some (.node b k2 v2 sa true (.node d k3 v3 sb false l3 r3) (.node a k v sc false r2 r)):=by
      simp [bal,bal1,bal2,bal3,resum,lft_node,rgt_node,isR_node,hrb,rotR,flipT]
     obtain⟨sa,sb,sc,hgo⟩:=this
     refine⟨_,hgo,.red (.black g1 g2 g4) (.black h2 hr hrb) rfl rfl,fun h=>?_⟩
     rcases h with h | ⟨_,h⟩
     ·cases h
     ·cases h with
      | red _ _ h5 _=>cases h5
theorem bal_red {a:Nat} {k:Ky} {v:Int} {s:Ky} {l r:RB} {n:Nat} (hl:Str l n)(hr:Str r n)(hb:isR l=false∨isR r=false) :
  ∃ t',bal (.node a k v s true l r)=some t'∧Alm t' n∧isR t'=true∧(isR l=false→isR r=false→Str t' n):=by
 cases hrc:isR r
 ·refine⟨.node a k v (total k v l r) true l r,?_,.mk hl hr hrc,rfl,fun h _=>.red hl hr h hrc⟩
  cases hlc:isR l
  ·simp [bal,bal1,bal2,bal3,resum,lft_node,rgt_node,hrc,hlc]
  ·cases hl with
   | nil=>cases hlc
   | black=>cases hlc
   | @red b k2 v2 s2 l2 r2 _ h1 h2 h3 h4=>simp [bal,bal1,bal2,bal3,resum,lft_node,rgt_node,isR_node,hrc,h3]
 ·have hlc:isR l=false:=by
   rcases hb with h | h
   ·exact h
   ·rw [hrc] at h;cases h
  cases hr with
  | nil=>cases hrc
  | black=>cases hrc
  | @red b k2 v2 s2 l2 r2 _ h1 h2 h3 h4 =>
   have:∃ sa sb,bal (.node a k v s true l (.node b k2 v2 s2 true l2 r2))=some (.node b k2 v2 sa true (.node a k v sb true l l2) r2):=by
    simp [bal,bal1,bal2,bal3,resum,lft_node,rgt_node,isR_node,hlc,rotL,h4]
   obtain⟨sa,sb,hgo⟩:=this
   exact⟨_,hgo,.mk (.red hl h1 hlc h3) h2 h4,rfl,nofun⟩
theorem put_ok (a:Nat)(k:Ky)(v:Int):∀ (t:RB)(n:Nat),Str t n→∃ t',putR a k v t=some t'∧(isR t=false→Str t' n)∧(isR t=true→Alm t' n∧isR t'=true):=by
 intro t
 induction t with
 | nil =>
  intro n h
  cases h
  exact⟨_,rfl,fun _=>.red .nil .nil rfl rfl,fun h=>by cases h⟩
 | node b k2 v2 s c l r ihl ihr =>
  intro n h
  unfold putR
  cases h with
  | @red _ _ _ _ _ _ _ h1 h2 h3 h4 =>
   split
   ·obtain⟨l',e,hl,_⟩:=ihl n h1
    obtain⟨t',e2,ha,hr,_⟩:=bal_red (a:=b) (k:=k2) (v:=v2) (s:=s) (hl h3) h2 (.inr h4)
    exact⟨t',(by rw [e];exact e2),(fun h=>nomatch h),fun _=>⟨ha,hr⟩⟩
   ·obtain⟨r',e,hr,_⟩:=ihr n h2
    obtain⟨t',e2,ha,hr2,_⟩:=bal_red (a:=b) (k:=k2) (v:=v2) (s:=s) h1 (hr h4) (.inl h3)
    exact⟨t',(by rw [e];exact e2),(fun h=>nomatch h),fun _=>⟨ha,hr2⟩⟩
  | @black _ _ _ _ _ _ n h1 h2 h3 =>
   split
   ·obtain⟨l',e,hl,hl2⟩:=ihl n h1
    have:Str l' n∨(Alm l' n∧isR r=false):=by
     cases hc:isR l
     ·exact .inl (hl hc)
     ·exact .inr ⟨(hl2 hc).1,h3⟩
    obtain⟨t',e2,hs,_⟩:=bal_black (a:=b) (k:=k2) (v:=v2) (s:=s) this h2
    exact⟨t',(by rw [e];exact e2),fun _=>hs,(fun h=>nomatch h)⟩
   ·obtain⟨r',e,hr,_⟩:=ihr n h2
    obtain⟨t',e2,hs,_⟩:=bal_black (a:=b) (k:=k2) (v:=v2) (s:=s) (.inl h1) (hr h3)
    exact⟨t',(by rw [e];exact e2),fun _=>hs,(fun h=>nomatch h)⟩
inductive Pre:RB→Nat→Prop
 | red {a k v s l r n}:Str l n→Str r n→isR l=false→isR r=false→Pre (.node a k v s true l r) n
 | black {a k v s l r n}:Str l n→Str r n→isR l=true→isR r=false→Pre (.node a k v s false l r) (n+1)
inductive PreR:RB→Nat→Prop
 | mk {a k v s l r n}:Str l n→Str r n→isR l=false→isR r=true→PreR (.node a k v s false l r) (n+1)
theorem Pre.of_red {t:RB} {n:Nat} (h:Str t n)(hr:isR t=true):Pre t n:=by
 cases h with
 | nil=>cases hr
 | red h1 h2 h3 h4=>exact .red h1 h2 h3 h4
 | black=>cases hr
theorem goL_ok {t:RB} {m:Nat} (h:Pre t m)(hne:lft t≠.nil) :
  ∃ t1 h1,goL t=some t1∧Pre (lft t1) h1∧t1≠.nil∧∀ l',Str l' h1→(isR (lft t1)=false→isR l'=false)→∃ t',bal (setL t1 l')=some t'∧Str t' m∧(isR t=false→isR t'=false):=by
 cases h with
 | @black a k v s l r n hl hr hlc hrc =>
  refine⟨.node a k v s false l r,n,?_,.of_red hl hlc,nofun,fun l' hl' _=>?_⟩
  ·unfold goL
   cases l with
   | nil=>cases hlc
   | node b k2 v2 s2 c2 l2 r2 =>
    have:c2=true:=hlc
    subst this
    simp [lft_node]
  ·obtain⟨t',e,hs,hb⟩:=bal_black (a:=a) (k:=k) (v:=v) (s:=s) (.inl hl') hr
   exact⟨t',e,hs,fun _=>hb (.inr ⟨hrc,hl'⟩)⟩
 | @red a k v s l r n hl hr hlc hrc =>
  cases hl with
  | nil=>exact absurd rfl hne
  | red=>cases hlc
  | @black b k2 v2 s2 l2 r2 n g1 g2 g3 =>
   cases hc:isR l2
   ·obtain⟨d,k3,v3,s3,c3,l3,r3,rfl⟩:=hr.some
    have hc3:c3=false:=hrc
    subst hc3
    cases hr with
    | @black _ _ _ _ _ _ _ f1 f2 f3 =>
    cases hc2:isR l3
    ·refine⟨.node a k v s false (.node b k2 v2 s2 true l2 r2) (.node d k3 v3 s3 true l3 r3),n,?_,.red g1 g2 hc g3,nofun,fun l' hl' _=>?_⟩
     ·simp [goL,lft_node,hc,redL,flipT,rgt_node,hc2]
     ·obtain⟨t',e,hs,hb⟩:=bal_black (a:=a) (k:=k) (v:=v) (s:=s) (.inl hl') (.red f1 f2 hc2 f3:Str (.node d k3 v3 s3 true l3 r3) n)
      exact⟨t',e,hs,nofun⟩
    ·cases f1 with
     | nil=>cases hc2
     | black=>cases hc2
     | @red x k4 v4 s4 l4 r4 _ e1 e2 e3 e4 =>
      have hgo:∃ sa sb sc,goL (.node a k v s true (.node b k2 v2 s2 false l2 r2) (.node d k3 v3 s3 false (.node x k4 v4 s4 true l4 r4) r3))=some (.node x k4 v4 sa true (.node a k v sb false (.node b k2 v2 s2 true l2 r2) l4) (.node d k3 v3 sc false r4 r3)):=by
       simp [goL,lft_node,hc,redL,flipT,rgt_node,rotR,rotL,setR,isR_node]
      obtain⟨sa,sb,sc,hgo⟩:=hgo
      refine⟨_,n+1,hgo,.black (.red g1 g2 hc g3) e1 rfl e3,nofun,fun l' hl' hlb=>?_⟩
      have hlb:=hlb rfl
      obtain⟨t',e,ha,hr,hs⟩:=bal_red (a:=x) (k:=k4) (v:=v4) (s:=sa) hl' (.black e2 f2 f3:Str (.node d k3 v3 sc false r4 r3) (n+1)) (.inl hlb)
      exact⟨t',e,hs hlb rfl,nofun⟩
   ·refine⟨.node a k v s true (.node b k2 v2 s2 false l2 r2) r,n+1,?_,.black g1 g2 hc g3,nofun,fun l' hl' hb=>?_⟩
    ·simp [goL,lft_node,hc]
    ·have hlb:=hb rfl
     obtain⟨t',e,ha,hr2,hs⟩:=bal_red (a:=a) (k:=k) (v:=v) (s:=s) hl' hr (.inl hlb)
     exact⟨t',e,hs hlb hrc,nofun⟩
theorem leanR_ok {t:RB} {m:Nat} (h:Pre t m∨PreR t m):∃ t1,leanR t=some t1∧((Pre t1 m∧isR t1=true∧isR t=true)∨PreR t1 m):=by
 rcases h with h | h
 ·cases h with
  | @red a k v s l r n h1 h2 h3 h4=>exact⟨.node a k v s true l r,by simp [leanR,lft_node,h3],.inl ⟨.red h1 h2 h3 h4,rfl,rfl⟩⟩
  | @black a k v s l r n h1 h2 h3 h4 =>
   cases h1 with
   | nil=>cases h3
   | black=>cases h3
   | @red b k2 v2 s2 l2 r2 _ g1 g2 g3 g4 =>
    have:∃ sa sb,leanR (.node a k v s false (.node b k2 v2 s2 true l2 r2) r)=some (.node b k2 v2 sa false l2 (.node a k v sb true r2 r)):=by
     simp [leanR,lft_node,isR_node,rotR]
    obtain⟨sa,sb,h⟩:=this
    exact⟨_,h,.inr (.mk g1 (.red g2 h2 g4 h4) g3 rfl)⟩
 ·cases h with
  | @mk a k v s l r n h1 h2 h3 h4=>exact⟨.node a k v s false l r,by simp [leanR,lft_node,h3],.inr (.mk h1 h2 h3 h4)⟩
def setO (t:RB):Option En→RB
 | none=>t
 | some e=>setE t e
theorem goR_ok {t:RB} {m:Nat} (h:(Pre t m∧isR t=true)∨PreR t m)(hne:rgt t≠.nil) :
  ∃ t1 h1,goR t=some t1∧t1≠.nil∧((Pre (rgt t1) h1∧keyT t1=keyT t)∨(PreR (rgt t1) h1∧keyT (rgt t1)=keyT t∧lft t≠.nil∧keyT t1=keyT (lft t))) ∧
   ∀ r',Str r' h1→(isR (rgt t1)=false→isR r'=false)→∀ e:Option En,∃ t',bal (setR (setO t1 e) r')=some t'∧Str t' m∧(isR t=false→isR t'=false):=by
 rcases h with ⟨h,hc⟩ | h
 ·cases h with
  | black=>cases hc
  | @red a k v s l r n hl hr hlc hrc =>
   cases hr with
   | nil=>exact absurd rfl hne
   | red=>cases hrc
   | @black d k3 v3 s3 l3 r3 n f1 f2 f3 =>
    cases hc2:isR l3
    ·obtain⟨b,k2,v2,s2,c2,l2,r2,rfl⟩:=hl.some
     have hc3:c2=false:=hlc
     subst hc3
     cases hl with
     | @black _ _ _ _ _ _ _ g1 g2 g3 =>
     cases hc4:isR l2
     ·refine⟨.node a k v s false (.node b k2 v2 s2 true l2 r2) (.node d k3 v3 s3 true l3 r3),n,?_,nofun,.inl ⟨.red f1 f2 hc2 f3,rfl⟩,fun r' hr' _ e=>?_⟩
      ·simp [goR,lft_node,hc4,redRt,flipT,rgt_node,hc2]
      ·cases e with
       | none =>
        obtain⟨t',e,hs,hb⟩:=bal_black (a:=a) (k:=k) (v:=v) (s:=s) (.inl (.red g1 g2 hc4 g3:Str (.node b k2 v2 s2 true l2 r2) n)) hr'
        exact⟨t',e,hs,nofun⟩
       | some x =>
        obtain⟨t',e,hs,hb⟩:=bal_black (a:=a) (k:=x.1) (v:=x.2) (s:=s) (.inl (.red g1 g2 hc4 g3:Str (.node b k2 v2 s2 true l2 r2) n)) hr'
        exact⟨t',e,hs,nofun⟩
     ·have hgo:∃ sa sb,goR (.node a k v s true (.node b k2 v2 s2 false l2 r2) (.node d k3 v3 s3 false l3 r3))=some (.node b k2 v2 sa true (paint l2) (.node a k v sb false r2 (.node d k3 v3 s3 true l3 r3))):=by
       cases l2 with
       | nil=>cases hc4
       | node=>simp [goR,lft_node,rgt_node,hc2,redRt,flipT,hc4,rotR,paint]
      obtain⟨sa,sb,hgo⟩:=hgo
      have hp:Str (paint l2) (n+1)∧isR (paint l2)=false:=by
       cases g1 with
       | nil=>cases hc4
       | black=>cases hc4
       | red e1 e2 e3 e4=>exact⟨.black e1 e2 e4,rfl⟩
      refine⟨_,n+1,hgo,nofun,.inr ⟨.mk g2 (.red f1 f2 hc2 f3) g3 rfl,rfl,nofun,rfl⟩,fun r' hr' hrb e=>?_⟩
      have hrb:=hrb rfl
      cases e with
      | none =>
       obtain⟨t',e,ha,_,hs⟩:=bal_red (a:=b) (k:=k2) (v:=v2) (s:=sa) hp.1 hr' (.inr hrb)
       exact⟨t',e,hs hp.2 hrb,nofun⟩
      | some x =>
       obtain⟨t',e,ha,_,hs⟩:=bal_red (a:=b) (k:=x.1) (v:=x.2) (s:=sa) hp.1 hr' (.inr hrb)
       exact⟨t',e,hs hp.2 hrb,nofun⟩
    ·refine⟨.node a k v s true l (.node d k3 v3 s3 false l3 r3),n+1,?_,nofun,.inl ⟨.black f1 f2 hc2 f3,rfl⟩,fun r' hr' hb e=>?_⟩
     ·simp [goR,rgt_node,hc2]
     ·have hrb:=hb rfl
      cases e with
      | none =>
       obtain⟨t',e,ha,_,hs⟩:=bal_red (a:=a) (k:=k) (v:=v) (s:=s) hl hr' (.inr hrb)
       exact⟨t',e,hs hlc hrb,nofun⟩
      | some x =>
       obtain⟨t',e,ha,_,hs⟩:=bal_red (a:=a) (k:=x.1) (v:=x.2) (s:=s) hl hr' (.inr hrb)
       exact⟨t',e,hs hlc hrb,nofun⟩
 ·cases h with
  | @mk a k v s l r n hl hr hlc hrc =>
   refine⟨.node a k v s false l r,n,?_,nofun,.inl ⟨.of_red hr hrc,rfl⟩,fun r' hr' _ e=>?_⟩
   ·unfold goR
    cases r with
    | nil=>cases hrc
    | node b k2 v2 s2 c2 l2 r2 =>
     have:c2=true:=hrc
     subst this
     simp [rgt_node]
   ·cases e with
    | none =>
     obtain⟨t',e,hs,hb⟩:=bal_black (a:=a) (k:=k) (v:=v) (s:=s) (.inl hl) hr'
     exact⟨t',e,hs,fun _=>hb (.inl hlc)⟩
    | some x =>
     obtain⟨t',e,hs,hb⟩:=bal_black (a:=a) (k:=x.1) (v:=x.2) (s:=s) (.inl hl) hr'
     exact⟨t',e,hs,fun _=>hb (.inl hlc)⟩
theorem dropF_ok:∀ (n:Nat)(t:RB)(m:Nat),(listT t).length≤n→Pre t m→∃ t',dropF n t=some t'∧Str t' m∧(isR t=false→isR t'=false)
 | 0,t,m,hn,h=>by cases h <;> simp [listT] at hn
 | n+1,.nil,m,hn,h=>by cases h
 | n+1,.node a k v s c l r,m,hn,h=>by
  unfold dropF
  cases l with
  | nil =>
   cases h with
   | black _ _ h _=>cases h
   | red h1 h2 h3 h4 =>
    cases h1
    have:=h2.nil_of h4
    subst this
    exact⟨.nil,rfl,.nil,nofun⟩
  | node b k2 v2 s2 c2 l2 r2 =>
   rw [if_neg (by simp [adr])]
   obtain⟨t1,h1,e1,hp,hne,hbal⟩:=goL_ok h nofun
   have e2:=(goL_same e1).1.list
   have hlt:(listT (lft t1)).length≤n:=by
    cases t1 with
    | nil=>exact absurd rfl hne
    | node a1 k1 v1 s1 c1 l1 r1 =>
     have:=congrArg List.length e2
     simp only [listT,List.length_append,List.length_cons,lft_node] at this hn ⊢
     omega
   obtain⟨l',e3,hs,hb⟩:=dropF_ok n (lft t1) h1 hlt hp
   obtain⟨t',e4,hs2,hb2⟩:=hbal l' hs hb
   refine⟨t',?_,hs2,hb2⟩
   rw [e1]
   show ((dropF n (lft t1)).bind fun l'=>bal (setL t1 l'))=some t'
   rw [e3]
   exact e4
theorem right_in {x:Ky} {vx:Int} {A B:List En} {k:Ky} {v:Int} (hs:SortE (A ++ (k,v) :: B))(hk:lessK k x=true)(h:(x,vx)∈A ++ (k,v) :: B):(x,vx)∈B:=by
 have hm:=sort_mid (A:=A) (x:=(k,v)) (B:=B) hs
 rcases List.mem_append.1 h with h | h
 ·have:=hm.1 _ h;rw [lessK_asym this] at hk;cases hk
 ·rcases List.mem_cons.1 h with h | h
  ·cases h;rw [lessK_irr] at hk;cases hk
  ·exact h
theorem left_in {x:Ky} {vx:Int} {A B:List En} {k:Ky} {v:Int} (hs:SortE (A ++ (k,v) :: B))(hk:lessK x k=true)(h:(x,vx)∈A ++ (k,v) :: B):(x,vx)∈A:=by
 have hm:=sort_mid (A:=A) (x:=(k,v)) (B:=B) hs
 rcases List.mem_append.1 h with h | h
 ·exact h
 ·rcases List.mem_cons.1 h with h | h
  ·cases h;rw [lessK_irr] at hk;cases hk
  ·have:=hm.2.1 _ h;rw [lessK_asym this] at hk;cases hk
theorem dropR_ok (x:Ky):∀ (n:Nat)(t:RB)(m:Nat),(listT t).length≤n→SortE (listT t)→(∃ v,(x,v)∈listT t)→Pre t m∨(PreR t m∧∀ k,keyT t=some k→lessK x k=false)→∃ t',dropR n x t=some t'∧Str t' m∧(isR t=false→isR t'=false)
 | 0,t,m,hn,_,⟨v,hv⟩,h=>by
  have:(listT t)=[]:=List.eq_nil_of_length_eq_zero (by omega)
  rw [this] at hv
  cases hv
 | n+1,.nil,m,hn,_,⟨v,hv⟩,h=>by cases hv
 | n+1,.node a k v s c l r,m,hn,hs,⟨vx,hx⟩,h=>by
  unfold dropR
  by_cases hlt:lessK x k=true
  ·rw [if_pos hlt]
   have hxl:=left_in hs hlt hx
   have hlne:l≠.nil:=by rintro rfl;cases hxl
   have hpre:Pre (.node a k v s c l r) m:=by
    rcases h with h | ⟨_,h⟩
    ·exact h
    ·rw [h k rfl] at hlt;cases hlt
   obtain⟨t1,h1,e1,hp,hne,hbal⟩:=goL_ok hpre hlne
   have e2:=(goL_same e1).1.list
   have hs1:=hs
   rw [← e2] at hs1
   have hkk:=goL_key hs e1
   obtain⟨a1,k1,v1,s1,c1,l1,r1,rfl,_⟩:=setL_node (l':=.nil) hne
   have hm1:=sort_mid (A:=listT l1) (x:=(k1,v1)) (B:=listT r1) hs1
   have hlen:(listT l1).length≤n:=by
    have:=congrArg List.length e2
    simp only [listT,List.length_append,List.length_cons] at this hn
    omega
   have hxk:lessK x k1=true:=by
    rcases hkk with e | ⟨k2,e,h5⟩
    ·cases e;exact hlt
    ·cases e;exact lessK_trans hlt h5
   have hin:(x,vx)∈listT l1:=left_in hs1 hxk (by rw [← e2] at hx;exact hx)
   obtain⟨l',e3,hs3,hb⟩:=dropR_ok x n l1 h1 hlen hm1.2.2.1 ⟨vx,hin⟩ (.inl hp)
   obtain⟨t',e4,hs4,hb4⟩:=hbal l' hs3 hb
   refine⟨t',?_,hs4,hb4⟩
   rw [e1]
   show ((dropR n x l1).bind fun l'=>bal (setL (.node a1 k1 v1 s1 c1 l1 r1) l'))=some t'
   rw [e3]
   exact e4
  ·rw [if_neg hlt]
   have hlt:lessK x k=false:=by simpa using hlt
   obtain⟨t1,e1,h1⟩:=leanR_ok (h.imp id And.left)
   have k1le:=leanR_key hs hlt e1
   have d1:=(leanR_same e1).1.list
   have hcc:isR (.node a k v s c l r)=false→isR t1=false:=by
    intro hh
    rcases h1 with ⟨_,_,h1⟩ | h1
    ·rw [h1] at hh;cases hh
    ·cases h1;rfl
   have h1':(Pre t1 m∧isR t1=true)∨PreR t1 m:=h1.imp (fun h=>⟨h.1,h.2.1⟩) id
   have hs1:=hs
   rw [← d1] at hs1
   have hx1:=hx
   rw [← d1] at hx1
   have hne1:t1≠.nil:=by rintro rfl;cases hx1
   obtain⟨a1,k1,v1,s1,c1,l1,r1,rfl,_⟩:=setL_node (l':=.nil) hne1
   have hk1:=k1le k1 rfl
   rw [e1]
   show ∃ t',(if keyT (.node a1 k1 v1 s1 c1 l1 r1)=some x∧adr r1=none then (if adr l1=none then some RB.nil else none) else _)=some t'∧_
   by_cases hend:keyT (.node a1 k1 v1 s1 c1 l1 r1)=some x∧adr r1=none
   ·rw [if_pos hend]
    have hr:=adr_none.1 hend.2
    subst hr
    rcases h1' with ⟨hp,hc⟩ | hp
    ·cases hp with
     | black=>cases hc
     | red g1 g2 g3 g4 =>
      cases g2
      have:=g1.nil_of g3
      subst this
      exact⟨.nil,rfl,.nil,fun _=>rfl⟩
    ·exfalso
     cases hp with
     | mk _ _ _ h9=>cases h9
   ·rw [if_neg hend]
    have hrne:r1≠.nil:=by
     rintro rfl
     have hk1x:keyT (.node a1 k1 v1 s1 c1 l1 .nil)≠some x:=fun hh=>hend ⟨hh,rfl⟩
     cases e:lessK k1 x
     ·exact hk1x (by rw [lessK_tri hk1 e];rfl)
     ·have:=right_in hs1 e hx1
      cases this
    obtain⟨t2,h2,e2,hne2,hp2,hbal⟩:=goR_ok h1' hrne
    have d2:=(goR_same e2).1.list
    have k2le:=goR_key hs1 k1le e2
    obtain⟨a2,k2,v2,s2,c2,l2,r2,rfl,_⟩:=setL_node (l':=.nil) hne2
    have hk2:=k2le k2 rfl
    have hs2:=hs1
    rw [← d2] at hs2
    have hx2:=hx1
    rw [← d2] at hx2
    have hm2:=sort_mid (A:=listT l2) (x:=(k2,v2)) (B:=listT r2) hs2
    have hlen:(listT r2).length≤n:=by
     have d:=congrArg List.length (d2.trans d1)
     simp only [listT,List.length_append,List.length_cons] at d hn
     omega
    rw [e2]
    show ∃ t',(if keyT (.node a2 k2 v2 s2 c2 l2 r2)=some x then (firstE r2).bind fun e=>(dropF n r2).bind fun r'=>bal (setR (setE (.node a2 k2 v2 s2 c2 l2 r2) e) r') else (dropR n x r2).bind fun r'=>bal (setR (.node a2 k2 v2 s2 c2 l2 r2) r'))=some t'∧_
    by_cases hxe:keyT (.node a2 k2 v2 s2 c2 l2 r2)=some x
    ·rw [if_pos hxe]
     cases hxe
     have hpre:Pre r2 h2:=by
      rcases hp2 with ⟨hp,_⟩ | ⟨_,_,hlne,hkk⟩
      ·exact hp
      ·have hmm:=sort_mid (A:=listT l1) (x:=(k1,v1)) (B:=listT r1) hs1
       cases l1 with
       | nil=>exact absurd rfl hlne
       | node b k3 v3 s3 c3 l3 r3 =>
        cases hkk
        have:=hmm.1 (x,v3) (by simp [listT])
        rw [this] at hk1
        cases hk1
     have hrne2:r2≠.nil:=by rintro rfl;cases hpre
     obtain⟨e0,L0,_,q2⟩:=first_some r2 hrne2
     obtain⟨r',e3,hs3,hb⟩:=dropF_ok n r2 h2 hlen hpre
     obtain⟨t',e4,hs4,hb4⟩:=hbal r' hs3 hb (some e0)
     refine⟨t',?_,hs4,fun hh=>hb4 (hcc hh)⟩
     rw [q2]
     show ((dropF n r2).bind fun r'=>bal (setR (setE (.node a2 x v2 s2 c2 l2 r2) e0) r'))=some t'
     rw [e3]
     exact e4
    ·rw [if_neg hxe]
     have hlt2:lessK k2 x=true:=by
      cases e:lessK k2 x
      ·exact absurd (by rw [lessK_tri hk2 e];rfl) hxe
      ·rfl
     have hin:=right_in hs2 hlt2 hx2
     have hpre:Pre r2 h2∨(PreR r2 h2∧∀ k,keyT r2=some k→lessK x k=false):=by
      rcases hp2 with ⟨hp,_⟩ | ⟨hp,hkr,_⟩
      ·exact .inl hp
      ·refine .inr ⟨hp,fun k' hk'=>?_⟩
       have hkr:keyT r2=some k1:=hkr
       rw [hkr] at hk'
       cases hk'
       exact hk1
     obtain⟨r',e3,hs3,hb⟩:=dropR_ok x n r2 h2 hlen hm2.2.2.2 ⟨vx,hin⟩ hpre
     obtain⟨t',e4,hs4,hb4⟩:=hbal r' hs3 hb none
     refine⟨t',?_,hs4,fun hh=>hb4 (hcc hh)⟩
     rw [e3]
     exact e4
def blackT:RB→RB
 | .nil=>.nil
 | .node a k v s _ l r=>.node a k v s false l r
def redT:RB→RB
 | .nil=>.nil
 | .node a k v s _ l r=>.node a k v s true l r
def Well (t:RB):Prop:=isR t=false∧(∃ n,Str t n)∧SumOk t∧SortE (listT t)
theorem blackT_same (t:RB):listT (blackT t)=listT t∧addrs (blackT t)=addrs t∧(SumOk t→SumOk (blackT t))∧isR (blackT t)=false:=by
 cases t with
 | nil=>exact⟨rfl,rfl,id,rfl⟩
 | node=>exact⟨rfl,rfl,id,rfl⟩
theorem blackT_str {t:RB} {n:Nat} (h:Str t n∨Alm t n):∃ m,Str (blackT t) m:=by
 rcases h with h | h
 ·cases h with
  | nil=>exact⟨0,.nil⟩
  | red h1 h2 h3 h4=>exact⟨_,.black h1 h2 h4⟩
  | black h1 h2 h3=>exact⟨_,.black h1 h2 h3⟩
 ·cases h with
  | mk h1 h2 h3=>exact⟨_,.black h1 h2 h3⟩
theorem mem_insE {e:En}:∀ {L:List En} {z:En},z∈insE L e↔z=e∨z∈L
 | [],z=>by simp [insE]
 | x :: L,z=>by
  unfold insE
  split
  ·simp
  ·simp only [List.mem_cons,mem_insE (L:=L)]
   constructor
   ·rintro (h | h | h)
    ·exact .inr (.inl h)
    ·exact .inl h
    ·exact .inr (.inr h)
   ·rintro (h | h | h)
    ·exact .inr (.inl h)
    ·exact .inl h
    ·exact .inr (.inr h)
theorem sort_ins {e:En}:∀ {L:List En},SortE L→(∀ z∈L,z.1≠e.1)→SortE (insE L e)
 | [],_,_=>by simp [insE,SortE]
 | x :: L,h,hn=>by
  have h1:=(List.pairwise_cons.1 h).1
  unfold insE
  split
  ·rename_i hlt
   refine List.pairwise_cons.2 ⟨fun z hz=>?_,h⟩
   rcases List.mem_cons.1 hz with rfl | hz
   ·exact hlt
   ·exact lessK_trans hlt (h1 z hz)
  ·rename_i hlt
   have hlt:lessK e.1 x.1=false:=by simpa using hlt
   refine List.pairwise_cons.2 ⟨fun z hz=>?_,sort_ins (List.pairwise_cons.1 h).2 fun z hz=>hn z (.tail _ hz)⟩
   rcases mem_insE.1 hz with rfl | hz
   ·cases e2:lessK x.1 z.1
    ·exact absurd (lessK_tri e2 hlt) (hn x (.head _))
    ·rfl
   ·exact h1 z hz
theorem sort_del {L:List En} (h:SortE L)(x:Ky):SortE (delE L x):=List.Pairwise.filter _ h
theorem Well.put {t:RB} (h:Well t)(a:Nat)(k:Ky)(v:Int)(hn:∀ z∈listT t,z.1≠k) :
  ∃ t',putR a k v t=some t'∧t'≠.nil∧Well (blackT t')∧listT (blackT t')=insE (listT t) (k,v)∧(addrs (blackT t')).Perm (a :: addrs t):=by
 obtain⟨hr,⟨n,hs⟩,hk,ho⟩:=h
 obtain⟨t',e,h1,_⟩:=put_ok a k v t n hs
 have h2:=put_list a k v t t' ho e
 have hb:=blackT_same t'
 refine⟨t',e,?_,⟨hb.2.2.2,blackT_str (.inl (h1 hr)),hb.2.2.1 (h2.2.2 hk),?_⟩,hb.1.trans h2.1,hb.2.1 ▸ h2.2.1⟩
 ·rintro rfl
  have:=h2.2.1.length_eq
  simp [addrs] at this
 ·rw [hb.1,h2.1]
  exact sort_ins ho hn
def startT (t:RB):RB:=if isR (lft t)=false∧isR (rgt t)=false then redT t else t
theorem Well.drop {t:RB} (h:Well t)(x:Ky)(hx:∃ v,(x,v)∈listT t) :
  ∃ t',dropR (listT t).length x (startT t)=some t'∧Well (blackT t')∧listT (blackT t')=delE (listT t) x∧∃ b,(addrs t).Perm (b :: addrs (blackT t')):=by
 obtain⟨hr,⟨n,hs⟩,hk,ho⟩:=h
 have hq:listT (startT t)=listT t∧addrs (startT t)=addrs t∧(SumOk t→SumOk (startT t)):=by
  unfold startT
  split
  ·cases t <;> exact⟨rfl,rfl,id⟩
  ·exact⟨rfl,rfl,id⟩
 have hp:∃ m,Pre (startT t) m:=by
  cases hs with
  | nil=>obtain⟨v,hv⟩:=hx;cases hv
  | red=>cases hr
  | @black a k v s l r n h1 h2 h3 =>
   unfold startT
   rw [lft_node,rgt_node]
   cases hc:isR l
   ·rw [if_pos ⟨rfl,h3⟩];exact⟨n,.red h1 h2 hc h3⟩
   ·rw [if_neg (by simp)];exact⟨n+1,.black h1 h2 hc h3⟩
 obtain⟨m,hp⟩:=hp
 obtain⟨t',e,h1,_⟩:=dropR_ok x (listT t).length (startT t) m (by rw [hq.1];exact Nat.le_refl _) (by rw [hq.1];exact ho) (by rw [hq.1];exact hx) (.inl hp)
 have h2:=dropR_list x _ _ _ (by rw [hq.1];exact ho) e
 rw [hq.1,hq.2.1] at h2
 have hb:=blackT_same t'
 refine⟨t',e,⟨hb.2.2.2,blackT_str (.inl h1),hb.2.2.1 (h2.2.2 (hq.2.2 hk)),?_⟩,hb.1.trans h2.1,hb.2.1 ▸ h2.2.1⟩
 rw [hb.1,h2.1]
 exact sort_del ho x
theorem Well.nil:Well .nil:=⟨rfl,⟨0,.nil⟩,trivial,List.Pairwise.nil⟩
end
end Go.Proofs.YtmmeopjemkjllaaGreat
