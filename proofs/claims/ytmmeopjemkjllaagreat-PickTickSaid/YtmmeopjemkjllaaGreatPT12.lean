/- Lemmas of the claim. No conditions beyond those that each states. -/
import Derived.Test.YtmmeopjemkjllaaGreatPT6
set_option linter.unusedVariables false
set_option linter.unusedSimpArgs false
set_option maxRecDepth 100000
set_option maxHeartbeats 8000000
namespace Go.Proofs.YtmmeopjemkjllaaGreat
section
def W (F L R t:Int):Int:=F*min t L+R*(t - min t L)
structure MayC (F L R:Int):Prop where
 f0:0≤F
 f1:F≤1048576
 r0:0≤R
 r1:R≤1048576
 l0:0≤L
 l1:L≤1099511627776
 fl:L=0→F=0
theorem W_early {F L R t:Int} (h:t≤L):W F L R t=F*t:=by
 unfold W;rw [Int.min_eq_left h,Int.sub_self,Int.mul_zero,Int.add_zero]
theorem W_late {F L R t:Int} (h:L≤t):W F L R t=F*L+R*(t - L):=by
 unfold W;rw [Int.min_eq_right h]
theorem W_zero {F L R:Int} (hL:0≤L):W F L R 0=0:=by rw [W_early hL,Int.mul_zero]
theorem W_nonneg {F L R t:Int} (hF:0≤F)(hR:0≤R)(hL:0≤L)(ht:0≤t):0≤W F L R t:=by
 unfold W
 have h1:=Int.mul_nonneg hF (show 0≤min t L by omega)
 have h2:=Int.mul_nonneg hR (show 0≤t - min t L by omega)
 omega
theorem W_mono {F L R t u:Int} (hF:0≤F)(hR:0≤R)(h:t≤u):W F L R t≤W F L R u:=by
 unfold W
 have h1:=Int.mul_le_mul_of_nonneg_left (show min t L≤min u L by omega) hF
 have h2:=Int.mul_le_mul_of_nonneg_left (show t - min t L≤u - min u L by omega) hR
 omega
theorem ceil_mul {y c:Int} (hc:1≤c):y≤c*ceil y c:=by
 have h:=Int.lt_mul_ediv_self_add (x:=y+c - 1) (k:=c) (by omega)
 unfold ceil
 omega
theorem ceil_lt {y c t:Int} (hc:1≤c)(h:t < ceil y c):c*t < y:=by
 unfold ceil at h
 have h1:=Int.mul_ediv_self_le (x:=y+c - 1) (k:=c) (by omega)
 have h2:=Int.mul_le_mul_of_nonneg_left (show t+1≤(y+c - 1) / c by omega) (show 0≤c by omega)
 rw [Int.mul_add] at h2
 omega
theorem ceil_nonneg {y c:Int} (hc:1≤c)(hy:0≤y):0≤ceil y c:=by
 unfold ceil;exact Int.ediv_nonneg (by omega) (by omega)
theorem ceil_pos {y c:Int} (hc:1≤c)(hy:1≤y):1≤ceil y c:=by
 have h:=ceil_mul (y:=y) hc
 have h0:=ceil_nonneg (y:=y) hc (by omega)
 by_cases h1:ceil y c=0
 ·rw [h1,Int.mul_zero] at h;omega
 ·omega
theorem ceil_le {y c:Int} (hc:1≤c)(hy:0≤y):ceil y c≤y:=by
 by_cases h:y < ceil y c
 ·have h1:=ceil_lt hc h
  have h2:=Int.mul_le_mul_of_nonneg_right hc hy
  omega
 ·omega
def reachC (F L R y:Int):Int :=
 if 4611686018427387904 < y then 9223372036854775808
 else if 0 < L∧y≤cap (F*L) then (if y=0 then 0 else cap (ceil y F))
 else if (if 0 < L then y - cap (F*L) else y)≤cap (R*18446744073709551615) then
  (if (if 0 < L then y - cap (F*L) else y)=0 then (if 0 < L then L else 0) else (if 0 < L then L else 0)+cap (ceil (if 0 < L then y - cap (F*L) else y) R))
 else 9223372036854775808
def First (F L R y r:Int):Prop :=
 (r=9223372036854775808∧∀ t,0≤t→W F L R t < y)∨(0≤r∧r≤4611687117939015680∧y≤W F L R r∧∀ t,0≤t→t < r→W F L R t < y)
theorem reachC_over {F L R y:Int} (h:4611686018427387904 < y):reachC F L R y=9223372036854775808:=by unfold reachC;rw [if_pos h]
theorem reachC_zero {F L R:Int} (h:MayC F L R):reachC F L R 0=0:=by
 unfold reachC
 rw [if_neg (by omega)]
 have h1:=cap_nonneg (Int.mul_nonneg h.f0 h.l0)
 have h2:=cap_nonneg (n:=R*18446744073709551615) (Int.mul_nonneg h.r0 (by decide))
 by_cases hL:0 < L
 ·rw [if_pos ⟨hL,h1⟩,if_pos rfl]
 ·rw [if_neg (by omega)];simp only [hL,if_false,if_true];rw [if_pos h2]
theorem reachC_spec {F L R y:Int} (h:MayC F L R)(hy0:0≤y)(hy:y≤4611686018427387904):First F L R y (reachC F L R y):=by
 have hF:=h.f0;have hR:=h.r0;have hL0:=h.l0;have hL1:=h.l1
 have hFL:=Int.mul_nonneg hF hL0
 have hRM:1≤R→cap (R*18446744073709551615)=4611686018427387904:=fun hR1=>cap_of_ge (by omega)
 by_cases y0:y=0
 ·subst y0
  rw [reachC_zero h]
  exact .inr ⟨by omega,by omega,by rw [W_zero hL0];omega,fun t h1 h2=>by omega⟩
 unfold reachC
 rw [if_neg (by omega)]
 by_cases c1:0 < L∧y≤cap (F*L)
 ·rw [if_pos c1,if_neg y0]
  obtain⟨hL,h1⟩:=c1
  have h2:=cap_le_self (F*L)
  have hF1:1≤F:=by
   by_cases hF0:F=0
   ·subst hF0;rw [Int.zero_mul] at h2 h1;omega
   ·omega
  have h3:=ceil_le hF1 hy0
  rw [cap_of_le (by omega)]
  have h4:ceil y F≤L:=by
   by_cases hlt:L < ceil y F
   ·have:=ceil_lt hF1 hlt;omega
   ·omega
  refine .inr ⟨ceil_nonneg hF1 hy0,by omega,by rw [W_early h4];exact ceil_mul hF1,fun t ht htr=>by rw [W_early (by omega)];exact ceil_lt hF1 htr⟩
 ·rw [if_neg c1]
  by_cases hL:0 < L
  ·simp only [hL,if_true]
   have h1:cap (F*L) < y:=by omega
   have h2:cap (F*L)=F*L:=cap_of_le (by unfold cap at h1;omega)
   rw [h2] at h1 ⊢
   by_cases hR1:1≤R
   ·rw [hRM hR1,if_pos (by omega),if_neg (by omega)]
    have h3:=ceil_le hR1 (show 0≤y - F*L by omega)
    have h4:=ceil_pos hR1 (show 1≤y - F*L by omega)
    rw [cap_of_le (by omega)]
    refine .inr ⟨by omega,by omega,?_,fun t ht htr=>?_⟩
    ·rw [W_late (by omega),show L+ceil (y - F*L) R - L=ceil (y - F*L) R by omega]
     have:=ceil_mul (y:=y - F*L) hR1
     omega
    ·by_cases hlt:t≤L
     ·have:=W_mono (F:=F) (L:=L) (R:=R) hF hR hlt
      rw [W_early (Int.le_refl L)] at this
      omega
     ·rw [W_late (by omega)]
      have:=ceil_lt (y:=y - F*L) (t:=t - L) hR1 (by omega)
      omega
   ·have hR0:R=0:=by omega
    subst hR0
    rw [Int.zero_mul,if_neg (by unfold cap;omega)]
    refine .inl ⟨rfl,fun t ht=>?_⟩
    have h5:=Int.mul_le_mul_of_nonneg_left (show min t L≤L by omega) hF
    unfold W
    omega
  ·have hL':L=0:=by omega
   subst hL'
   simp only [hL,if_false]
   by_cases hR1:1≤R
   ·rw [hRM hR1,if_pos (by omega),if_neg (by omega)]
    have h3:=ceil_le hR1 hy0
    have h4:=ceil_pos hR1 (show 1≤y by omega)
    rw [cap_of_le (by omega)]
    refine .inr ⟨by omega,by omega,?_,fun t ht htr=>?_⟩
    ·rw [W_late (by omega)]
     have:=ceil_mul (y:=y) hR1
     simp;omega
    ·rw [W_late (by omega)]
     have:=ceil_lt (y:=y) (t:=t) hR1 (by omega)
     simp;omega
   ·have hR0:R=0:=by omega
    subst hR0
    rw [Int.zero_mul,if_neg (by unfold cap;omega)]
    refine .inl ⟨rfl,fun t ht=>?_⟩
    rw [W_late (by omega)]
    simp;omega
end
end Go.Proofs.YtmmeopjemkjllaaGreat
