/- Lemmas of the claim. No conditions beyond those that each states. -/
set_option linter.unusedVariables false
set_option linter.unusedSimpArgs false
set_option maxRecDepth 100000
set_option maxHeartbeats 8000000
namespace Go.Proofs.YtmmeopjemkjllaaGreat
section
def hiW (n:Int):Int:=n / 18446744073709551616
def loW (n:Int):Int:=n % 18446744073709551616
def num (h l:Int):Int:=h*18446744073709551616+l
def U (n:Int):Prop:=0≤n∧n≤18446744073709551615
theorem num_words (n:Int):num (hiW n) (loW n)=n:=by unfold num hiW loW;omega
theorem U_lo (n:Int):U (loW n):=by unfold U loW;omega
theorem U_hi {n:Int} (h:0≤n)(h':n < 340282366920938463463374607431768211456):U (hiW n):=by unfold U hiW;omega
theorem hi_small {n:Int} (h:U n):hiW n=0:=by unfold U at h;unfold hiW;omega
theorem lo_small {n:Int} (h:U n):loW n=n:=by unfold U at h;unfold loW;omega
def cmpI (a b:Int):Int:=if a < b then -1 else if a=b then 0 else 1
theorem cmpI_lt {a b:Int} (h:a < b):cmpI a b=-1:=by simp [cmpI,h]
theorem cmpI_gt {a b:Int} (h:b < a):cmpI a b=1:=by unfold cmpI;rw [if_neg (by omega),if_neg (by omega)]
theorem cmpI_eq {a b:Int} (h:a=b):cmpI a b=0:=by subst h;simp [cmpI]
theorem cmpI_ne {a b:Int} (h:(cmpI a b != 0)=true):a≠b:=by rintro rfl;simp [cmpI] at h
theorem cmpI_same {a b:Int} (h:(cmpI a b != 0)=false):a=b:=by
 unfold cmpI at h
 by_cases h1:a < b
 ·simp [h1] at h
 ·by_cases h2:a=b
  ·exact h2
  ·simp [h1,h2] at h
theorem cmpI_hi {a b c d:Int} (h:a≠c)(hb:U b)(hd:U d):cmpI a c=cmpI (num a b) (num c d):=by
 unfold U at hb hd
 by_cases h1:a < c
 ·rw [cmpI_lt h1,cmpI_lt (by unfold num;omega)]
 ·rw [cmpI_gt (by omega),cmpI_gt (by unfold num;omega)]
theorem cmpI_lo {a b d:Int}:cmpI b d=cmpI (num a b) (num a d):=by
 by_cases h1:b < d
 ·rw [cmpI_lt h1,cmpI_lt (by unfold num;omega)]
 ·by_cases h2:b=d
  ·rw [cmpI_eq h2,cmpI_eq (by unfold num;omega)]
  ·rw [cmpI_gt (by omega),cmpI_gt (by unfold num;omega)]
def cap (n:Int):Int:=if 4611686018427387904 < n then 4611686018427387904 else n
theorem cap_le (n:Int):cap n≤4611686018427387904:=by unfold cap;omega
theorem cap_nonneg {n:Int} (h:0≤n):0≤cap n:=by unfold cap;omega
theorem cap_le_self (n:Int):cap n≤n:=by unfold cap;omega
theorem U_cap {n:Int} (h:0≤n):U (cap n):=by unfold U cap;omega
theorem cap_of_le {n:Int} (h:n≤4611686018427387904):cap n=n:=by unfold cap;omega
theorem cap_of_ge {n:Int} (h:4611686018427387904≤n):cap n=4611686018427387904:=by unfold cap;omega
def less (a b:Int):Int:=if a < b then 0 else cap (a - b)
theorem U_less {a b : Int} : U (less a b) := by unfold less; split; · exact ⟨by omega, by omega⟩
                                                exact U_cap (by omega)
def ceil (y c:Int):Int:=(y+c - 1) / c
def few (r:Int):Int:=if 1 < r then 1 else r
theorem U_few {r:Int} (h:0≤r):U (few r):=by unfold U few;omega
theorem ceil_eq {y c:Int} (hc:1≤c):y / c+few (y % c)=ceil y c:=by
 have h1:=Int.emod_nonneg y (show c≠0 by omega)
 have h2:=Int.emod_lt_of_pos y (show 0 < c by omega)
 unfold few ceil
 generalize hq:y / c=q at *
 generalize hr:y % c=r at *
 have h3:c*q+r=y:=by rw [← hq,← hr];exact Int.mul_ediv_add_emod y c
 have h4:y+c - 1=(r+c - 1)+c*q:=by omega
 rw [h4,Int.add_mul_ediv_left _ _ (by omega)]
 by_cases h:r=0
 ·subst h
  rw [if_neg (by omega),Int.ediv_eq_zero_of_lt (by omega) (by omega)]
  exact Int.add_comm _ _
 ·have h5:(r+c - 1) / c=1:=by
   rw [show r+c - 1=(r - 1)+c*1 by omega,Int.add_mul_ediv_left _ _ (by omega),Int.ediv_eq_zero_of_lt (by omega) (by omega)];rfl
  rw [h5]
  split <;> omega
theorem div_U {l c:Int} (h:U l)(hc:1≤c):U (l / c):=by
 unfold U at h ⊢
 exact⟨Int.ediv_nonneg h.1 (by omega),Int.le_trans (Int.ediv_le_self _ h.1) h.2⟩
end
end Go.Proofs.YtmmeopjemkjllaaGreat
