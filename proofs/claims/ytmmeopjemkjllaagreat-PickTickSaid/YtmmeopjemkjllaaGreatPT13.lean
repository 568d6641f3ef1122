/- Lemmas of the claim. No conditions beyond those that each states. -/
import Derived.Test.YtmmeopjemkjllaaGreatPT11
import Derived.Test.YtmmeopjemkjllaaGreatPT12
set_option linter.unusedVariables false
set_option linter.unusedSimpArgs false
set_option maxRecDepth 100000
set_option maxHeartbeats 8000000
namespace Go.Proofs.YtmmeopjemkjllaaGreat
section
open Go.RowKit
theorem reach_eq {F L R y:Int} (hF:U F)(hL:U L)(hR:U R)(hL1:L≤1099511627776)(hy0:0≤y)(hy:y≤4611686018427387904) :
  (reachL 0 y (piecesOf F L R hF hL hR)).getD 9223372036854775808=reachC F L R y:=by
 have h3:=hL.1
 have wr:∀ n z c:Int,0≤n→n≤1099511627776→0≤cap (ceil z c)→IntKind.u64.wrap (n+cap (ceil z c))=n+cap (ceil z c):=fun n z c h1 h2 h4=>wrap_u (by have:=cap_le (ceil z c);unfold U;omega)
 have cn:∀ z c:Int,0≤z→0≤c→(z≤cap (c*18446744073709551615)∨∃ l,0≤l∧z≤cap (c*l))→z≠0→0≤cap (ceil z c):=fun z c h1 h2 h4 h5=>by
  refine cap_nonneg ?_
  by_cases hc:1≤c
  ·exact ceil_nonneg hc h1
  ·have:c=0:=by omega
   subst this
   rcases h4 with h4 | ⟨l,_,h4⟩ <;> (rw [Int.zero_mul] at h4;unfold cap at h4;omega)
 have hno:¬ 4611686018427387904 < y:=by omega
 unfold reachC piecesOf
 rw [if_neg hno]
 by_cases h:0 < L
 ·simp only [h,if_true,true_and]
  rw [reachL]
  by_cases c1:y≤cap (F*L)
  ·rw [if_pos c1,if_pos c1]
   by_cases y0:y=0
   ·rw [if_pos y0,if_pos y0];rfl
   ·rw [if_neg y0,if_neg y0,wr 0 _ _ (by omega) (by omega) (cn _ _ hy0 hF.1 (.inr ⟨L,h3,c1⟩) y0),Int.zero_add];rfl
  ·rw [if_neg c1,if_neg c1]
   have hz:0≤y - cap (F*L):=by omega
   rw [show IntKind.u64.wrap (0+L)=L by rw [Int.zero_add];exact wrap_u hL,reachL]
   by_cases c2:y - cap (F*L)≤cap (R*18446744073709551615)
   ·have hz0:¬ y - cap (F*L)=0:=by omega
    rw [if_pos c2,if_pos c2,if_neg hz0,if_neg hz0,wr _ _ _ h3 hL1 (cn _ _ hz hR.1 (.inl c2) (by omega))];rfl
   ·rw [if_neg c2,if_neg c2];rfl
 ·have hL0:L=0:=by omega
  subst hL0
  simp only [h,if_false,false_and]
  rw [reachL]
  by_cases c2:y≤cap (R*18446744073709551615)
  ·rw [if_pos c2,if_pos c2]
   by_cases y0:y=0
   ·rw [if_pos y0,if_pos y0];rfl
   ·rw [if_neg y0,if_neg y0,wr 0 _ _ (by omega) (by omega) (cn _ _ hy0 hR.1 (.inl c2) y0)];rfl
  ·rw [if_neg c2,if_neg c2];rfl
theorem reach_any (F L R y:Int)(w:World)(hF:U F)(hL:U L)(hR:U R)(hL1:L≤1099511627776)(hy:U y) :
  Calls Tryz.prog 275 #[.agg #[.int .u64 F,.int .u64 L,.int .u64 R],.int .u64 y] w fun e w'=>e=.returned (.int .u64 (reachC F L R y))∧Below w.heap.size w w':=by
 by_cases h:4611686018427387904 < y
 ·rw [reachC_over h];exact reach_over F L R y w h
 ·have h1:=reach_loop F L R y w hF hL hR hy.1 (by omega)
  rwa [reach_eq hF hL hR hL1 hy.1 (by omega)] at h1
def mayB (F L R:Int):Bool:=decide (F≤1048576) && decide (R≤1048576) && decide (L≤1099511627776) && (if L=0 then decide (F=0) else decide (F≠R))
theorem mayB_spec {F L R:Int} (hF:0≤F)(hL:0≤L)(hR:0≤R)(h:mayB F L R=true):MayC F L R:=by
 unfold mayB at h
 simp only [Bool.and_eq_true,decide_eq_true_eq] at h
 obtain⟨⟨⟨h1,h2⟩,h3⟩,h4⟩:=h
 exact⟨hF,h1,hR,h2,hL,h3,fun h0=>by simpa [h0] using h4⟩
theorem may_any (F L R:Int)(w:World)(hL:0≤L) :
  Calls Tryz.prog 82 #[.agg #[.int .u64 F,.int .u64 L,.int .u64 R]] w fun e w'=>e=.returned (.bool (mayB F L R))∧Below w.heap.size w w':=by
 by_cases h1:F≤1048576
 ·by_cases h2:R≤1048576
  ·by_cases h3:L≤1099511627776
   ·by_cases h4:L=0
    ·subst h4
     have e:mayB F 0 R=decide (F=0):=by simp [mayB,h1,h2]
     have E:=Lib.hid e;clear e
     by_cases h5:F=0
     ·subst h5
      go_enter Tryz.func82,Tryz.ntmps82
      go_wp2
      go_ret
      exact⟨by rw [E.out];rfl,by go_grown⟩
     ·have h5b:(F == 0)=false:=by simpa using h5
      go_enter Tryz.func82,Tryz.ntmps82
      go_wp2
      go_ret
      exact⟨by rw [E.out];simp [h5],by go_grown⟩
    ·have h4b:(L == 0)=false:=by simpa using h4
     have e:mayB F L R=decide (F≠R):=by simp [mayB,h1,h2,h3,h4]
     have E:=Lib.hid e;clear e
     by_cases h5:F=R
     ·subst h5
      have h5b:(F != F)=false:=by simp
      go_enter Tryz.func82,Tryz.ntmps82
      go_wp2
      go_ret
      exact⟨by rw [E.out];simp,by go_grown⟩
     ·have h5b:(F != R)=true:=by simpa using h5
      go_enter Tryz.func82,Tryz.ntmps82
      go_wp2
      go_ret
      exact⟨by rw [E.out];simp [h5],by go_grown⟩
   ·have E:=Lib.hid (show mayB F L R=false by simp [mayB,h3])
    go_enter Tryz.func82,Tryz.ntmps82
    go_wp2
    go_ret
    exact⟨by rw [E.out];rfl,by go_grown⟩
  ·have E:=Lib.hid (show mayB F L R=false by simp [mayB,h2])
   go_enter Tryz.func82,Tryz.ntmps82
   go_wp2
   go_ret
   exact⟨by rw [E.out];rfl,by go_grown⟩
 ·have E:=Lib.hid (show mayB F L R=false by simp [mayB,h1])
  go_enter Tryz.func82,Tryz.ntmps82
  go_wp2
  go_ret
  exact⟨by rw [E.out];rfl,by go_grown⟩
theorem bent_any (F L R:Int)(w:World) :
  Calls Tryz.prog 149 #[.agg #[.int .u64 F,.int .u64 L,.int .u64 R]] w fun e w'=>e=.returned (.bool (decide (R < F)))∧Below w.heap.size w w':=by
 go_enter Tryz.func149,Tryz.ntmps149
 go_wp2
 go_ret
 exact⟨rfl,by go_grown⟩
end
end Go.Proofs.YtmmeopjemkjllaaGreat
