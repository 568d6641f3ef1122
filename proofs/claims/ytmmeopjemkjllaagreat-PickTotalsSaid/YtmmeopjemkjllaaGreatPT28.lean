/- Lemmas of the claim. No conditions beyond those that each states. -/
import Derived.Test.YtmmeopjemkjllaaGreatPT27
import Derived.Deep.RegionLaw
import Derived.RegionTactic
import Derived.BigRegion
set_option linter.unusedVariables false
set_option linter.unusedSimpArgs false
set_option maxRecDepth 100000
set_option maxHeartbeats 8000000
namespace Go.Proofs.YtmmeopjemkjllaaGreat
section
open Go.RowKit
noncomputable def ansI (v:Int→Int)(x y:Int):Int:=Classical.epsilon fun n=>Back v x y n
noncomputable def qR (F L R x:Int)(A:List (Int × Int))(y:Int):Int:=if A.isEmpty then nevB y else ansI (fun t=>vA F L R A (max t x)) x y
theorem ans_unique {v:Int→Int} {x y n m:Int} (h:Back v x y n)(k:Back v x y m)(hm:∀ t u,x≤t→t≤u→v t≤v u):n=m:=by
 have h1:=Back.less h k hm (fun _ _=>Int.le_refl _)
 have h2:=Back.less k h hm (fun _ _=>Int.le_refl _)
 omega
theorem Back.ans {v:Int→Int} {x y n:Int} (h:Back v x y n)(hm:∀ t u,x≤t→t≤u→v t≤v u):n=ansI v x y :=
 ans_unique h (Classical.epsilon_spec (p:=fun n=>Back v x y n) ⟨n,h⟩) hm
theorem Ans.fix {v:Int→Int} {x y:Int} {w w':World} {e:Ending} (hm:∀ t u,x≤t→t≤u→v t≤v u)(h:Ans v x y w e w'):e=.returned (.int .u64 (ansI v x y))∧Below w.heap.size w w':=by
 obtain⟨n,rfl,hk,_,_,hb⟩:=h
 exact⟨by rw [hk.ans hm],hb⟩
theorem not_empty {A:List (Int × Int)} (h:A≠[]):A.isEmpty=false:=by cases A with | nil=>exact absurd rfl h | cons _ _=>rfl
section
variable {w w' : World} {r base : Nat} {F L R x : Int} {A : List (Int × Int)} {vx vy : Value}
end
end
section
open Go.RowKit
section
variable {w w' : World} {r g : Nat} {F L R x : Int} {A : List (Int × Int)}
theorem urun_reach (h:RunAt w r g F L R x A)(y:Int)(hy:U y) :
  Calls Tryz.prog 102 #[.pointer (some ⟨r,0,none⟩),.int .u64 y] w fun e w'=>e=.returned (.int .u64 (qR F L R x A y))∧Below w.heap.size w w':=by
 by_cases hA:A=[]
 ·subst hA;exact run_reach0 h y
 ·have e:qR F L R x A y=ansI (fun t=>vA F L R A (max t x)) x y:=by unfold qR;rw [not_empty hA];rfl
  rw [e];exact (run_reach h hA y hy).mono fun _ _ k=>k.fix (vA_max_mono h.may h.num.1)
end
end
end Go.Proofs.YtmmeopjemkjllaaGreat
