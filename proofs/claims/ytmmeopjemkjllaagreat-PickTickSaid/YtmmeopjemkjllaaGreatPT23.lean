/- Lemmas of the claim. No conditions beyond those that each states. -/
import Derived.Test.YtmmeopjemkjllaaGreatPT1
import Derived.Deep.Slices
import Derived.Deep.Fields
import Derived.ChangeSame
import Derived.ChangeOld
import Derived.Lib.SmallJoins
set_option linter.unusedVariables false
set_option linter.unusedSimpArgs false
set_option maxRecDepth 100000
set_option maxHeartbeats 8000000
namespace Go.Proofs.YtmmeopjemkjllaaGreat
section
open Go.ChangeShapes Go.WideShapes Go.Deep
def KindsFit:List (Option IntKind)→List Value→Prop
 | [],[]=>True
 | some k :: ks,v :: vs=>(∃ n,v=.int k n∧(Lit.int k n).wf=true)∧KindsFit ks vs
 | none :: ks,v :: vs=>(∃ b,v=.bool b)∧KindsFit ks vs
 | _,_=>False
def IsRows (ks:List (Option IntKind))(w:World)(a:Option Addr)(len cap:Nat)(z:List (List Value)):Prop :=
 len≤cap∧cap≤maxLen∧z.length=len∧(∀ row∈z,KindsFit ks row) ∧
 (len=0∨∃ b off,a=some ⟨b,off,none⟩∧b < w.heap.size∧∀ i row,z[i]?=some row→∀ j v,row[j]?=some v→w.cell? ⟨b,off+(i*ks.length+j),none⟩=some v)
section
variable {H : Type} {enc : TypeId × Value → H} {P : Program} {w : World} {base : Nat} {spare : Nat → Bool} {held : Bool}
theorem list_of {α:Type} [Inhabited α] (R:Nat→α→Prop)(n:Nat)(h:∀ i,i < n→∃ x,R i x):∃ z:List α,z.length=n∧∀ i x,z[i]?=some x→R i x:=by
 induction n with
 | zero=>exact⟨[],rfl,fun i x hx=>by simp at hx⟩
 | succ n ih =>
  obtain⟨z,hz,hr⟩:=ih fun i hi=>h i (by omega)
  obtain⟨x,hx⟩:=h n (by omega)
  refine⟨z ++ [x],by simp [hz],fun i y hy=>?_⟩
  by_cases hi:i < n
  ·exact hr i y (by rw [List.getElem?_append_left (by omega)] at hy;exact hy)
  ·rw [List.getElem?_append_right (by omega)] at hy
   have:i - z.length=0:=by
    have:=(List.getElem?_eq_some_iff.1 hy).1
    simp at this;omega
   rw [this] at hy
   simp at hy
   subst hy
   obtain rfl:i=n:=by omega
   exact hx
end
end
end Go.Proofs.YtmmeopjemkjllaaGreat
