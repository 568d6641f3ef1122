/- Lemmas of the claim. No conditions beyond those that each states. -/
import Derived.Test.YtmmeopjemkjllaaGreatPU12
import Derived.Test.YtmmeopjemkjllaaGreatPU16
import Derived.Shelf.RegionOpen
import Derived.LoopNIn
import Derived.LoopIn
set_option linter.unusedVariables false
set_option linter.unusedSimpArgs false
set_option maxRecDepth 100000
set_option maxHeartbeats 8000000
namespace Go.Proofs.YtmmeopjemkjllaaGreat
section
open Go.RowKit Go.Shelf
section
attribute [local go_sem] Oper.semAt_some
theorem room_wideE {p:Prop}:Fence.wide.depth.isSome=true→p:=fun h=>by simp [Fence.wide] at h
end
end
section
open Go.RowKit Go.Shelf
section
attribute [local go_sem] Oper.semAt_some
theorem blk_own {β:Type} (n0 B:Nat)(t:TypeId)(cs:Array Value):OwnFrom n0 (fun (_:β) W=>Blk W B t cs) :=
 fun s X Y row hs hg hr=>hs.grown hg (fun e=>by obtain⟨o,ho,hc⟩:=(hr _ e.symm).2;rw [show X.heap[B]?=_ from hs] at ho;cases ho;cases hc)
end
end
end Go.Proofs.YtmmeopjemkjllaaGreat
