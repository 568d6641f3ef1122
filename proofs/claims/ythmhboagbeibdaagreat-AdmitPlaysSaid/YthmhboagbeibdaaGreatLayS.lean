/-
  The library's functions of this program, laid at its numbers (written by the kit's tool). No conditions.
-/
import Derived.Shelf.SlGeneric
import Derived.Shelf.SlicesE.Clone
import Derived.Test.YthmhboagbeibdaaGreatProg
namespace Go.Proofs.YthmhboagbeibdaaGreat
set_option linter.unusedVariables false
open Go.Shelf
def cloneC_ren : Go.Shelf.Ren := ⟨fun | 41 => 28 | n => n, fun | 22 => 45 | 23 => 25 | 4 => 4 | n => n, fun | n => n⟩
theorem cloneC : Go.Proofs.SlLaysE0.n41 Tryz.prog cloneC_ren := {
  mixed := by kernel_rfl
  f41 := ⟨Tryz.f28.name, by decide, Tryz.func28.trans (congrArg some (by kernel_rfl))⟩
  t4 := Tryz.underlying4
  a4 := Tryz.isAgg4
  z4 := Tryz.sizeOf4
  v4 := Tryz.zeroValue4
  t22 := Tryz.underlying45
  a22 := Tryz.isAgg45
  z22 := Tryz.sizeOf45
  v22 := Tryz.zeroValue45 }
end Go.Proofs.YthmhboagbeibdaaGreat
