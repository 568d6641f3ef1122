/-
  The library's functions of this program, laid at its numbers (written by the kit's tool). No conditions.
-/
import Derived.Shelf.SlGeneric
import Derived.Shelf.SlicesE.Clone
import Derived.Test.YtclhhegfffccgaaGreatProg
namespace Go.Proofs.YtclhhegfffccgaaGreat
set_option linter.unusedVariables false
open Go.Shelf
def cloneC_ren : Go.Shelf.Ren := ⟨fun | 41 => 107 | n => n, fun | 22 => 109 | 23 => 34 | 4 => 4 | n => n, fun | n => n⟩
theorem cloneC : Go.Proofs.SlLaysE0.n41 Tryz.prog cloneC_ren := {
  mixed := by kernel_rfl
  f41 := ⟨Tryz.f107.name, by decide, Tryz.func107.trans (congrArg some (by kernel_rfl))⟩
  t4 := Tryz.underlying4
  a4 := Tryz.isAgg4
  z4 := Tryz.sizeOf4
  v4 := Tryz.zeroValue4
  t22 := Tryz.underlying109
  a22 := Tryz.isAgg109
  z22 := Tryz.sizeOf109
  v22 := Tryz.zeroValue109 }
end Go.Proofs.YtclhhegfffccgaaGreat
