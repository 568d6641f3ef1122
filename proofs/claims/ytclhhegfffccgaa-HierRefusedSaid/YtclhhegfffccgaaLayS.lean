/-
  The library's functions of this program, laid at its numbers (written by the kit's tool). No conditions.
-/
import Derived.Shelf.SlGeneric
import Derived.Shelf.SlicesE.Clone
import Derived.Test.YtclhhegfffccgaaProg
namespace Go.Proofs.Ytclhhegfffccgaa
set_option linter.unusedVariables false
open Go.Shelf
def cloneC_ren : Go.Shelf.Ren := ⟨fun | 41 => 119 | n => n, fun | 22 => 127 | 23 => 44 | 4 => 4 | n => n, fun | n => n⟩
theorem cloneC : Go.Proofs.SlLaysE0.n41 Try.prog cloneC_ren := {
  mixed := by kernel_rfl
  f41 := ⟨Try.f119.name, by decide, Try.func119.trans (congrArg some (by kernel_rfl))⟩
  t4 := Try.underlying4
  a4 := Try.isAgg4
  z4 := Try.sizeOf4
  v4 := Try.zeroValue4
  t22 := Try.underlying127
  a22 := Try.isAgg127
  z22 := Try.sizeOf127
  v22 := Try.zeroValue127 }
end Go.Proofs.Ytclhhegfffccgaa
