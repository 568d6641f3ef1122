/-
  The library's functions of this program, laid at its numbers (written by the kit's tool). No conditions.
-/
import Derived.Shelf.SlGeneric
import Derived.Shelf.SlMaps.Clone
import Derived.Test.YtbnnkkojlclgjaaProg
namespace Go.Proofs.Ytbnnkkojlclgjaa
set_option linter.unusedVariables false
open Go.Shelf
def mcloneK_ren : Go.Shelf.Ren := ⟨fun | 5 => 58 | 7 => 68 | n => n, fun | 23 => 83 | 25 => 3 | 3 => 81 | 4 => 4 | 20 => 20 | n => n, fun | n => n⟩
theorem mcloneK : Go.Proofs.SlLaysW.n5 Try.prog mcloneK_ren := {
  mixed := by kernel_rfl
  f5 := ⟨Try.f58.name, by decide, Try.func58.trans (congrArg some (by kernel_rfl))⟩
  f7 := Try.func68.trans (congrArg some (by kernel_rfl))
  t4 := Try.underlying4
  a4 := Try.isAgg4
  z4 := Try.sizeOf4
  v4 := Try.zeroValue4
  t20 := Try.underlying20
  a20 := Try.isAgg20
  z20 := Try.sizeOf20
  v20 := Try.zeroValue20
  t23 := Try.underlying83
  a23 := Try.isAgg83
  z23 := Try.sizeOf83
  v23 := Try.zeroValue83 }
end Go.Proofs.Ytbnnkkojlclgjaa
