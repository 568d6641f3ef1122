/-
  The library's functions of this program, laid at its numbers (written by the kit's tool). No conditions.
-/
import Derived.Shelf.SlGeneric
import Derived.Shelf.SlMaps.Clone
import Derived.Test.YthmhboagbeibdaaProg
namespace Go.Proofs.Ythmhboagbeibdaa
set_option linter.unusedVariables false
open Go.Shelf
def mcloneS_ren : Go.Shelf.Ren := ⟨fun | 5 => 36 | 7 => 48 | n => n, fun | 23 => 56 | 25 => 3 | 3 => 25 | 4 => 4 | 20 => 20 | n => n, fun | n => n⟩
theorem mcloneS : Go.Proofs.SlLaysW.n5 Try.prog mcloneS_ren := {
  mixed := by kernel_rfl
  f5 := ⟨Try.f36.name, by decide, Try.func36.trans (congrArg some (by kernel_rfl))⟩
  f7 := Try.func48.trans (congrArg some (by kernel_rfl))
  t4 := Try.underlying4
  a4 := Try.isAgg4
  z4 := Try.sizeOf4
  v4 := Try.zeroValue4
  t20 := Try.underlying20
  a20 := Try.isAgg20
  z20 := Try.sizeOf20
  v20 := Try.zeroValue20
  t23 := Try.underlying56
  a23 := Try.isAgg56
  z23 := Try.sizeOf56
  v23 := Try.zeroValue56 }
end Go.Proofs.Ythmhboagbeibdaa
