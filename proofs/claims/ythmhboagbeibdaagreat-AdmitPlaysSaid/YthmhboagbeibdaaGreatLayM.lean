/-
  The library's functions of this program, laid at its numbers (written by the kit's tool). No conditions.
-/
import Derived.Shelf.SlGeneric
import Derived.Shelf.SlMaps.Clone
import Derived.Test.YthmhboagbeibdaaGreatProg
namespace Go.Proofs.YthmhboagbeibdaaGreat
set_option linter.unusedVariables false
open Go.Shelf
def mcloneS_ren : Go.Shelf.Ren := ⟨fun | 5 => 27 | 7 => 43 | n => n, fun | 23 => 53 | 25 => 3 | 3 => 25 | 4 => 4 | 20 => 20 | n => n, fun | n => n⟩
theorem mcloneS : Go.Proofs.SlLaysW.n5 Tryz.prog mcloneS_ren := {
  mixed := by kernel_rfl
  f5 := ⟨Tryz.f27.name, by decide, Tryz.func27.trans (congrArg some (by kernel_rfl))⟩
  f7 := Tryz.func43.trans (congrArg some (by kernel_rfl))
  t4 := Tryz.underlying4
  a4 := Tryz.isAgg4
  z4 := Tryz.sizeOf4
  v4 := Tryz.zeroValue4
  t20 := Tryz.underlying20
  a20 := Tryz.isAgg20
  z20 := Tryz.sizeOf20
  v20 := Tryz.zeroValue20
  t23 := Tryz.underlying53
  a23 := Tryz.isAgg53
  z23 := Tryz.sizeOf53
  v23 := Tryz.zeroValue53 }
end Go.Proofs.YthmhboagbeibdaaGreat
