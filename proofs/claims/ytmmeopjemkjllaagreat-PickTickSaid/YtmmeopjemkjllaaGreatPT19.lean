/- Lemmas of the claim. No conditions beyond those that each states. -/
import Derived.Shelf.SlGeneric
import Derived.Shelf.SlIterI.Nil
import Derived.Shelf.SortM.Plain
import Derived.Shelf.SortM.SortNone
import Derived.Shelf.SlicesE.DeleteFunc
import Derived.Shelf.SlicesE.Clone
import Derived.Shelf.SlicesG.SearchI
import Derived.Shelf.Spec.SlicesInsertGrow
import Derived.Test.YtmmeopjemkjllaaGreatProg
set_option linter.unusedVariables false
set_option linter.unusedSimpArgs false
set_option maxRecDepth 100000
set_option maxHeartbeats 8000000
namespace Go.Proofs.YtmmeopjemkjllaaGreat
section
open Go.Shelf
def delI_ren:Go.Shelf.Ren:=⟨fun | 10=>134 | 6=>165 | n=>n,fun | 22=>51 | 23=>3 | 25=>53 | 3=>3 | 4=>4 | 0=>0 | n=>n,fun | n=>n⟩
theorem delI:Go.Proofs.SlLaysH.n10 Tryz.prog delI_ren:={
 mixed:=by kernel_rfl
 f6:=⟨Tryz.f165.name,by decide,Tryz.func165.trans (congrArg some (by kernel_rfl))⟩
 f10:=⟨Tryz.f134.name,by decide,Tryz.func134.trans (congrArg some (by kernel_rfl))⟩
 t0:=Tryz.underlying0
 a0:=Tryz.isAgg0
 z0:=Tryz.sizeOf0
 v0:=Tryz.zeroValue0
 t3:=Tryz.underlying3
 a3:=Tryz.isAgg3
 z3:=Tryz.sizeOf3
 v3:=Tryz.zeroValue3
 t4:=Tryz.underlying4
 a4:=Tryz.isAgg4
 z4:=Tryz.sizeOf4
 v4:=Tryz.zeroValue4
 t22:=Tryz.underlying51
 a22:=Tryz.isAgg51
 z22:=Tryz.sizeOf51
 v22:=Tryz.zeroValue51
 a23:=Tryz.isAgg3
 z23:=Tryz.sizeOf3
 t25:=Tryz.underlying53
 a25:=Tryz.isAgg53
 z25:=Tryz.sizeOf53
 v25:=Tryz.zeroValue53 }
def cloneI_ren:Go.Shelf.Ren:=⟨fun | 41=>70 | n=>n,fun | 22=>51 | 23=>3 | 4=>4 | n=>n,fun | n=>n⟩
theorem cloneI:Go.Proofs.SlLaysE0.n41 Tryz.prog cloneI_ren:={
 mixed:=by kernel_rfl
 f41:=⟨Tryz.f70.name,by decide,Tryz.func70.trans (congrArg some (by kernel_rfl))⟩
 t4:=Tryz.underlying4
 a4:=Tryz.isAgg4
 z4:=Tryz.sizeOf4
 v4:=Tryz.zeroValue4
 t22:=Tryz.underlying51
 a22:=Tryz.isAgg51
 z22:=Tryz.sizeOf51
 v22:=Tryz.zeroValue51 }
def bsI_ren:Go.Shelf.Ren:=⟨fun | 49=>132 | 59=>144 | 60=>162 | 68=>171 | n=>n,fun | 22=>51 | 23=>3 | 3=>3 | 4=>4 | 51=>162 | 0=>0 | n=>n,fun | n=>n⟩
theorem bsI:Go.Proofs.SlLaysN.n49 Tryz.prog bsI_ren:={
 mixed:=by kernel_rfl
 f49:=⟨Tryz.f132.name,by decide,Tryz.func132.trans (congrArg some (by kernel_rfl))⟩
 f59:=⟨Tryz.f144.name,by decide,Tryz.func144.trans (congrArg some (by kernel_rfl))⟩
 f60:=⟨Tryz.f162.name,by decide,Tryz.func162.trans (congrArg some (by kernel_rfl))⟩
 f68:=⟨Tryz.f171.name,by decide,Tryz.func171.trans (congrArg some (by kernel_rfl))⟩
 t0:=Tryz.underlying0
 a0:=Tryz.isAgg0
 z0:=Tryz.sizeOf0
 v0:=Tryz.zeroValue0
 t3:=Tryz.underlying3
 a3:=Tryz.isAgg3
 z3:=Tryz.sizeOf3
 v3:=Tryz.zeroValue3
 t4:=Tryz.underlying4
 a4:=Tryz.isAgg4
 z4:=Tryz.sizeOf4
 v4:=Tryz.zeroValue4
 t22:=Tryz.underlying51
 a22:=Tryz.isAgg51
 z22:=Tryz.sizeOf51
 v22:=Tryz.zeroValue51
 t23:=Tryz.underlying3
 a23:=Tryz.isAgg3
 z23:=Tryz.sizeOf3
 v23:=Tryz.zeroValue3
 t51:=Tryz.underlying162
 a51:=Tryz.isAgg162
 z51:=Tryz.sizeOf162
 v51:=Tryz.zeroValue162 }
def insI_ren:Go.Shelf.Ren:=⟨fun | 21=>133 | 27=>163 | 28=>164 | 35=>184 | 39=>194 | n=>n,fun | 22=>51 | 3=>3 | 4=>4 | 0=>0 | n=>n,fun | n=>n⟩
theorem insI:Go.Proofs.Lays2.n21 Tryz.prog insI_ren:={
 mixed:=by kernel_rfl
 f21:=Tryz.func133.trans (congrArg some (by kernel_rfl))
 f27:=Tryz.func163.trans (congrArg some (by kernel_rfl))
 f28:=Tryz.func164.trans (congrArg some (by kernel_rfl))
 f35:=Tryz.func184.trans (congrArg some (by kernel_rfl))
 f39:=Tryz.func194.trans (congrArg some (by kernel_rfl))
 t0:=Tryz.underlying0
 a0:=Tryz.isAgg0
 z0:=Tryz.sizeOf0
 v0:=Tryz.zeroValue0
 t3:=Tryz.underlying3
 a3:=Tryz.isAgg3
 z3:=Tryz.sizeOf3
 v3:=Tryz.zeroValue3
 t4:=Tryz.underlying4
 a4:=Tryz.isAgg4
 z4:=Tryz.sizeOf4
 v4:=Tryz.zeroValue4
 t22:=Tryz.underlying51
 a22:=Tryz.isAgg51
 z22:=Tryz.sizeOf51
 v22:=Tryz.zeroValue51
 i3:=by kernel_rfl }
end
end Go.Proofs.YtmmeopjemkjllaaGreat
