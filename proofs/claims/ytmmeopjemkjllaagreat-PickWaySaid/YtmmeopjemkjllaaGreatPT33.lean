/- Lemmas of the claim. No conditions beyond those that each states. -/
import Derived.Shelf.SlGeneric
import Derived.Shelf.SlIterI.Nil
import Derived.Shelf.SortM.Plain
import Derived.Shelf.SortM.SortNone
import Derived.Shelf.SlicesE.DeleteFunc
import Derived.Shelf.SlicesE.Clone
import Derived.Shelf.SlicesG.SearchI
import Derived.Shelf.Spec.SlicesInsertGrow
import Derived.Test.YtmmeopjemkjllaaGreatProg
set_option linter.unusedVariables false
set_option linter.unusedSimpArgs false
set_option maxRecDepth 100000
set_option maxHeartbeats 8000000
namespace Go.Proofs.YtmmeopjemkjllaaGreat
section
open Go.Shelf
def keysH_ren:Go.Shelf.Ren:=⟨fun | 7=>74 | 10=>115 | n=>n,fun | 23=>98 | 26=>3 | 3=>107 | 28=>104 | 0=>0 | 27=>103 | 33=>53 | 4=>4 | n=>n,fun | n=>n⟩
theorem keysH:Go.Proofs.SlLaysZI.n7 Tryz.prog keysH_ren:={
 mixed:=by kernel_rfl
 f7:=⟨Tryz.f74.name,by decide,Tryz.func74.trans (congrArg some (by kernel_rfl))⟩
 f10:=⟨Tryz.f115.name,by decide,Tryz.func115.trans (congrArg some (by kernel_rfl))⟩
 t0:=Tryz.underlying0
 a0:=Tryz.isAgg0
 z0:=Tryz.sizeOf0
 v0:=Tryz.zeroValue0
 t4:=Tryz.underlying4
 a4:=Tryz.isAgg4
 z4:=Tryz.sizeOf4
 v4:=Tryz.zeroValue4
 t23:=Tryz.underlying98
 a23:=Tryz.isAgg98
 z23:=Tryz.sizeOf98
 v23:=Tryz.zeroValue98
 t26:=Tryz.underlying3
 a26:=Tryz.isAgg3
 z26:=Tryz.sizeOf3
 v26:=Tryz.zeroValue3
 t27:=Tryz.underlying103
 a27:=Tryz.isAgg103
 z27:=Tryz.sizeOf103
 v27:=Tryz.zeroValue103
 t28:=Tryz.underlying104
 a28:=Tryz.isAgg104
 z28:=Tryz.sizeOf104
 v28:=Tryz.zeroValue104
 t33:=Tryz.underlying53
 a33:=Tryz.isAgg53
 z33:=Tryz.sizeOf53
 v33:=Tryz.zeroValue53 }
def sortedI_ren:Go.Shelf.Ren:=⟨fun | 6=>73 | 8=>114 | 9=>75 | 11=>137 | 13=>117 | 12=>116 | 23=>147 | 24=>148 | 14=>138 | 15=>139 | 16=>140 | 17=>141 | 18=>142 | 19=>143 | 20=>144 | 21=>145 | 22=>146 | 25=>166 | 26=>167 | 27=>168 | 28=>169 | 29=>170 | 30=>171 | 31=>185 | n=>n,fun | 26=>3 | 28=>104 | 24=>51 | 0=>0 | 3=>3 | 37=>162 | 48=>208 | 50=>28 | 4=>4 | 40=>201 | 39=>200 | 45=>35 | 5=>5 | 9=>9 | 51=>227 | 55=>230 | 57=>241 | 58=>242 | 33=>53 | n=>n,fun | n=>n⟩
theorem sortedI:Go.Proofs.SlLaysZI.n6 Tryz.prog sortedI_ren:={
 mixed:=by kernel_rfl
 f6:=⟨Tryz.f73.name,by decide,Tryz.func73.trans (congrArg some (by kernel_rfl))⟩
 f8:=⟨Tryz.f114.name,by decide,Tryz.func114.trans (congrArg some (by kernel_rfl))⟩
 f11:=⟨Tryz.f137.name,by decide,Tryz.func137.trans (congrArg some (by kernel_rfl))⟩
 t0:=Tryz.underlying0
 a0:=Tryz.isAgg0
 z0:=Tryz.sizeOf0
 v0:=Tryz.zeroValue0
 t24:=Tryz.underlying51
 a24:=Tryz.isAgg51
 z24:=Tryz.sizeOf51
 v24:=Tryz.zeroValue51
 t26:=Tryz.underlying3
 a26:=Tryz.isAgg3
 z26:=Tryz.sizeOf3
 v26:=Tryz.zeroValue3
 t28:=Tryz.underlying104
 a28:=Tryz.isAgg104
 z28:=Tryz.sizeOf104
 v28:=Tryz.zeroValue104
 i26:=by kernel_rfl }
def sortI_ren:Go.Shelf.Ren:=⟨fun | 5=>75 | 8=>117 | 7=>116 | 19=>147 | 20=>148 | 10=>138 | 11=>139 | 12=>140 | 13=>141 | 14=>142 | 15=>143 | 16=>144 | 17=>145 | 18=>146 | 30=>166 | 31=>167 | 32=>168 | 33=>169 | 34=>170 | 35=>171 | 40=>185 | n=>n,fun | 23=>51 | 25=>3 | 3=>3 | 32=>162 | 22=>51 | 0=>0 | 44=>208 | 46=>28 | 4=>4 | 36=>201 | 35=>200 | 41=>35 | 5=>5 | 9=>9 | 53=>227 | 57=>230 | 63=>241 | 64=>242 | n=>n,fun | n=>n⟩
theorem sortI:Go.Proofs.SlLaysM.n5 Tryz.prog sortI_ren:={
 mixed:=by kernel_rfl
 f5:=⟨Tryz.f75.name,by decide,Tryz.func75.trans (congrArg some (by kernel_rfl))⟩
 f7:=⟨Tryz.f116.name,by decide,Tryz.func116.trans (congrArg some (by kernel_rfl))⟩
 f8:=Tryz.func117.trans (congrArg some (by kernel_rfl))
 f10:=⟨Tryz.f138.name,by decide,Tryz.func138.trans (congrArg some (by kernel_rfl))⟩
 f11:=⟨Tryz.f139.name,by decide,Tryz.func139.trans (congrArg some (by kernel_rfl))⟩
 f12:=⟨Tryz.f140.name,by decide,Tryz.func140.trans (congrArg some (by kernel_rfl))⟩
 f13:=⟨Tryz.f141.name,by decide,Tryz.func141.trans (congrArg some (by kernel_rfl))⟩
 f14:=⟨Tryz.f142.name,by decide,Tryz.func142.trans (congrArg some (by kernel_rfl))⟩
 f15:=⟨Tryz.f143.name,by decide,Tryz.func143.trans (congrArg some (by kernel_rfl))⟩
 f16:=⟨Tryz.f144.name,by decide,Tryz.func144.trans (congrArg some (by kernel_rfl))⟩
 f17:=⟨Tryz.f145.name,by decide,Tryz.func145.trans (congrArg some (by kernel_rfl))⟩
 f18:=⟨Tryz.f146.name,by decide,Tryz.func146.trans (congrArg some (by kernel_rfl))⟩
 f19:=Tryz.func147.trans (congrArg some (by kernel_rfl))
 f20:=Tryz.func148.trans (congrArg some (by kernel_rfl))
 f30:=⟨Tryz.f166.name,by decide,Tryz.func166.trans (congrArg some (by kernel_rfl))⟩
 f31:=Tryz.func167.trans (congrArg some (by kernel_rfl))
 f32:=Tryz.func168.trans (congrArg some (by kernel_rfl))
 f33:=⟨Tryz.f169.name,by decide,Tryz.func169.trans (congrArg some (by kernel_rfl))⟩
 f34:=⟨Tryz.f170.name,by decide,Tryz.func170.trans (congrArg some (by kernel_rfl))⟩
 f35:=⟨Tryz.f171.name,by decide,Tryz.func171.trans (congrArg some (by kernel_rfl))⟩
 f40:=⟨Tryz.f185.name,by decide,Tryz.func185.trans (congrArg some (by kernel_rfl))⟩
 t0:=Tryz.underlying0
 a0:=Tryz.isAgg0
 z0:=Tryz.sizeOf0
 v0:=Tryz.zeroValue0
 t3:=Tryz.underlying3
 a3:=Tryz.isAgg3
 z3:=Tryz.sizeOf3
 v3:=Tryz.zeroValue3
 t4:=Tryz.underlying4
 a4:=Tryz.isAgg4
 z4:=Tryz.sizeOf4
 v4:=Tryz.zeroValue4
 t5:=Tryz.underlying5
 a5:=Tryz.isAgg5
 z5:=Tryz.sizeOf5
 v5:=Tryz.zeroValue5
 t9:=Tryz.underlying9
 a9:=Tryz.isAgg9
 z9:=Tryz.sizeOf9
 v9:=Tryz.zeroValue9
 t22:=Tryz.underlying51
 a22:=Tryz.isAgg51
 z22:=Tryz.sizeOf51
 v22:=Tryz.zeroValue51
 t23:=Tryz.underlying51
 a23:=Tryz.isAgg51
 z23:=Tryz.sizeOf51
 v23:=Tryz.zeroValue51
 t25:=Tryz.underlying3
 a25:=Tryz.isAgg3
 z25:=Tryz.sizeOf3
 v25:=Tryz.zeroValue3
 t32:=Tryz.underlying162
 a32:=Tryz.isAgg162
 z32:=Tryz.sizeOf162
 v32:=Tryz.zeroValue162
 t35:=Tryz.underlying200
 a35:=Tryz.isAgg200
 z35:=Tryz.sizeOf200
 v35:=Tryz.zeroValue200
 t36:=Tryz.underlying201
 a36:=Tryz.isAgg201
 z36:=Tryz.sizeOf201
 v36:=Tryz.zeroValue201
 t41:=Tryz.underlying35
 a41:=Tryz.isAgg35
 z41:=Tryz.sizeOf35
 v41:=Tryz.zeroValue35
 t44:=Tryz.underlying208
 a44:=Tryz.isAgg208
 z44:=Tryz.sizeOf208
 v44:=Tryz.zeroValue208
 t46:=Tryz.underlying28
 a46:=Tryz.isAgg28
 z46:=Tryz.sizeOf28
 v46:=Tryz.zeroValue28
 t53:=Tryz.underlying227
 a53:=Tryz.isAgg227
 z53:=Tryz.sizeOf227
 v53:=Tryz.zeroValue227
 t57:=Tryz.underlying230
 a57:=Tryz.isAgg230
 z57:=Tryz.sizeOf230
 v57:=Tryz.zeroValue230
 t63:=Tryz.underlying241
 a63:=Tryz.isAgg241
 z63:=Tryz.sizeOf241
 v63:=Tryz.zeroValue241
 t64:=Tryz.underlying242
 a64:=Tryz.isAgg242
 z64:=Tryz.sizeOf242
 v64:=Tryz.zeroValue242 }
def delI_ren:Go.Shelf.Ren:=⟨fun | 10=>134 | 6=>165 | n=>n,fun | 22=>51 | 23=>3 | 25=>53 | 3=>3 | 4=>4 | 0=>0 | n=>n,fun | n=>n⟩
theorem delI:Go.Proofs.SlLaysH.n10 Tryz.prog delI_ren:={
 mixed:=by kernel_rfl
 f6:=⟨Tryz.f165.name,by decide,Tryz.func165.trans (congrArg some (by kernel_rfl))⟩
 f10:=⟨Tryz.f134.name,by decide,Tryz.func134.trans (congrArg some (by kernel_rfl))⟩
 t0:=Tryz.underlying0
 a0:=Tryz.isAgg0
 z0:=Tryz.sizeOf0
 v0:=Tryz.zeroValue0
 t3:=Tryz.underlying3
 a3:=Tryz.isAgg3
 z3:=Tryz.sizeOf3
 v3:=Tryz.zeroValue3
 t4:=Tryz.underlying4
 a4:=Tryz.isAgg4
 z4:=Tryz.sizeOf4
 v4:=Tryz.zeroValue4
 t22:=Tryz.underlying51
 a22:=Tryz.isAgg51
 z22:=Tryz.sizeOf51
 v22:=Tryz.zeroValue51
 a23:=Tryz.isAgg3
 z23:=Tryz.sizeOf3
 t25:=Tryz.underlying53
 a25:=Tryz.isAgg53
 z25:=Tryz.sizeOf53
 v25:=Tryz.zeroValue53 }
def cloneI_ren:Go.Shelf.Ren:=⟨fun | 41=>70 | n=>n,fun | 22=>51 | 23=>3 | 4=>4 | n=>n,fun | n=>n⟩
theorem cloneI:Go.Proofs.SlLaysE0.n41 Tryz.prog cloneI_ren:={
 mixed:=by kernel_rfl
 f41:=⟨Tryz.f70.name,by decide,Tryz.func70.trans (congrArg some (by kernel_rfl))⟩
 t4:=Tryz.underlying4
 a4:=Tryz.isAgg4
 z4:=Tryz.sizeOf4
 v4:=Tryz.zeroValue4
 t22:=Tryz.underlying51
 a22:=Tryz.isAgg51
 z22:=Tryz.sizeOf51
 v22:=Tryz.zeroValue51 }
def bsI_ren:Go.Shelf.Ren:=⟨fun | 49=>132 | 59=>144 | 60=>162 | 68=>171 | n=>n,fun | 22=>51 | 23=>3 | 3=>3 | 4=>4 | 51=>162 | 0=>0 | n=>n,fun | n=>n⟩
theorem bsI:Go.Proofs.SlLaysN.n49 Tryz.prog bsI_ren:={
 mixed:=by kernel_rfl
 f49:=⟨Tryz.f132.name,by decide,Tryz.func132.trans (congrArg some (by kernel_rfl))⟩
 f59:=⟨Tryz.f144.name,by decide,Tryz.func144.trans (congrArg some (by kernel_rfl))⟩
 f60:=⟨Tryz.f162.name,by decide,Tryz.func162.trans (congrArg some (by kernel_rfl))⟩
 f68:=⟨Tryz.f171.name,by decide,Tryz.func171.trans (congrArg some (by kernel_rfl))⟩
 t0:=Tryz.underlying0
 a0:=Tryz.isAgg0
 z0:=Tryz.sizeOf0
 v0:=Tryz.zeroValue0
 t3:=Tryz.underlying3
 a3:=Tryz.isAgg3
 z3:=Tryz.sizeOf3
 v3:=Tryz.zeroValue3
 t4:=Tryz.underlying4
 a4:=Tryz.isAgg4
 z4:=Tryz.sizeOf4
 v4:=Tryz.zeroValue4
 t22:=Tryz.underlying51
 a22:=Tryz.isAgg51
 z22:=Tryz.sizeOf51
 v22:=Tryz.zeroValue51
 t23:=Tryz.underlying3
 a23:=Tryz.isAgg3
 z23:=Tryz.sizeOf3
 v23:=Tryz.zeroValue3
 t51:=Tryz.underlying162
 a51:=Tryz.isAgg162
 z51:=Tryz.sizeOf162
 v51:=Tryz.zeroValue162 }
def insI_ren:Go.Shelf.Ren:=⟨fun | 21=>133 | 27=>163 | 28=>164 | 35=>184 | 39=>194 | n=>n,fun | 22=>51 | 3=>3 | 4=>4 | 0=>0 | n=>n,fun | n=>n⟩
theorem insI:Go.Proofs.Lays2.n21 Tryz.prog insI_ren:={
 mixed:=by kernel_rfl
 f21:=Tryz.func133.trans (congrArg some (by kernel_rfl))
 f27:=Tryz.func163.trans (congrArg some (by kernel_rfl))
 f28:=Tryz.func164.trans (congrArg some (by kernel_rfl))
 f35:=Tryz.func184.trans (congrArg some (by kernel_rfl))
 f39:=Tryz.func194.trans (congrArg some (by kernel_rfl))
 t0:=Tryz.underlying0
 a0:=Tryz.isAgg0
 z0:=Tryz.sizeOf0
 v0:=Tryz.zeroValue0
 t3:=Tryz.underlying3
 a3:=Tryz.isAgg3
 z3:=Tryz.sizeOf3
 v3:=Tryz.zeroValue3
 t4:=Tryz.underlying4
 a4:=Tryz.isAgg4
 z4:=Tryz.sizeOf4
 v4:=Tryz.zeroValue4
 t22:=Tryz.underlying51
 a22:=Tryz.isAgg51
 z22:=Tryz.sizeOf51
 v22:=Tryz.zeroValue51
 i3:=by kernel_rfl }
end
end Go.Proofs.YtmmeopjemkjllaaGreat
