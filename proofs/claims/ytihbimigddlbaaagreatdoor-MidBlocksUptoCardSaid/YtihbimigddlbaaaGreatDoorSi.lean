/- A part of the proof: TryzShelg. -/
import Derived.Shelf.SlGeneric
import Derived.Shelf.SlIter.Collect
import Derived.Test.YtihbimigddlbaaaGreatDoorProg
noncomputable section
set_option linter.all false
namespace Go.Proofs
open Go.Shelf
section
def Tryz.coL_ren:Go.Shelf.Ren:=⟨fun | 8=>229 | 11=>263 | n=>n,fun | 26=>9 | 28=>246 | 24=>50 | 0=>0 | 33=>152 | 4=>4 | n=>n,fun | n=>n⟩
theorem Tryz.coL:Go.Proofs.SlLaysZ.n8 Tryz.prog Tryz.coL_ren:={
 mixed:=by kernel_rfl
 f8:=⟨Tryz.f229.name,by decide,Tryz.func229.trans (congrArg some (by kernel_rfl))⟩
 f11:=⟨Tryz.f263.name,by decide,Tryz.func263.trans (congrArg some (by kernel_rfl))⟩
 t0:=Tryz.underlying0
 a0:=Tryz.isAgg0
 z0:=Tryz.sizeOf0
 v0:=Tryz.zeroValue0
 t24:=Tryz.underlying50
 a24:=Tryz.isAgg50
 z24:=Tryz.sizeOf50
 v24:=Tryz.zeroValue50
 t26:=Tryz.underlying9
 a26:=Tryz.isAgg9
 z26:=Tryz.sizeOf9
 v26:=Tryz.zeroValue9
 t28:=Tryz.underlying246
 a28:=Tryz.isAgg246
 z28:=Tryz.sizeOf246
 v28:=Tryz.zeroValue246
 i26:=by kernel_rfl }
end
end Go.Proofs
end
