/- A part of the proof: KtMnx. -/
import Derived.Test.YtihbimigddlbaaaGreatDoorKtA
noncomputable section
set_option linter.all false
namespace Go.Proofs.YtihbimigddlbaaaGreatDoor.L
open Go Go.RowKit Go.Proofs.YtihbimigddlbaaaGreatDoor.Pl Go.Proofs.YtihbimigddlbaaaGreatDoor.Kx
set_option maxRecDepth 1000000
section
theorem nm_x:MemoOK Tryz.prog Gs 115 [.str [120]] (.v (.bool true)):=memo_of (d:=20) Kt.tys_ok Kt.fns_ok ext_ok (by kernel_rfl) rfl rfl
end
end Go.Proofs.YtihbimigddlbaaaGreatDoor.L
end
