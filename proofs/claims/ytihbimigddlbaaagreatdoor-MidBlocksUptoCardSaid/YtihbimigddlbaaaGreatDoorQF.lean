/- A part of the proof: PmQ2f. -/
import Derived.Test.YtihbimigddlbaaaGreatDoorRows
import Derived.JoinedOf
import Derived.ProofKit
noncomputable section
set_option linter.all false
namespace Go.Proofs.YtihbimigddlbaaaGreatDoor
open Go
set_option maxRecDepth 100000
section
theorem q22:(Rows.midBlocksUptoRow.plainKeys==Tryz.prog.plainKeys)=true:=by kernel_rfl
theorem q24:(Tryz.prog.stopsHeard)=true:=by kernel_rfl
theorem q25:(Tryz.prog.mayEnter)=true:=by kernel_rfl
theorem q26:(Rows.midBlocksUptoRow.lifted==Tryz.prog.liftsFinal)=true:=by kernel_rfl
end
end Go.Proofs.YtihbimigddlbaaaGreatDoor
end
