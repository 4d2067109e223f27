/- A part of the proof: PmQ2a. -/
import Derived.Test.YtihbimigddlbaaaGreatDoorRows
import Derived.JoinedOf
import Derived.ProofKit
noncomputable section
set_option linter.all false
namespace Go.Proofs.YtihbimigddlbaaaGreatDoor
open Go
set_option maxRecDepth 100000
section
theorem q0:(Rows.midBlocksUptoRow.wf (OpenSpec.ofChange Rows.midBlocksSpec))=true:=by kernel_rfl
theorem q1:(laidOutB Tryz.prog)=true:=by kernel_rfl
theorem q2:(mapsRowed Tryz.prog)=true:=by kernel_rfl
theorem q4:(namedTie Tryz.prog Rows.midBlocksUptoRow.named Rows.midBlocksSpec.vars)=true:=by kernel_rfl
end
end Go.Proofs.YtihbimigddlbaaaGreatDoor
end
