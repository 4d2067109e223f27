/- A part of the proof: PmQ2c. -/
import Derived.Test.YtihbimigddlbaaaGreatDoorRows
import Derived.JoinedOf
import Derived.ProofKit
noncomputable section
set_option linter.all false
namespace Go.Proofs.YtihbimigddlbaaaGreatDoor
open Go
set_option maxRecDepth 100000
section
theorem q10:(Rows.midBlocksUptoRow.unfollowed==Tryz.prog.unfollowed 3)=true:=by kernel_rfl
end
end Go.Proofs.YtihbimigddlbaaaGreatDoor
end
