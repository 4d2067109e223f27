/- A part of the proof: PmQ2. -/
import Derived.Test.YtihbimigddlbaaaGreatDoorQA
import Derived.Test.YtihbimigddlbaaaGreatDoorQB
import Derived.Test.YtihbimigddlbaaaGreatDoorQC
import Derived.Test.YtihbimigddlbaaaGreatDoorQD
import Derived.Test.YtihbimigddlbaaaGreatDoorQE
import Derived.Test.YtihbimigddlbaaaGreatDoorQF
import Derived.JoinedOf
import Derived.ProofKit
noncomputable section
set_option linter.all false
namespace Go.Proofs.YtihbimigddlbaaaGreatDoor
open Go
set_option maxRecDepth 100000
section
theorem and_t {a b:Bool} (ha:a=true) (hb:b=true):(a&&b)=true:=by rw[ha,hb];rfl
theorem closed:joinedFacts Tryz.pinned.checked.prog 3 Tryz.f3 Rows.midBlocksSpec Rows.midBlocksUptoRow=true:=and_t (and_t (and_t (and_t (and_t (and_t (and_t (and_t (and_t (and_t (and_t (and_t (and_t (and_t (and_t (and_t (and_t (and_t (and_t (and_t (and_t (and_t (and_t (and_t (and_t (and_t (and_t (and_t (and_t (and_t (and_t q0 q1) q2) (by kernel_rfl)) q4) (by kernel_rfl)) (by kernel_rfl)) (by kernel_rfl)) (by kernel_rfl)) q9) q10) q11) q12) (by kernel_rfl)) (by kernel_rfl)) (by kernel_rfl)) (by kernel_rfl)) (by kernel_rfl)) (by kernel_rfl)) (by kernel_rfl)) (by kernel_rfl)) (by kernel_rfl)) q22) (by kernel_rfl)) q24) q25) q26) (by kernel_rfl)) (by kernel_rfl)) (by kernel_rfl)) (by kernel_rfl)) (by kernel_rfl)
end
end Go.Proofs.YtihbimigddlbaaaGreatDoor
end
