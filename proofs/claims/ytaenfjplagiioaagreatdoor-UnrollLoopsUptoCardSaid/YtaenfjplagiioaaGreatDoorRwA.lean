/- A part of the proof: PlQ2. -/
import Derived.Test.YtaenfjplagiioaaGreatDoorRows
import Derived.JoinedOf
import Derived.ProofKit
noncomputable section
set_option linter.all false
namespace Go.Proofs.YtaenfjplagiioaaGreatDoor
open Go
set_option maxRecDepth 100000
section
theorem and_t {a b:Bool} (ha:a=true) (hb:b=true):(a&&b)=true:=by rw[ha,hb];rfl
theorem q0:(Rows.unrollLoopsUptoRow.wf (OpenSpec.ofChange Rows.unrollLoopsSpec))=true:=by kernel_rfl
theorem q1:(laidOutB Tryz.prog)=true:=by kernel_rfl
theorem q2:(mapsRowed Tryz.prog)=true:=by kernel_rfl
theorem q4:(namedTie Tryz.prog Rows.unrollLoopsUptoRow.named Rows.unrollLoopsSpec.vars)=true:=by kernel_rfl
theorem q9:(Rows.unrollLoopsUptoRow.inPlace==Tryz.prog.inPlace 3)=true:=by kernel_rfl
theorem q10:(Rows.unrollLoopsUptoRow.unfollowed==Tryz.prog.unfollowed 3)=true:=by kernel_rfl
theorem q11:(Rows.unrollLoopsUptoRow.recurses==Tryz.prog.recurses 3)=true:=by kernel_rfl
theorem q12:(Rows.unrollLoopsUptoRow.named==Tryz.prog.varsNamed 3)=true:=by kernel_rfl
theorem q22:(Rows.unrollLoopsUptoRow.plainKeys==Tryz.prog.plainKeys)=true:=by kernel_rfl
theorem q24:(Tryz.prog.stopsHeard)=true:=by kernel_rfl
theorem q25:(Tryz.prog.mayEnter)=true:=by kernel_rfl
theorem q26:(Rows.unrollLoopsUptoRow.lifted==Tryz.prog.liftsFinal)=true:=by kernel_rfl
theorem closed:joinedFacts Tryz.pinned.checked.prog 3 Tryz.f3 Rows.unrollLoopsSpec Rows.unrollLoopsUptoRow=true:=and_t (and_t (and_t (and_t (and_t (and_t (and_t (and_t (and_t (and_t (and_t (and_t (and_t (and_t (and_t (and_t (and_t (and_t (and_t (and_t (and_t (and_t (and_t (and_t (and_t (and_t (and_t (and_t (and_t (and_t (and_t q0 q1) q2) (by kernel_rfl)) q4) (by kernel_rfl)) (by kernel_rfl)) (by kernel_rfl)) (by kernel_rfl)) q9) q10) q11) q12) (by kernel_rfl)) (by kernel_rfl)) (by kernel_rfl)) (by kernel_rfl)) (by kernel_rfl)) (by kernel_rfl)) (by kernel_rfl)) (by kernel_rfl)) (by kernel_rfl)) q22) (by kernel_rfl)) q24) q25) q26) (by kernel_rfl)) (by kernel_rfl)) (by kernel_rfl)) (by kernel_rfl)) (by kernel_rfl)
end
end Go.Proofs.YtaenfjplagiioaaGreatDoor
end
