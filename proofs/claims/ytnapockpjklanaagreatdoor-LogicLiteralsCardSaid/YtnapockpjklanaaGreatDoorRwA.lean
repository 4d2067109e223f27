/- The closed facts of the row of 'LogicLiterals', one by one. -/
import Derived.Test.YtnapockpjklanaaGreatDoorRows
import Derived.JoinedOf
import Derived.ProofKit
noncomputable section
set_option linter.all false
namespace Go.Proofs.YtnapockpjklanaaGreatDoor
open Go
set_option maxRecDepth 100000
theorem and_t {a b : Bool} (ha : a = true) (hb : b = true) : (a && b) = true := by rw [ha, hb]; rfl
theorem q0 : (Rows.logicLiteralsRow.wf (OpenSpec.ofChange Rows.logicLiteralsSpec)) = true := by kernel_rfl
theorem q1 : (laidOutB Tryz.prog) = true := by kernel_rfl
theorem q2 : (mapsRowed Tryz.prog) = true := by kernel_rfl
theorem q4 : (namedTie Tryz.prog Rows.logicLiteralsRow.named Rows.logicLiteralsSpec.vars) = true := by kernel_rfl
theorem q9 : (Rows.logicLiteralsRow.inPlace == Tryz.prog.inPlace 3) = true := by kernel_rfl
theorem q10 : (Rows.logicLiteralsRow.unfollowed == Tryz.prog.unfollowed 3) = true := by kernel_rfl
theorem q11 : (Rows.logicLiteralsRow.recurses == Tryz.prog.recurses 3) = true := by kernel_rfl
theorem q12 : (Rows.logicLiteralsRow.named == Tryz.prog.varsNamed 3) = true := by kernel_rfl
theorem q22 : (Rows.logicLiteralsRow.plainKeys == Tryz.prog.plainKeys) = true := by kernel_rfl
theorem q24 : (Tryz.prog.stopsHeard) = true := by kernel_rfl
theorem q25 : (Tryz.prog.mayEnter) = true := by kernel_rfl
theorem q26 : (Rows.logicLiteralsRow.lifted == Tryz.prog.liftsFinal) = true := by kernel_rfl
theorem closed : joinedFacts Tryz.pinned.checked.prog 3 Tryz.f3 Rows.logicLiteralsSpec Rows.logicLiteralsRow = true := and_t (and_t (and_t (and_t (and_t (and_t (and_t (and_t (and_t (and_t (and_t (and_t (and_t (and_t (and_t (and_t (and_t (and_t (and_t (and_t (and_t (and_t (and_t (and_t (and_t (and_t (and_t (and_t (and_t (and_t (and_t q0 q1) q2) (by kernel_rfl)) q4) (by kernel_rfl)) (by kernel_rfl)) (by kernel_rfl)) (by kernel_rfl)) q9) q10) q11) q12) (by kernel_rfl)) (by kernel_rfl)) (by kernel_rfl)) (by kernel_rfl)) (by kernel_rfl)) (by kernel_rfl)) (by kernel_rfl)) (by kernel_rfl)) (by kernel_rfl)) q22) (by kernel_rfl)) q24) q25) q26) (by kernel_rfl)) (by kernel_rfl)) (by kernel_rfl)) (by kernel_rfl)) (by kernel_rfl)
end Go.Proofs.YtnapockpjklanaaGreatDoor
end
