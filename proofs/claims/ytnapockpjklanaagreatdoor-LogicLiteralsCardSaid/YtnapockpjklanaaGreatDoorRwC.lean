/- 'LogicLiterals' answers true, whatever the form that it is given, and leaves it as it was. Condition: the package-level variables that the row lists hold what the program's text lays; the card ties that. -/
import Derived.Test.YtnapockpjklanaaGreatDoorRwB
import Derived.Test.YtnapockpjklanaaGreatDoorRwA
noncomputable section
set_option linter.all false
namespace Go.Proofs.YtnapockpjklanaaGreatDoor
open Go
theorem logicLiterals_row_holds : Rows.LogicLiteralsSaid :=
  OpenClaim.holds_of_wide 3 Tryz.f3 rfl rfl rfl rfl rfl rfl rfl ⟨rfl, rfl, rfl, rfl, rfl⟩ rfl rfl rfl rfl rfl (by kernel_rfl) Tryz.func3 closed
    (of_decide_eq_true (by kernel_rfl)) (by unfold Func.isWrapper; rw [if_neg (of_decide_eq_false (by kernel_rfl))]; exact ⟨rfl, rfl⟩)
    (fun os started H enc _ => lifted os started H enc)
theorem logicLiterals_holds : Rows.LogicLiteralsCardSaid :=
  Claim7.holds_tied_plain_at .later [] [.data, .data, .data, .data, .listed, .data, .pinned] true (true, "2a2e99f1be12de461e8640b7c9ecff66415852366438751115f2e3c1c0dbc5cf") true
    logicLiterals_row_holds (fun _ h => by cases h) (by kernel_rfl) (fun _ h => by cases h) logicLiterals_row_tie rfl ⟨rfl, rfl⟩ (by kernel_rfl) rfl
    (fun f fn hf hfn => by
      obtain rfl : f = 3 := Option.some.inj ((show Tryz.prog.funcNamed "plinth/plinthlaw23.LogicLiterals" = some 3 by kernel_rfl).symm.trans hf) |>.symm
      obtain rfl : fn = Tryz.f3 := (Option.some.inj (Tryz.func3.symm.trans hfn)).symm
      exact ⟨by kernel_rfl, fun j t ht => by
        rw [Tryz.params3] at ht
        have h3 : t = 24 := by
          rcases j with _ | j
          · simpa using ht.symm
          · simp at ht
        subst h3
        exact (show Tryz.prog.wantsStandIn 24 = false by kernel_rfl)⟩)
    (by kernel_rfl)
#print axioms logicLiterals_holds
end Go.Proofs.YtnapockpjklanaaGreatDoor
end
