/- 'UnrollLoops' answers true, whatever it is given that is of bulk at most 1048576, and leaves its arguments as they were. Condition: the package-level variables that the row lists hold what the program's text lays; the card ties that. -/
import Derived.Test.YtaenfjplagiioaaGreatDoorRwB
import Derived.Test.YtaenfjplagiioaaGreatDoorRwA
noncomputable section
set_option linter.all false
namespace Go.Proofs.YtaenfjplagiioaaGreatDoor
open Go
section
theorem unrollLoops_row_holds:Rows.UnrollLoopsUptoSaid :=
 OpenClaim.holds_of_cond 3 Tryz.f3 rfl rfl rfl rfl rfl rfl rfl ⟨rfl,rfl,rfl,rfl,rfl⟩ rfl rfl rfl rfl rfl (by kernel_rfl) Tryz.func3 closed
  (of_decide_eq_true (by kernel_rfl)) (by unfold Func.isWrapper;rw[if_neg (of_decide_eq_false (by kernel_rfl))];exact⟨rfl,rfl⟩)
  (fun os started H enc _ F=>by rw[OpenClaim.pre_eq_preRow];exact lifted os started H enc F)
theorem unrollLoops_holds:Rows.UnrollLoopsUptoCardSaid :=
 Claim7.holds_tied_plain_at .later [] [.data, .listed, .data, .pinned] true (true, "c9adedd97a51b5c633803ce27661d7b2ecc68114af2db4b343e665a4e3cbb32a") true
  unrollLoops_row_holds (fun _ h=>by cases h) (by kernel_rfl) (fun _ h=>by cases h) unrollLoopsUpto_row_tie rfl ⟨rfl,rfl⟩ (by kernel_rfl) rfl
  (fun f fn hf hfn=>by
   obtain rfl : f = 3 := Option.some.inj ((show Tryz.prog.funcNamed "plinth/plinthlaw27.UnrollLoops" = some 3 by kernel_rfl).symm.trans hf) |>.symm
   obtain rfl:fn=Tryz.f3:=(Option.some.inj (Tryz.func3.symm.trans hfn)).symm
   exact⟨by kernel_rfl,fun j t ht=>by
    rw[Tryz.params3] at ht
    have h3:t=24∨t=3∨t=25:=by
     rcases j with _ | _ | _ | j
     ·left;simpa using ht.symm
     ·right;left;simpa using ht.symm
     ·right;right;simpa using ht.symm
     ·simp at ht
    rcases h3 with rfl | rfl | rfl
    ·exact (show Tryz.prog.wantsStandIn 24=false by kernel_rfl)
    ·exact (show Tryz.prog.wantsStandIn 3=false by kernel_rfl)
    ·exact (show Tryz.prog.wantsStandIn 25=false by kernel_rfl)⟩)
  (by kernel_rfl)
#print axioms unrollLoops_holds
end
end Go.Proofs.YtaenfjplagiioaaGreatDoor
end
