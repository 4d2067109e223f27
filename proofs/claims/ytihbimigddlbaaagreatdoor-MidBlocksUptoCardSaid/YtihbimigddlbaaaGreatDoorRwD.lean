/- 'MidBlocks' answers true, whatever it is given that is of bulk at most 1048576, and leaves its arguments as they were. Condition: the package-level variables that the row lists hold what the program's text lays; the card ties that. -/
import Derived.Test.YtihbimigddlbaaaGreatDoorRwC
import Derived.Test.YtihbimigddlbaaaGreatDoorQG
import Derived.Test.YtihbimigddlbaaaGreatDoorQH
noncomputable section
set_option linter.all false
namespace Go.Proofs.YtihbimigddlbaaaGreatDoor
open Go
section
theorem midBlocks_row_holds:Rows.MidBlocksUptoSaid :=
 OpenClaim.holds_of_cond 3 Tryz.f3 rfl rfl rfl rfl rfl rfl rfl ⟨rfl,rfl,rfl,rfl,rfl⟩ rfl rfl rfl rfl rfl (by kernel_rfl) Tryz.func3 closed
  (of_decide_eq_true (by kernel_rfl)) (by unfold Func.isWrapper;rw[if_neg (of_decide_eq_false (by kernel_rfl))];exact⟨rfl,rfl⟩)
  (fun os started H enc _ F=>by rw[OpenClaim.pre_eq_preRow];exact lifted os started H enc F)
theorem midBlocks_holds:Rows.MidBlocksUptoCardSaid :=
 Claim7.holds_tied_plain_at .later [] [.data, .data, .data, .data, .listed, .data, .pinned] true (true, "d4f554be3b1eb04b6f48dcd944018ecf5ff0c12ca1cb6b000498a72e8c965015") true
  midBlocks_row_holds (fun _ h=>by cases h) (by kernel_rfl) (fun _ h=>by cases h) midBlocksUpto_row_tie rfl ⟨rfl,rfl⟩ (by kernel_rfl) rfl
  (fun f fn hf hfn=>by
   obtain rfl : f = 3 := Option.some.inj ((show Tryz.prog.funcNamed "plinth/plinthlaw24.MidBlocks" = some 3 by kernel_rfl).symm.trans hf) |>.symm
   obtain rfl:fn=Tryz.f3:=(Option.some.inj (Tryz.func3.symm.trans hfn)).symm
   exact⟨by kernel_rfl,fun j t ht=>by
    rw[Tryz.params3] at ht
    have h3:t=24:=by
     rcases j with _ | j
     ·simpa using ht.symm
     ·simp at ht
    subst h3
    exact (show Tryz.prog.wantsStandIn 24=false by kernel_rfl)⟩)
  c4
#print axioms midBlocks_holds
end
end Go.Proofs.YtihbimigddlbaaaGreatDoor
end
