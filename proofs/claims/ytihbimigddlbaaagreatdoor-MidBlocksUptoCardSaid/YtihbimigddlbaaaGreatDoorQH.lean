/- A part of the proof: PmQ3. -/
import Derived.Test.YtihbimigddlbaaaGreatDoorQG
import GoSem.ClaimGoes
noncomputable section
set_option linter.all false
namespace Go.Proofs.YtihbimigddlbaaaGreatDoor
open Go
set_option maxRecDepth 100000
section
theorem goes_none {P:Program} {c:OpenClaim} (hs:c.start=.entering) (h:P.funcs.toList.any Func.goes=false):c.goesBy P=false:=by
 have hf:∀ g:FuncId,(P.funcs[g]?).any Func.goes=false:=fun g=>by
  cases hg:P.funcs[g]? with
  | none=>rfl
  | some fn =>
   have hm:fn∈P.funcs.toList:=by
    rw[←Array.getElem?_toList] at hg
    exact List.mem_of_getElem? hg
   exact Bool.eq_false_iff.2 fun ht=>absurd (List.any_eq_true.2 ⟨fn,hm,ht⟩) (by rw[h];simp)
 have hall:P.funcs.any Func.goes=false:=by rw[←Array.any_toList];exact h
 unfold OpenClaim.goesBy Program.goesAt Program.goesFrom
 rw[hs]
 cases hn:P.funcNamed c.func with
 | none=>rfl
 | some f =>
  have hcl:((P.closure f).any fun g=>(P.funcs[g]?).any Func.goes)=false:=by
   simp only[hf]
   simp
  show (P.goes f||false)=false
  unfold Program.goes
  rw[hcl,hall]
  simp
theorem c4a:Tryz.prog.funcs.toList.any Func.goes=false:=by kernel_rfl
theorem c4:false=Rows.midBlocksUptoRow.goesBy Tryz.prog:=(goes_none rfl c4a).symm
end
end Go.Proofs.YtihbimigddlbaaaGreatDoor
end
