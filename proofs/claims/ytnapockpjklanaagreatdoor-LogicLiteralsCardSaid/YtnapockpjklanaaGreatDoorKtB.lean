/- A part. -/
import Derived.Test.YtnapockpjklanaaGreatDoorKtA
import Derived.Test.YtnapockpjklanaaGreatDoorKxE
noncomputable section
set_option linter.all false
namespace Go.Proofs.YtnapockpjklanaaGreatDoor.Lit.Kt
open Go Go.RowKit Go.Proofs.YtnapockpjklanaaGreatDoor.Pl Go.Proofs.YtnapockpjklanaaGreatDoor.Kx
set_option maxRecDepth 1000000
def spaces : List CV := List.replicate 9 (.v (.int .u8 0)) ++ List.replicate 5 (.v (.int .u8 1)) ++ List.replicate 18 (.v (.int .u8 0)) ++ [.v (.int .u8 1)] ++ List.replicate 223 (.v (.int .u8 0))
def Gs : Gl := fun g => bif Nat.beq g 0 then some spaces else none
theorem ext_ok (w0 : World) : OrcOK Go.Proofs.Tryz.prog Gs w0 (indexByteO 224) :=
  indexByteO_ok (run_callFunc_extern Go.Proofs.Tryz.func224 (by kernel_rfl) (by kernel_rfl) (by kernel_rfl) (e := Extern.BytealgIndexByte.indexByte) (by kernel_rfl)) w0
theorem m1 : MemoOK Go.Proofs.Tryz.prog Gs 100 [.str [97]] (.v (.bool false)) := memo_of (d := 20) tys_ok fns_ok ext_ok (by kernel_rfl) rfl rfl
def tab : List (FuncId × List CV × CV) := [(100, [.str [97]], .v (.bool false))]
theorem tab_ok (w0 : World) : OrcOK Go.Proofs.Tryz.prog Gs w0 (memoO tab (indexByteO 224)) := memoO_ok ext_ok tab (by
  intro e he
  rcases List.mem_cons.1 he with rfl | he
  · exact m1
  · simp at he) w0
theorem sane : MemoOK Go.Proofs.Tryz.prog Gs 6 [] (.v (.bool true)) := memo_of (d := 60) tys_ok fns_ok tab_ok (by kernel_rfl) rfl rfl
end Go.Proofs.YtnapockpjklanaaGreatDoor.Lit.Kt
end
