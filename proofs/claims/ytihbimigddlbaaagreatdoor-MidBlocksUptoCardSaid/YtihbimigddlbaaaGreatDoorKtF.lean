/- A part of the proof: KtMb4 PmN2. -/
import Derived.Test.YtihbimigddlbaaaGreatDoorKtB
import Derived.Test.YtihbimigddlbaaaGreatDoorKtC
import Derived.Test.YtihbimigddlbaaaGreatDoorKtD
import Derived.Test.YtihbimigddlbaaaGreatDoorKtE
import Derived.Test.YtihbimigddlbaaaGreatDoorKxE
import Derived.Test.YtihbimigddlbaaaGreatDoorMbB
import Derived.Test.YtihbimigddlbaaaGreatDoorUnJ
noncomputable section
set_option linter.all false
namespace Go.Proofs.YtihbimigddlbaaaGreatDoor.L
open Go Go.RowKit Go.Proofs.YtihbimigddlbaaaGreatDoor.Pl Go.Proofs.YtihbimigddlbaaaGreatDoor.Kx
set_option maxRecDepth 1000000
section
def mtab:List (FuncId×List CV×CV):=[(115,[.str [112]],.v (.bool true)),(115,[.str [120]],.v (.bool true)),(115,[.str [97]],.v (.bool true)),(115,[.str [90,118]],.v (.bool true))]
theorem mtab_ok (w0:World):OrcOK Tryz.prog Gs w0 (memoO mtab (orO collectO (indexByteO 288))):=memoO_ok (fun w0=>orO_ok (collectO_ok w0) (ext_ok w0)) mtab (by
 intro e he
 rcases List.mem_cons.1 he with rfl | he
 ·exact nm_p
 rcases List.mem_cons.1 he with rfl | he
 ·exact nm_x
 rcases List.mem_cons.1 he with rfl | he
 ·exact nm_a
 rcases List.mem_cons.1 he with rfl | he
 ·exact nm_Z
 ·simp at he) w0
theorem sane_memo:MemoOK Tryz.prog Gs 5 [] (.v (.bool true)):=memo_of (d:=60) Kt.tys_ok Kt.fns_ok mtab_ok (by kernel_rfl) rfl rfl
end
end Go.Proofs.YtihbimigddlbaaaGreatDoor.L
end
noncomputable section
set_option linter.all false
namespace Go.Proofs.YtihbimigddlbaaaGreatDoor.L
open Go Go.RowKit Go.Proofs.YtihbimigddlbaaaGreatDoor.Pl Go.Proofs.YtihbimigddlbaaaGreatDoor.Kx
section
theorem sane_pc:@PC (gmOf Gs) Tryz.prog 5 [] (tB true):=sane_memo.pc (@sane_ent (gmOf Gs))
end
end Go.Proofs.YtihbimigddlbaaaGreatDoor.L
end
