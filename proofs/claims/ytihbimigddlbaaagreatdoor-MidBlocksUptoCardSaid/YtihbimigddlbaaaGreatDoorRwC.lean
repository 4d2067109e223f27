/- A part of the proof: PmR5. -/
import Derived.Test.YtihbimigddlbaaaGreatDoorRwB
noncomputable section
set_option linter.all false
namespace Go.Proofs.YtihbimigddlbaaaGreatDoor
open Go Go.Proofs.YtihbimigddlbaaaGreatDoor.Pl Go.ChangeShapes Go.WideShapes Go.ChangeAt Go.RowKit
open Go.Proofs.YtihbimigddlbaaaGreatDoor.L
set_option maxRecDepth 100000
section
theorem lifted (os:Os) (started:os.Started) (H:Type) (enc:TypeId×Value→H) (F:Stop.Interp) :
  ReturnsInHanded {} Tryz.checked os 3 .any ((Rows.OpenSpec.upto Rows.midBlocksSpec).preRow enc Tryz.prog Tryz.f3 Rows.midBlocksUptoRow.domain false Rows.midBlocksUptoRow.laid) (((Rows.OpenSpec.upto Rows.midBlocksSpec).at F).post enc Tryz.prog Tryz.f3 false true false false):=by
 obtain⟨places,hx⟩:=w_reads os enc
 have hok:=w_ok os
 refine @row_upto (Kx.gmOf Gs) H enc Tryz.checked os 3 Tryz.f3 (Rows.OpenSpec.upto Rows.midBlocksSpec) F Rows.midBlocksUptoRow.domain true tab [24,3,9,22] [24] 4 Rows.midBlocksUptoRow.laid (msr H) 1048576 Tryz.own started (by kernel_rfl) Tryz.func3 Tryz.laidOut
  ⟨World.laidAll Tryz.prog os Rows.midBlocksUptoRow.laid,fun _ _=>0,⟨#[],wArgs,[]⟩,World.laidAll_os _ _ _,w_shaped os,(Input.okWide_of_okWideB (base:=0) hok).1,(Input.okWide_of_okWideB hok).2,
   OpenSpec.preRow_of_cond 8 hx (by kernel_rfl) (fun k hk=>by cases hk;kernel_rfl) (by kernel_rfl) (w_laid os),by
    simp only[Assume.holds]
    exact⟨by simp,by simp,fun _=>Modest.zero,by simp,by simp⟩⟩
  tok (by kernel_rfl) rfl (by decide) (by decide +kernel) rfl Tryz.underlying4 rfl rfl rfl ?_ ?_ ?_ ?_
 ·intro ds h
  match ds,h with
  | [d1],_=>exact⟨rfl,rfl,rfl⟩
 ·refine⟨Rows.uptoSmall,rfl,fun ds hk=>?_⟩
  have:=of_decide_eq_true hk
  rw[bulk_sum] at this
  exact this
 ·exact fun W h=>global0 h
 ·exact law_upto
end
end Go.Proofs.YtihbimigddlbaaaGreatDoor
end
