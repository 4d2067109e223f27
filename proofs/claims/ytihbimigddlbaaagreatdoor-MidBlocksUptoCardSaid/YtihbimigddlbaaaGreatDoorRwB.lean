/- A part of the proof: PmR4. -/
import Derived.Test.YtihbimigddlbaaaGreatDoorRwA
noncomputable section
set_option linter.all false
namespace Go.Proofs.YtihbimigddlbaaaGreatDoor
open Go Go.Proofs.YtihbimigddlbaaaGreatDoor.Pl Go.ChangeShapes Go.WideShapes Go.ChangeAt Go.RowKit
open Go.Proofs.YtihbimigddlbaaaGreatDoor.L
section
theorem Tryz.own:ownKnob Tryz.prog.godebug=none:=by kernel_rfl
theorem Tryz.laidOut:laidOutB Tryz.prog=true:=by kernel_rfl
def wArgs:Array Value:=#[.agg #[.int .i64 0,.int .i64 0,.string ⟨#[]⟩,.slice none 0 0]]
def wData {H:Type}:List (DataW H):=[.agg [.lit (.int .i64 0),.lit (.int .i64 0),.lit (.string []),.nil]]
set_option maxRecDepth 100000
theorem w_shaped (os:Os):((World.laidAll Tryz.prog os Rows.midBlocksUptoRow.laid).forCall (fun _ _=>0) ⟨#[],wArgs,[]⟩).Shaped Tryz.prog:=World.shaped_of_ZipB (by kernel_rfl) (by kernel_rfl)
theorem w_laid (os:Os):laidMetH Tryz.prog Rows.midBlocksUptoRow.laid ((World.laidAll Tryz.prog os Rows.midBlocksUptoRow.laid).forCall (fun _ _=>0) ⟨#[],wArgs,[]⟩).memory:=by
 rw[MakeChecks.laidMetH_plain _ _ _ (by kernel_rfl)]
 exact laidMet_laidAll _ (by kernel_rfl) (by kernel_rfl)
theorem w_reads (os:Os) {H:Type} (enc:TypeId×Value→H):∃ places,DataW.whole enc Tryz.prog ((World.laidAll Tryz.prog os Rows.midBlocksUptoRow.laid).forCall (fun _ _=>0) ⟨#[],wArgs,[]⟩).memory Tryz.f3.params.toList Rows.midBlocksSpec.vars false wArgs.toList 8=some (wData,[],places) :=
 ⟨[],by kernel_rfl⟩
theorem w_ok (os:Os):Input.okWideB Tryz.prog ((World.laidAll Tryz.prog os Rows.midBlocksUptoRow.laid).forCall (fun _ _=>0) ⟨#[],wArgs,[]⟩) 3 ⟨#[],wArgs,[]⟩=true:=by kernel_rfl
end
end Go.Proofs.YtihbimigddlbaaaGreatDoor
end
