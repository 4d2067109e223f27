/-
  DERIVED. GIVEN WITH THE SEED: THE CARDS: each row of YtihbimigddlbaaaGreatDoorRows.lean that lists a variable, with what it lists TIED to the program's text (the seventh form; the later family's looks); each row that meets fmt, with fmt's text TOLD by the authors' own Lean function (tested against real Go, not proved from fmt's source: count such statements apart). THE CARD IS WHAT COUNTS. Prove the row's statement (the work); the ties are given (YtihbimigddlbaaaGreatDoorTie.lean); close each card by the builder's one call (the guide's Derived/Test/ToyasCard.lean, 'card_holds'). Laid BY PROGRAM, IN A SANDBOX (cutbox-door.mjs). By AI agents, Wed Nov 11 2026. No macro, syntax, notation, axiom, sorry.
-/
import Derived.Test.YtihbimigddlbaaaGreatDoorRows
import GoSem.ClaimSeven
namespace Go.Proofs.YtihbimigddlbaaaGreatDoor
namespace Rows

/-- THE TIED CARD OF 'plinthlaw24.MidBlocks'. -/
def midBlocksCard : Claim7 := { stood := { row := midBlocksRow, standIns := [], harness := (true, "d4f554be3b1eb04b6f48dcd944018ecf5ff0c12ca1cb6b000498a72e8c965015"), looks := true }, kinds := [], alts := [], laidByText := true, laidKinds := [.data, .data, .data, .data, .listed, .data, .pinned], laidTests := true, laidLooks := .later }
def MidBlocksCardSaid : Prop := Claim7.holds Tryz.pinned (.plain (OpenSpec.ofChange midBlocksSpec)) midBlocksCard

/-- THE SECOND FORM's CARD OF 'plinthlaw24.MidBlocks'. -/
def midBlocksUptoCard : Claim7 := { stood := { row := midBlocksUptoRow, standIns := [], harness := (true, "d4f554be3b1eb04b6f48dcd944018ecf5ff0c12ca1cb6b000498a72e8c965015"), looks := true }, kinds := [], alts := [], laidByText := true, laidKinds := [.data, .data, .data, .data, .listed, .data, .pinned], laidTests := true, laidLooks := .later }
def MidBlocksUptoCardSaid : Prop := Claim7.holds Tryz.pinned (.plain (OpenSpec.upto midBlocksSpec)) midBlocksUptoCard
end Rows
end Go.Proofs.YtihbimigddlbaaaGreatDoor
