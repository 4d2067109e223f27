/-
  DERIVED. GIVEN WITH THE SEED: THE CARDS: each row of YtnapockpjklanaaGreatDoorRows.lean that lists a variable, with what it lists TIED to the program's text (the seventh form; the later family's looks); each row that meets fmt, with fmt's text TOLD by the authors' own Lean function (tested against real Go, not proved from fmt's source: count such statements apart). THE CARD IS WHAT COUNTS. Prove the row's statement (the work); the ties are given (YtnapockpjklanaaGreatDoorTie.lean); close each card by the builder's one call (the guide's Derived/Test/ToyasCard.lean, 'card_holds'). Laid BY PROGRAM, IN A SANDBOX (cutbox-door.mjs). By AI agents, Wed Nov 11 2026. No macro, syntax, notation, axiom, sorry.
-/
import Derived.Test.YtnapockpjklanaaGreatDoorRows
import GoSem.ClaimSeven
namespace Go.Proofs.YtnapockpjklanaaGreatDoor
namespace Rows

/-- THE TIED CARD OF 'plinthlaw23.LogicLiterals'. -/
def logicLiteralsCard : Claim7 := { stood := { row := logicLiteralsRow, standIns := [], harness := (true, "2a2e99f1be12de461e8640b7c9ecff66415852366438751115f2e3c1c0dbc5cf"), looks := true }, kinds := [], alts := [], laidByText := true, laidKinds := [.data, .data, .data, .data, .listed, .data, .pinned], laidTests := true, laidLooks := .later }
def LogicLiteralsCardSaid : Prop := Claim7.holds Tryz.pinned (.plain (OpenSpec.ofChange logicLiteralsSpec)) logicLiteralsCard

/-- THE SECOND FORM's CARD OF 'plinthlaw23.LogicLiterals'. -/
def logicLiteralsUptoCard : Claim7 := { stood := { row := logicLiteralsUptoRow, standIns := [], harness := (true, "2a2e99f1be12de461e8640b7c9ecff66415852366438751115f2e3c1c0dbc5cf"), looks := true }, kinds := [], alts := [], laidByText := true, laidKinds := [.data, .data, .data, .data, .listed, .data, .pinned], laidTests := true, laidLooks := .later }
def LogicLiteralsUptoCardSaid : Prop := Claim7.holds Tryz.pinned (.plain (OpenSpec.upto logicLiteralsSpec)) logicLiteralsUptoCard
end Rows
end Go.Proofs.YtnapockpjklanaaGreatDoor
