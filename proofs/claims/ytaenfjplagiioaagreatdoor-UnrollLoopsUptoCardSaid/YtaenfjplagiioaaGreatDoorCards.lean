/-
  DERIVED. GIVEN WITH THE SEED: THE CARDS: each row of YtaenfjplagiioaaGreatDoorRows.lean that lists a variable, with what it lists TIED to the program's text (the seventh form; the later family's looks); each row that meets fmt, with fmt's text TOLD by the authors' own Lean function (tested against real Go, not proved from fmt's source: count such statements apart). THE CARD IS WHAT COUNTS. Prove the row's statement (the work); the ties are given (YtaenfjplagiioaaGreatDoorTie.lean); close each card by the builder's one call (the guide's Derived/Test/ToyasCard.lean, 'card_holds'). Laid BY PROGRAM, IN A SANDBOX (cutbox-door.mjs). By AI agents, Wed Nov 11 2026. No macro, syntax, notation, axiom, sorry.
-/
import Derived.Test.YtaenfjplagiioaaGreatDoorRows
import GoSem.ClaimSeven
namespace Go.Proofs.YtaenfjplagiioaaGreatDoor
namespace Rows

/-- THE TIED CARD OF 'plinthlaw27.UnrollLoops'. -/
def unrollLoopsCard : Claim7 := { stood := { row := unrollLoopsRow, standIns := [], harness := (true, "c9adedd97a51b5c633803ce27661d7b2ecc68114af2db4b343e665a4e3cbb32a"), looks := true }, kinds := [], alts := [], laidByText := true, laidKinds := [.data, .listed, .data, .pinned], laidTests := true, laidLooks := .later }
def UnrollLoopsCardSaid : Prop := Claim7.holds Tryz.pinned (.plain (OpenSpec.ofChange unrollLoopsSpec)) unrollLoopsCard

/-- THE SECOND FORM's CARD OF 'plinthlaw27.UnrollLoops'. -/
def unrollLoopsUptoCard : Claim7 := { stood := { row := unrollLoopsUptoRow, standIns := [], harness := (true, "c9adedd97a51b5c633803ce27661d7b2ecc68114af2db4b343e665a4e3cbb32a"), looks := true }, kinds := [], alts := [], laidByText := true, laidKinds := [.data, .listed, .data, .pinned], laidTests := true, laidLooks := .later }
def UnrollLoopsUptoCardSaid : Prop := Claim7.holds Tryz.pinned (.plain (OpenSpec.upto unrollLoopsSpec)) unrollLoopsUptoCard
end Rows
end Go.Proofs.YtaenfjplagiioaaGreatDoor
