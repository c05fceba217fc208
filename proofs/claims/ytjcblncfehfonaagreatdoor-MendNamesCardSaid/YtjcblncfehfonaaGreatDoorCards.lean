/-
  DERIVED. GIVEN WITH THE SEED: THE CARDS: each row of YtjcblncfehfonaaGreatDoorRows.lean that lists a variable, with what it lists TIED to the program's text (the seventh form; the later family's looks); each row that meets fmt, with fmt's text TOLD by the authors' own Lean function (tested against real Go, not proved from fmt's source: count such statements apart). THE CARD IS WHAT COUNTS. Prove the row's statement (the work); the ties are given (YtjcblncfehfonaaGreatDoorTie.lean); close each card by the builder's one call (the guide's Derived/Test/ToyasCard.lean, 'card_holds'). Laid BY PROGRAM, IN A SANDBOX (cutbox-door.mjs). By AI agents, Wed Nov 11 2026. No macro, syntax, notation, axiom, sorry.
-/
import Derived.Test.YtjcblncfehfonaaGreatDoorRows
import GoSem.ClaimSeven
namespace Go.Proofs.YtjcblncfehfonaaGreatDoor
namespace Rows

/-- THE TIED CARD OF 'mosaiclaw29.MendNames'. -/
def mendNamesCard : Claim7 := { stood := { row := mendNamesRow, standIns := [], harness := (true, "13fc9518fd756385de612ae893254afbe977771cda31861f925f05dda73edece"), looks := true }, kinds := [], alts := [], laidByText := true, laidKinds := [.handle], laidTests := true, laidLooks := .later }
def MendNamesCardSaid : Prop := Claim7.holds Tryz.pinned (.plain (OpenSpec.ofChange mendNamesSpec)) mendNamesCard

/-- THE SECOND FORM's CARD OF 'mosaiclaw29.MendNames'. -/
def mendNamesUptoCard : Claim7 := { stood := { row := mendNamesUptoRow, standIns := [], harness := (true, "13fc9518fd756385de612ae893254afbe977771cda31861f925f05dda73edece"), looks := true }, kinds := [], alts := [], laidByText := true, laidKinds := [.handle], laidTests := true, laidLooks := .later }
def MendNamesUptoCardSaid : Prop := Claim7.holds Tryz.pinned (.plain (OpenSpec.upto mendNamesSpec)) mendNamesUptoCard
end Rows
end Go.Proofs.YtjcblncfehfonaaGreatDoor
