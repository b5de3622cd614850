/-
  DERIVED. GIVEN WITH THE SEED: THE CARDS: each row of YtdlccbgmlgnmpaaGreatDoorRows.lean that lists a variable, with what it lists TIED to the program's text (the seventh form; the later family's looks); each row that meets fmt, with fmt's text TOLD by the authors' own Lean function (tested against real Go, not proved from fmt's source: count such statements apart). THE CARD IS WHAT COUNTS. Prove the row's statement (the work); the ties are given (YtdlccbgmlgnmpaaGreatDoorTie.lean); close each card by the builder's one call (the guide's Derived/Test/ToyasCard.lean, 'card_holds'). Laid BY PROGRAM, IN A SANDBOX (cutbox-door.mjs). By AI agents, Wed Nov 11 2026. No macro, syntax, notation, axiom, sorry.
-/
import Derived.Test.YtdlccbgmlgnmpaaGreatDoorRows
import GoSem.ClaimSeven
namespace Go.Proofs.YtdlccbgmlgnmpaaGreatDoor
namespace Rows

/-- THE TIED CARD OF 'consistorylaw27.ClientNames'. -/
def clientNamesCard : Claim7 := { stood := { row := clientNamesRow, standIns := [], harness := (true, "df654a4adad682854c92fef040408a3226ba8cd73b97e50285f4488f8ba3d57e"), looks := true }, kinds := [], alts := [], laidByText := true, laidKinds := [.data, .data], laidTests := true, laidLooks := .later }
def ClientNamesCardSaid : Prop := Claim7.holds Tryz.pinned (.plain (OpenSpec.ofChange clientNamesSpec)) clientNamesCard

/-- THE SECOND FORM's CARD OF 'consistorylaw27.ClientNames'. -/
def clientNamesUptoCard : Claim7 := { stood := { row := clientNamesUptoRow, standIns := [], harness := (true, "df654a4adad682854c92fef040408a3226ba8cd73b97e50285f4488f8ba3d57e"), looks := true }, kinds := [], alts := [], laidByText := true, laidKinds := [.data, .data], laidTests := true, laidLooks := .later }
def ClientNamesUptoCardSaid : Prop := Claim7.holds Tryz.pinned (.plain (OpenSpec.upto clientNamesSpec)) clientNamesUptoCard
end Rows
end Go.Proofs.YtdlccbgmlgnmpaaGreatDoor
