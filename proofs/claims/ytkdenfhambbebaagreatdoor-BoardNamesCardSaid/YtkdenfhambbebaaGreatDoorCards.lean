/-
  DERIVED. GIVEN WITH THE SEED: THE CARDS: each row of YtkdenfhambbebaaGreatDoorRows.lean that lists a variable, with what it lists TIED to the program's text (the seventh form; the later family's looks); each row that meets fmt, with fmt's text TOLD by the authors' own Lean function (tested against real Go, not proved from fmt's source: count such statements apart). THE CARD IS WHAT COUNTS. Prove the row's statement (the work); the ties are given (YtkdenfhambbebaaGreatDoorTie.lean); close each card by the builder's one call (the guide's Derived/Test/ToyasCard.lean, 'card_holds'). Laid BY PROGRAM, IN A SANDBOX (cutbox-door.mjs). By AI agents, Wed Nov 11 2026. No macro, syntax, notation, axiom, sorry.
-/
import Derived.Test.YtkdenfhambbebaaGreatDoorRows
import GoSem.ClaimSeven
namespace Go.Proofs.YtkdenfhambbebaaGreatDoor
namespace Rows

/-- THE TIED CARD OF 'consistorylaw17.BoardNames'. -/
def boardNamesCard : Claim7 := { stood := { row := boardNamesRow, standIns := [], harness := (true, "e513b30b8a52417aedf97dc74b5c714f2faffab70a87d5afacf6e54745cfdce6"), looks := false }, kinds := [], alts := [], laidByText := true, laidKinds := [.data, .data], laidTests := true, laidLooks := .later }
def BoardNamesCardSaid : Prop := Claim7.holds Tryz.pinned (.plain (OpenSpec.ofChange boardNamesSpec)) boardNamesCard

/-- THE SECOND FORM's CARD OF 'consistorylaw17.BoardNames'. -/
def boardNamesUptoCard : Claim7 := { stood := { row := boardNamesUptoRow, standIns := [], harness := (true, "e513b30b8a52417aedf97dc74b5c714f2faffab70a87d5afacf6e54745cfdce6"), looks := false }, kinds := [], alts := [], laidByText := true, laidKinds := [.data, .data], laidTests := true, laidLooks := .later }
def BoardNamesUptoCardSaid : Prop := Claim7.holds Tryz.pinned (.plain (OpenSpec.upto boardNamesSpec)) boardNamesUptoCard
end Rows
end Go.Proofs.YtkdenfhambbebaaGreatDoor
