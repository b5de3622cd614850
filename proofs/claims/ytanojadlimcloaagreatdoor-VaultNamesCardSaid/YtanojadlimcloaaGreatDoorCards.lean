/-
  DERIVED. GIVEN WITH THE SEED: THE CARDS: each row of YtanojadlimcloaaGreatDoorRows.lean that lists a variable, with what it lists TIED to the program's text (the seventh form; the later family's looks); each row that meets fmt, with fmt's text TOLD by the authors' own Lean function (tested against real Go, not proved from fmt's source: count such statements apart). THE CARD IS WHAT COUNTS. Prove the row's statement (the work); the ties are given (YtanojadlimcloaaGreatDoorTie.lean); close each card by the builder's one call (the guide's Derived/Test/ToyasCard.lean, 'card_holds'). Laid BY PROGRAM, IN A SANDBOX (cutbox-door.mjs). By AI agents, Wed Nov 11 2026. No macro, syntax, notation, axiom, sorry.
-/
import Derived.Test.YtanojadlimcloaaGreatDoorRows
import GoSem.ClaimSeven
namespace Go.Proofs.YtanojadlimcloaaGreatDoor
namespace Rows

/-- THE TIED CARD OF 'consistorylaw23.VaultNames'. -/
def vaultNamesCard : Claim7 := { stood := { row := vaultNamesRow, standIns := [], harness := (true, "782d6b2f4c7e81def116fb6705e168f5ff37dcfb1ad429cf285ddada3d1acc69"), looks := true }, kinds := [], alts := [], laidByText := true, laidKinds := [.data, .data], laidTests := true, laidLooks := .later }
def VaultNamesCardSaid : Prop := Claim7.holds Tryz.pinned (.plain (OpenSpec.ofChange vaultNamesSpec)) vaultNamesCard

/-- THE SECOND FORM's CARD OF 'consistorylaw23.VaultNames'. -/
def vaultNamesUptoCard : Claim7 := { stood := { row := vaultNamesUptoRow, standIns := [], harness := (true, "782d6b2f4c7e81def116fb6705e168f5ff37dcfb1ad429cf285ddada3d1acc69"), looks := true }, kinds := [], alts := [], laidByText := true, laidKinds := [.data, .data], laidTests := true, laidLooks := .later }
def VaultNamesUptoCardSaid : Prop := Claim7.holds Tryz.pinned (.plain (OpenSpec.upto vaultNamesSpec)) vaultNamesUptoCard
end Rows
end Go.Proofs.YtanojadlimcloaaGreatDoor
