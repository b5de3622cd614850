/-
  DERIVED. GIVEN WITH THE SEED: THE CARDS: each row of YtpcbceaggaddfaaGreatDoorRows.lean that lists a variable, with what it lists TIED to the program's text (the seventh form; the later family's looks); each row that meets fmt, with fmt's text TOLD by the authors' own Lean function (tested against real Go, not proved from fmt's source: count such statements apart). THE CARD IS WHAT COUNTS. Prove the row's statement (the work); the ties are given (YtpcbceaggaddfaaGreatDoorTie.lean); close each card by the builder's one call (the guide's Derived/Test/ToyasCard.lean, 'card_holds'). Laid BY PROGRAM, IN A SANDBOX (cutbox-door.mjs). By AI agents, Wed Nov 11 2026. No macro, syntax, notation, axiom, sorry.
-/
import Derived.Test.YtpcbceaggaddfaaGreatDoorRows
import GoSem.ClaimSeven
namespace Go.Proofs.YtpcbceaggaddfaaGreatDoor
namespace Rows

/-- THE TIED CARD OF 'consistorylaw17.BoardTold'. -/
def boardToldCard : Claim7 := { stood := { row := boardToldRow, standIns := [], harness := (true, "cac1d9c074c52fad6f240b1c3c9dec7f993f31ed0aef5c9e475a15e774092279"), looks := false }, kinds := [], alts := [], laidByText := true, laidKinds := [.data, .data], laidTests := true, laidLooks := .later }
def BoardToldCardSaid : Prop := Claim7.holds Tryz.pinned (.plain (OpenSpec.ofChange boardToldSpec)) boardToldCard

/-- THE TIED CARD OF 'consistorylaw17.BoardPlays'. -/
def boardPlaysCard : Claim7 := { stood := { row := boardPlaysRow, standIns := [], harness := (true, "cac1d9c074c52fad6f240b1c3c9dec7f993f31ed0aef5c9e475a15e774092279"), looks := false }, kinds := [], alts := [], laidByText := true, laidKinds := [.data, .data], laidTests := true, laidLooks := .later }
def BoardPlaysCardSaid : Prop := Claim7.holds Tryz.pinned (.plain (OpenSpec.ofChange boardPlaysSpec)) boardPlaysCard

/-- THE TIED CARD OF 'consistorylaw17.BoardAnew'. -/
def boardAnewCard : Claim7 := { stood := { row := boardAnewRow, standIns := [], harness := (true, "cac1d9c074c52fad6f240b1c3c9dec7f993f31ed0aef5c9e475a15e774092279"), looks := false }, kinds := [], alts := [], laidByText := true, laidKinds := [.data, .data], laidTests := true, laidLooks := .later }
def BoardAnewCardSaid : Prop := Claim7.holds Tryz.pinned (.plain (OpenSpec.ofChange boardAnewSpec)) boardAnewCard

/-- THE SECOND FORM's CARD OF 'consistorylaw17.BoardTold'. -/
def boardToldUptoCard : Claim7 := { stood := { row := boardToldUptoRow, standIns := [], harness := (true, "cac1d9c074c52fad6f240b1c3c9dec7f993f31ed0aef5c9e475a15e774092279"), looks := false }, kinds := [], alts := [], laidByText := true, laidKinds := [.data, .data], laidTests := true, laidLooks := .later }
def BoardToldUptoCardSaid : Prop := Claim7.holds Tryz.pinned (.plain (OpenSpec.upto boardToldSpec)) boardToldUptoCard

/-- THE SECOND FORM's CARD OF 'consistorylaw17.BoardPlays'. -/
def boardPlaysUptoCard : Claim7 := { stood := { row := boardPlaysUptoRow, standIns := [], harness := (true, "cac1d9c074c52fad6f240b1c3c9dec7f993f31ed0aef5c9e475a15e774092279"), looks := false }, kinds := [], alts := [], laidByText := true, laidKinds := [.data, .data], laidTests := true, laidLooks := .later }
def BoardPlaysUptoCardSaid : Prop := Claim7.holds Tryz.pinned (.plain (OpenSpec.upto boardPlaysSpec)) boardPlaysUptoCard

/-- THE SECOND FORM's CARD OF 'consistorylaw17.BoardAnew'. -/
def boardAnewUptoCard : Claim7 := { stood := { row := boardAnewUptoRow, standIns := [], harness := (true, "cac1d9c074c52fad6f240b1c3c9dec7f993f31ed0aef5c9e475a15e774092279"), looks := false }, kinds := [], alts := [], laidByText := true, laidKinds := [.data, .data], laidTests := true, laidLooks := .later }
def BoardAnewUptoCardSaid : Prop := Claim7.holds Tryz.pinned (.plain (OpenSpec.upto boardAnewSpec)) boardAnewUptoCard
end Rows
end Go.Proofs.YtpcbceaggaddfaaGreatDoor
