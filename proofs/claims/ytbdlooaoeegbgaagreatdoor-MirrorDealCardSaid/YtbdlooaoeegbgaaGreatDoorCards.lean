/-
  DERIVED. GIVEN WITH THE SEED: THE CARDS: each row of YtbdlooaoeegbgaaGreatDoorRows.lean that lists a variable, with what it lists TIED to the program's text (the seventh form; the later family's looks); each row that meets fmt, with fmt's text TOLD by the authors' own Lean function (tested against real Go, not proved from fmt's source: count such statements apart). THE CARD IS WHAT COUNTS. Prove the row's statement (the work); the ties are given (YtbdlooaoeegbgaaGreatDoorTie.lean); close each card by the builder's one call (the guide's Derived/Test/ToyasCard.lean, 'card_holds'). Laid BY PROGRAM, IN A SANDBOX (cutbox-door.mjs). By AI agents, Wed Nov 11 2026. No macro, syntax, notation, axiom, sorry.
-/
import Derived.Test.YtbdlooaoeegbgaaGreatDoorRows
import GoSem.ClaimSeven
namespace Go.Proofs.YtbdlooaoeegbgaaGreatDoor
namespace Rows

/-- THE TIED CARD OF 'consistorylaw31.MirrorLoad'. -/
def mirrorLoadCard : Claim7 := { stood := { row := mirrorLoadRow, standIns := [], harness := (true, "0fbd2572bb3455cf3d09adc428a677aae81284dea88366fedfc808348bd83068"), looks := false }, kinds := [], alts := [], laidByText := true, laidKinds := [.data, .data], laidTests := true, laidLooks := .later }
def MirrorLoadCardSaid : Prop := Claim7.holds Tryz.pinned (.plain (OpenSpec.ofChange mirrorLoadSpec)) mirrorLoadCard

/-- THE TIED CARD OF 'consistorylaw31.MirrorScores'. -/
def mirrorScoresCard : Claim7 := { stood := { row := mirrorScoresRow, standIns := [], harness := (true, "0fbd2572bb3455cf3d09adc428a677aae81284dea88366fedfc808348bd83068"), looks := false }, kinds := [], alts := [], laidByText := true, laidKinds := [.data, .data], laidTests := true, laidLooks := .later }
def MirrorScoresCardSaid : Prop := Claim7.holds Tryz.pinned (.plain (OpenSpec.ofChange mirrorScoresSpec)) mirrorScoresCard

/-- THE TIED CARD OF 'consistorylaw31.MirrorDeal'. -/
def mirrorDealCard : Claim7 := { stood := { row := mirrorDealRow, standIns := [], harness := (true, "0fbd2572bb3455cf3d09adc428a677aae81284dea88366fedfc808348bd83068"), looks := false }, kinds := [], alts := [], laidByText := true, laidKinds := [.data, .data], laidTests := true, laidLooks := .later }
def MirrorDealCardSaid : Prop := Claim7.holds Tryz.pinned (.plain (OpenSpec.ofChange mirrorDealSpec)) mirrorDealCard

/-- THE SECOND FORM's CARD OF 'consistorylaw31.MirrorLoad'. -/
def mirrorLoadUptoCard : Claim7 := { stood := { row := mirrorLoadUptoRow, standIns := [], harness := (true, "0fbd2572bb3455cf3d09adc428a677aae81284dea88366fedfc808348bd83068"), looks := false }, kinds := [], alts := [], laidByText := true, laidKinds := [.data, .data], laidTests := true, laidLooks := .later }
def MirrorLoadUptoCardSaid : Prop := Claim7.holds Tryz.pinned (.plain (OpenSpec.upto mirrorLoadSpec)) mirrorLoadUptoCard

/-- THE SECOND FORM's CARD OF 'consistorylaw31.MirrorScores'. -/
def mirrorScoresUptoCard : Claim7 := { stood := { row := mirrorScoresUptoRow, standIns := [], harness := (true, "0fbd2572bb3455cf3d09adc428a677aae81284dea88366fedfc808348bd83068"), looks := false }, kinds := [], alts := [], laidByText := true, laidKinds := [.data, .data], laidTests := true, laidLooks := .later }
def MirrorScoresUptoCardSaid : Prop := Claim7.holds Tryz.pinned (.plain (OpenSpec.upto mirrorScoresSpec)) mirrorScoresUptoCard

/-- THE SECOND FORM's CARD OF 'consistorylaw31.MirrorDeal'. -/
def mirrorDealUptoCard : Claim7 := { stood := { row := mirrorDealUptoRow, standIns := [], harness := (true, "0fbd2572bb3455cf3d09adc428a677aae81284dea88366fedfc808348bd83068"), looks := false }, kinds := [], alts := [], laidByText := true, laidKinds := [.data, .data], laidTests := true, laidLooks := .later }
def MirrorDealUptoCardSaid : Prop := Claim7.holds Tryz.pinned (.plain (OpenSpec.upto mirrorDealSpec)) mirrorDealUptoCard
end Rows
end Go.Proofs.YtbdlooaoeegbgaaGreatDoor
