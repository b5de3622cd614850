/-
  DERIVED. GIVEN WITH THE SEED: THE CARDS: each row of YtpcfidjmdfhigaaGreatDoorRows.lean that lists a variable, with what it lists TIED to the program's text (the seventh form; the later family's looks); each row that meets fmt, with fmt's text TOLD by the authors' own Lean function (tested against real Go, not proved from fmt's source: count such statements apart). THE CARD IS WHAT COUNTS. Prove the row's statement (the work); the ties are given (YtpcfidjmdfhigaaGreatDoorTie.lean); close each card by the builder's one call (the guide's Derived/Test/ToyasCard.lean, 'card_holds'). Laid BY PROGRAM, IN A SANDBOX (cutbox-door.mjs). By AI agents, Wed Nov 11 2026. No macro, syntax, notation, axiom, sorry.
-/
import Derived.Test.YtpcfidjmdfhigaaGreatDoorRows
import GoSem.ClaimSeven
namespace Go.Proofs.YtpcfidjmdfhigaaGreatDoor
namespace Rows

/-- THE TIED CARD OF 'consistorylaw23.VaultEpochs'. -/
def vaultEpochsCard : Claim7 := { stood := { row := vaultEpochsRow, standIns := [], harness := (true, "272e481c4ac3fd9181818b762f333697dce29714cd35242dc020c99daee51ce2"), looks := true }, kinds := [], alts := [], laidByText := true, laidKinds := [.data, .data], laidTests := true, laidLooks := .later }
def VaultEpochsCardSaid : Prop := Claim7.holds Tryz.pinned (.plain (OpenSpec.ofChange vaultEpochsSpec)) vaultEpochsCard

/-- THE TIED CARD OF 'consistorylaw23.VaultHands'. -/
def vaultHandsCard : Claim7 := { stood := { row := vaultHandsRow, standIns := [], harness := (true, "272e481c4ac3fd9181818b762f333697dce29714cd35242dc020c99daee51ce2"), looks := true }, kinds := [], alts := [], laidByText := true, laidKinds := [.data, .data], laidTests := true, laidLooks := .later }
def VaultHandsCardSaid : Prop := Claim7.holds Tryz.pinned (.plain (OpenSpec.ofChange vaultHandsSpec)) vaultHandsCard

/-- THE TIED CARD OF 'consistorylaw23.VaultSound'. -/
def vaultSoundCard : Claim7 := { stood := { row := vaultSoundRow, standIns := [], harness := (true, "272e481c4ac3fd9181818b762f333697dce29714cd35242dc020c99daee51ce2"), looks := true }, kinds := [], alts := [], laidByText := true, laidKinds := [.data, .data], laidTests := true, laidLooks := .later }
def VaultSoundCardSaid : Prop := Claim7.holds Tryz.pinned (.plain (OpenSpec.ofChange vaultSoundSpec)) vaultSoundCard

/-- THE TIED CARD OF 'consistorylaw23.VaultBytes'. -/
def vaultBytesCard : Claim7 := { stood := { row := vaultBytesRow, standIns := [], harness := (true, "272e481c4ac3fd9181818b762f333697dce29714cd35242dc020c99daee51ce2"), looks := true }, kinds := [], alts := [], laidByText := true, laidKinds := [.data, .data], laidTests := true, laidLooks := .later }
def VaultBytesCardSaid : Prop := Claim7.holds Tryz.pinned (.plain (OpenSpec.ofChange vaultBytesSpec)) vaultBytesCard

/-- THE SECOND FORM's CARD OF 'consistorylaw23.VaultEpochs'. -/
def vaultEpochsUptoCard : Claim7 := { stood := { row := vaultEpochsUptoRow, standIns := [], harness := (true, "272e481c4ac3fd9181818b762f333697dce29714cd35242dc020c99daee51ce2"), looks := true }, kinds := [], alts := [], laidByText := true, laidKinds := [.data, .data], laidTests := true, laidLooks := .later }
def VaultEpochsUptoCardSaid : Prop := Claim7.holds Tryz.pinned (.plain (OpenSpec.upto vaultEpochsSpec)) vaultEpochsUptoCard

/-- THE SECOND FORM's CARD OF 'consistorylaw23.VaultHands'. -/
def vaultHandsUptoCard : Claim7 := { stood := { row := vaultHandsUptoRow, standIns := [], harness := (true, "272e481c4ac3fd9181818b762f333697dce29714cd35242dc020c99daee51ce2"), looks := true }, kinds := [], alts := [], laidByText := true, laidKinds := [.data, .data], laidTests := true, laidLooks := .later }
def VaultHandsUptoCardSaid : Prop := Claim7.holds Tryz.pinned (.plain (OpenSpec.upto vaultHandsSpec)) vaultHandsUptoCard

/-- THE SECOND FORM's CARD OF 'consistorylaw23.VaultSound'. -/
def vaultSoundUptoCard : Claim7 := { stood := { row := vaultSoundUptoRow, standIns := [], harness := (true, "272e481c4ac3fd9181818b762f333697dce29714cd35242dc020c99daee51ce2"), looks := true }, kinds := [], alts := [], laidByText := true, laidKinds := [.data, .data], laidTests := true, laidLooks := .later }
def VaultSoundUptoCardSaid : Prop := Claim7.holds Tryz.pinned (.plain (OpenSpec.upto vaultSoundSpec)) vaultSoundUptoCard

/-- THE SECOND FORM's CARD OF 'consistorylaw23.VaultBytes'. -/
def vaultBytesUptoCard : Claim7 := { stood := { row := vaultBytesUptoRow, standIns := [], harness := (true, "272e481c4ac3fd9181818b762f333697dce29714cd35242dc020c99daee51ce2"), looks := true }, kinds := [], alts := [], laidByText := true, laidKinds := [.data, .data], laidTests := true, laidLooks := .later }
def VaultBytesUptoCardSaid : Prop := Claim7.holds Tryz.pinned (.plain (OpenSpec.upto vaultBytesSpec)) vaultBytesUptoCard
end Rows
end Go.Proofs.YtpcfidjmdfhigaaGreatDoor
