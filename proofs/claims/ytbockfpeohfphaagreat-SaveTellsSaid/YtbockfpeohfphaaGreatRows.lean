/-
  No cell of these rows narrows 'for every input' (looked for: loops, veiled, ifaces, maps, wideKeys, modest, calm, conditions, laid).
  DERIVED. THE GIVEN ROWS OF THIS SEAT. 3 by the template 'for every input the law returns true; each argument reads behind the call as it read before'; 0 by the template 'total and deterministic' (their statements: YtbockfpeohfphaaGreatTotals.lean).
  GIVEN WITH THE SEED: the statements are not yours to turn. If you find one false, say at which input.
  Laid BY PROGRAM, IN A SANDBOX (cutbox-rows.mjs): the forced cells as the released guide's own fill.sh prints them over the translation 21efa557d01be728… (all of the seat's roots in one cut). By AI agents, Wed Nov 11 2026. No macro, syntax, notation, axiom, sorry.
-/
import Derived.Test.YtbockfpeohfphaaGreatChecked
import GoSem.Claim
import GoSem.ClaimJoined
import GoSem.ClaimMapViews
import Derived.JoinedTies
import Derived.KernelRfl
namespace Go.Proofs.YtbockfpeohfphaaGreat
/- THE CELL 'sum', in the pinned program and in every row, IS THE sha256 OF THE DUMP (.gsa) THAT YtbockfpeohfphaaGreatProg.lean LOADS. Nothing in Lean hashes anything: it is a label: what it is worth is what the hold of that sum in a sandbox is worth. -/
noncomputable def Tryz.pinned : Pinned := { name := "ytbockfpeohfphaagreat", sum := "21efa557d01be7288d41002f071dc19b3e761ed4796ad7b2d2d6821cb16e4317", checked := Tryz.checked }
namespace Rows
def none {H : Type} : Left H := { results := [], args := [] }

/-- 'consistorylaw25.SaveTells': WHATEVER THE INPUT: true; the input reads as it did. -/
def saveTellsSpec : ChangeSpec := { name := "saveTells", fn := fun _ => fun
  | [d1, d2] => { results := [.lit (.bool true)], args := [d1, d2] }
  | _ => none }
def saveTellsRow : OpenClaim := { program := "ytbockfpeohfphaagreat", sum := "21efa557d01be7288d41002f071dc19b3e761ed4796ad7b2d2d6821cb16e4317", func := "consistory/consistorylaw25.SaveTells", spec := "saveTells", unfollowed := true, recurses := true, apart := false }
def SaveTellsSaid : Prop := saveTellsRow.holds Tryz.pinned (OpenSpec.ofChange saveTellsSpec)

/-- ITS FALSE NEIGHBOUR: 'it returns false'. Refute it at one input. -/
def saveTellsWrong : ChangeSpec := { name := "saveTells", fn := fun _ => fun
  | [d1, d2] => { results := [.lit (.bool false)], args := [d1, d2] }
  | _ => none }
def SaveTellsWrongFalsely : Prop := saveTellsRow.holds Tryz.pinned (OpenSpec.ofChange saveTellsWrong)

/-- 'consistorylaw25.SaveBack': WHATEVER THE INPUT: true; the input reads as it did. -/
def saveBackSpec : ChangeSpec := { name := "saveBack", fn := fun _ => fun
  | [d1, d2] => { results := [.lit (.bool true)], args := [d1, d2] }
  | _ => none }
def saveBackRow : OpenClaim := { program := "ytbockfpeohfphaagreat", sum := "21efa557d01be7288d41002f071dc19b3e761ed4796ad7b2d2d6821cb16e4317", func := "consistory/consistorylaw25.SaveBack", spec := "saveBack", unfollowed := true, recurses := true, apart := false }
def SaveBackSaid : Prop := saveBackRow.holds Tryz.pinned (OpenSpec.ofChange saveBackSpec)

/-- ITS FALSE NEIGHBOUR: 'it returns false'. Refute it at one input. -/
def saveBackWrong : ChangeSpec := { name := "saveBack", fn := fun _ => fun
  | [d1, d2] => { results := [.lit (.bool false)], args := [d1, d2] }
  | _ => none }
def SaveBackWrongFalsely : Prop := saveBackRow.holds Tryz.pinned (OpenSpec.ofChange saveBackWrong)

/-- 'consistorylaw25.SaveOne': WHATEVER THE INPUT: true; the input reads as it did. -/
def saveOneSpec : ChangeSpec := { name := "saveOne", fn := fun _ => fun
  | [d1, d2] => { results := [.lit (.bool true)], args := [d1, d2] }
  | _ => none }
def saveOneRow : OpenClaim := { program := "ytbockfpeohfphaagreat", sum := "21efa557d01be7288d41002f071dc19b3e761ed4796ad7b2d2d6821cb16e4317", func := "consistory/consistorylaw25.SaveOne", spec := "saveOne", unfollowed := true, recurses := true, apart := false }
def SaveOneSaid : Prop := saveOneRow.holds Tryz.pinned (OpenSpec.ofChange saveOneSpec)

/-- ITS FALSE NEIGHBOUR: 'it returns false'. Refute it at one input. -/
def saveOneWrong : ChangeSpec := { name := "saveOne", fn := fun _ => fun
  | [d1, d2] => { results := [.lit (.bool false)], args := [d1, d2] }
  | _ => none }
def SaveOneWrongFalsely : Prop := saveOneRow.holds Tryz.pinned (OpenSpec.ofChange saveOneWrong)

/- THE SECOND FORM. 'bulk': how many values and letters a reading holds, each counted each time it is reached (what is shared counts as often as it is met; a slice's spare places count too). A statement '..UptoSaid' is the law's where the arguments, and the package variables that the reading takes, are together of bulk at most 1048576: NARROWER than '..Said'. Prove '..Said' where nothing that the law and all that it calls make is longer than what came in: it says more and counts as full. Else prove '..UptoSaid'. A law counts once. -/
mutual
def uptoBulk {H : Type} : DataW H → Nat
  | .lit (.string bytes) => bytes.length + 1
  | .lit _ => 1
  | .nil => 1
  | .ptr d => uptoBulk d + 1
  | .slice elems spare => uptoBulkAll elems + uptoBulkAll spare + 1
  | .agg parts => uptoBulkAll parts + 1
  | .iface _ d => uptoBulk d + 1
  | .map entries => uptoBulkEntries entries + 1
  | .held _ => 1
def uptoBulkAll {H : Type} : List (DataW H) → Nat
  | [] => 0
  | d :: r => uptoBulk d + uptoBulkAll r
def uptoBulkEntries {H : Type} : List (Lit × DataW H) → Nat
  | [] => 0
  | x :: r => uptoBulkEntry x + uptoBulkEntries r
def uptoBulkEntry {H : Type} : Lit × DataW H → Nat
  | (.string bytes, d) => bytes.length + uptoBulk d + 1
  | (_, d) => uptoBulk d + 1
 end
def uptoSmall : (H : Type) → List (DataW H) → Bool := fun _ ds => decide (uptoBulkAll ds ≤ 1048576)
def OpenSpec.upto (s : _root_.Go.ChangeSpec) : _root_.Go.OpenSpec := { _root_.Go.OpenSpec.ofChange s with cond := some uptoSmall }

/-- 'consistorylaw25.SaveTells', WHERE WHAT IT READS IS OF BULK AT MOST 1048576: true; the input reads as it did. -/
def saveTellsUptoRow : OpenClaim := { program := "ytbockfpeohfphaagreat", sum := "21efa557d01be7288d41002f071dc19b3e761ed4796ad7b2d2d6821cb16e4317", func := "consistory/consistorylaw25.SaveTells", spec := "saveTells", unfollowed := true, recurses := true, apart := false, narrowed := true }
def SaveTellsUptoSaid : Prop := saveTellsUptoRow.holds Tryz.pinned (OpenSpec.upto saveTellsSpec)

/-- 'consistorylaw25.SaveBack', WHERE WHAT IT READS IS OF BULK AT MOST 1048576: true; the input reads as it did. -/
def saveBackUptoRow : OpenClaim := { program := "ytbockfpeohfphaagreat", sum := "21efa557d01be7288d41002f071dc19b3e761ed4796ad7b2d2d6821cb16e4317", func := "consistory/consistorylaw25.SaveBack", spec := "saveBack", unfollowed := true, recurses := true, apart := false, narrowed := true }
def SaveBackUptoSaid : Prop := saveBackUptoRow.holds Tryz.pinned (OpenSpec.upto saveBackSpec)

/-- 'consistorylaw25.SaveOne', WHERE WHAT IT READS IS OF BULK AT MOST 1048576: true; the input reads as it did. -/
def saveOneUptoRow : OpenClaim := { program := "ytbockfpeohfphaagreat", sum := "21efa557d01be7288d41002f071dc19b3e761ed4796ad7b2d2d6821cb16e4317", func := "consistory/consistorylaw25.SaveOne", spec := "saveOne", unfollowed := true, recurses := true, apart := false, narrowed := true }
def SaveOneUptoSaid : Prop := saveOneUptoRow.holds Tryz.pinned (OpenSpec.upto saveOneSpec)

end Rows
end Go.Proofs.YtbockfpeohfphaaGreat
