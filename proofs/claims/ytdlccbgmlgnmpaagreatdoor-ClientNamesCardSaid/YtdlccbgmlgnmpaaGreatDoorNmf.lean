/- consistorylaw27: the row and the card of ClientNames. -/
import Derived.Test.YtdlccbgmlgnmpaaGreatDoorRows
import Derived.Test.YtdlccbgmlgnmpaaGreatDoorCards
import Derived.Test.YtdlccbgmlgnmpaaGreatDoorTie
import Derived.Test.YtdlccbgmlgnmpaaGreatDoorLda
import Derived.WalkKit
import Derived.ProofKit
import Derived.OpenShut
import Derived.SevenTiedAt

namespace Go.Proofs.YtdlccbgmlgnmpaaGreatDoor.clientNames
open Go.ChangeShapes Go.WideShapes Go.ChangeAt Go.RowKit

set_option maxHeartbeats 40000000 in
theorem closedF : joinedFacts Tryz.pinned.checked.prog 3 Tryz.f3 Rows.clientNamesSpec Rows.clientNamesRow = true := by
  unfold joinedFacts
  simp only [Bool.and_eq_true]
  repeat' apply And.intro
  all_goals (as_aux_lemma => kernel_rfl)
end Go.Proofs.YtdlccbgmlgnmpaaGreatDoor.clientNames
