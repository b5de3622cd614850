/- save: SaveNames. -/
import Derived.Test.YtnlcmncdpdicgaaGreatSva

namespace Go.Am
open Go.Proofs Go.RowKit
set_option maxRecDepth 1000000 in
theorem run_names : (envL Tryz.prog ovS1 1000 60).call 3 [] (St.laid Tryz.prog.globals.size []) (fun v _ => isTrue v) = true := by kernel_rfl
theorem called_names (w : World) (hsz : Tryz.prog.globals.size ≤ w.heap.size) (hl : Laid [] w) : Calls Tryz.prog 3 #[] w (fun e w' => e = .returned (.bool true) ∧ Below w.heap.size w w') :=
  calls_of_runL (Rel.laid gs_none hsz hl) (ovS1_ok hsz hl) namesS mixedS run_names
end Go.Am
