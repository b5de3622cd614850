/- board: BoardNames. -/
import Derived.Test.YtkdenfhambbebaaGreatDoorBdb

namespace Go.Am
open Go.Proofs Go.RowKit
set_option maxRecDepth 1000000 in
theorem run_names : (envL Tryz.prog ovB 1000 60).call 3 [] (St.laid Tryz.prog.globals.size gs) (fun v _ => isTrue v) = true := by kernel_rfl
theorem called_names (w : World) (hsz : Tryz.prog.globals.size ≤ w.heap.size) (hl : Laid gs w) : Calls Tryz.prog 3 #[] w (fun e w' => e = .returned (.bool true) ∧ Below w.heap.size w w') :=
  calls_of_runL (Rel.laid gs_ok hsz hl) (ovB_ok hsz hl) names mixed run_names
end Go.Am
