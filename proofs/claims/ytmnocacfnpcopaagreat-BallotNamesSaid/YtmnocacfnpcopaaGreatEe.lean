/- The abstract machine says true of ticks, one of the functions that BallotNames asks: by the kernel. -/
import Derived.Test.YtmnocacfnpcopaaGreatOv

namespace Go.Am
open Go.Proofs
set_option maxRecDepth 1000000 in
theorem run_ticks : (env Tryz.prog ovT drK 100000 60).call 17 [] (St.none Tryz.prog.globals.size) (fun v _ => isTrue v) = true := by kernel_rfl
end Go.Am
