/- The abstract machine says true of counts, one of the functions that BallotNames asks: by the kernel. -/
import Derived.Test.YtmnocacfnpcopaaGreatOv

namespace Go.Am
open Go.Proofs
set_option maxRecDepth 1000000 in
theorem run_counts : (env Tryz.prog ovT drK 100000 60).call 14 [] (St.none Tryz.prog.globals.size) (fun v _ => isTrue v) = true := by kernel_rfl
end Go.Am
