/- consistorylaw27: awake. -/
import Derived.Test.YtdlccbgmlgnmpaaGreatDoorNma

namespace Go.Am
open Go.Proofs Go.RowKit
set_option maxRecDepth 1000000 in
theorem run_sub0 : MemoRow Tryz.prog ovN2 1000 60 9 gs ([], .bool true) := ⟨by simp, rfl, by kernel_rfl⟩
noncomputable def ovN3 : FuncId → Option (List Value → St → VK → Bool) := ovWith 9 (memoK [([], .bool true)]) ovN2
theorem ovN3_ok {w : World} (hsz : Tryz.prog.globals.size ≤ w.heap.size) (hl : Laid gs w) : OvOk Tryz.prog w ovN3 := by
  refine ovWith_ok (memo_ok (most := 1000) (n := 60) gs_ok hsz hl (fun w hz hw => ovN2_ok hz hw) namesN mixedN (enters_of Tryz.func9 (by kernel_rfl) rfl) fun x hx => ?_) (ovN2_ok hsz hl)
  rcases List.mem_cons.1 hx with rfl | hx
  · exact run_sub0
  · cases hx
end Go.Am
