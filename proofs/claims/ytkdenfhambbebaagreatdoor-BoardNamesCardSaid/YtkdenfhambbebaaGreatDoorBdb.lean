/- board: the examples. -/
import Derived.Test.YtkdenfhambbebaaGreatDoorBda

namespace Go.Am
open Go.Proofs Go.RowKit
set_option maxRecDepth 1000000 in
theorem run_awake : MemoRow Tryz.prog ovP 1000 60 5 gs ([], .bool true) := ⟨by simp, rfl, by kernel_rfl⟩
noncomputable def ovB : FuncId → Option (List Value → St → VK → Bool) := ovWith 5 (memoK [([], .bool true)]) ovP
theorem ovB_ok {w : World} (hsz : Tryz.prog.globals.size ≤ w.heap.size) (hl : Laid gs w) : OvOk Tryz.prog w ovB := by
  refine ovWith_ok (memo_ok (most := 1000) (n := 60) gs_ok hsz hl (fun w hz hw => ovP_ok hz hw) names mixed (enters_of Tryz.func5 (by kernel_rfl) rfl) fun x hx => ?_) (ovP_ok hsz hl)
  rcases List.mem_cons.1 hx with rfl | hx
  · exact run_awake
  · cases hx
end Go.Am
