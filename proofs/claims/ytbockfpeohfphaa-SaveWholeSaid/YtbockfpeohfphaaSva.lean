/- save: what is asked of the program once. -/
import Derived.Test.YtbockfpeohfphaaOwa

namespace Go.Am
open Go.Proofs Go.RowKit
theorem mixedS : Try.prog.follows .mixedOrders = true := by kernel_rfl
theorem namelessS : Try.prog.funcs.toList.all (fun f => f.name != "runtime.NumGoroutine") = true := by kernel_rfl
theorem namesS : ∀ (f : FuncId) (fn : Func), Try.prog.funcs[f]? = some fn → fn.name ≠ "runtime.NumGoroutine" := by
  intro f fn h
  have hm : fn ∈ Try.prog.funcs.toList := List.mem_of_getElem? (i := f) (by rw [Array.getElem?_toList]; exact h)
  have := List.all_eq_true.1 namelessS fn hm
  simpa using this
theorem gsz : Try.prog.globals.size = 0 := by kernel_rfl
theorem gs_none : GOk Try.prog [] := ⟨by decide, fun x hx => by cases hx⟩
noncomputable def ovS0 : FuncId → Option (List Value → St → VK → Bool) := ovX fun _ => none
theorem ovS0_ok {w : World} : OvOk Try.prog w ovS0 := ovX_ok fun f g hg => by cases hg
end Go.Am

namespace Go.Am
open Go.Proofs Go.RowKit
set_option maxRecDepth 1000000 in
theorem run_awake : MemoRow Try.prog ovS0 1000 60 6 [] ([], .bool true) := ⟨by simp, rfl, by kernel_rfl⟩
noncomputable def ovS1 : FuncId → Option (List Value → St → VK → Bool) := ovWith 6 (memoK [([], .bool true)]) ovS0
theorem ovS1_ok {w : World} (hsz : Try.prog.globals.size ≤ w.heap.size) (hl : Laid [] w) : OvOk Try.prog w ovS1 := by
  refine ovWith_ok (memo_ok (most := 1000) (n := 60) gs_none hsz hl (fun w hz hw => ovS0_ok) namesS mixedS (enters_of Try.func6 (by kernel_rfl) rfl) fun x hx => ?_) ovS0_ok
  rcases List.mem_cons.1 hx with rfl | hx
  · exact run_awake
  · cases hx
end Go.Am
