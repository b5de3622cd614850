/- consistorylaw27: what is asked of the program once; the package-level variables; which numbers are primes, which params may be. -/
import Derived.Test.YtdlccbgmlgnmpaaGreatDoorMda
import Derived.Test.YtdlccbgmlgnmpaaGreatDoorOwa
import Derived.Test.YtdlccbgmlgnmpaaGreatDoorAmc

namespace Go.Am
open Go.Proofs Go.RowKit
theorem mixedN : Tryz.prog.follows .mixedOrders = true := by kernel_rfl
theorem nameless : Tryz.prog.funcs.toList.all (fun f => f.name != "runtime.NumGoroutine") = true := by kernel_rfl
theorem namesN : ∀ (f : FuncId) (fn : Func), Tryz.prog.funcs[f]? = some fn → fn.name ≠ "runtime.NumGoroutine" := by
  intro f fn h
  have hm : fn ∈ Tryz.prog.funcs.toList := List.mem_of_getElem? (i := f) (by rw [Array.getElem?_toList]; exact h)
  have := List.all_eq_true.1 nameless fn hm
  simpa using this
def triedL : List Int := [2, 3, 5, 7, 11, 13, 17, 19, 23, 29, 31, 37]
def tabL : List Int := [0, 1, 56, 2, 57, 49, 28, 3, 61, 58, 42, 50, 38, 29, 17, 4, 62, 47, 59, 36, 45, 43, 51, 22, 53, 39, 33, 30, 24, 18, 12, 5, 63, 55, 48, 27, 60, 41, 37, 16, 46, 35, 44, 21, 52, 32, 23, 11, 54, 26, 40, 15, 34, 20, 31, 10, 25, 14, 19, 9, 13, 8, 7, 6]
def gs : List GVar := [⟨0, triedL.map (Value.int .u64), 288, 12⟩, ⟨1, tabL.map (Value.int .u8), 375, 64⟩]
theorem gsz : Tryz.prog.globals.size = 4 := by kernel_rfl
theorem gs_ok : GOk Tryz.prog gs := by
  refine ⟨by decide, fun x hx => ?_⟩
  rcases List.mem_cons.1 hx with rfl | hx
  · exact ⟨by rw [gsz]; decide, by kernel_rfl, by simp [flat0]⟩
  · rcases List.mem_cons.1 hx with rfl | hx
    · exact ⟨by rw [gsz]; decide, by kernel_rfl, by simp [flat0]⟩
    · cases hx
noncomputable def ovN0 : FuncId → Option (List Value → St → VK → Bool) := ovMod (ovX (fun _ => none))
theorem ovN0_ok {w : World} : OvOk Tryz.prog w ovN0 := ovMod_ok (ovX_ok (fun f g hg => by cases hg))
set_option maxRecDepth 1000000 in
theorem run_prime23 : MemoRow Tryz.prog ovN0 1000 60 136 gs ([.int .u64 23], .bool true) := ⟨by simp [flat1, flat0], rfl, by kernel_rfl⟩
set_option maxRecDepth 1000000 in
theorem run_prime47 : MemoRow Tryz.prog ovN0 1000 60 136 gs ([.int .u64 47], .bool true) := ⟨by simp [flat1, flat0], rfl, by kernel_rfl⟩
noncomputable def primes : List (List Value × Value) := [([.int .u64 23], .bool true), ([.int .u64 47], .bool true)]
noncomputable def ovN1 : FuncId → Option (List Value → St → VK → Bool) := ovWith 136 (memoK primes) ovN0
theorem ovN1_ok {w : World} (hsz : Tryz.prog.globals.size ≤ w.heap.size) (hl : Laid gs w) : OvOk Tryz.prog w ovN1 := by
  refine ovWith_ok (memo_ok (most := 1000) (n := 60) gs_ok hsz hl (fun w _ _ => ovN0_ok) namesN mixedN (enters_of Tryz.func136 (by kernel_rfl) rfl) fun x hx => ?_) ovN0_ok
  unfold primes at hx
  rcases List.mem_cons.1 hx with rfl | hx
  · exact run_prime23
  · skip
    rcases List.mem_cons.1 hx with rfl | hx
    · exact run_prime47
    · skip
      cases hx
set_option maxRecDepth 1000000 in
theorem run_may0 : MemoRow Tryz.prog ovN1 1000 60 57 gs ([.agg #[.int .u64 47, .int .u64 23, .int .u64 2, .int .u64 3, .int .i64 5, .int .i64 4, .int .i64 1, .int .i64 1, .int .i64 1, .int .i64 1, .int .i64 2, .int .i64 2]], .bool true) := ⟨by simp [flat1, flat0], rfl, by kernel_rfl⟩
set_option maxRecDepth 1000000 in
theorem run_may1 : MemoRow Tryz.prog ovN1 1000 60 57 gs ([.agg #[.int .u64 47, .int .u64 23, .int .u64 2, .int .u64 3, .int .i64 5, .int .i64 4, .int .i64 1, .int .i64 1, .int .i64 1, .int .i64 1, .int .i64 4, .int .i64 2]], .bool false) := ⟨by simp [flat1, flat0], rfl, by kernel_rfl⟩
noncomputable def mays : List (List Value × Value) := [([.agg #[.int .u64 47, .int .u64 23, .int .u64 2, .int .u64 3, .int .i64 5, .int .i64 4, .int .i64 1, .int .i64 1, .int .i64 1, .int .i64 1, .int .i64 2, .int .i64 2]], .bool true), ([.agg #[.int .u64 47, .int .u64 23, .int .u64 2, .int .u64 3, .int .i64 5, .int .i64 4, .int .i64 1, .int .i64 1, .int .i64 1, .int .i64 1, .int .i64 4, .int .i64 2]], .bool false)]
noncomputable def ovN2 : FuncId → Option (List Value → St → VK → Bool) := ovWith 57 (memoK mays) ovN1
theorem ovN2_ok {w : World} (hsz : Tryz.prog.globals.size ≤ w.heap.size) (hl : Laid gs w) : OvOk Tryz.prog w ovN2 := by
  refine ovWith_ok (memo_ok (most := 1000) (n := 60) gs_ok hsz hl (fun w hz hw => ovN1_ok hz hw) namesN mixedN (enters_of Tryz.func57 (by kernel_rfl) rfl) fun x hx => ?_) (ovN1_ok hsz hl)
  unfold mays at hx
  rcases List.mem_cons.1 hx with rfl | hx
  · exact run_may0
  · skip
    rcases List.mem_cons.1 hx with rfl | hx
    · exact run_may1
    · skip
      cases hx
end Go.Am
