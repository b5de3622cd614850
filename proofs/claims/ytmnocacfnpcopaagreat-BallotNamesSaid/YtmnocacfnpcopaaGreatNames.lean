/- BallotNames returns true, whatever the world: the abstract machine says so, by the kernel, and the given statement follows. Nothing is asked of the input: it has none. -/
import Derived.Test.YtmnocacfnpcopaaGreatOv
import Derived.Test.YtmnocacfnpcopaaGreatEa
import Derived.Test.YtmnocacfnpcopaaGreatEb
import Derived.Test.YtmnocacfnpcopaaGreatEc
import Derived.Test.YtmnocacfnpcopaaGreatEd
import Derived.Test.YtmnocacfnpcopaaGreatEe
import Derived.Test.YtmnocacfnpcopaaGreatRows
import Derived.WalkKit
import Derived.ProofKit
import Derived.OpenShut

/- ballot: BallotNames. -/
namespace Go.Am
open Go.Proofs Go.RowKit
noncomputable def ovN (f : FuncId) : Option (List Value → St → VK → Bool) :=
  bcase (Nat.beq f 6) (some ovTrue) (bcase (Nat.beq f 14) (some ovTrue) (bcase (Nat.beq f 15) (some ovTrue) (bcase (Nat.beq f 16) (some ovTrue) (bcase (Nat.beq f 17) (some ovTrue) (ovT f)))))
theorem ovN_ok {w0 : World} : OvOk Tryz.prog w0 ovN := by
  intro f g hg
  unfold ovN at hg
  cases h1 : Nat.beq f 6
  · rw [h1] at hg
    cases h2 : Nat.beq f 14
    · rw [h2] at hg
      cases h3 : Nat.beq f 15
      · rw [h3] at hg
        cases h4 : Nat.beq f 16
        · rw [h4] at hg
          cases h5 : Nat.beq f 17
          · rw [h5] at hg
            exact ovT_ok f g hg
          · rw [h5] at hg
            cases hg
            obtain rfl : f = 17 := by simpa using h5
            exact ovTrue_ok (fn := Tryz.f17) (enters_of Tryz.func17 (by kernel_rfl) rfl) (called run_ticks)
        · rw [h4] at hg
          cases hg
          obtain rfl : f = 16 := by simpa using h4
          exact ovTrue_ok (fn := Tryz.f16) (enters_of Tryz.func16 (by kernel_rfl) rfl) (called run_rounds)
      · rw [h3] at hg
        cases hg
        obtain rfl : f = 15 := by simpa using h3
        exact ovTrue_ok (fn := Tryz.f15) (enters_of Tryz.func15 (by kernel_rfl) rfl) (called run_locks)
    · rw [h2] at hg
      cases hg
      obtain rfl : f = 14 := by simpa using h2
      exact ovTrue_ok (fn := Tryz.f14) (enters_of Tryz.func14 (by kernel_rfl) rfl) (called run_counts)
  · rw [h1] at hg
    cases hg
    obtain rfl : f = 6 := by simpa using h1
    exact ovTrue_ok (fn := Tryz.f6) (enters_of Tryz.func6 (by kernel_rfl) rfl) (called run_works)
set_option maxRecDepth 1000000 in
theorem run_names : (env Tryz.prog ovN drK 100000 60).call 3 [] (St.none Tryz.prog.globals.size) (fun v _ => isTrue v) = true := by kernel_rfl
theorem called_names (w : World) : Calls Tryz.prog 3 #[] w (fun e w' => e = .returned (.bool true) ∧ Below w.heap.size w w') :=
  calls_of_true (by rw [globals0]; exact Nat.zero_le _) ovN_ok names mixed run_names
end Go.Am

/- ballot: the row. -/
namespace Go.Proofs.YtmnocacfnpcopaaGreat.ballotNames
open Go.ChangeShapes Go.WideShapes Go.ChangeAt Go.RowKit
set_option linter.unusedVariables false      -- a walk need not use every 'w<i>' (that an integer argument fits its kind)

theorem own : ownKnob Tryz.prog.godebug = none := by kernel_rfl

theorem walk (w : World) : Calls Tryz.prog 3 #[] w fun e w' => e = .returned (.bool true) ∧ Below w.heap.size w w' := Go.Am.called_names w

/-! ### THE ROW's STEP: WRITTEN OUT: LEAVE IT -/
set_option maxRecDepth 100000 in
theorem lifted (os : Os) (started : os.Started) (H : Type) (enc : TypeId × Value → H) :
    ReturnsInHanded {} Tryz.checked os 3 .any (Rows.ballotNamesSpec.pre6 enc Tryz.prog Tryz.f3 Rows.ballotNamesRow.domain false) (Rows.ballotNamesSpec.post enc Tryz.prog Tryz.f3 false true false false) := by
  refine returnsInHanded_of_change (C := Tryz.checked) own started (by kernel_rfl) Tryz.func3
    (ChangeSpec.witness6 (enc := enc) (C := Tryz.checked) false ⟨#[], #[], []⟩ 8 (by kernel_rfl) (by kernel_rfl) (by kernel_rfl) (by kernel_rfl)) ?_
  intro W base args ds gs before hval0 hW hcnd _
  have hval : ∀ (j : Nat) t v, Tryz.f3.params[j]? = some t → args[j]? = some v → Value.okWide Tryz.prog W .any base t v := hval0
  have hW' := hW
  obtain ⟨p, q, hA0, hV, rfl, hfz, hnd⟩ := hW
  have hA : DataW.TrodAll enc Tryz.prog W 0 (fun _ => true) true Tryz.f3.params.toList args.toList ds p := hA0
  rw [Tryz.params3] at hA hval
  obtain ⟨rfl, rfl, rfl⟩ := trodAll_none hA
  obtain ⟨rfl, rfl⟩ := trodVars_none hV
  clear hA0 hval0
  simp only [List.append_nil] at hW'
  refine (walk W).mono fun e W' ⟨he, hg⟩ => ?_
  subst he
  exact ⟨_, rfl, _, _, _, _, _, _, hW', (trodAll_cons_mk (shut_bool Tryz.underlying4 _) trodAll_mk0), rfl, rfl, hg.frame _, fun h => nomatch h⟩

theorem over : Rows.ballotNamesRow.holds Tryz.pinned (OpenSpec.ofChange Rows.ballotNamesSpec) :=
  OpenClaim.holds_of_wide 3 Tryz.f3 rfl rfl rfl rfl rfl rfl rfl ⟨rfl, rfl, rfl, rfl, rfl⟩ rfl rfl rfl rfl rfl (by kernel_rfl) Tryz.func3 (by kernel_rfl)
    (of_decide_eq_true (by kernel_rfl)) (by unfold Func.isWrapper; first | (rw [if_pos (by decide +kernel)]; kernel_rfl) | (rw [if_neg (by decide +kernel)]; exact ⟨rfl, rfl⟩))
    (fun os started H enc _ => lifted os started H enc)

/-- ████ THE STATEMENT ████ -/
theorem proved : Rows.BallotNamesSaid :=
  over
#print axioms proved
end Go.Proofs.YtmnocacfnpcopaaGreat.ballotNames
