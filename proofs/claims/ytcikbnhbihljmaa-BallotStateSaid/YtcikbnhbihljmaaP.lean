/- BallotState (law 16): for any four whole numbers and any two lists of steps the law returns true, and its arguments read as they did. No conditions. -/
import Derived.Test.YtcikbnhbihljmaaRows
import Derived.Test.YtcikbnhbihljmaaGh
import Derived.WalkKit
import Derived.ProofKit
import Derived.OpenShut
import Derived.Carry

namespace Go.Proofs.Ytcikbnhbihljmaa.ballotState
open Go.ChangeShapes Go.WideShapes Go.ChangeAt Go.RowKit

theorem own : ownKnob Try.prog.godebug = none := by kernel_rfl
theorem laidOut : laidOutB Try.prog = true := by kernel_rfl
theorem slice22 : ∃ e, Try.prog.underlying 22 = some (.slice e) := by
  have : (match Try.prog.underlying 22 with | some (.slice _) => true | _ => false) = true := by kernel_rfl
  split at this
  · rename_i e h; exact ⟨e, h⟩
  · cases this
theorem int3 : Try.prog.underlying 3 = some (.int .i64) := by kernel_rfl

set_option maxRecDepth 100000 in
theorem lifted (os : Os) (started : os.Started) (H : Type) (enc : TypeId × Value → H) :
    ReturnsInHanded {} Try.checked os 3 .any (Rows.ballotStateSpec.pre6 enc Try.prog Try.f3 Rows.ballotStateRow.domain false) (Rows.ballotStateSpec.post enc Try.prog Try.f3 false true false false) := by
  have hpre : Rows.ballotStateSpec.pre6 enc Try.prog Try.f3 Rows.ballotStateRow.domain false = fun w args => (Rows.ballotStateSpec.pre enc Try.prog Try.f3 Rows.ballotStateRow.domain false w args ∧ True) ∧ sizedMet enc Try.prog Try.f3 (OpenSpec.ofChange Rows.ballotStateSpec) false w args := by
    funext w args
    simp only [ChangeSpec.pre6, and_true]
  rw [hpre]
  refine returnsInHanded_of_change_and (C := Try.checked) (X := fun _ _ => True) (fun _ _ _ _ h => h) own started (by kernel_rfl) Try.func3 ?_ ?_
  · obtain ⟨w, tape, i, a1, a2, a3, a4, a5, a6⟩ := ChangeSpec.witness6 (enc := enc) (C := Try.checked) (os := os) (f := 3) (fn := Try.f3) (s := Rows.ballotStateSpec) (conds := Rows.ballotStateRow.domain) (apart := false) false ⟨#[], #[.int .i64 0, .int .i64 0, .int .i64 0, .int .i64 0, .slice none 0 0, .slice none 0 0], []⟩ 8 (by kernel_rfl) (by kernel_rfl) (by kernel_rfl) (by kernel_rfl)
    exact ⟨w, tape, i, a1, a2, a3, a4, ⟨⟨a5.1, trivial⟩, a5.2⟩, a6⟩
  intro W base args ds gs before hval0 hW hcnd hwts _ _
  have hval : ∀ (j : Nat) t v, Try.f3.params[j]? = some t → args[j]? = some v → Value.okWide Try.prog W .any base t v := hval0
  have hW' := hW
  obtain ⟨p, q, hA0, hV, rfl, hfz, hnd⟩ := hW
  have hA : DataW.TrodAll enc Try.prog W 0 (fun _ => true) true Try.f3.params.toList args.toList ds p := hA0
  rw [Try.params3] at hA hval
  obtain ⟨args⟩ := args
  obtain ⟨v1, vs1, d1, ds1, p1, q1, e1, rfl, rfl, h1, hA⟩ := trodAll_cons hA
  obtain ⟨v2, vs2, d2, ds2, p2, q2, rfl, rfl, rfl, h2, hA⟩ := trodAll_cons hA
  obtain ⟨v3, vs3, d3, ds3, p3, q3, rfl, rfl, rfl, h3, hA⟩ := trodAll_cons hA
  obtain ⟨v4, vs4, d4, ds4, p4, q4, rfl, rfl, rfl, h4, hA⟩ := trodAll_cons hA
  obtain ⟨v5, vs5, d5, ds5, p5, q5, rfl, rfl, rfl, h5, hA⟩ := trodAll_cons hA
  obtain ⟨v6, vs6, d6, ds6, p6, q6, rfl, rfl, rfl, h6, hA⟩ := trodAll_cons hA
  obtain ⟨rfl, rfl, rfl⟩ := trodAll_nil hA
  obtain ⟨rfl, rfl⟩ := trodVars_none hV
  have e1 : args = [v1, v2, v3, v4, v5, v6] := e1
  subst e1
  obtain ⟨e, h22⟩ := slice22
  obtain ⟨z1, rfl⟩ := okWide_int int3 (hval 0 3 v1 rfl rfl)
  obtain ⟨z2, rfl⟩ := okWide_int int3 (hval 1 3 v2 rfl rfl)
  obtain ⟨z3, rfl⟩ := okWide_int int3 (hval 2 3 v3 rfl rfl)
  obtain ⟨z4, rfl⟩ := okWide_int int3 (hval 3 3 v4 rfl rfl)
  obtain ⟨a5, l5, c5, rfl⟩ := okWide_slice h22 (hval 4 22 v5 rfl rfl)
  obtain ⟨a6, l6, c6, rfl⟩ := okWide_slice h22 (hval 5 22 v6 rfl rfl)
  have hlt : ∀ x ∈ p1 ++ (p2 ++ (p3 ++ (p4 ++ (p5 ++ (p6 ++ []))))) ++ [], x.block < W.heap.size := fun x hx => hW'.lt x hx
  have hw5 : ∀ x ∈ d5.weights Try.prog 22, x ≤ reachBytes := by
    intro x hx
    have h := List.all_eq_true.1 hwts x
    rw [Try.params3] at h
    exact of_decide_eq_true (h (List.mem_append.2 (.inr (List.mem_append.2 (.inr (List.mem_append.2 (.inr (List.mem_append.2 (.inr (List.mem_append.2 (.inl hx)))))))))))
  have hw6 : ∀ x ∈ d6.weights Try.prog 22, x ≤ reachBytes := by
    intro x hx
    have h := List.all_eq_true.1 hwts x
    rw [Try.params3] at h
    exact of_decide_eq_true (h (List.mem_append.2 (.inr (List.mem_append.2 (.inr (List.mem_append.2 (.inr (List.mem_append.2 (.inr (List.mem_append.2 (.inr (List.mem_append.2 (.inl hx)))))))))))))
  refine (Go.Am.called_state (H := H) (enc := enc) (W := W) (h := z1) (z := z2) (q := z3) (me := z4) rfl rfl h5 h6 (fun b off hx => hfz b off (by simp only [List.mem_append]; exact .inl (.inr (.inr (.inr (.inr (.inl hx))))))) (fun b off hx => hfz b off (by simp only [List.mem_append]; exact .inl (.inr (.inr (.inr (.inr (.inr (.inl hx)))))))) hw5 hw6).mono fun e W' ⟨he, hg⟩ => ?_
  subst he
  refine ⟨_, rfl, _, _, _, _, p1 ++ (p2 ++ (p3 ++ (p4 ++ (p5 ++ (p6 ++ []))))), _, hW', (trodAll_cons_mk (shut_bool Try.underlying4 _) trodAll_mk0), ?_, rfl, hg.frame _, fun h => nomatch h⟩
  have r3 : Try.prog.readableRec 3 = true := by kernel_rfl
  have r22 : Try.prog.readableRec 22 = true := by kernel_rfl
  have l3 : 3 < Try.prog.types.size := of_decide_eq_true (by kernel_rfl)
  have l22 : 22 < Try.prog.types.size := of_decide_eq_true (by kernel_rfl)
  have b1 := Below.trod laidOut r3 l3 h1 hg fun x hx => hlt x (by simp only [List.mem_append]; exact .inl (.inl hx))
  have b2 := Below.trod laidOut r3 l3 h2 hg fun x hx => hlt x (by simp only [List.mem_append]; exact .inl (.inr (.inl hx)))
  have b3 := Below.trod laidOut r3 l3 h3 hg fun x hx => hlt x (by simp only [List.mem_append]; exact .inl (.inr (.inr (.inl hx))))
  have b4 := Below.trod laidOut r3 l3 h4 hg fun x hx => hlt x (by simp only [List.mem_append]; exact .inl (.inr (.inr (.inr (.inl hx)))))
  have b5 := Below.trod laidOut r22 l22 h5 hg fun x hx => hlt x (by simp only [List.mem_append]; exact .inl (.inr (.inr (.inr (.inr (.inl hx))))))
  have b6 := Below.trod laidOut r22 l22 h6 hg fun x hx => hlt x (by simp only [List.mem_append]; exact .inl (.inr (.inr (.inr (.inr (.inr (.inl hx)))))))
  rw [Try.params3]
  exact trodAll_cons_mk b1 (trodAll_cons_mk b2 (trodAll_cons_mk b3 (trodAll_cons_mk b4 (trodAll_cons_mk b5 (trodAll_cons_mk b6 trodAll_mk0)))))

theorem over : Rows.ballotStateRow.holds Try.pinned (OpenSpec.ofChange Rows.ballotStateSpec) :=
  OpenClaim.holds_of_wide 3 Try.f3 rfl rfl rfl rfl rfl rfl rfl ⟨rfl, rfl, rfl, rfl, rfl⟩ rfl rfl rfl rfl rfl (by kernel_rfl) Try.func3 (by kernel_rfl)
    (of_decide_eq_true (by kernel_rfl)) (by unfold Func.isWrapper; first | (rw [if_pos (by decide +kernel)]; kernel_rfl) | (rw [if_neg (by decide +kernel)]; exact ⟨rfl, rfl⟩))
    (fun os started H enc _ => lifted os started H enc)

/-- ████ THE STATEMENT ████ -/
theorem proved : Rows.BallotStateSaid :=
  over
#print axioms proved
end Go.Proofs.Ytcikbnhbihljmaa.ballotState
