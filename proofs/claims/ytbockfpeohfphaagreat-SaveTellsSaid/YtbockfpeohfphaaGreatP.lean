/- SaveTells (law 25): for any state and any text the law returns true, and its arguments read as they did. No conditions. -/
import Derived.Test.YtbockfpeohfphaaGreatRows
import Derived.Test.YtbockfpeohfphaaGreatGg
import Derived.WalkKit
import Derived.ProofKit
import Derived.OpenShut
import Derived.Carry

namespace Go.Proofs.YtbockfpeohfphaaGreat.saveTells
open Go.ChangeShapes Go.WideShapes Go.ChangeAt Go.RowKit

theorem own : ownKnob Tryz.prog.godebug = none := by kernel_rfl
theorem laidOut : laidOutB Tryz.prog = true := by kernel_rfl
def zero : Array Value := #[(.int .i64 (.ofNat 0)), (.slice none 0 0), (.int .i64 (.ofNat 0)), (.string ⟨⟨[]⟩⟩), (.bool false), (.int .i64 (.ofNat 0)), (.int .i64 (.ofNat 0)), (.int .i64 (.ofNat 0)), (.int .i64 (.ofNat 0)), (.int .i64 (.ofNat 0)), (.int .i64 (.ofNat 0)), (.int .i64 (.ofNat 0)), (.string ⟨⟨[]⟩⟩), (.string ⟨⟨[]⟩⟩), (.int .i64 (.ofNat 0)), (.int .i64 (.ofNat 0)), (.bool false), (.bool false), (.string ⟨⟨[]⟩⟩), (.slice none 0 0), (.slice none 0 0), (.slice none 0 0), (.slice none 0 0), (.slice none 0 0), (.slice none 0 0), (.bool false), (.slice none 0 0), (.slice none 0 0), (.slice none 0 0), (.slice none 0 0)]
theorem struct34 : ∃ fs, Tryz.prog.underlying 34 = some (.struct fs) := by
  have : (match Tryz.prog.underlying 34 with | some (.struct _) => true | _ => false) = true := by kernel_rfl
  split at this
  · rename_i fs h; exact ⟨fs, h⟩
  · cases this
set_option maxRecDepth 100000 in
theorem lifted (os : Os) (started : os.Started) (H : Type) (enc : TypeId × Value → H) :
    ReturnsInHanded {} Tryz.checked os 3 .any (Rows.saveTellsSpec.pre6 enc Tryz.prog Tryz.f3 Rows.saveTellsRow.domain false) (Rows.saveTellsSpec.post enc Tryz.prog Tryz.f3 false true false false) := by
  have hpre : Rows.saveTellsSpec.pre6 enc Tryz.prog Tryz.f3 Rows.saveTellsRow.domain false = fun w args => (Rows.saveTellsSpec.pre enc Tryz.prog Tryz.f3 Rows.saveTellsRow.domain false w args ∧ True) ∧ sizedMet enc Tryz.prog Tryz.f3 (OpenSpec.ofChange Rows.saveTellsSpec) false w args := by
    funext w args
    simp only [ChangeSpec.pre6, and_true]
  rw [hpre]
  refine returnsInHanded_of_change_and (C := Tryz.checked) (X := fun _ _ => True) (fun _ _ _ _ h => h) own started (by kernel_rfl) Tryz.func3 ?_ ?_
  · obtain ⟨w, tape, i, a1, a2, a3, a4, a5, a6⟩ := ChangeSpec.witness6 (enc := enc) (C := Tryz.checked) (os := os) (f := 3) (fn := Tryz.f3) (s := Rows.saveTellsSpec) (conds := Rows.saveTellsRow.domain) (apart := false) false ⟨#[], #[.agg zero, .string ⟨#[]⟩], []⟩ 8 (by kernel_rfl) (by kernel_rfl) (by kernel_rfl) (by kernel_rfl)
    exact ⟨w, tape, i, a1, a2, a3, a4, ⟨⟨a5.1, trivial⟩, a5.2⟩, a6⟩
  intro W base args ds gs before hval0 hW hcnd hwts _ _
  have hval : ∀ (j : Nat) t v, Tryz.f3.params[j]? = some t → args[j]? = some v → Value.okWide Tryz.prog W .any base t v := hval0
  have hW' := hW
  obtain ⟨p, q, hA0, hV, rfl, hfz, hnd⟩ := hW
  have hA : DataW.TrodAll enc Tryz.prog W 0 (fun _ => true) true Tryz.f3.params.toList args.toList ds p := hA0
  rw [Tryz.params3] at hA hval
  obtain ⟨args⟩ := args
  obtain ⟨v1, vs1, d1, ds1, p1, q1, e1, rfl, rfl, h1, hA⟩ := trodAll_cons hA
  obtain ⟨v2, vs2, d2, ds2, p2, q2, rfl, rfl, rfl, h2, hA⟩ := trodAll_cons hA
  obtain ⟨rfl, rfl, rfl⟩ := trodAll_nil hA
  obtain ⟨rfl, rfl⟩ := trodVars_none hV
  have e1 : args = [v1, v2] := e1
  subst e1
  obtain ⟨fs, h34⟩ := struct34
  obtain ⟨cs, rfl, _⟩ := okWide_struct h34 (hval 0 34 v1 rfl rfl)
  obtain ⟨t, rfl⟩ := okWide_string (Tryz.underlying9) (hval 1 9 v2 rfl rfl)
  have hlt : ∀ x ∈ p1 ++ (p2 ++ []) ++ [], x.block < W.heap.size := fun x hx => hW'.lt x hx
  have hw1 : ∀ x ∈ d1.weights Tryz.prog 34, x ≤ reachBytes := by
    intro x hx
    have h := List.all_eq_true.1 hwts x
    rw [Tryz.params3] at h
    exact of_decide_eq_true (h (List.mem_append.2 (.inl hx)))
  have hw2 : ∀ x ∈ d2.weights Tryz.prog 9, x ≤ reachBytes := by
    intro x hx
    have h := List.all_eq_true.1 hwts x
    rw [Tryz.params3] at h
    exact of_decide_eq_true (h (List.mem_append.2 (.inr (List.mem_append.2 (.inl hx)))))
  have hs := Go.Am.text_laid h2 (fun b off hx => hfz b off (by simp only [List.mem_append]; exact .inl (.inr (.inl hx)))) hw2 (by rw [show Go.Am.PP.globals.size = 0 from Go.Am.gsz]; exact Nat.zero_le _)
  refine (Go.Am.called_tells (H := H) (enc := enc) (W := W) (cs := cs) (s := t) (d := d1) (p := p1) (fun x hx => by cases hx) h1 (fun b off hx => hfz b off (by simp only [List.mem_append]; exact .inl (.inl hx))) hw1 hs).mono fun e W' ⟨he, hg⟩ => ?_
  subst he
  refine ⟨_, rfl, _, _, _, _, p1 ++ (p2 ++ []), _, hW', (trodAll_cons_mk (shut_bool Tryz.underlying4 _) trodAll_mk0), ?_, rfl, hg.frame _, fun h => nomatch h⟩
  have r34 : Tryz.prog.readableRec 34 = true := by kernel_rfl
  have r4 : Tryz.prog.readableRec 9 = true := by kernel_rfl
  have l34 : 34 < Tryz.prog.types.size := of_decide_eq_true (by kernel_rfl)
  have l4 : 9 < Tryz.prog.types.size := of_decide_eq_true (by kernel_rfl)
  have b1 := Below.trod laidOut r34 l34 h1 hg fun x hx => hlt x (by simp only [List.mem_append]; exact .inl (.inl hx))
  have b2 := Below.trod laidOut r4 l4 h2 hg fun x hx => hlt x (by simp only [List.mem_append]; exact .inl (.inr (.inl hx)))
  rw [Tryz.params3]
  exact trodAll_cons_mk b1 (trodAll_cons_mk b2 trodAll_mk0)

theorem over : Rows.saveTellsRow.holds Tryz.pinned (OpenSpec.ofChange Rows.saveTellsSpec) :=
  OpenClaim.holds_of_wide 3 Tryz.f3 rfl rfl rfl rfl rfl rfl rfl ⟨rfl, rfl, rfl, rfl, rfl⟩ rfl rfl rfl rfl rfl (by kernel_rfl) Tryz.func3 (by kernel_rfl)
    (of_decide_eq_true (by kernel_rfl)) (by unfold Func.isWrapper; first | (rw [if_pos (by decide +kernel)]; kernel_rfl) | (rw [if_neg (by decide +kernel)]; exact ⟨rfl, rfl⟩))
    (fun os started H enc _ => lifted os started H enc)

/-- ████ THE STATEMENT ████ -/
theorem proved : Rows.SaveTellsSaid :=
  over
#print axioms proved
end Go.Proofs.YtbockfpeohfphaaGreat.saveTells
