/- BoardAnew (law 17): for any number and any steps the law returns true, and its arguments read as they did; the package-level variables mod.tried and bits.deBruijn64tab being as the program's text lays them (the tied card). No other conditions. -/
import Derived.Test.YtpcbceaggaddfaaGreatDoorRows
import Derived.Test.YtpcbceaggaddfaaGreatDoorCards
import Derived.Test.YtpcbceaggaddfaaGreatDoorTie
import Derived.Test.YtpcbceaggaddfaaGreatDoorGg
import Derived.Test.YtpcbceaggaddfaaGreatDoorGd
import Derived.WalkKit
import Derived.ProofKit
import Derived.OpenShut
import Derived.Carry
import Derived.SevenTiedAt

namespace Go.Proofs.YtpcbceaggaddfaaGreatDoor.boardAnew
open Go.ChangeShapes Go.WideShapes Go.ChangeAt Go.RowKit

theorem own : ownKnob Tryz.prog.godebug = none := by kernel_rfl
theorem laidOut : laidOutB Tryz.prog = true := by kernel_rfl
theorem gTried : Tryz.prog.globalNamed "consistory/mod.tried" = some 0 := by kernel_rfl
theorem gTab : Tryz.prog.globalNamed "math/bits.deBruijn64tab" = some 1 := by kernel_rfl
theorem tTried : (Tryz.prog.globals[0]?).map (·.type) = some 134 := by kernel_rfl
theorem tTab : (Tryz.prog.globals[1]?).map (·.type) = some 180 := by kernel_rfl
theorem cU64 : Tryz.prog.cellsOf 29 = 1 := by kernel_rfl
theorem cU8 : Tryz.prog.cellsOf 5 = 1 := by kernel_rfl
theorem cTried : Tryz.prog.cellsOf 134 = 12 := by kernel_rfl
theorem cTab : Tryz.prog.cellsOf 180 = 64 := by kernel_rfl
noncomputable def laidD : List (String × DataW Unit) := Rows.boardAnewRow.laid

theorem laid_of {W : World} (h : laidMetH Tryz.prog laidD W) : Go.Am.Laid Go.Am.gs W := by
  rw [MakeChecks.laidMetH_plain _ _ _ (by kernel_rfl)] at h
  obtain ⟨ps, ⟨g0, t0, cs0, f0, p0, q0, hg0, ht0, hv0, hd0, ⟨g1, t1, cs1, f1, p1, q1, hg1, ht1, hv1, hd1, _, _⟩, _⟩, _, _⟩ := h
  obtain rfl := Option.some.inj (gTab.symm.trans hg0)
  obtain rfl := Option.some.inj (gTried.symm.trans hg1)
  obtain rfl := Option.some.inj (tTab.symm.trans ht0)
  obtain rfl := Option.some.inj (tTried.symm.trans ht1)
  have e0 := Go.Am.ints_of_trod Tryz.underlying180 Tryz.underlying5 cU8 cTab hd0 (ns := Go.Am.tabL) (by kernel_rfl)
  have e1 := Go.Am.ints_of_trod Tryz.underlying134 Tryz.underlying29 cU64 cTried hd1 (ns := Go.Am.triedL) (by kernel_rfl)
  obtain ⟨u0, z0, b0⟩ := Go.Am.var?_heap gTab hv0
  obtain ⟨u1, z1, b1⟩ := Go.Am.var?_heap gTried hv1
  intro x hx
  unfold Go.Am.gs at hx
  rcases List.mem_cons.1 hx with rfl | hx
  · exact ⟨cs1, u1, z1, b1, fun j v hj => by rw [← Array.getElem?_toList, e1]; exact hj⟩
  · rcases List.mem_cons.1 hx with rfl | hx
    · exact ⟨cs0, u0, z0, b0, fun j v hj => by rw [← Array.getElem?_toList, e0]; exact hj⟩
    · cases hx

/-- The door's own heap meets the condition. -/
theorem door_met (os : Os) (args : Array Value) : laidMetH Tryz.prog laidD ((World.doorLaid Tryz.prog 19 os).forCall (fun _ _ => 0) ⟨#[], args, []⟩).memory :=
  laidMetH_of_parts3 (fuel := 8) (laidMet_of_run' 8 (by kernel_rfl) (by kernel_rfl)) (by kernel_rfl) (by kernel_rfl)

set_option maxRecDepth 100000 in
theorem lifted (os : Os) (started : os.Started) (H : Type) (enc : TypeId × Value → H) :
    ReturnsInHanded {} Tryz.checked os 5 .any (fun w args => (Rows.boardAnewSpec.pre enc Tryz.prog Tryz.f5 [] false w args ∧ laidMetH Tryz.prog laidD w) ∧ sizedMet enc Tryz.prog Tryz.f5 (OpenSpec.ofChange Rows.boardAnewSpec) false w args)
      (Rows.boardAnewSpec.post enc Tryz.prog Tryz.f5 false true false false) := by
  refine Go.Am.returns_open (C := Tryz.checked) (X := fun w => laidMetH Tryz.prog laidD w) (fun _ _ hh h => h.of_heap hh) own started (by kernel_rfl) Tryz.func5
    (ChangeSpec.witness_shaped (enc := enc) (C := Tryz.checked) (os := os) (X := fun w _ => laidMetH Tryz.prog laidD w) false (World.doorLaid Tryz.prog 19 os) #[.int .i64 0, .slice none 0 0] 8 rfl (World.shaped_of_RefB (by kernel_rfl) (by kernel_rfl)) (by kernel_rfl) (by kernel_rfl) (by kernel_rfl) (door_met os _)) ?_
  intro W base args ds gs before hval0 hW hwts hsh hL
  have hval : ∀ (j : Nat) t v, Tryz.f5.params[j]? = some t → args[j]? = some v → Value.okWide Tryz.prog W .any base t v := hval0
  have hW' := hW
  obtain ⟨p, q, hA0, hV, rfl, hfz, hnd⟩ := hW
  have hA : DataW.TrodAll enc Tryz.prog W 0 (fun _ => true) true Tryz.f5.params.toList args.toList ds p := hA0
  rw [Tryz.params5] at hA hval
  obtain ⟨args⟩ := args
  obtain ⟨v1, vs1, d1, ds1, p1, q1, e1, rfl, rfl, h1, hA⟩ := trodAll_cons hA
  obtain ⟨v2, vs2, d2, ds2, p2, q2, rfl, rfl, rfl, h2, hA⟩ := trodAll_cons hA
  obtain ⟨rfl, rfl, rfl⟩ := trodAll_nil hA
  obtain ⟨rfl, rfl⟩ := trodVars_none hV
  have e1 : args = [v1, v2] := e1
  subst e1
  obtain ⟨n, rfl⟩ := okWide_int (Tryz.underlying3) (hval 0 3 v1 rfl rfl)
  obtain ⟨a2, l2, c2, rfl⟩ := okWide_slice Tryz.underlying47 (hval 1 47 v2 rfl rfl)
  have hlt : ∀ x ∈ p1 ++ (p2 ++ []) ++ [], x.block < W.heap.size := fun x hx => hW'.lt x hx
  have hw2 : ∀ x ∈ d2.weights Tryz.prog 47, x ≤ reachBytes := by
    intro x hx
    have h := List.all_eq_true.1 hwts x
    rw [Tryz.params5] at h
    exact of_decide_eq_true (h (List.mem_append.2 (.inr (List.mem_append.2 (.inl hx)))))
  have hsz : Tryz.prog.globals.size ≤ W.heap.size := by
    have h3 := Go.Am.size_of_shaped hsh (g := 3) (show 3 < Tryz.prog.globals.size by rw [Go.Am.gsz]; decide) (by kernel_rfl)
    rw [Go.Am.gsz]; omega
  refine (Go.Am.called_anew (H := H) (enc := enc) (W := W) hsz (laid_of hL) (me := n) (d2 := d2) (p2 := p2) rfl h2 (fun b off hx => hfz b off (by simp only [List.mem_append]; exact .inl (.inr (.inl hx)))) hw2).mono fun e W' ⟨he, hg⟩ => ?_
  subst he
  refine ⟨_, rfl, _, _, _, _, p1 ++ (p2 ++ []), _, hW', (trodAll_cons_mk (shut_bool Tryz.underlying4 _) trodAll_mk0), ?_, rfl, hg.frame _, fun h => nomatch h⟩
  have r3 : Tryz.prog.readableRec 3 = true := by kernel_rfl
  have l3 : 3 < Tryz.prog.types.size := of_decide_eq_true (by kernel_rfl)
  have r47 : Tryz.prog.readableRec 47 = true := by kernel_rfl
  have l47 : 47 < Tryz.prog.types.size := of_decide_eq_true (by kernel_rfl)
  have b1 := Below.trod laidOut r3 l3 h1 hg fun x hx => hlt x (by simp only [List.mem_append]; exact .inl (.inl hx))
  have b2 := Below.trod laidOut r47 l47 h2 hg fun x hx => hlt x (by simp only [List.mem_append]; exact .inl (.inr (.inl hx)))
  rw [Tryz.params5]
  exact trodAll_cons_mk b1 (trodAll_cons_mk b2 trodAll_mk0)

set_option maxRecDepth 100000 in
theorem over : Rows.boardAnewRow.holds Tryz.pinned (OpenSpec.ofChange Rows.boardAnewSpec) :=
  OpenClaim.holds_of_wide 5 Tryz.f5 rfl rfl rfl rfl rfl rfl rfl ⟨rfl, rfl, rfl, rfl, rfl⟩ rfl rfl rfl rfl rfl (by kernel_rfl) Tryz.func5 (by kernel_rfl)
    (of_decide_eq_true (by kernel_rfl)) (by unfold Func.isWrapper; first | (rw [if_pos (by decide +kernel)]; kernel_rfl) | (rw [if_neg (by decide +kernel)]; exact ⟨rfl, rfl⟩))
    (fun os started H enc _ => lifted os started H enc)

set_option maxRecDepth 100000 in
/-- ████ THE CARD ████ -/
theorem proved : Rows.BoardAnewCardSaid :=
  Claim7.holds_tied_plain_at .later [] [.data, .data] true Rows.boardAnewCard.stood.harness false
    over (fun _ h => by cases h) (by kernel_rfl) (fun _ h => by cases h) boardAnew_row_tie rfl ⟨rfl, rfl⟩ (by kernel_rfl) rfl
    (fun f fn hf hfn => by
      obtain rfl : f = 5 := Option.some.inj ((show Tryz.prog.funcNamed "consistory/consistorylaw17.BoardAnew" = some 5 by kernel_rfl).symm.trans hf) |>.symm
      obtain rfl : fn = Tryz.f5 := (Option.some.inj (Tryz.func5.symm.trans hfn)).symm
      exact ⟨by kernel_rfl, fun j t ht => by
        rw [Tryz.params5] at ht
        have h3 : Tryz.prog.wantsStandIn 3 = false := by kernel_rfl
        have h47 : Tryz.prog.wantsStandIn 47 = false := by kernel_rfl
        have hm : t ∈ [3, 47] := List.mem_of_getElem? (i := j) (by simpa using ht)
        have ha : ∀ t ∈ [3, 47], Tryz.prog.wantsStandIn t = false := by
          intro t h
          simp only [List.mem_cons, List.not_mem_nil, or_false] at h
          rcases h with rfl | rfl <;> assumption
        exact ha t hm⟩)
    (by kernel_rfl)
#print axioms proved
end Go.Proofs.YtpcbceaggaddfaaGreatDoor.boardAnew
