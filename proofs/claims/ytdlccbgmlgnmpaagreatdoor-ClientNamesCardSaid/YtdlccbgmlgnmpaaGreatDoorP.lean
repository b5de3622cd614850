/- consistorylaw27: the row and the card of ClientNames. -/
import Derived.Test.YtdlccbgmlgnmpaaGreatDoorRows
import Derived.Test.YtdlccbgmlgnmpaaGreatDoorCards
import Derived.Test.YtdlccbgmlgnmpaaGreatDoorTie
import Derived.Test.YtdlccbgmlgnmpaaGreatDoorNmz
import Derived.Test.YtdlccbgmlgnmpaaGreatDoorNmf
import Derived.Test.YtdlccbgmlgnmpaaGreatDoorLda
import Derived.WalkKit
import Derived.ProofKit
import Derived.OpenShut
import Derived.SevenTiedAt

namespace Go.Proofs.YtdlccbgmlgnmpaaGreatDoor.clientNames
open Go.ChangeShapes Go.WideShapes Go.ChangeAt Go.RowKit

theorem own : ownKnob Tryz.prog.godebug = none := by kernel_rfl
theorem gTried : Tryz.prog.globalNamed "consistory/mod.tried" = some 0 := by kernel_rfl
theorem gTab : Tryz.prog.globalNamed "math/bits.deBruijn64tab" = some 1 := by kernel_rfl
theorem tTried : (Tryz.prog.globals[0]?).map (·.type) = some 288 := by kernel_rfl
theorem tTab : (Tryz.prog.globals[1]?).map (·.type) = some 375 := by kernel_rfl
theorem cU64 : Tryz.prog.cellsOf 58 = 1 := by kernel_rfl
theorem cU8 : Tryz.prog.cellsOf 5 = 1 := by kernel_rfl
theorem cTried : Tryz.prog.cellsOf 288 = 12 := by kernel_rfl
theorem cTab : Tryz.prog.cellsOf 375 = 64 := by kernel_rfl
noncomputable def laidD : List (String × DataW Unit) := Rows.clientNamesRow.laid

theorem laid_of {W : World} (h : laidMetH Tryz.prog laidD W) : Go.Am.Laid Go.Am.gs W := by
  rw [MakeChecks.laidMetH_plain _ _ _ (by kernel_rfl)] at h
  obtain ⟨ps, ⟨g0, t0, cs0, f0, p0, q0, hg0, ht0, hv0, hd0, ⟨g1, t1, cs1, f1, p1, q1, hg1, ht1, hv1, hd1, _, _⟩, _⟩, _, _⟩ := h
  obtain rfl := Option.some.inj (gTab.symm.trans hg0)
  obtain rfl := Option.some.inj (gTried.symm.trans hg1)
  obtain rfl := Option.some.inj (tTab.symm.trans ht0)
  obtain rfl := Option.some.inj (tTried.symm.trans ht1)
  have e0 := Go.Am.ints_of_trod Tryz.underlying375 Tryz.underlying5 cU8 cTab hd0 (ns := Go.Am.tabL) (by kernel_rfl)
  have e1 := Go.Am.ints_of_trod Tryz.underlying288 Tryz.underlying58 cU64 cTried hd1 (ns := Go.Am.triedL) (by kernel_rfl)
  obtain ⟨u0, z0, b0⟩ := Go.Am.var?_heap gTab hv0
  obtain ⟨u1, z1, b1⟩ := Go.Am.var?_heap gTried hv1
  intro x hx
  unfold Go.Am.gs at hx
  rcases List.mem_cons.1 hx with rfl | hx
  · exact ⟨cs1, u1, z1, b1, fun j v hj => by rw [← Array.getElem?_toList, e1]; exact hj⟩
  · rcases List.mem_cons.1 hx with rfl | hx
    · exact ⟨cs0, u0, z0, b0, fun j v hj => by rw [← Array.getElem?_toList, e0]; exact hj⟩
    · cases hx

/-- The door's own heap meets the condition. -/
theorem door_met (os : Os) (args : Array Value) : laidMetH Tryz.prog laidD ((World.doorLaid Tryz.prog 19 os).forCall (fun _ _ => 0) ⟨#[], args, []⟩).memory :=
  laidMetH_of_parts3 (fuel := 8) (laidMet_of_run' 8 (by kernel_rfl) (by kernel_rfl)) (by kernel_rfl) (by kernel_rfl)

set_option maxRecDepth 100000 in
theorem lifted (os : Os) (started : os.Started) (H : Type) (enc : TypeId × Value → H) :
    ReturnsInHanded {} Tryz.checked os 3 .any (fun w args => (Rows.clientNamesSpec.pre enc Tryz.prog Tryz.f3 [] false w args ∧ laidMetH Tryz.prog laidD w) ∧ sizedMet enc Tryz.prog Tryz.f3 (OpenSpec.ofChange Rows.clientNamesSpec) false w args)
      (Rows.clientNamesSpec.post enc Tryz.prog Tryz.f3 false true false false) := by
  refine Go.Am.returns_closed (C := Tryz.checked) (X := fun w => laidMetH Tryz.prog laidD w) (fun _ _ hh h => h.of_heap hh) own started (by kernel_rfl) Tryz.func3
    (ChangeSpec.witness_shaped (enc := enc) (C := Tryz.checked) (os := os) (X := fun w _ => laidMetH Tryz.prog laidD w) false (World.doorLaid Tryz.prog 19 os) #[] 8 rfl (World.shaped_of_RefB (by kernel_rfl) (by kernel_rfl)) (by kernel_rfl) (by kernel_rfl) (by kernel_rfl) (door_met os _)) ?_
  intro W args ds gs before hW hsh hL
  have hW' := hW
  obtain ⟨p, q, hA0, hV, rfl, hfz, hnd⟩ := hW
  have hA : DataW.TrodAll enc Tryz.prog W 0 (fun _ => true) true Tryz.f3.params.toList args.toList ds p := hA0
  rw [Tryz.params3] at hA
  obtain ⟨rfl, rfl, rfl⟩ := trodAll_none hA
  obtain ⟨rfl, rfl⟩ := trodVars_none hV
  clear hA0
  simp only [List.append_nil] at hW'
  have hsz : Tryz.prog.globals.size ≤ W.heap.size := by
    have h3 := Go.Am.size_of_shaped hsh (g := 3) (show 3 < Tryz.prog.globals.size by rw [Go.Am.gsz]; decide) (by kernel_rfl)
    rw [Go.Am.gsz]; omega
  refine (Go.Am.called_names W hsz (laid_of hL)).mono fun e W' ⟨he, hg⟩ => ?_
  subst he
  exact ⟨_, rfl, _, _, _, _, _, _, hW', (trodAll_cons_mk (shut_bool Tryz.underlying4 _) trodAll_mk0), rfl, rfl, hg.frame _, fun h => nomatch h⟩

theorem over : Rows.clientNamesRow.holds Tryz.pinned (OpenSpec.ofChange Rows.clientNamesSpec) :=
  OpenClaim.holds_of_wide 3 Tryz.f3 rfl rfl rfl rfl rfl rfl rfl ⟨rfl, rfl, rfl, rfl, rfl⟩ rfl rfl rfl rfl rfl (by as_aux_lemma => kernel_rfl) Tryz.func3 closedF
    (of_decide_eq_true (by as_aux_lemma => kernel_rfl)) (by unfold Func.isWrapper; first | (rw [if_pos (by as_aux_lemma => decide +kernel)]; as_aux_lemma => kernel_rfl) | (rw [if_neg (by as_aux_lemma => decide +kernel)]; exact ⟨rfl, rfl⟩))
    (fun os started H enc _ => lifted os started H enc)

/-- THE CARD -/
theorem proved : Rows.ClientNamesCardSaid :=
  Claim7.holds_tied_plain_at .later [] [.data, .data] true Rows.clientNamesCard.stood.harness true
    over (fun _ h => by cases h) (by as_aux_lemma => kernel_rfl) (fun _ h => by cases h) clientNames_row_tie rfl ⟨rfl, rfl⟩ (by as_aux_lemma => kernel_rfl) rfl
    (fun f fn hf hfn => by
      obtain rfl : f = 3 := Option.some.inj ((show Tryz.prog.funcNamed "consistory/consistorylaw27.ClientNames" = some 3 by as_aux_lemma => kernel_rfl).symm.trans hf) |>.symm
      obtain rfl : fn = Tryz.f3 := (Option.some.inj (Tryz.func3.symm.trans hfn)).symm
      exact ⟨by as_aux_lemma => kernel_rfl, fun j t ht => by
        rw [Tryz.params3] at ht
        simp at ht⟩)
    (by as_aux_lemma => kernel_rfl)
#print axioms proved
end Go.Proofs.YtdlccbgmlgnmpaaGreatDoor.clientNames
