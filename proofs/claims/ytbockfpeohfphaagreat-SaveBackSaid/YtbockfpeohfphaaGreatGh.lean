/- save: SaveBack, called in any world. -/
import Derived.Test.YtbockfpeohfphaaGreatGg

namespace Go.Am
open Go.RowKit Go.MapKept Go.Proofs Go.Proofs.Rdr
theorem its9 : itsT PP 8 9 = some [.text] := by kernel_rfl
theorem text_laid {H : Type} {enc : TypeId × Value → H} {W : World} {s : ByteArray} {d : DataW H} {p : List MemPlace} (h : DataW.Trod enc PP W 0 (fun _ => true) true 9 (.string s) d p) (hz : ∀ b off, MemPlace.cell b off ∈ p → W.frozen? ⟨b, off, none⟩ = false)
 (hw : ∀ x ∈ d.weights PP 9, x ≤ reachBytes) (hsz : PP.globals.size ≤ W.heap.size) : s.data.toList.length ≤ 140737488355328 := by
 obtain ⟨F, hF⟩ := h
 obtain ⟨ρ', σ', vs, ds, _, _, _, hvs, hr⟩ := lay (P := PP) (w := W) (fun _ => true) (fun _ => rfl) F 8 9 [.string s] d p hF hz hw [.text] its9 _ _ (Lay.none hsz)
 match vs, hvs, hr with
 | [v], hvs, hr =>
  match ds, hr with
  | [x], hr =>
   have := hr.rd 0 .text v x rfl rfl rfl
   cases this with
   | @text l hl =>
    have h1 := hvs.2 0 _ _ rfl rfl
    have := h1.of_flat rfl
    injection this with this
    subst this
    exact hl
theorem called_back {H : Type} {enc : TypeId × Value → H} {W : World} {cs : Array Value} {s : ByteArray} {d : DataW H} {p : List MemPlace} (hl : Laid [] W) (h : DataW.Trod enc PP W 0 (fun _ => true) true 34 (.agg cs) d p) (hz : ∀ b off, MemPlace.cell b off ∈ p → W.frozen? ⟨b, off, none⟩ = false)
 (hw : ∀ x ∈ d.weights PP 34, x ≤ reachBytes) (hs : s.data.toList.length ≤ 140737488355328) : Calls PP c_law25_SaveBack #[.agg cs, .string s] W (fun e w' => e = .returned (.bool true) ∧ Below W.heap.size W w') := by
 have hsz : PP.globals.size ≤ W.heap.size := by rw [show PP.globals.size = 0 from gsz]; exact Nat.zero_le _
 obtain ⟨F, hF⟩ := h
 obtain ⟨ρ', σ', vs, ds, _, hlay, _, hvs, hr⟩ := lay (P := PP) (w := W) (fun _ => true) (fun _ => rfl) F 8 34 cs.toList d p hF hz hw itsAll its34 _ _ (Lay.none hsz)
 obtain ⟨most, hM⟩ : ∃ most : Nat, 140737488355328 < most := ⟨_, Nat.lt_succ_self _⟩
 obtain ⟨m, -⟩ : ∃ m : Nat, m = 0 := ⟨0, rfl⟩
 have hk := SaveBack_s hM (n := m) (l := s.data.toList) hr (K := fun v _ => isTrue v) hs (fun _ => rfl)
 rw [X_eq, xAt_C] at hk
 obtain ⟨_, hcall⟩ := (envX_sound (P := PP) (w0 := W) (tb := tbS) (most := most) (ovS1_ok hsz hl) namesS mixedS (m + 11)).1 c_law25_SaveBack [.agg ⟨vs⟩, .string ⟨⟨s.data.toList⟩⟩] σ' (fun v _ => isTrue v) ρ' W [.agg cs, .string s] hk hlay.1
  (.cons (.agg (by simpa using hvs.1) (fun k v v' a b => hvs.2 k v v' a b)) (.cons (.flat (v := .string s) rfl) (.nil _)))
 refine Calls.mono (callsIn_wide.1 hcall) ?_
 rintro e w' ⟨v', rfl, ρ2, v, σ2, hk2, hv, hrel, _⟩
 cases v with
 | bool b =>
  have hb : b = true := hk2
  subst hb
  rw [hv.of_flat rfl]
  exact ⟨rfl, hrel.base⟩
 | _ => cases hk2
end Go.Am
