/- save: boarded, back (written by a program). -/
import Derived.Test.YtbockfpeohfphaaGreatGf
import Derived.Test.YtbockfpeohfphaaGreatGd
import Derived.Test.YtbockfpeohfphaaGreatGc
import GoSem.ClaimJoined

namespace Go.Am
open Go.RowKit Go.MapKept Go.Proofs Go.Proofs.Rdr
variable {most : Nat}
theorem rSt_part {σ : St} {i o n : Nat} {vs cs : List Value} {e : TypeId} (h : σ.obj i = some (.cells vs e .exact)) (ho : o + n ≤ vs.length) (hn : cs.length = n) (h1 : cs.all oneCell = true) (k : St → Bool) :
 rSt n (pt i o) (.agg ⟨cs⟩) σ k = k (σ.set i (.cells (splice o cs vs) e .exact)) := by
 show (match allB oneCell cs with | true => (lenK cs fun m => match Nat.beq m n with | true => writeK σ i o cs k | false => false) | false => false) = _
 rw [allB_eq, h1, lenK_eq, hn]
 simp only [show Nat.beq n n = true from Nat.beq_refl _]
 unfold writeK
 rw [cellsK_h h]
 show spliceK o cs vs (fun vs => setK σ i (.cells vs e .exact) k) = _
 rw [spliceK_eq, if_pos (by omega), setK_eq]
theorem list20 {α : Type} {l : List α} (h : l.length = 20) : ∃ c0 c1 c2 c3 c4 c5 c6 c7 c8 c9 c10 c11 c12 c13 c14 c15 c16 c17 c18 c19 : α, l = [c0, c1, c2, c3, c4, c5, c6, c7, c8, c9, c10, c11, c12, c13, c14, c15, c16, c17, c18, c19] := by
 match l, h with
 | [c0, c1, c2, c3, c4, c5, c6, c7, c8, c9, c10, c11, c12, c13, c14, c15, c16, c17, c18, c19], _ => exact ⟨_, _, _, _, _, _, _, _, _, _, _, _, _, _, _, _, _, _, _, _, rfl⟩
theorem list30 {α : Type} {l : List α} (h : l.length = 30) : ∃ c0 c1 c2 c3 c4 c5 c6 c7 c8 c9 c10 c11 c12 c13 c14 c15 c16 c17 c18 c19 c20 c21 c22 c23 c24 c25 c26 c27 c28 c29 : α, l = [c0, c1, c2, c3, c4, c5, c6, c7, c8, c9, c10, c11, c12, c13, c14, c15, c16, c17, c18, c19, c20, c21, c22, c23, c24, c25, c26, c27, c28, c29] := by
 match l, h with
 | [c0, c1, c2, c3, c4, c5, c6, c7, c8, c9, c10, c11, c12, c13, c14, c15, c16, c17, c18, c19, c20, c21, c22, c23, c24, c25, c26, c27, c28, c29], _ => exact ⟨_, _, _, _, _, _, _, _, _, _, _, _, _, _, _, _, _, _, _, _, _, _, _, _, _, _, _, _, _, _, rfl⟩

set_option maxRecDepth 100000 in
theorem boarded_s (hM : 2000000 < most) {n : Nat} {σ : St} {C : Nat → Prop} {cs : List Value} {ds : List D} {K : VK} (hC : ∀ i, C i → i < σ.n) (h : RdA σ C itsRows cs ds) (hl1 : (esOf (ats ds 17)).length ≤ 2000000) (hl2 : (esOf (ats ds 18)).length ≤ 2000000)
 (hK : ∀ σ' cs', Ext' σ σ' → RdA σ' C itsRows cs' ds → K (.agg ⟨cs'⟩) σ' = true) : (X most (n + 1)).C c_law25_boarded [.agg ⟨cs⟩] σ K = true := by
 rw [X_call (by rfl), f_law25_boarded]
 unfold r_law25_boarded
 have hdl : ds.length = 20 := h.dlen
 have hone := List.all_eq_true.2 h.one
 obtain ⟨c0, c1, c2, c3, c4, c5, c6, c7, c8, c9, c10, c11, c12, c13, c14, c15, c16, c17, c18, c19, rfl⟩ := list20 (show cs.length = 20 from h.len)
 have r0 : Rd σ C (.int) c0 (ats ds 0) := by obtain ⟨u, hu, hr⟩ := h.at (j := 0) (it := .int) rfl; injection hu with hu; subst hu; exact hr
 have r1 : Rd σ C (.text) c1 (ats ds 1) := by obtain ⟨u, hu, hr⟩ := h.at (j := 1) (it := .text) rfl; injection hu with hu; subst hu; exact hr
 have r2 : Rd σ C (.is) c2 (ats ds 2) := by obtain ⟨u, hu, hr⟩ := h.at (j := 2) (it := .is) rfl; injection hu with hu; subst hu; exact hr
 have r3 : Rd σ C (.int) c3 (ats ds 3) := by obtain ⟨u, hu, hr⟩ := h.at (j := 3) (it := .int) rfl; injection hu with hu; subst hu; exact hr
 have r4 : Rd σ C (.int) c4 (ats ds 4) := by obtain ⟨u, hu, hr⟩ := h.at (j := 4) (it := .int) rfl; injection hu with hu; subst hu; exact hr
 have r5 : Rd σ C (.int) c5 (ats ds 5) := by obtain ⟨u, hu, hr⟩ := h.at (j := 5) (it := .int) rfl; injection hu with hu; subst hu; exact hr
 have r6 : Rd σ C (.int) c6 (ats ds 6) := by obtain ⟨u, hu, hr⟩ := h.at (j := 6) (it := .int) rfl; injection hu with hu; subst hu; exact hr
 have r7 : Rd σ C (.int) c7 (ats ds 7) := by obtain ⟨u, hu, hr⟩ := h.at (j := 7) (it := .int) rfl; injection hu with hu; subst hu; exact hr
 have r8 : Rd σ C (.int) c8 (ats ds 8) := by obtain ⟨u, hu, hr⟩ := h.at (j := 8) (it := .int) rfl; injection hu with hu; subst hu; exact hr
 have r9 : Rd σ C (.int) c9 (ats ds 9) := by obtain ⟨u, hu, hr⟩ := h.at (j := 9) (it := .int) rfl; injection hu with hu; subst hu; exact hr
 have r10 : Rd σ C (.text) c10 (ats ds 10) := by obtain ⟨u, hu, hr⟩ := h.at (j := 10) (it := .text) rfl; injection hu with hu; subst hu; exact hr
 have r11 : Rd σ C (.text) c11 (ats ds 11) := by obtain ⟨u, hu, hr⟩ := h.at (j := 11) (it := .text) rfl; injection hu with hu; subst hu; exact hr
 have r12 : Rd σ C (.int) c12 (ats ds 12) := by obtain ⟨u, hu, hr⟩ := h.at (j := 12) (it := .int) rfl; injection hu with hu; subst hu; exact hr
 have r13 : Rd σ C (.int) c13 (ats ds 13) := by obtain ⟨u, hu, hr⟩ := h.at (j := 13) (it := .int) rfl; injection hu with hu; subst hu; exact hr
 have r14 : Rd σ C (.is) c14 (ats ds 14) := by obtain ⟨u, hu, hr⟩ := h.at (j := 14) (it := .is) rfl; injection hu with hu; subst hu; exact hr
 have r15 : Rd σ C (.is) c15 (ats ds 15) := by obtain ⟨u, hu, hr⟩ := h.at (j := 15) (it := .is) rfl; injection hu with hu; subst hu; exact hr
 have r16 : Rd σ C (.text) c16 (ats ds 16) := by obtain ⟨u, hu, hr⟩ := h.at (j := 16) (it := .text) rfl; injection hu with hu; subst hu; exact hr
 have r17 : Rd σ C (.list itsVote) c17 (ats ds 17) := by obtain ⟨u, hu, hr⟩ := h.at (j := 17) (it := .list itsVote) rfl; injection hu with hu; subst hu; exact hr
 have r18 : Rd σ C (.list itsSaid) c18 (ats ds 18) := by obtain ⟨u, hu, hr⟩ := h.at (j := 18) (it := .list itsSaid) rfl; injection hu with hu; subst hu; exact hr
 have r19 : Rd σ C (.list itsMsg) c19 (ats ds 19) := by obtain ⟨u, hu, hr⟩ := h.at (j := 19) (it := .list itsMsg) rfl; injection hu with hu; subst hu; exact hr
 rw [boxK_agg hone, rAlloc_h]
 let σb := (σ.new (.cells [c0, c1, c2, c3, c4, c5, c6, c7, c8, c9, c10, c11, c12, c13, c14, c15, c16, c17, c18, c19] 29 .exact)).new (.cells [zI, zS, zF, zI, zI, zI, zI, zI, zI, zI, zS, zS, zI, zI, zF, zF, zS, zL, zL, zL] 45 .exact)
 have nb : σb.n = σ.n + 2 := rfl
 have ob0 : σb.obj σ.n = some (.cells [c0, c1, c2, c3, c4, c5, c6, c7, c8, c9, c10, c11, c12, c13, c14, c15, c16, c17, c18, c19] 29 .exact) := by show ((σ.new _).new _).obj σ.n = _; rw [obj_new_old (by rw [new_n]; omega), obj_new_same]
 have ob1 : σb.obj (σ.n + 1) = some (.cells [zI, zS, zF, zI, zI, zI, zI, zI, zI, zI, zS, zS, zI, zI, zF, zF, zS, zL, zL, zL] 45 .exact) := obj_new_same
 have xb : Ext' σ σb := (Ext'.new σ _).trans (.new _ _)
 show (rFld 3 (pt σ.n 0) fun v2 => rLdN 15 v2 σb _) = true
 rw [rFld_p, Nat.zero_add, rLdN_h ob0 (by simp)]
 have one15 : [c3, c4, c5, c6, c7, c8, c9, c10, c11, c12, c13, c14, c15, c16, c17].all oneCell = true := by simp [r3.one, r4.one, r5.one, r6.one, r7.one, r8.one, r9.one, r10.one, r11.one, r12.one, r13.one, r14.one, r15.one, r16.one, r17.one]
 revert nb ob0 ob1 xb
 show _ → _ → _ → _ → (rAlloc [zI, zI, zI, zI, zI, zI, zI, zS, zS, zI, zI, zF, zF, zS, zL] 25 σb _) = true
 generalize σb = σb
 intro nb ob0 ob1 xb
 rw [rAlloc_h]
 show rSt 15 (pt σb.n 0) (.agg ⟨[c3, c4, c5, c6, c7, c8, c9, c10, c11, c12, c13, c14, c15, c16, c17]⟩) _ _ = true
 rw [rSt_all (vs := [zI, zI, zI, zI, zI, zI, zI, zS, zS, zI, zI, zF, zF, zS, zL]) (cs := [c3, c4, c5, c6, c7, c8, c9, c10, c11, c12, c13, c14, c15, c16, c17]) obj_new_same rfl one15 15 rfl]
 generalize hσc : (σb.new (.cells [zI, zI, zI, zI, zI, zI, zI, zS, zS, zI, zI, zF, zF, zS, zL] 25 .exact)).set σb.n (.cells [c3, c4, c5, c6, c7, c8, c9, c10, c11, c12, c13, c14, c15, c16, c17] 25 .exact) = σc
 have nc : σc.n = σ.n + 3 := by rw [← hσc]; show σb.n + 1 = _; omega
 have xc : Ext' σb σc := ⟨by omega, fun k hk => by rw [← hσc, obj_set_other (by omega), obj_new_old (by omega)]⟩
 have oc0 := (xc.same σ.n (by omega)).trans ob0
 have oc1 := (xc.same (σ.n + 1) (by omega)).trans ob1
 have oc2 : σc.obj σb.n = some (.cells [c3, c4, c5, c6, c7, c8, c9, c10, c11, c12, c13, c14, c15, c16, c17] 25 .exact) := by rw [← hσc]; exact obj_set_same
 rw [nb] at oc2
 have hb1 : ∀ K, rBuild [zI, zS, zF, zI, zI, zI, zI, zI, zI, zI, zS, zS, zI, zI, zF, zF, zS, zL, zL, zL] [(0, 1, c0), (1, 1, c1), (2, 1, c2), (19, 1, c19)] K = K (.agg ⟨[c0, c1, c2, zI, zI, zI, zI, zI, zI, zI, zS, zS, zI, zI, zF, zF, zS, zL, zL, c19]⟩) := fun K => by
  rw [rBuild_one r0.one (by simp), rBuild_one r1.one (by simp), rBuild_one r2.one (by simp), rBuild_one r19.one (by simp), rBuild_none]; rfl
 have hb2 : ∀ K, rBuild [zI, zI, zI, zI, zI, zI, zI, zS, zS, zI, zI, zF, zF, zS, zL] [(0, 1, c3), (1, 1, c4), (2, 1, c5), (3, 1, c6), (4, 1, c7), (5, 1, c8), (6, 1, c9), (7, 1, c10), (8, 1, c11), (9, 1, c12), (10, 1, c13), (11, 1, c14), (12, 1, c15), (13, 1, c16)] K = K (.agg ⟨[c3, c4, c5, c6, c7, c8, c9, c10, c11, c12, c13, c14, c15, c16, zL]⟩) := fun K => by
  rw [rBuild_one r3.one (by simp), rBuild_one r4.one (by simp), rBuild_one r5.one (by simp), rBuild_one r6.one (by simp), rBuild_one r7.one (by simp), rBuild_one r8.one (by simp), rBuild_one r9.one (by simp), rBuild_one r10.one (by simp), rBuild_one r11.one (by simp), rBuild_one r12.one (by simp), rBuild_one r13.one (by simp), rBuild_one r14.one (by simp), rBuild_one r15.one (by simp), rBuild_one r16.one (by simp), rBuild_none]; rfl
 simp only [rFld_p, Nat.zero_add, nb]
 rw [rLd_h oc0 (v := c0) rfl, rLd_h oc0 (v := c1) rfl, rLd_h oc0 (v := c2) rfl, rLd_h oc0 (v := c19) rfl, hb1, rAlloc_h]
 have oneb : [c0, c1, c2, zI, zI, zI, zI, zI, zI, zI, zS, zS, zI, zI, zF, zF, zS, zL, zL, c19].all oneCell = true := by simp [r0.one, r1.one, r2.one, r19.one]; decide
 rw [rSt_all (vs := [zI, zS, zF, zI, zI, zI, zI, zI, zI, zI, zS, zS, zI, zI, zF, zF, zS, zL, zL, zL]) (cs := [c0, c1, c2, zI, zI, zI, zI, zI, zI, zI, zS, zS, zI, zI, zF, zF, zS, zL, zL, c19]) obj_new_same rfl oneb 20 rfl]
 generalize hσd : (σc.new (.cells [zI, zS, zF, zI, zI, zI, zI, zI, zI, zI, zS, zS, zI, zI, zF, zF, zS, zL, zL, zL] 45 .exact)).set σc.n (.cells [c0, c1, c2, zI, zI, zI, zI, zI, zI, zI, zS, zS, zI, zI, zF, zF, zS, zL, zL, c19] 45 .exact) = σd
 have nd : σd.n = σ.n + 4 := by rw [← hσd]; show σc.n + 1 = _; omega
 have xd : Ext' σc σd := ⟨by omega, fun k hk => by rw [← hσd, obj_set_other (by omega), obj_new_old (by omega)]⟩
 have od0 := (xd.same σ.n (by omega)).trans oc0
 have od1 := (xd.same (σ.n + 1) (by omega)).trans oc1
 have od2 := (xd.same (σ.n + 2) (by omega)).trans oc2
 have od3 : σd.obj σc.n = some (.cells [c0, c1, c2, zI, zI, zI, zI, zI, zI, zI, zS, zS, zI, zI, zF, zF, zS, zL, zL, c19] 45 .exact) := by rw [← hσd]; exact obj_set_same
 rw [nc] at od3
 simp only [nc]
 rw [rLd_h od2 (v := c3) rfl, rLd_h od2 (v := c4) rfl, rLd_h od2 (v := c5) rfl, rLd_h od2 (v := c6) rfl, rLd_h od2 (v := c7) rfl, rLd_h od2 (v := c8) rfl, rLd_h od2 (v := c9) rfl, rLd_h od2 (v := c10) rfl, rLd_h od2 (v := c11) rfl, rLd_h od2 (v := c12) rfl, rLd_h od2 (v := c13) rfl, rLd_h od2 (v := c14) rfl, rLd_h od2 (v := c15) rfl, rLd_h od2 (v := c16) rfl, hb2, rFld_p, Nat.zero_add]
 have one14 : [c3, c4, c5, c6, c7, c8, c9, c10, c11, c12, c13, c14, c15, c16, zL].all oneCell = true := by simp [r3.one, r4.one, r5.one, r6.one, r7.one, r8.one, r9.one, r10.one, r11.one, r12.one, r13.one, r14.one, r15.one, r16.one]; decide
 rw [rSt_part (o := 3) (n := 15) od3 (by simp) rfl one14]
 generalize hσe : σd.set (σ.n + 3) (.cells (splice 3 [c3, c4, c5, c6, c7, c8, c9, c10, c11, c12, c13, c14, c15, c16, zL] [c0, c1, c2, zI, zI, zI, zI, zI, zI, zI, zS, zS, zI, zI, zF, zF, zS, zL, zL, c19]) 45 .exact) = σe
 have ne : σe.n = σ.n + 4 := by rw [← hσe]; exact nd
 have oe0 : σe.obj σ.n = some (.cells [c0, c1, c2, c3, c4, c5, c6, c7, c8, c9, c10, c11, c12, c13, c14, c15, c16, c17, c18, c19] 29 .exact) := by rw [← hσe, obj_set_other (by omega)]; exact od0
 have oe1 : σe.obj (σ.n + 1) = some (.cells [zI, zS, zF, zI, zI, zI, zI, zI, zI, zI, zS, zS, zI, zI, zF, zF, zS, zL, zL, zL] 45 .exact) := by rw [← hσe, obj_set_other (by omega)]; exact od1
 have oe2 : σe.obj (σ.n + 2) = some (.cells [c3, c4, c5, c6, c7, c8, c9, c10, c11, c12, c13, c14, c15, c16, c17] 25 .exact) := by rw [← hσe, obj_set_other (by omega)]; exact od2
 have oe3 : σe.obj (σ.n + 3) = some (.cells ([c0, c1, c2, c3, c4, c5, c6, c7, c8, c9, c10, c11, c12, c13, c14, c15, c16, zL, zL, c19].set 17 zL) 45 .exact) := by rw [← hσe, obj_set_same]; rfl
 have xe : Ext' σ σe := ⟨by omega, fun k hk => by rw [← hσe, obj_set_other (by omega), xd.same k (by omega), xc.same k (by omega)]; exact xb.same k hk⟩
 let C1 : Nat → Prop := fun k => k = σ.n + 3 ∨ k = σ.n + 1 ∨ C k
 have hCb : C1 (σ.n + 3) := .inl rfl
 have hC1 : ∀ k, C1 k → k < σe.n := fun k hk => by
  rcases hk with h | h | h
  · omega
  · omega
  · have := hC k h; omega
 have F1 : ∀ {σ' : St}, Ext' σ σ' → Fr' C σ σ' C1 := fun hx => ⟨hx.n, fun k hk _ => hx.same k hk, fun k hk => by
  rcases hk with h | h | h
  · exact .inr (by omega)
  · exact .inr (by omega)
  · exact .inl h⟩
 have e17 := r17.list_es
 have e18 := r18.list_es
 refine boarded_votes (n := n) (σ1 := σe) (C := C1) (p1 := σ.n + 2) (b := σ.n + 3) (cs := [c0, c1, c2, c3, c4, c5, c6, c7, c8, c9, c10, c11, c12, c13, c14, c15, c16, zL, zL, c19]) (ws := []) (tw := 0) hCb hC1 (e17.1.fr (F1 xe)) (fun σ' f K => rLd_h (by rw [f.same (σ.n + 2) (by omega) (by show ¬ (σ.n + 2 = σ.n + 3); omega)]; exact oe2) rfl K) (by simp) hl1 (fun σ2 a2 f2 hb2 h2 => ?_) _ 0 _ σe zL (Nat.zero_add _) (by rw [X_most]; omega) (.refl _ _) oe3 (.inl ⟨rfl, by simp⟩)
 have q2 := f2.n
 have x2 : Ext' σ σ2 := f2.ext xe fun k hk => by rw [show k = σ.n + 3 from hk]; omega
 refine boarded_told (n := n) (σ1 := σ2) (C := C1) (p1 := σ.n) (b := σ.n + 3) (cs := [c0, c1, c2, c3, c4, c5, c6, c7, c8, c9, c10, c11, c12, c13, c14, c15, c16, zL, zL, c19].set 17 a2) (ws := []) (tw := 0) hCb (fun k hk => by have := hC1 k hk; omega) (e18.1.fr (F1 x2)) (fun σ' f K => rLd_h (by rw [f.same σ.n (by omega) (by show ¬ (σ.n = σ.n + 3); omega), f2.same σ.n (by omega) (by show ¬ (σ.n = σ.n + 3); omega)]; exact oe0) rfl K) (by simp) hl2 (fun σ3 a3 f3 hb3 h3 => ?_) _ 0 _ σ2 zL (Nat.zero_add _) (by rw [X_most]; omega) (.refl _ _) hb2 (.inl ⟨rfl, by simp⟩)
 have q3 := f3.n
 have x3 : Ext' σ σ3 := f3.ext x2 fun k hk => by rw [show k = σ.n + 3 from hk]; omega
 have h2' : Rd σ3 C1 (.list itsVote) a2 (.l (esOf (ats ds 17))) := h2.fr (f3.up fun k hk => by rw [show k = σ.n + 3 from hk]; exact hCb)
 have hb3 : σ3.obj (σ.n + 3) = some (.cells [c0, c1, c2, c3, c4, c5, c6, c7, c8, c9, c10, c11, c12, c13, c14, c15, c16, a2, a3, c19] 45 .exact) := hb3
 have o31 : σ3.obj (σ.n + 1) = some (.cells [zI, zS, zF, zI, zI, zI, zI, zI, zI, zI, zS, zS, zI, zI, zF, zF, zS, zL, zL, zL] 45 .exact) := by rw [f3.same _ (by omega) (by show ¬ (σ.n + 1 = σ.n + 3); omega), f2.same _ (by omega) (by show ¬ (σ.n + 1 = σ.n + 3); omega)]; exact oe1
 rw [rLdN_h hb3 (by simp)]
 show rSt 20 (pt (σ.n + 1) 0) (.agg ⟨[c0, c1, c2, c3, c4, c5, c6, c7, c8, c9, c10, c11, c12, c13, c14, c15, c16, a2, a3, c19]⟩) σ3 _ = true
 have onef : [c0, c1, c2, c3, c4, c5, c6, c7, c8, c9, c10, c11, c12, c13, c14, c15, c16, a2, a3, c19].all oneCell = true := by simp [r0.one, r1.one, r2.one, r3.one, r4.one, r5.one, r6.one, r7.one, r8.one, r9.one, r10.one, r11.one, r12.one, r13.one, r14.one, r15.one, r16.one, r19.one, h2.one, h3.one]
 rw [rSt_all (vs := [zI, zS, zF, zI, zI, zI, zI, zI, zI, zI, zS, zS, zI, zI, zF, zF, zS, zL, zL, zL]) (cs := [c0, c1, c2, c3, c4, c5, c6, c7, c8, c9, c10, c11, c12, c13, c14, c15, c16, a2, a3, c19]) o31 rfl onef 20 rfl]
 show rLdN 20 (pt (σ.n + 1) 0) _ _ = true
 rw [rLdN_h obj_set_same (by simp)]
 have x4 : Ext' σ (σ3.set (σ.n + 1) (.cells [c0, c1, c2, c3, c4, c5, c6, c7, c8, c9, c10, c11, c12, c13, c14, c15, c16, a2, a3, c19] 45 .exact)) := ⟨x3.n, fun k hk => by rw [obj_set_other (by omega)]; exact x3.same k hk⟩
 have F4 : Fr' C σ (σ3.set (σ.n + 1) (.cells [c0, c1, c2, c3, c4, c5, c6, c7, c8, c9, c10, c11, c12, c13, c14, c15, c16, a2, a3, c19] 45 .exact)) C := x4.fr C
 have G4 : Fr' C1 σ3 (σ3.set (σ.n + 1) (.cells [c0, c1, c2, c3, c4, c5, c6, c7, c8, c9, c10, c11, c12, c13, c14, c15, c16, a2, a3, c19] 45 .exact)) C := ⟨Nat.le_refl _, fun k hk hc => obj_set_other fun e => hc (.inr (.inl e)), fun k hk => .inl (.inr (.inr hk))⟩
 refine hK _ [c0, c1, c2, c3, c4, c5, c6, c7, c8, c9, c10, c11, c12, c13, c14, c15, c16, a2, a3, c19] x4 (RdA.of rfl hdl fun j it u a b => ?_)
 match j, a, b with
 | 0, a, b => injection a with a; injection b with b; subst a b; exact r0.fr F4
 | 1, a, b => injection a with a; injection b with b; subst a b; exact r1.fr F4
 | 2, a, b => injection a with a; injection b with b; subst a b; exact r2.fr F4
 | 3, a, b => injection a with a; injection b with b; subst a b; exact r3.fr F4
 | 4, a, b => injection a with a; injection b with b; subst a b; exact r4.fr F4
 | 5, a, b => injection a with a; injection b with b; subst a b; exact r5.fr F4
 | 6, a, b => injection a with a; injection b with b; subst a b; exact r6.fr F4
 | 7, a, b => injection a with a; injection b with b; subst a b; exact r7.fr F4
 | 8, a, b => injection a with a; injection b with b; subst a b; exact r8.fr F4
 | 9, a, b => injection a with a; injection b with b; subst a b; exact r9.fr F4
 | 10, a, b => injection a with a; injection b with b; subst a b; exact r10.fr F4
 | 11, a, b => injection a with a; injection b with b; subst a b; exact r11.fr F4
 | 12, a, b => injection a with a; injection b with b; subst a b; exact r12.fr F4
 | 13, a, b => injection a with a; injection b with b; subst a b; exact r13.fr F4
 | 14, a, b => injection a with a; injection b with b; subst a b; exact r14.fr F4
 | 15, a, b => injection a with a; injection b with b; subst a b; exact r15.fr F4
 | 16, a, b => injection a with a; injection b with b; subst a b; exact r16.fr F4
 | 17, a, b => injection a with a; injection b with b; subst a b; exact by rw [e17.2]; exact h2'.fr G4
 | 18, a, b => injection a with a; injection b with b; subst a b; exact by rw [e18.2]; exact h3.fr G4
 | 19, a, b => injection a with a; injection b with b; subst a b; exact r19.fr F4
 | j + 20, a, _ => cases a

structure BackB (ds : List D) : Prop where
 l19 : (esOf (ats ds 19)).length ≤ 2000000
 l20 : (esOf (ats ds 20)).length ≤ 2000000
 l26 : (esOf (ats ds 26)).length ≤ 2000000
 i26 : ∀ x ∈ esOf (ats ds 26), (esOf (ats x 4)).length ≤ 2000000 ∧ (esOf (ats x 5)).length ≤ 2000000
 l27 : (esOf (ats ds 27)).length ≤ 2000000
 l29 : (esOf (ats ds 29)).length ≤ 2000000
 i29 : ∀ x ∈ esOf (ats ds 29), (esOf (ats x 4)).length ≤ 2000000 ∧ (esOf (ats x 5)).length ≤ 2000000
set_option maxRecDepth 100000 in
theorem back_s (hM : 2000000 < most) {n : Nat} {σ : St} {C : Nat → Prop} {cs : List Value} {ds : List D} {K : VK} (hC : ∀ i, C i → i < σ.n) (h : RdA σ C itsAll cs ds) (hB : BackB ds)
 (hK : ∀ σ' cs', Ext' σ σ' → RdA σ' C itsAll cs' ds → K (.agg ⟨cs'⟩) σ' = true) : (X most (n + 2)).C c_law25_back [.agg ⟨cs⟩] σ K = true := by
 rw [X_call (by rfl), f_law25_back]
 unfold r_law25_back
 have hdl : ds.length = 30 := h.dlen
 have hone := List.all_eq_true.2 h.one
 obtain ⟨c0, c1, c2, c3, c4, c5, c6, c7, c8, c9, c10, c11, c12, c13, c14, c15, c16, c17, c18, c19, c20, c21, c22, c23, c24, c25, c26, c27, c28, c29, rfl⟩ := list30 (show cs.length = 30 from h.len)
 have r0 : Rd σ C (.int) c0 (ats ds 0) := by obtain ⟨u, hu, hr⟩ := h.at (j := 0) (it := .int) rfl; injection hu with hu; subst hu; exact hr
 have r1 : Rd σ C (.list itsText) c1 (ats ds 1) := by obtain ⟨u, hu, hr⟩ := h.at (j := 1) (it := .list itsText) rfl; injection hu with hu; subst hu; exact hr
 have r2 : Rd σ C (.int) c2 (ats ds 2) := by obtain ⟨u, hu, hr⟩ := h.at (j := 2) (it := .int) rfl; injection hu with hu; subst hu; exact hr
 have r3 : Rd σ C (.text) c3 (ats ds 3) := by obtain ⟨u, hu, hr⟩ := h.at (j := 3) (it := .text) rfl; injection hu with hu; subst hu; exact hr
 have r4 : Rd σ C (.is) c4 (ats ds 4) := by obtain ⟨u, hu, hr⟩ := h.at (j := 4) (it := .is) rfl; injection hu with hu; subst hu; exact hr
 have r5 : Rd σ C (.int) c5 (ats ds 5) := by obtain ⟨u, hu, hr⟩ := h.at (j := 5) (it := .int) rfl; injection hu with hu; subst hu; exact hr
 have r6 : Rd σ C (.int) c6 (ats ds 6) := by obtain ⟨u, hu, hr⟩ := h.at (j := 6) (it := .int) rfl; injection hu with hu; subst hu; exact hr
 have r7 : Rd σ C (.int) c7 (ats ds 7) := by obtain ⟨u, hu, hr⟩ := h.at (j := 7) (it := .int) rfl; injection hu with hu; subst hu; exact hr
 have r8 : Rd σ C (.int) c8 (ats ds 8) := by obtain ⟨u, hu, hr⟩ := h.at (j := 8) (it := .int) rfl; injection hu with hu; subst hu; exact hr
 have r9 : Rd σ C (.int) c9 (ats ds 9) := by obtain ⟨u, hu, hr⟩ := h.at (j := 9) (it := .int) rfl; injection hu with hu; subst hu; exact hr
 have r10 : Rd σ C (.int) c10 (ats ds 10) := by obtain ⟨u, hu, hr⟩ := h.at (j := 10) (it := .int) rfl; injection hu with hu; subst hu; exact hr
 have r11 : Rd σ C (.int) c11 (ats ds 11) := by obtain ⟨u, hu, hr⟩ := h.at (j := 11) (it := .int) rfl; injection hu with hu; subst hu; exact hr
 have r12 : Rd σ C (.text) c12 (ats ds 12) := by obtain ⟨u, hu, hr⟩ := h.at (j := 12) (it := .text) rfl; injection hu with hu; subst hu; exact hr
 have r13 : Rd σ C (.text) c13 (ats ds 13) := by obtain ⟨u, hu, hr⟩ := h.at (j := 13) (it := .text) rfl; injection hu with hu; subst hu; exact hr
 have r14 : Rd σ C (.int) c14 (ats ds 14) := by obtain ⟨u, hu, hr⟩ := h.at (j := 14) (it := .int) rfl; injection hu with hu; subst hu; exact hr
 have r15 : Rd σ C (.int) c15 (ats ds 15) := by obtain ⟨u, hu, hr⟩ := h.at (j := 15) (it := .int) rfl; injection hu with hu; subst hu; exact hr
 have r16 : Rd σ C (.is) c16 (ats ds 16) := by obtain ⟨u, hu, hr⟩ := h.at (j := 16) (it := .is) rfl; injection hu with hu; subst hu; exact hr
 have r17 : Rd σ C (.is) c17 (ats ds 17) := by obtain ⟨u, hu, hr⟩ := h.at (j := 17) (it := .is) rfl; injection hu with hu; subst hu; exact hr
 have r18 : Rd σ C (.text) c18 (ats ds 18) := by obtain ⟨u, hu, hr⟩ := h.at (j := 18) (it := .text) rfl; injection hu with hu; subst hu; exact hr
 have r19 : Rd σ C (.list itsVote) c19 (ats ds 19) := by obtain ⟨u, hu, hr⟩ := h.at (j := 19) (it := .list itsVote) rfl; injection hu with hu; subst hu; exact hr
 have r20 : Rd σ C (.list itsSaid) c20 (ats ds 20) := by obtain ⟨u, hu, hr⟩ := h.at (j := 20) (it := .list itsSaid) rfl; injection hu with hu; subst hu; exact hr
 have r21 : Rd σ C (.list itsMsg) c21 (ats ds 21) := by obtain ⟨u, hu, hr⟩ := h.at (j := 21) (it := .list itsMsg) rfl; injection hu with hu; subst hu; exact hr
 have r22 : Rd σ C (.list itsText) c22 (ats ds 22) := by obtain ⟨u, hu, hr⟩ := h.at (j := 22) (it := .list itsText) rfl; injection hu with hu; subst hu; exact hr
 have r23 : Rd σ C (.list itsPair) c23 (ats ds 23) := by obtain ⟨u, hu, hr⟩ := h.at (j := 23) (it := .list itsPair) rfl; injection hu with hu; subst hu; exact hr
 have r24 : Rd σ C (.list itsPair) c24 (ats ds 24) := by obtain ⟨u, hu, hr⟩ := h.at (j := 24) (it := .list itsPair) rfl; injection hu with hu; subst hu; exact hr
 have r25 : Rd σ C (.is) c25 (ats ds 25) := by obtain ⟨u, hu, hr⟩ := h.at (j := 25) (it := .is) rfl; injection hu with hu; subst hu; exact hr
 have r26 : Rd σ C (.list itsDealing) c26 (ats ds 26) := by obtain ⟨u, hu, hr⟩ := h.at (j := 26) (it := .list itsDealing) rfl; injection hu with hu; subst hu; exact hr
 have r27 : Rd σ C (.list itsDone) c27 (ats ds 27) := by obtain ⟨u, hu, hr⟩ := h.at (j := 27) (it := .list itsDone) rfl; injection hu with hu; subst hu; exact hr
 have r28 : Rd σ C (.list itsMsg) c28 (ats ds 28) := by obtain ⟨u, hu, hr⟩ := h.at (j := 28) (it := .list itsMsg) rfl; injection hu with hu; subst hu; exact hr
 have r29 : Rd σ C (.list itsDealing) c29 (ats ds 29) := by obtain ⟨u, hu, hr⟩ := h.at (j := 29) (it := .list itsDealing) rfl; injection hu with hu; subst hu; exact hr
 have hm : RdA σ C itsRows [c2, c3, c4, c5, c6, c7, c8, c9, c10, c11, c12, c13, c14, c15, c16, c17, c18, c19, c20, c21] ((ds.drop 2).take 20) := by
  refine RdA.of rfl (by rw [List.length_take, List.length_drop]; show min 20 (ds.length - 2) = 20; omega) fun j it u a b => ?_
  match j, a, b with
  | 0, a, b => injection a with a; injection b with b; subst a b; rw [ats_part _ _ _ _ (by omega)]; exact r2
  | 1, a, b => injection a with a; injection b with b; subst a b; rw [ats_part _ _ _ _ (by omega)]; exact r3
  | 2, a, b => injection a with a; injection b with b; subst a b; rw [ats_part _ _ _ _ (by omega)]; exact r4
  | 3, a, b => injection a with a; injection b with b; subst a b; rw [ats_part _ _ _ _ (by omega)]; exact r5
  | 4, a, b => injection a with a; injection b with b; subst a b; rw [ats_part _ _ _ _ (by omega)]; exact r6
  | 5, a, b => injection a with a; injection b with b; subst a b; rw [ats_part _ _ _ _ (by omega)]; exact r7
  | 6, a, b => injection a with a; injection b with b; subst a b; rw [ats_part _ _ _ _ (by omega)]; exact r8
  | 7, a, b => injection a with a; injection b with b; subst a b; rw [ats_part _ _ _ _ (by omega)]; exact r9
  | 8, a, b => injection a with a; injection b with b; subst a b; rw [ats_part _ _ _ _ (by omega)]; exact r10
  | 9, a, b => injection a with a; injection b with b; subst a b; rw [ats_part _ _ _ _ (by omega)]; exact r11
  | 10, a, b => injection a with a; injection b with b; subst a b; rw [ats_part _ _ _ _ (by omega)]; exact r12
  | 11, a, b => injection a with a; injection b with b; subst a b; rw [ats_part _ _ _ _ (by omega)]; exact r13
  | 12, a, b => injection a with a; injection b with b; subst a b; rw [ats_part _ _ _ _ (by omega)]; exact r14
  | 13, a, b => injection a with a; injection b with b; subst a b; rw [ats_part _ _ _ _ (by omega)]; exact r15
  | 14, a, b => injection a with a; injection b with b; subst a b; rw [ats_part _ _ _ _ (by omega)]; exact r16
  | 15, a, b => injection a with a; injection b with b; subst a b; rw [ats_part _ _ _ _ (by omega)]; exact r17
  | 16, a, b => injection a with a; injection b with b; subst a b; rw [ats_part _ _ _ _ (by omega)]; exact r18
  | 17, a, b => injection a with a; injection b with b; subst a b; rw [ats_part _ _ _ _ (by omega)]; exact r19
  | 18, a, b => injection a with a; injection b with b; subst a b; rw [ats_part _ _ _ _ (by omega)]; exact r20
  | 19, a, b => injection a with a; injection b with b; subst a b; rw [ats_part _ _ _ _ (by omega)]; exact r21
  | j + 20, a, _ => cases a
 have sm := hm.sameV
 have s0 := r0.sameV'
 have s1 := r1.sameV'
 have s22 := r22.sameV'
 have s23 := r23.sameV'
 have s24 := r24.sameV'
 have s25 := r25.sameV'
 have s26 := r26.sameV'
 have s28 := r28.sameV'
 have s29 := r29.sameV'
 rw [boxK_agg hone, rAlloc_h]
 let σb := (σ.new (.cells [c0, c1, c2, c3, c4, c5, c6, c7, c8, c9, c10, c11, c12, c13, c14, c15, c16, c17, c18, c19, c20, c21, c22, c23, c24, c25, c26, c27, c28, c29] 34 .exact)).new (.cells [zI, zL, zI, zS, zF, zI, zI, zI, zI, zI, zI, zI, zS, zS, zI, zI, zF, zF, zS, zL, zL, zL, zL, zL, zL, zF, zL, zL, zL, zL] 49 .exact)
 have nb : σb.n = σ.n + 2 := rfl
 have ob0 : σb.obj σ.n = some (.cells [c0, c1, c2, c3, c4, c5, c6, c7, c8, c9, c10, c11, c12, c13, c14, c15, c16, c17, c18, c19, c20, c21, c22, c23, c24, c25, c26, c27, c28, c29] 34 .exact) := by show ((σ.new _).new _).obj σ.n = _; rw [obj_new_old (by rw [new_n]; omega), obj_new_same]
 have ob1 : σb.obj (σ.n + 1) = some (.cells [zI, zL, zI, zS, zF, zI, zI, zI, zI, zI, zI, zI, zS, zS, zI, zI, zF, zF, zS, zL, zL, zL, zL, zL, zL, zF, zL, zL, zL, zL] 49 .exact) := obj_new_same
 have xb : Ext' σ σb := (Ext'.new σ _).trans (.new _ _)
 have ld : ∀ σ' : St, σ'.obj σ.n = some (.cells [c0, c1, c2, c3, c4, c5, c6, c7, c8, c9, c10, c11, c12, c13, c14, c15, c16, c17, c18, c19, c20, c21, c22, c23, c24, c25, c26, c27, c28, c29] 34 .exact) → ∀ K, rLd (pt σ.n 0) σ' K = K c0 σ' ∧ rLd (pt σ.n 1) σ' K = K c1 σ' ∧ rLd (pt σ.n 22) σ' K = K c22 σ' ∧ rLd (pt σ.n 23) σ' K = K c23 σ' ∧ rLd (pt σ.n 24) σ' K = K c24 σ' ∧ rLd (pt σ.n 25) σ' K = K c25 σ' ∧ rLd (pt σ.n 26) σ' K = K c26 σ' ∧ rLd (pt σ.n 28) σ' K = K c28 σ' ∧ rLd (pt σ.n 29) σ' K = K c29 σ' ∧ rLdN 20 (pt σ.n 2) σ' K = K (.agg ⟨[c2, c3, c4, c5, c6, c7, c8, c9, c10, c11, c12, c13, c14, c15, c16, c17, c18, c19, c20, c21]⟩) σ' := fun σ' o K =>
  ⟨rLd_h o rfl K, rLd_h o rfl K, rLd_h o rfl K, rLd_h o rfl K, rLd_h o rfl K, rLd_h o rfl K, rLd_h o rfl K, rLd_h o rfl K, rLd_h o rfl K, rLdN_h o (by simp) K⟩
 show (rFld 0 (pt σ.n 0) fun v2 => rLd v2 σb _) = true
 have L1 := ld σb ob0
 simp only [rFld_p, Nat.zero_add, L1, rSame_v s0, rSame_v s1, rSame_v s22, rSame_v s23, rSame_v s24, rSame_v s25, rSame_v s26, rSame_v s28, rSame_v s29, rSame_v sm]
 show (bcase (rAlloc [zI, zL, zI, zS, zF, zI, zI, zI, zI, zI, zI, zI, zS, zS, zI, zI, zF, zF, zS, zL, zL, zL, zL, zL, zL, zF, zL, zL, zL, zL] 49 σb _) (_) false) = true
 rw [rAlloc_h, bcase_t]
 revert nb ob0 ob1 xb
 show _ → _ → _ → _ → ((X most (n + 1)).C c_law25_boarded [.agg ⟨[c2, c3, c4, c5, c6, c7, c8, c9, c10, c11, c12, c13, c14, c15, c16, c17, c18, c19, c20, c21]⟩] σb _) = true
 clear L1
 generalize σb = σb
 intro nb ob0 ob1 xb
 let C0 : Nat → Prop := fun k => k = σ.n + 1 ∨ C k
 have hC1 : ∀ k, C0 k → k < σ.n + 2 := fun k hk => by
  rcases hk with h | h
  · omega
  · have := hC k h; omega
 have F0 : ∀ {σ' : St}, Ext' σ σ' → Fr' C σ σ' C0 := fun hx => ⟨hx.n, fun k hk _ => hx.same k hk, fun k hk => by
  rcases hk with h | h
  · exact .inr (by omega)
  · exact .inl h⟩
 refine boarded_s (n := n) (C := C0) hM (fun k hk => by have := hC1 k hk; omega) (hm.fr (F0 xb)) (by rw [ats_part _ _ _ _ (by omega)]; exact hB.l19) (by rw [ats_part _ _ _ _ (by omega)]; exact hB.l20) fun σ2 ws x2 hw => ?_
 have q2 := x2.n
 have o20 := (x2.same σ.n (by omega)).trans ob0
 have L2 := ld σ2 o20
 simp only [L2, rSame_v s0, rSame_v s1, rSame_v s22, rSame_v s23, rSame_v s24, rSame_v s25, rSame_v s26, rSame_v s28, rSame_v s29]
 show (bcase (rAlloc [zI, zL, zI, zS, zF, zI, zI, zI, zI, zI, zI, zI, zS, zS, zI, zI, zF, zF, zS, zL, zL, zL, zL, zL, zL, zF, zL, zL, zL, zL] 49 σ2 _) (_) false) = true
 rw [rAlloc_h, bcase_t]
 have e26 := r26.list_es
 have e27 := r27.list_es
 have e29 := r29.list_es
 refine dealings_s (n := n) (C := C0) hM (fun k hk => by have := hC1 k hk; omega) (e26.1.fr (F0 (xb.trans x2))) hB.l26 hB.i26 fun σ3 a26 x3 h26 => ?_
 have q3 := x3.n
 have o30 := (x3.same σ.n (by omega)).trans o20
 have L3 := ld σ3 o30
 simp only [L3, rSame_v s0, rSame_v s1, rSame_v s22, rSame_v s23, rSame_v s24, rSame_v s25, rSame_v s28, rSame_v s29]
 show (bcase (rAlloc [zI, zL, zI, zS, zF, zI, zI, zI, zI, zI, zI, zI, zS, zS, zI, zI, zF, zF, zS, zL, zL, zL, zL, zL, zL, zF, zL, zL, zL, zL] 49 σ3 _) (_) false) = true
 rw [rAlloc_h, bcase_t]
 refine dealings_s (n := n) (C := C0) hM (fun k hk => by have := hC1 k hk; omega) (e29.1.fr (F0 ((xb.trans x2).trans x3))) hB.l29 hB.i29 fun σ4 a29 x4 h29 => ?_
 have q4 := x4.n
 have o40 := (x4.same σ.n (by omega)).trans o30
 have o41 : σ4.obj (σ.n + 1) = some (.cells [zI, zL, zI, zS, zF, zI, zI, zI, zI, zI, zI, zI, zS, zS, zI, zI, zF, zF, zS, zL, zL, zL, zL, zL, zL, zF, zL, zL, zL, zL] 49 .exact) := by rw [x4.same _ (by omega), x3.same _ (by omega), x2.same _ (by omega)]; exact ob1
 have xt : Ext' σ σ4 := ((xb.trans x2).trans x3).trans x4
 have hwone := List.all_eq_true.2 hw.one
 obtain ⟨w0, w1, w2, w3, w4, w5, w6, w7, w8, w9, w10, w11, w12, w13, w14, w15, w16, w17, w18, w19, rfl⟩ := list20 (show ws.length = 20 from hw.len)
 have hbd : ∀ K, rBuild [zI, zL, zI, zS, zF, zI, zI, zI, zI, zI, zI, zI, zS, zS, zI, zI, zF, zF, zS, zL, zL, zL, zL, zL, zL, zF, zL, zL, zL, zL] [(0, 1, c0), (1, 1, c1), (2, 20, .agg ⟨[w0, w1, w2, w3, w4, w5, w6, w7, w8, w9, w10, w11, w12, w13, w14, w15, w16, w17, w18, w19]⟩), (22, 1, c22), (23, 1, c23), (24, 1, c24), (25, 1, c25), (26, 1, a26), (28, 1, c28), (29, 1, a29)] K = K (.agg ⟨[c0, c1, w0, w1, w2, w3, w4, w5, w6, w7, w8, w9, w10, w11, w12, w13, w14, w15, w16, w17, w18, w19, c22, c23, c24, c25, a26, zL, c28, a29]⟩) := fun K => by
  rw [rBuild_one r0.one (by simp), rBuild_one r1.one (by simp), rBuild_agg (n := 20) hwone rfl (by simp)]
  rw [show splice 2 [w0, w1, w2, w3, w4, w5, w6, w7, w8, w9, w10, w11, w12, w13, w14, w15, w16, w17, w18, w19] (([zI, zL, zI, zS, zF, zI, zI, zI, zI, zI, zI, zI, zS, zS, zI, zI, zF, zF, zS, zL, zL, zL, zL, zL, zL, zF, zL, zL, zL, zL].set 0 c0).set 1 c1) = [c0, c1, w0, w1, w2, w3, w4, w5, w6, w7, w8, w9, w10, w11, w12, w13, w14, w15, w16, w17, w18, w19, zL, zL, zL, zF, zL, zL, zL, zL] from rfl]
  rw [rBuild_one r22.one (by simp), rBuild_one r23.one (by simp), rBuild_one r24.one (by simp), rBuild_one r25.one (by simp), rBuild_one h26.one (by simp), rBuild_one r28.one (by simp), rBuild_one h29.one (by simp), rBuild_none]
  rfl
 have L4 := ld σ4 o40
 simp only [L4, rSame_v s0, rSame_v s1, rSame_v s22, rSame_v s23, rSame_v s24, rSame_v s25, rSame_v s28, hbd]
 show (bcase (rAlloc [zI, zL, zI, zS, zF, zI, zI, zI, zI, zI, zI, zI, zS, zS, zI, zI, zF, zF, zS, zL, zL, zL, zL, zL, zL, zF, zL, zL, zL, zL] 49 σ4 _) (_) false) = true
 rw [rAlloc_h, bcase_t]
 rw [rAlloc_h]
 have wone : ∀ v ∈ [w0, w1, w2, w3, w4, w5, w6, w7, w8, w9, w10, w11, w12, w13, w14, w15, w16, w17, w18, w19], oneCell v = true := hw.one
 have onef : [c0, c1, w0, w1, w2, w3, w4, w5, w6, w7, w8, w9, w10, w11, w12, w13, w14, w15, w16, w17, w18, w19, c22, c23, c24, c25, a26, zL, c28, a29].all oneCell = true := by
  refine List.all_eq_true.2 fun v hv => ?_
  have : v ∈ [c0, c1] ∨ v ∈ [w0, w1, w2, w3, w4, w5, w6, w7, w8, w9, w10, w11, w12, w13, w14, w15, w16, w17, w18, w19] ∨ v ∈ [c22, c23, c24, c25, a26, .slice none 0 0, c28, a29] := by
   rw [show [c0, c1, w0, w1, w2, w3, w4, w5, w6, w7, w8, w9, w10, w11, w12, w13, w14, w15, w16, w17, w18, w19, c22, c23, c24, c25, a26, zL, c28, a29] = [c0, c1] ++ ([w0, w1, w2, w3, w4, w5, w6, w7, w8, w9, w10, w11, w12, w13, w14, w15, w16, w17, w18, w19] ++ [c22, c23, c24, c25, a26, .slice none 0 0, c28, a29]) from rfl] at hv
   rcases List.mem_append.1 hv with hv | hv
   · exact .inl hv
   · exact .inr (List.mem_append.1 hv)
  rcases this with hv | hv | hv
  · have : [c0, c1].all oneCell = true := by simp [r0.one, r1.one]
    exact List.all_eq_true.1 this v hv
  · exact wone v hv
  · have : [c22, c23, c24, c25, a26, .slice none 0 0, c28, a29].all oneCell = true := by simp [r22.one, r23.one, r24.one, r25.one, h26.one, r28.one, h29.one]; rfl
    exact List.all_eq_true.1 this v hv
 rw [rSt_all (vs := [zI, zL, zI, zS, zF, zI, zI, zI, zI, zI, zI, zI, zS, zS, zI, zI, zF, zF, zS, zL, zL, zL, zL, zL, zL, zF, zL, zL, zL, zL]) (cs := [c0, c1, w0, w1, w2, w3, w4, w5, w6, w7, w8, w9, w10, w11, w12, w13, w14, w15, w16, w17, w18, w19, c22, c23, c24, c25, a26, zL, c28, a29]) obj_new_same rfl onef 30 rfl]
 generalize hσ5 : (σ4.new (.cells [zI, zL, zI, zS, zF, zI, zI, zI, zI, zI, zI, zI, zS, zS, zI, zI, zF, zF, zS, zL, zL, zL, zL, zL, zL, zF, zL, zL, zL, zL] 49 .exact)).set σ4.n (.cells [c0, c1, w0, w1, w2, w3, w4, w5, w6, w7, w8, w9, w10, w11, w12, w13, w14, w15, w16, w17, w18, w19, c22, c23, c24, c25, a26, zL, c28, a29] 49 .exact) = σ5
 have n5 : σ5.n = σ4.n + 1 := by rw [← hσ5]; rfl
 have x5 : Ext' σ4 σ5 := ⟨by omega, fun k hk => by rw [← hσ5, obj_set_other (by omega), obj_new_old (by omega)]⟩
 have o5 : σ5.obj σ4.n = some (.cells ([c0, c1, w0, w1, w2, w3, w4, w5, w6, w7, w8, w9, w10, w11, w12, w13, w14, w15, w16, w17, w18, w19, c22, c23, c24, c25, a26, zL, c28, a29].set 27 zL) 49 .exact) := by rw [← hσ5]; exact obj_set_same
 have x5t : Ext' σ σ5 := xt.trans x5
 let C1 : Nat → Prop := fun k => k = σ4.n ∨ k = σ.n + 1 ∨ C k
 have hCb : C1 σ4.n := .inl rfl
 have hC5 : ∀ k, C1 k → k < σ5.n := fun k hk => by
  rcases hk with h | h | h
  · omega
  · omega
  · have := hC k h; omega
 have F1 : ∀ {σ' : St}, Ext' σ σ' → Fr' C σ σ' C1 := fun hx => ⟨hx.n, fun k hk _ => hx.same k hk, fun k hk => by
  rcases hk with h | h | h
  · exact .inr (by omega)
  · exact .inr (by omega)
  · exact .inl h⟩
 refine back_dones (n := n + 1) (σ1 := σ5) (C := C1) (p1 := σ.n) (b := σ4.n) (cs := [c0, c1, w0, w1, w2, w3, w4, w5, w6, w7, w8, w9, w10, w11, w12, w13, w14, w15, w16, w17, w18, w19, c22, c23, c24, c25, a26, zL, c28, a29]) (ws := []) (tw := 0) hCb hC5 (e27.1.fr (F1 x5t)) (fun σ' f K => rLd_h (by rw [f.same σ.n (by omega) (by show ¬ (σ.n = σ4.n); omega), x5.same σ.n (by omega)]; exact o40) rfl K) (by simp) hB.l27 (fun σ6 a27 f6 hb6 h27 => ?_) _ 0 _ σ5 zL (Nat.zero_add _) (by have := hB.l27; rw [X_most]; omega) (.refl _ _) o5 (.inl ⟨rfl, by simp⟩)
 have q6 := f6.n
 have hb6 : σ6.obj σ4.n = some (.cells [c0, c1, w0, w1, w2, w3, w4, w5, w6, w7, w8, w9, w10, w11, w12, w13, w14, w15, w16, w17, w18, w19, c22, c23, c24, c25, a26, a27, c28, a29] 49 .exact) := hb6
 have o61 : σ6.obj (σ.n + 1) = some (.cells [zI, zL, zI, zS, zF, zI, zI, zI, zI, zI, zI, zI, zS, zS, zI, zI, zF, zF, zS, zL, zL, zL, zL, zL, zL, zF, zL, zL, zL, zL] 49 .exact) := by rw [f6.same _ (by omega) (by show ¬ (σ.n + 1 = σ4.n); omega), x5.same _ (by omega)]; exact o41
 have onef2 : [c0, c1, w0, w1, w2, w3, w4, w5, w6, w7, w8, w9, w10, w11, w12, w13, w14, w15, w16, w17, w18, w19, c22, c23, c24, c25, a26, a27, c28, a29].all oneCell = true := by
  refine List.all_eq_true.2 fun v hv => ?_
  have hv : v ∈ [c0, c1, w0, w1, w2, w3, w4, w5, w6, w7, w8, w9, w10, w11, w12, w13, w14, w15, w16, w17, w18, w19, c22, c23, c24, c25, a26, zL, c28, a29].set 27 a27 := hv
  rcases List.mem_or_eq_of_mem_set hv with hv | hv
  · exact List.all_eq_true.1 onef v hv
  · rw [hv]; exact h27.one
 have x6 : Ext' σ4 σ6 := f6.ext x5 fun k hk => by rw [show k = σ4.n from hk]; exact Nat.le_refl _
 have x6t : Ext' σ σ6 := xt.trans x6
 rw [rLdN_h hb6 (by simp)]
 show rSt 30 (pt (σ.n + 1) 0) (.agg ⟨[c0, c1, w0, w1, w2, w3, w4, w5, w6, w7, w8, w9, w10, w11, w12, w13, w14, w15, w16, w17, w18, w19, c22, c23, c24, c25, a26, a27, c28, a29]⟩) σ6 _ = true
 rw [rSt_all (vs := [zI, zL, zI, zS, zF, zI, zI, zI, zI, zI, zI, zI, zS, zS, zI, zI, zF, zF, zS, zL, zL, zL, zL, zL, zL, zF, zL, zL, zL, zL]) (cs := [c0, c1, w0, w1, w2, w3, w4, w5, w6, w7, w8, w9, w10, w11, w12, w13, w14, w15, w16, w17, w18, w19, c22, c23, c24, c25, a26, a27, c28, a29]) o61 rfl onef2 30 rfl]
 show rLdN 30 (pt (σ.n + 1) 0) _ _ = true
 rw [rLdN_h obj_set_same (by simp)]
 have H7 : ∀ {σ' : St}, σ.n + 2 ≤ σ'.n → Ext' σ' σ6 → Fr' C0 σ' (σ6.set (σ.n + 1) (.cells [c0, c1, w0, w1, w2, w3, w4, w5, w6, w7, w8, w9, w10, w11, w12, w13, w14, w15, w16, w17, w18, w19, c22, c23, c24, c25, a26, a27, c28, a29] 49 .exact)) C := fun h1 h2 => ⟨h2.n, fun k hk hc => by rw [obj_set_other fun e => hc (.inl e)]; exact h2.same k hk, fun k hk => .inl (.inr hk)⟩
 have hw7 := hw.fr (H7 (by omega) ((x3.trans x4).trans x6))
 have h26' := h26.fr (H7 (by omega) (x4.trans x6))
 have h29' := h29.fr (H7 (by omega) x6)
 have x7 : Ext' σ (σ6.set (σ.n + 1) (.cells [c0, c1, w0, w1, w2, w3, w4, w5, w6, w7, w8, w9, w10, w11, w12, w13, w14, w15, w16, w17, w18, w19, c22, c23, c24, c25, a26, a27, c28, a29] 49 .exact)) := ⟨x6t.n, fun k hk => by rw [obj_set_other (by omega)]; exact x6t.same k hk⟩
 have F7 : Fr' C σ (σ6.set (σ.n + 1) (.cells [c0, c1, w0, w1, w2, w3, w4, w5, w6, w7, w8, w9, w10, w11, w12, w13, w14, w15, w16, w17, w18, w19, c22, c23, c24, c25, a26, a27, c28, a29] 49 .exact)) C := x7.fr C
 have G7 : Fr' C1 σ6 (σ6.set (σ.n + 1) (.cells [c0, c1, w0, w1, w2, w3, w4, w5, w6, w7, w8, w9, w10, w11, w12, w13, w14, w15, w16, w17, w18, w19, c22, c23, c24, c25, a26, a27, c28, a29] 49 .exact)) C := ⟨Nat.le_refl _, fun k hk hc => obj_set_other fun e => hc (.inr (.inl e)), fun k hk => .inl (.inr (.inr hk))⟩
 refine hK _ [c0, c1, w0, w1, w2, w3, w4, w5, w6, w7, w8, w9, w10, w11, w12, w13, w14, w15, w16, w17, w18, w19, c22, c23, c24, c25, a26, a27, c28, a29] x7 (RdA.of rfl hdl fun j it u a b => ?_)
 match j, a, b with
 | 0, a, b => injection a with a; injection b with b; subst a b; exact r0.fr F7
 | 1, a, b => injection a with a; injection b with b; subst a b; exact r1.fr F7
 | 2, a, b => injection a with a; injection b with b; subst a b; exact by rw [← ats_part ds 2 20 0 (by omega)]; obtain ⟨u, hu, hr⟩ := hw7.at (j := 0) (it := .int) rfl; injection hu with hu; subst hu; exact hr
 | 3, a, b => injection a with a; injection b with b; subst a b; exact by rw [← ats_part ds 2 20 1 (by omega)]; obtain ⟨u, hu, hr⟩ := hw7.at (j := 1) (it := .text) rfl; injection hu with hu; subst hu; exact hr
 | 4, a, b => injection a with a; injection b with b; subst a b; exact by rw [← ats_part ds 2 20 2 (by omega)]; obtain ⟨u, hu, hr⟩ := hw7.at (j := 2) (it := .is) rfl; injection hu with hu; subst hu; exact hr
 | 5, a, b => injection a with a; injection b with b; subst a b; exact by rw [← ats_part ds 2 20 3 (by omega)]; obtain ⟨u, hu, hr⟩ := hw7.at (j := 3) (it := .int) rfl; injection hu with hu; subst hu; exact hr
 | 6, a, b => injection a with a; injection b with b; subst a b; exact by rw [← ats_part ds 2 20 4 (by omega)]; obtain ⟨u, hu, hr⟩ := hw7.at (j := 4) (it := .int) rfl; injection hu with hu; subst hu; exact hr
 | 7, a, b => injection a with a; injection b with b; subst a b; exact by rw [← ats_part ds 2 20 5 (by omega)]; obtain ⟨u, hu, hr⟩ := hw7.at (j := 5) (it := .int) rfl; injection hu with hu; subst hu; exact hr
 | 8, a, b => injection a with a; injection b with b; subst a b; exact by rw [← ats_part ds 2 20 6 (by omega)]; obtain ⟨u, hu, hr⟩ := hw7.at (j := 6) (it := .int) rfl; injection hu with hu; subst hu; exact hr
 | 9, a, b => injection a with a; injection b with b; subst a b; exact by rw [← ats_part ds 2 20 7 (by omega)]; obtain ⟨u, hu, hr⟩ := hw7.at (j := 7) (it := .int) rfl; injection hu with hu; subst hu; exact hr
 | 10, a, b => injection a with a; injection b with b; subst a b; exact by rw [← ats_part ds 2 20 8 (by omega)]; obtain ⟨u, hu, hr⟩ := hw7.at (j := 8) (it := .int) rfl; injection hu with hu; subst hu; exact hr
 | 11, a, b => injection a with a; injection b with b; subst a b; exact by rw [← ats_part ds 2 20 9 (by omega)]; obtain ⟨u, hu, hr⟩ := hw7.at (j := 9) (it := .int) rfl; injection hu with hu; subst hu; exact hr
 | 12, a, b => injection a with a; injection b with b; subst a b; exact by rw [← ats_part ds 2 20 10 (by omega)]; obtain ⟨u, hu, hr⟩ := hw7.at (j := 10) (it := .text) rfl; injection hu with hu; subst hu; exact hr
 | 13, a, b => injection a with a; injection b with b; subst a b; exact by rw [← ats_part ds 2 20 11 (by omega)]; obtain ⟨u, hu, hr⟩ := hw7.at (j := 11) (it := .text) rfl; injection hu with hu; subst hu; exact hr
 | 14, a, b => injection a with a; injection b with b; subst a b; exact by rw [← ats_part ds 2 20 12 (by omega)]; obtain ⟨u, hu, hr⟩ := hw7.at (j := 12) (it := .int) rfl; injection hu with hu; subst hu; exact hr
 | 15, a, b => injection a with a; injection b with b; subst a b; exact by rw [← ats_part ds 2 20 13 (by omega)]; obtain ⟨u, hu, hr⟩ := hw7.at (j := 13) (it := .int) rfl; injection hu with hu; subst hu; exact hr
 | 16, a, b => injection a with a; injection b with b; subst a b; exact by rw [← ats_part ds 2 20 14 (by omega)]; obtain ⟨u, hu, hr⟩ := hw7.at (j := 14) (it := .is) rfl; injection hu with hu; subst hu; exact hr
 | 17, a, b => injection a with a; injection b with b; subst a b; exact by rw [← ats_part ds 2 20 15 (by omega)]; obtain ⟨u, hu, hr⟩ := hw7.at (j := 15) (it := .is) rfl; injection hu with hu; subst hu; exact hr
 | 18, a, b => injection a with a; injection b with b; subst a b; exact by rw [← ats_part ds 2 20 16 (by omega)]; obtain ⟨u, hu, hr⟩ := hw7.at (j := 16) (it := .text) rfl; injection hu with hu; subst hu; exact hr
 | 19, a, b => injection a with a; injection b with b; subst a b; exact by rw [← ats_part ds 2 20 17 (by omega)]; obtain ⟨u, hu, hr⟩ := hw7.at (j := 17) (it := .list itsVote) rfl; injection hu with hu; subst hu; exact hr
 | 20, a, b => injection a with a; injection b with b; subst a b; exact by rw [← ats_part ds 2 20 18 (by omega)]; obtain ⟨u, hu, hr⟩ := hw7.at (j := 18) (it := .list itsSaid) rfl; injection hu with hu; subst hu; exact hr
 | 21, a, b => injection a with a; injection b with b; subst a b; exact by rw [← ats_part ds 2 20 19 (by omega)]; obtain ⟨u, hu, hr⟩ := hw7.at (j := 19) (it := .list itsMsg) rfl; injection hu with hu; subst hu; exact hr
 | 22, a, b => injection a with a; injection b with b; subst a b; exact r22.fr F7
 | 23, a, b => injection a with a; injection b with b; subst a b; exact r23.fr F7
 | 24, a, b => injection a with a; injection b with b; subst a b; exact r24.fr F7
 | 25, a, b => injection a with a; injection b with b; subst a b; exact r25.fr F7
 | 26, a, b => injection a with a; injection b with b; subst a b; exact by rw [e26.2]; exact h26'
 | 27, a, b => injection a with a; injection b with b; subst a b; exact by rw [e27.2]; exact h27.fr G7
 | 28, a, b => injection a with a; injection b with b; subst a b; exact r28.fr F7
 | 29, a, b => injection a with a; injection b with b; subst a b; exact by rw [e29.2]; exact h29'
 | j + 30, a, _ => cases a
end Go.Am

set_option linter.unusedVariables false
set_option maxRecDepth 100000
namespace Go.Am

/-! consistory/consistoryref24.Same -/
noncomputable def l_ref24_Same_rrlrd (x : EV) (m : Nat) (t2 t3 t5 : Value) (σ : St) (K : VK) : Bool := jmpL PP tbS c_ref24_Same (x.E PP) [.r, .r, .l, .r, .d] m [] [t2, t3, t5] σ K
noncomputable def r_ref24_Same (x : EV) (a0 a1 : Value) (σ : St) (K : VK) : Bool :=
 boxK 49 a0 σ fun v0 σ =>
 boxK 49 a1 σ fun v1 σ =>
 rFld 0 v0 fun v2 =>
 rLd v2 σ fun v3 σ =>
 rFld 0 v1 fun v4 =>
 rLd v4 σ fun v5 σ =>
 rBin PP .neq 3 v3 v5 fun v6 =>
 shut x.most (rGuard false v6 (fun k => rFld 25 v0 fun v7 =>
 k v7 σ) σ fun v8 σ =>
 shut x.most (rGuard false v6 (fun k => rLd v8 σ fun v9 σ =>
 k v9 σ) σ fun v10 σ =>
 shut x.most (rGuard false v6 (fun k => rFld 25 v1 fun v11 =>
 k v11 σ) σ fun v12 σ =>
 shut x.most (rGuard false v6 (fun k => rLd v12 σ fun v13 σ =>
 k v13 σ) σ fun v14 σ =>
 shut x.most (rGuard false v6 (fun k => rBin PP .neq 4 v10 v14 fun v15 =>
 k v15 σ) σ fun v16 σ =>
 shut x.most (rPick v6 (.bool true) v16 fun v17 =>
 shut x.most (rGuard false v17 (fun k => rFld 1 v0 fun v18 =>
 k v18 σ) σ fun v19 σ =>
 shut x.most (rGuard false v17 (fun k => rLd v19 σ fun v20 σ =>
 k v20 σ) σ fun v21 σ =>
 shut x.most (rGuard false v17 (fun k => rFld 1 v1 fun v22 =>
 k v22 σ) σ fun v23 σ =>
 shut x.most (rGuard false v17 (fun k => rLd v23 σ fun v24 σ =>
 k v24 σ) σ fun v25 σ =>
 shut x.most (rGuard false v17 (fun k => x.C c_ref24_Strings [v21, v25] σ fun v26 σ =>
 k v26 σ) σ fun v27 σ =>
 shut x.most (rGuard false v17 (fun k => unK .not v27 fun v28 =>
 k v28 σ) σ fun v29 σ =>
 shut x.most (rPick v17 (.bool true) v29 fun v30 =>
 shut x.most (rGuard false v30 (fun k => rFld 22 v0 fun v31 =>
 k v31 σ) σ fun v32 σ =>
 shut x.most (rGuard false v30 (fun k => rLd v32 σ fun v33 σ =>
 k v33 σ) σ fun v34 σ =>
 shut x.most (rGuard false v30 (fun k => rFld 22 v1 fun v35 =>
 k v35 σ) σ fun v36 σ =>
 shut x.most (rGuard false v30 (fun k => rLd v36 σ fun v37 σ =>
 k v37 σ) σ fun v38 σ =>
 shut x.most (rGuard false v30 (fun k => x.C c_ref24_Strings [v34, v38] σ fun v39 σ =>
 k v39 σ) σ fun v40 σ =>
 shut x.most (rGuard false v30 (fun k => unK .not v40 fun v41 =>
 k v41 σ) σ fun v42 σ =>
 shut x.most (rPick v30 (.bool true) v42 fun v43 =>
 shut x.most (rGuard false v43 (fun k => rFld 2 v0 fun v44 =>
 k v44 σ) σ fun v45 σ =>
 shut x.most (rGuard false v43 (fun k => rLdN 20 v45 σ fun v46 σ =>
 k v46 σ) σ fun v47 σ =>
 shut x.most (rGuard false v43 (fun k => rFld 2 v1 fun v48 =>
 k v48 σ) σ fun v49 σ =>
 shut x.most (rGuard false v43 (fun k => rLdN 20 v49 σ fun v50 σ =>
 k v50 σ) σ fun v51 σ =>
 shut x.most (rGuard false v43 (fun k => x.C c_ref17_Same [v47, v51] σ fun v52 σ =>
 k v52 σ) σ fun v53 σ =>
 shut x.most (rGuard false v43 (fun k => unK .not v53 fun v54 =>
 k v54 σ) σ fun v55 σ =>
 shut x.most (rPick v43 (.bool true) v55 fun v56 =>
 shut x.most (rGuard false v56 (fun k => rFld 23 v0 fun v57 =>
 k v57 σ) σ fun v58 σ =>
 shut x.most (rGuard false v56 (fun k => rLd v58 σ fun v59 σ =>
 k v59 σ) σ fun v60 σ =>
 shut x.most (rGuard false v56 (fun k => rFld 23 v1 fun v61 =>
 k v61 σ) σ fun v62 σ =>
 shut x.most (rGuard false v56 (fun k => rLd v62 σ fun v63 σ =>
 k v63 σ) σ fun v64 σ =>
 shut x.most (rGuard false v56 (fun k => x.C c_ref18_Same [v60, v64] σ fun v65 σ =>
 k v65 σ) σ fun v66 σ =>
 shut x.most (rGuard false v56 (fun k => unK .not v66 fun v67 =>
 k v67 σ) σ fun v68 σ =>
 shut x.most (rPick v56 (.bool true) v68 fun v69 =>
 shut x.most (rGuard false v69 (fun k => rFld 24 v0 fun v70 =>
 k v70 σ) σ fun v71 σ =>
 shut x.most (rGuard false v69 (fun k => rLd v71 σ fun v72 σ =>
 k v72 σ) σ fun v73 σ =>
 shut x.most (rGuard false v69 (fun k => rFld 24 v1 fun v74 =>
 k v74 σ) σ fun v75 σ =>
 shut x.most (rGuard false v69 (fun k => rLd v75 σ fun v76 σ =>
 k v76 σ) σ fun v77 σ =>
 shut x.most (rGuard false v69 (fun k => x.C c_ref18_Same [v73, v77] σ fun v78 σ =>
 k v78 σ) σ fun v79 σ =>
 shut x.most (rGuard false v69 (fun k => unK .not v79 fun v80 =>
 k v80 σ) σ fun v81 σ =>
 shut x.most (rPick v69 (.bool true) v81 fun v82 =>
 shut x.most (rGuard false v82 (fun k => rFld 26 v0 fun v83 =>
 k v83 σ) σ fun v84 σ =>
 shut x.most (rGuard false v82 (fun k => rLd v84 σ fun v85 σ =>
 k v85 σ) σ fun v86 σ =>
 shut x.most (rGuard false v82 (fun k => rFld 26 v1 fun v87 =>
 k v87 σ) σ fun v88 σ =>
 shut x.most (rGuard false v82 (fun k => rLd v88 σ fun v89 σ =>
 k v89 σ) σ fun v90 σ =>
 shut x.most (rGuard false v82 (fun k => x.C c_ref24_dealings [v86, v90] σ fun v91 σ =>
 k v91 σ) σ fun v92 σ =>
 shut x.most (rGuard false v82 (fun k => unK .not v92 fun v93 =>
 k v93 σ) σ fun v94 σ =>
 shut x.most (rPick v82 (.bool true) v94 fun v95 =>
 shut x.most (rGuard false v95 (fun k => rFld 29 v0 fun v96 =>
 k v96 σ) σ fun v97 σ =>
 shut x.most (rGuard false v95 (fun k => rLd v97 σ fun v98 σ =>
 k v98 σ) σ fun v99 σ =>
 shut x.most (rGuard false v95 (fun k => rFld 29 v1 fun v100 =>
 k v100 σ) σ fun v101 σ =>
 shut x.most (rGuard false v95 (fun k => rLd v101 σ fun v102 σ =>
 k v102 σ) σ fun v103 σ =>
 shut x.most (rGuard false v95 (fun k => x.C c_ref24_dealings [v99, v103] σ fun v104 σ =>
 k v104 σ) σ fun v105 σ =>
 shut x.most (rGuard false v95 (fun k => unK .not v105 fun v106 =>
 k v106 σ) σ fun v107 σ =>
 shut x.most (rPick v95 (.bool true) v107 fun v108 =>
 shut x.most (rGuard false v108 (fun k => rFld 28 v0 fun v109 =>
 k v109 σ) σ fun v110 σ =>
 shut x.most (rGuard false v108 (fun k => rLd v110 σ fun v111 σ =>
 k v111 σ) σ fun v112 σ =>
 shut x.most (rGuard false v108 (fun k => rFld 28 v1 fun v113 =>
 k v113 σ) σ fun v114 σ =>
 shut x.most (rGuard false v108 (fun k => rLd v114 σ fun v115 σ =>
 k v115 σ) σ fun v116 σ =>
 shut x.most (rGuard false v108 (fun k => x.C c_ref14_Msgs [v112, v116] σ fun v117 σ =>
 k v117 σ) σ fun v118 σ =>
 shut x.most (rGuard false v108 (fun k => unK .not v118 fun v119 =>
 k v119 σ) σ fun v120 σ =>
 shut x.most (rPick v108 (.bool true) v120 fun v121 =>
 shut x.most (rGuard false v121 (fun k => rFld 27 v0 fun v122 =>
 k v122 σ) σ fun v123 σ =>
 shut x.most (rGuard false v121 (fun k => rLd v123 σ fun v124 σ =>
 k v124 σ) σ fun v125 σ =>
 shut x.most (rGuard false v121 (fun k => rLenS v125 fun v126 =>
 k v126 σ) σ fun v127 σ =>
 shut x.most (rGuard false v121 (fun k => rFld 27 v1 fun v128 =>
 k v128 σ) σ fun v129 σ =>
 shut x.most (rGuard false v121 (fun k => rLd v129 σ fun v130 σ =>
 k v130 σ) σ fun v131 σ =>
 shut x.most (rGuard false v121 (fun k => rLenS v131 fun v132 =>
 k v132 σ) σ fun v133 σ =>
 shut x.most (rGuard false v121 (fun k => rBin PP .neq 3 v127 v133 fun v134 =>
 k v134 σ) σ fun v135 σ =>
 shut x.most (rPick v121 (.bool true) v135 fun v136 =>
 rIf v136 (K zF σ) (l_ref24_Same_rrlrd x x.most v0 v1 zI σ K)))))))))))))))))))))))))))))))))))))))))))))))))))))))))))))))))))))))
theorem f_ref24_Same (x : EV) (a0 a1 : Value) (σ : St) (K : VK) : fnX PP tbS c_ref24_Same (x.E PP) [a0, a1] σ K = r_ref24_Same x a0 a1 σ K := by kernel_rfl
noncomputable def l_ref24_Same_rrlrdB (x : EV) (m0 : Nat) (t2 t3 t5 : Value) (σ : St) (K : VK) : Bool :=
 rFld 27 t2 fun v0 =>
 rLd v0 σ fun v1 σ =>
 rLenS v1 fun v2 =>
 rBin PP .lss 3 t5 v2 fun v3 =>
 rIf v3 (rFld 27 t2 fun v4 =>
 rLd v4 σ fun v5 σ =>
 rIdx 3 v5 t5 fun v6 =>
 rFld 0 v6 fun v7 =>
 rLd v7 σ fun v8 σ =>
 rFld 27 t3 fun v9 =>
 rLd v9 σ fun v10 σ =>
 rIdx 3 v10 t5 fun v11 =>
 rFld 0 v11 fun v12 =>
 rLd v12 σ fun v13 σ =>
 rBin PP .neq 3 v8 v13 fun v14 =>
 shut x.most (rGuard false v14 (fun k => rFld 27 t2 fun v15 =>
 k v15 σ) σ fun v16 σ =>
 shut x.most (rGuard false v14 (fun k => rLd v16 σ fun v17 σ =>
 k v17 σ) σ fun v18 σ =>
 shut x.most (rGuard false v14 (fun k => k t5 σ) σ fun v19 σ =>
 shut x.most (rGuard false v14 (fun k => rIdx 3 v18 v19 fun v20 =>
 k v20 σ) σ fun v21 σ =>
 shut x.most (rGuard false v14 (fun k => rFld 1 v21 fun v22 =>
 k v22 σ) σ fun v23 σ =>
 shut x.most (rGuard false v14 (fun k => rLd v23 σ fun v24 σ =>
 k v24 σ) σ fun v25 σ =>
 shut x.most (rGuard false v14 (fun k => rFld 27 t3 fun v26 =>
 k v26 σ) σ fun v27 σ =>
 shut x.most (rGuard false v14 (fun k => rLd v27 σ fun v28 σ =>
 k v28 σ) σ fun v29 σ =>
 shut x.most (rGuard false v14 (fun k => k t5 σ) σ fun v30 σ =>
 shut x.most (rGuard false v14 (fun k => rIdx 3 v29 v30 fun v31 =>
 k v31 σ) σ fun v32 σ =>
 shut x.most (rGuard false v14 (fun k => rFld 1 v32 fun v33 =>
 k v33 σ) σ fun v34 σ =>
 shut x.most (rGuard false v14 (fun k => rLd v34 σ fun v35 σ =>
 k v35 σ) σ fun v36 σ =>
 shut x.most (rGuard false v14 (fun k => rBin PP .neq 3 v25 v36 fun v37 =>
 k v37 σ) σ fun v38 σ =>
 shut x.most (rPick v14 (.bool true) v38 fun v39 =>
 shut x.most (rGuard false v39 (fun k => rFld 27 t2 fun v40 =>
 k v40 σ) σ fun v41 σ =>
 shut x.most (rGuard false v39 (fun k => rLd v41 σ fun v42 σ =>
 k v42 σ) σ fun v43 σ =>
 shut x.most (rGuard false v39 (fun k => k t5 σ) σ fun v44 σ =>
 shut x.most (rGuard false v39 (fun k => rIdx 3 v43 v44 fun v45 =>
 k v45 σ) σ fun v46 σ =>
 shut x.most (rGuard false v39 (fun k => rFld 2 v46 fun v47 =>
 k v47 σ) σ fun v48 σ =>
 shut x.most (rGuard false v39 (fun k => rLd v48 σ fun v49 σ =>
 k v49 σ) σ fun v50 σ =>
 shut x.most (rGuard false v39 (fun k => rFld 27 t3 fun v51 =>
 k v51 σ) σ fun v52 σ =>
 shut x.most (rGuard false v39 (fun k => rLd v52 σ fun v53 σ =>
 k v53 σ) σ fun v54 σ =>
 shut x.most (rGuard false v39 (fun k => k t5 σ) σ fun v55 σ =>
 shut x.most (rGuard false v39 (fun k => rIdx 3 v54 v55 fun v56 =>
 k v56 σ) σ fun v57 σ =>
 shut x.most (rGuard false v39 (fun k => rFld 2 v57 fun v58 =>
 k v58 σ) σ fun v59 σ =>
 shut x.most (rGuard false v39 (fun k => rLd v59 σ fun v60 σ =>
 k v60 σ) σ fun v61 σ =>
 shut x.most (rGuard false v39 (fun k => x.C c_ref08_Nums [v50, v61] σ fun v62 σ =>
 k v62 σ) σ fun v63 σ =>
 shut x.most (rGuardC false v39 v54 (fun k => rLd v52 σ fun v64 σ =>
 rSame v64 v54 k) (shut x.most (rGuardC false v39 v43 (fun k => rLd v41 σ fun v65 σ =>
 rSame v65 v43 k) (shut x.most (rGuardC false v14 v36 (fun k => rLd v34 σ fun v66 σ =>
 rSame v66 v36 k) (shut x.most (rGuardC false v14 v29 (fun k => rLd v27 σ fun v67 σ =>
 rSame v67 v29 k) (shut x.most (rGuardC false v14 v25 (fun k => rLd v23 σ fun v68 σ =>
 rSame v68 v25 k) (shut x.most (rGuardC false v14 v18 (fun k => rLd v16 σ fun v69 σ =>
 rSame v69 v18 k) (rLd v12 σ fun v70 σ =>
 rSame v70 v13 (rLd v9 σ fun v71 σ =>
 rSame v71 v10 (rLd v7 σ fun v72 σ =>
 rSame v72 v8 (rLd v4 σ fun v73 σ =>
 rSame v73 v5 (shut x.most (rGuard false v39 (fun k => unK .not v63 fun v74 =>
 k v74 σ) σ fun v75 σ =>
 shut x.most (rPick v39 (.bool true) v75 fun v76 =>
 rIf v76 (K zF σ) (rBin PP .add 3 t5 (.int .i64 (.ofNat 1)) fun v77 =>
 l_ref24_Same_rrlrd x m0 t2 t3 v77 σ K))))))))))))))))))))))))))))))))))))))))))))))) (K (.bool true) σ)
theorem l_ref24_Same_rrlrdE (x : EV) (m0 : Nat) (t2 t3 t5 : Value) (σ : St) (K : VK) : l_ref24_Same_rrlrd x (m0 + 1) t2 t3 t5 σ K = l_ref24_Same_rrlrdB x m0 t2 t3 t5 σ K := by kernel_rfl

/-! consistory/consistoryref24.Strings -/
noncomputable def l_ref24_Strings_rrlrd (x : EV) (m : Nat) (t0 t1 t5 : Value) (σ : St) (K : VK) : Bool := jmpL PP tbS c_ref24_Strings (x.E PP) [.r, .r, .l, .r, .d] m [] [t0, t1, t5] σ K
noncomputable def r_ref24_Strings (x : EV) (a0 a1 : Value) (σ : St) (K : VK) : Bool :=
 rLenS a0 fun v0 =>
 rLenS a1 fun v1 =>
 rBin PP .neq 3 v0 v1 fun v2 =>
 rIf v2 (K zF σ) (l_ref24_Strings_rrlrd x x.most a0 a1 zI σ K)
theorem f_ref24_Strings (x : EV) (a0 a1 : Value) (σ : St) (K : VK) : fnX PP tbS c_ref24_Strings (x.E PP) [a0, a1] σ K = r_ref24_Strings x a0 a1 σ K := by kernel_rfl
noncomputable def l_ref24_Strings_rrlrdB (x : EV) (m0 : Nat) (t0 t1 t5 : Value) (σ : St) (K : VK) : Bool :=
 rLenS t0 fun v0 =>
 rBin PP .lss 3 t5 v0 fun v1 =>
 rIf v1 (rIdx 1 t0 t5 fun v2 =>
 rLd v2 σ fun v3 σ =>
 rIdx 1 t1 t5 fun v4 =>
 rLd v4 σ fun v5 σ =>
 rBin PP .neq 9 v3 v5 fun v6 =>
 rIf v6 (K zF σ) (rBin PP .add 3 t5 (.int .i64 (.ofNat 1)) fun v7 =>
 l_ref24_Strings_rrlrd x m0 t0 t1 v7 σ K)) (K (.bool true) σ)
theorem l_ref24_Strings_rrlrdE (x : EV) (m0 : Nat) (t0 t1 t5 : Value) (σ : St) (K : VK) : l_ref24_Strings_rrlrd x (m0 + 1) t0 t1 t5 σ K = l_ref24_Strings_rrlrdB x m0 t0 t1 t5 σ K := by kernel_rfl

/-! consistory/consistoryref17.Same -/
noncomputable def l_ref17_Same_rrlrd (x : EV) (m : Nat) (t2 t3 t5 : Value) (σ : St) (K : VK) : Bool := jmpL PP tbS c_ref17_Same (x.E PP) [.r, .r, .l, .r, .d] m [] [t2, t3, t5] σ K
noncomputable def r_ref17_Same (x : EV) (a0 a1 : Value) (σ : St) (K : VK) : Bool :=
 boxK 45 a0 σ fun v0 σ =>
 boxK 45 a1 σ fun v1 σ =>
 rFld 0 v0 fun v2 =>
 rLd v2 σ fun v3 σ =>
 rFld 0 v1 fun v4 =>
 rLd v4 σ fun v5 σ =>
 rBin PP .neq 3 v3 v5 fun v6 =>
 shut x.most (rGuard false v6 (fun k => rFld 1 v0 fun v7 =>
 k v7 σ) σ fun v8 σ =>
 shut x.most (rGuard false v6 (fun k => rLd v8 σ fun v9 σ =>
 k v9 σ) σ fun v10 σ =>
 shut x.most (rGuard false v6 (fun k => rFld 1 v1 fun v11 =>
 k v11 σ) σ fun v12 σ =>
 shut x.most (rGuard false v6 (fun k => rLd v12 σ fun v13 σ =>
 k v13 σ) σ fun v14 σ =>
 shut x.most (rGuard false v6 (fun k => rBin PP .neq 9 v10 v14 fun v15 =>
 k v15 σ) σ fun v16 σ =>
 shut x.most (rPick v6 (.bool true) v16 fun v17 =>
 shut x.most (rGuard false v17 (fun k => rFld 2 v0 fun v18 =>
 k v18 σ) σ fun v19 σ =>
 shut x.most (rGuard false v17 (fun k => rLd v19 σ fun v20 σ =>
 k v20 σ) σ fun v21 σ =>
 shut x.most (rGuard false v17 (fun k => rFld 2 v1 fun v22 =>
 k v22 σ) σ fun v23 σ =>
 shut x.most (rGuard false v17 (fun k => rLd v23 σ fun v24 σ =>
 k v24 σ) σ fun v25 σ =>
 shut x.most (rGuard false v17 (fun k => rBin PP .neq 4 v21 v25 fun v26 =>
 k v26 σ) σ fun v27 σ =>
 shut x.most (rPick v17 (.bool true) v27 fun v28 =>
 shut x.most (rGuard false v28 (fun k => rFld 3 v0 fun v29 =>
 k v29 σ) σ fun v30 σ =>
 shut x.most (rGuard false v28 (fun k => rLdN 15 v30 σ fun v31 σ =>
 k v31 σ) σ fun v32 σ =>
 shut x.most (rGuard false v28 (fun k => rFld 3 v1 fun v33 =>
 k v33 σ) σ fun v34 σ =>
 shut x.most (rGuard false v28 (fun k => rLdN 15 v34 σ fun v35 σ =>
 k v35 σ) σ fun v36 σ =>
 shut x.most (rGuard false v28 (fun k => x.C c_ref16_Same [v32, v36] σ fun v37 σ =>
 k v37 σ) σ fun v38 σ =>
 shut x.most (rGuard false v28 (fun k => unK .not v38 fun v39 =>
 k v39 σ) σ fun v40 σ =>
 shut x.most (rPick v28 (.bool true) v40 fun v41 =>
 shut x.most (rGuard false v41 (fun k => rFld 18 v0 fun v42 =>
 k v42 σ) σ fun v43 σ =>
 shut x.most (rGuard false v41 (fun k => rLd v43 σ fun v44 σ =>
 k v44 σ) σ fun v45 σ =>
 shut x.most (rGuard false v41 (fun k => rLenS v45 fun v46 =>
 k v46 σ) σ fun v47 σ =>
 shut x.most (rGuard false v41 (fun k => rFld 18 v1 fun v48 =>
 k v48 σ) σ fun v49 σ =>
 shut x.most (rGuard false v41 (fun k => rLd v49 σ fun v50 σ =>
 k v50 σ) σ fun v51 σ =>
 shut x.most (rGuard false v41 (fun k => rLenS v51 fun v52 =>
 k v52 σ) σ fun v53 σ =>
 shut x.most (rGuard false v41 (fun k => rBin PP .neq 3 v47 v53 fun v54 =>
 k v54 σ) σ fun v55 σ =>
 shut x.most (rPick v41 (.bool true) v55 fun v56 =>
 shut x.most (rGuard false v56 (fun k => rFld 19 v0 fun v57 =>
 k v57 σ) σ fun v58 σ =>
 shut x.most (rGuard false v56 (fun k => rLd v58 σ fun v59 σ =>
 k v59 σ) σ fun v60 σ =>
 shut x.most (rGuard false v56 (fun k => rFld 19 v1 fun v61 =>
 k v61 σ) σ fun v62 σ =>
 shut x.most (rGuard false v56 (fun k => rLd v62 σ fun v63 σ =>
 k v63 σ) σ fun v64 σ =>
 shut x.most (rGuard false v56 (fun k => x.C c_ref14_Msgs [v60, v64] σ fun v65 σ =>
 k v65 σ) σ fun v66 σ =>
 shut x.most (rGuard false v56 (fun k => unK .not v66 fun v67 =>
 k v67 σ) σ fun v68 σ =>
 shut x.most (rPick v56 (.bool true) v68 fun v69 =>
 rIf v69 (K zF σ) (l_ref17_Same_rrlrd x x.most v0 v1 zI σ K)))))))))))))))))))))))))))))))))))
theorem f_ref17_Same (x : EV) (a0 a1 : Value) (σ : St) (K : VK) : fnX PP tbS c_ref17_Same (x.E PP) [a0, a1] σ K = r_ref17_Same x a0 a1 σ K := by kernel_rfl
noncomputable def l_ref17_Same_rrlrdB (x : EV) (m0 : Nat) (t2 t3 t5 : Value) (σ : St) (K : VK) : Bool :=
 rFld 18 t2 fun v0 =>
 rLd v0 σ fun v1 σ =>
 rLenS v1 fun v2 =>
 rBin PP .lss 3 t5 v2 fun v3 =>
 rIf v3 (rFld 18 t2 fun v4 =>
 rLd v4 σ fun v5 σ =>
 rIdx 2 v5 t5 fun v6 =>
 rLdN 2 v6 σ fun v7 σ =>
 rFld 18 t3 fun v8 =>
 rLd v8 σ fun v9 σ =>
 rIdx 2 v9 t5 fun v10 =>
 rLdN 2 v10 σ fun v11 σ =>
 rBin PP .neq 132 v7 v11 fun v12 =>
 rIf v12 (K zF σ) (rBin PP .add 3 t5 (.int .i64 (.ofNat 1)) fun v13 =>
 l_ref17_Same_rrlrd x m0 t2 t3 v13 σ K)) (K (.bool true) σ)
theorem l_ref17_Same_rrlrdE (x : EV) (m0 : Nat) (t2 t3 t5 : Value) (σ : St) (K : VK) : l_ref17_Same_rrlrd x (m0 + 1) t2 t3 t5 σ K = l_ref17_Same_rrlrdB x m0 t2 t3 t5 σ K := by kernel_rfl

/-! consistory/consistoryref18.Same -/
noncomputable def l_ref18_Same_rrlrd (x : EV) (m : Nat) (t0 t1 t5 : Value) (σ : St) (K : VK) : Bool := jmpL PP tbS c_ref18_Same (x.E PP) [.r, .r, .l, .r, .d] m [] [t0, t1, t5] σ K
noncomputable def r_ref18_Same (x : EV) (a0 a1 : Value) (σ : St) (K : VK) : Bool :=
 rLenS a0 fun v0 =>
 rLenS a1 fun v1 =>
 rBin PP .neq 3 v0 v1 fun v2 =>
 rIf v2 (K zF σ) (l_ref18_Same_rrlrd x x.most a0 a1 zI σ K)
theorem f_ref18_Same (x : EV) (a0 a1 : Value) (σ : St) (K : VK) : fnX PP tbS c_ref18_Same (x.E PP) [a0, a1] σ K = r_ref18_Same x a0 a1 σ K := by kernel_rfl
noncomputable def l_ref18_Same_rrlrdB (x : EV) (m0 : Nat) (t0 t1 t5 : Value) (σ : St) (K : VK) : Bool :=
 rLenS t0 fun v0 =>
 rBin PP .lss 3 t5 v0 fun v1 =>
 rIf v1 (rIdx 2 t0 t5 fun v2 =>
 rLdN 2 v2 σ fun v3 σ =>
 rIdx 2 t1 t5 fun v4 =>
 rLdN 2 v4 σ fun v5 σ =>
 rBin PP .neq 59 v3 v5 fun v6 =>
 rIf v6 (K zF σ) (rBin PP .add 3 t5 (.int .i64 (.ofNat 1)) fun v7 =>
 l_ref18_Same_rrlrd x m0 t0 t1 v7 σ K)) (K (.bool true) σ)
theorem l_ref18_Same_rrlrdE (x : EV) (m0 : Nat) (t0 t1 t5 : Value) (σ : St) (K : VK) : l_ref18_Same_rrlrd x (m0 + 1) t0 t1 t5 σ K = l_ref18_Same_rrlrdB x m0 t0 t1 t5 σ K := by kernel_rfl

/-! consistory/consistoryref24.dealings -/
noncomputable def l_ref24_dealings_rrlrd (x : EV) (m : Nat) (t0 t1 t5 : Value) (σ : St) (K : VK) : Bool := jmpL PP tbS c_ref24_dealings (x.E PP) [.r, .r, .l, .r, .d] m [] [t0, t1, t5] σ K
noncomputable def r_ref24_dealings (x : EV) (a0 a1 : Value) (σ : St) (K : VK) : Bool :=
 rLenS a0 fun v0 =>
 rLenS a1 fun v1 =>
 rBin PP .neq 3 v0 v1 fun v2 =>
 rIf v2 (K zF σ) (l_ref24_dealings_rrlrd x x.most a0 a1 zI σ K)
theorem f_ref24_dealings (x : EV) (a0 a1 : Value) (σ : St) (K : VK) : fnX PP tbS c_ref24_dealings (x.E PP) [a0, a1] σ K = r_ref24_dealings x a0 a1 σ K := by kernel_rfl
noncomputable def l_ref24_dealings_rrlrdB (x : EV) (m0 : Nat) (t0 t1 t5 : Value) (σ : St) (K : VK) : Bool :=
 rLenS t0 fun v0 =>
 rBin PP .lss 3 t5 v0 fun v1 =>
 rIf v1 (rIdx 8 t0 t5 fun v2 =>
 rLdN 8 v2 σ fun v3 σ =>
 rIdx 8 t1 t5 fun v4 =>
 rLdN 8 v4 σ fun v5 σ =>
 x.C c_ref19_Same [v3, v5] σ fun v6 σ =>
 unK .not v6 fun v7 =>
 rIf v7 (K zF σ) (rBin PP .add 3 t5 (.int .i64 (.ofNat 1)) fun v8 =>
 l_ref24_dealings_rrlrd x m0 t0 t1 v8 σ K)) (K (.bool true) σ)
theorem l_ref24_dealings_rrlrdE (x : EV) (m0 : Nat) (t0 t1 t5 : Value) (σ : St) (K : VK) : l_ref24_dealings_rrlrd x (m0 + 1) t0 t1 t5 σ K = l_ref24_dealings_rrlrdB x m0 t0 t1 t5 σ K := by kernel_rfl

/-! consistory/consistoryref14.Msgs -/
noncomputable def l_ref14_Msgs_rrlrd (x : EV) (m : Nat) (t0 t1 t5 : Value) (σ : St) (K : VK) : Bool := jmpL PP tbS c_ref14_Msgs (x.E PP) [.r, .r, .l, .r, .d] m [] [t0, t1, t5] σ K
noncomputable def r_ref14_Msgs (x : EV) (a0 a1 : Value) (σ : St) (K : VK) : Bool :=
 rLenS a0 fun v0 =>
 rLenS a1 fun v1 =>
 rBin PP .neq 3 v0 v1 fun v2 =>
 rIf v2 (K zF σ) (l_ref14_Msgs_rrlrd x x.most a0 a1 zI σ K)
theorem f_ref14_Msgs (x : EV) (a0 a1 : Value) (σ : St) (K : VK) : fnX PP tbS c_ref14_Msgs (x.E PP) [a0, a1] σ K = r_ref14_Msgs x a0 a1 σ K := by kernel_rfl
noncomputable def l_ref14_Msgs_rrlrdB (x : EV) (m0 : Nat) (t0 t1 t5 : Value) (σ : St) (K : VK) : Bool :=
 rLenS t0 fun v0 =>
 rBin PP .lss 3 t5 v0 fun v1 =>
 rIf v1 (rIdx 11 t0 t5 fun v2 =>
 rLdN 11 v2 σ fun v3 σ =>
 rIdx 11 t1 t5 fun v4 =>
 rLdN 11 v4 σ fun v5 σ =>
 x.C c_ref14_Same [v3, v5] σ fun v6 σ =>
 unK .not v6 fun v7 =>
 rIf v7 (K zF σ) (rBin PP .add 3 t5 (.int .i64 (.ofNat 1)) fun v8 =>
 l_ref14_Msgs_rrlrd x m0 t0 t1 v8 σ K)) (K (.bool true) σ)
theorem l_ref14_Msgs_rrlrdE (x : EV) (m0 : Nat) (t0 t1 t5 : Value) (σ : St) (K : VK) : l_ref14_Msgs_rrlrd x (m0 + 1) t0 t1 t5 σ K = l_ref14_Msgs_rrlrdB x m0 t0 t1 t5 σ K := by kernel_rfl

end Go.Am

set_option linter.unusedVariables false
set_option maxRecDepth 100000
namespace Go.Am

/-! consistory/consistoryref08.Nums -/
noncomputable def l_ref08_Nums_rrlrd (x : EV) (m : Nat) (t0 t1 t5 : Value) (σ : St) (K : VK) : Bool := jmpL PP tbS c_ref08_Nums (x.E PP) [.r, .r, .l, .r, .d] m [] [t0, t1, t5] σ K
noncomputable def r_ref08_Nums (x : EV) (a0 a1 : Value) (σ : St) (K : VK) : Bool :=
 rLenS a0 fun v0 =>
 rLenS a1 fun v1 =>
 rBin PP .neq 3 v0 v1 fun v2 =>
 rIf v2 (K zF σ) (l_ref08_Nums_rrlrd x x.most a0 a1 zI σ K)
theorem f_ref08_Nums (x : EV) (a0 a1 : Value) (σ : St) (K : VK) : fnX PP tbS c_ref08_Nums (x.E PP) [a0, a1] σ K = r_ref08_Nums x a0 a1 σ K := by kernel_rfl
noncomputable def l_ref08_Nums_rrlrdB (x : EV) (m0 : Nat) (t0 t1 t5 : Value) (σ : St) (K : VK) : Bool :=
 rLenS t0 fun v0 =>
 rBin PP .lss 3 t5 v0 fun v1 =>
 rIf v1 (rIdx 1 t0 t5 fun v2 =>
 rLd v2 σ fun v3 σ =>
 rIdx 1 t1 t5 fun v4 =>
 rLd v4 σ fun v5 σ =>
 rBin PP .neq 57 v3 v5 fun v6 =>
 rIf v6 (K zF σ) (rBin PP .add 3 t5 (.int .i64 (.ofNat 1)) fun v7 =>
 l_ref08_Nums_rrlrd x m0 t0 t1 v7 σ K)) (K (.bool true) σ)
theorem l_ref08_Nums_rrlrdE (x : EV) (m0 : Nat) (t0 t1 t5 : Value) (σ : St) (K : VK) : l_ref08_Nums_rrlrd x (m0 + 1) t0 t1 t5 σ K = l_ref08_Nums_rrlrdB x m0 t0 t1 t5 σ K := by kernel_rfl

/-! consistory/consistoryref15.Same -/
noncomputable def l_ref15_Same_rrlrd (x : EV) (m : Nat) (t0 t1 t5 : Value) (σ : St) (K : VK) : Bool := jmpL PP tbS c_ref15_Same (x.E PP) [.r, .r, .l, .r, .d] m [] [t0, t1, t5] σ K
noncomputable def r_ref15_Same (x : EV) (a0 a1 : Value) (σ : St) (K : VK) : Bool :=
 rLenS a0 fun v0 =>
 rLenS a1 fun v1 =>
 rBin PP .neq 3 v0 v1 fun v2 =>
 rIf v2 (K zF σ) (l_ref15_Same_rrlrd x x.most a0 a1 zI σ K)
theorem f_ref15_Same (x : EV) (a0 a1 : Value) (σ : St) (K : VK) : fnX PP tbS c_ref15_Same (x.E PP) [a0, a1] σ K = r_ref15_Same x a0 a1 σ K := by kernel_rfl
noncomputable def l_ref15_Same_rrlrdB (x : EV) (m0 : Nat) (t0 t1 t5 : Value) (σ : St) (K : VK) : Bool :=
 rLenS t0 fun v0 =>
 rBin PP .lss 3 t5 v0 fun v1 =>
 rIf v1 (rIdx 5 t0 t5 fun v2 =>
 rLdN 5 v2 σ fun v3 σ =>
 rIdx 5 t1 t5 fun v4 =>
 rLdN 5 v4 σ fun v5 σ =>
 rBin PP .neq 130 v3 v5 fun v6 =>
 rIf v6 (K zF σ) (rBin PP .add 3 t5 (.int .i64 (.ofNat 1)) fun v7 =>
 l_ref15_Same_rrlrd x m0 t0 t1 v7 σ K)) (K (.bool true) σ)
theorem l_ref15_Same_rrlrdE (x : EV) (m0 : Nat) (t0 t1 t5 : Value) (σ : St) (K : VK) : l_ref15_Same_rrlrd x (m0 + 1) t0 t1 t5 σ K = l_ref15_Same_rrlrdB x m0 t0 t1 t5 σ K := by kernel_rfl

/-! consistory/consistoryref08.Lists -/
noncomputable def l_ref08_Lists_rrlrd (x : EV) (m : Nat) (t0 t1 t5 : Value) (σ : St) (K : VK) : Bool := jmpL PP tbS c_ref08_Lists (x.E PP) [.r, .r, .l, .r, .d] m [] [t0, t1, t5] σ K
noncomputable def r_ref08_Lists (x : EV) (a0 a1 : Value) (σ : St) (K : VK) : Bool :=
 rLenS a0 fun v0 =>
 rLenS a1 fun v1 =>
 rBin PP .neq 3 v0 v1 fun v2 =>
 rIf v2 (K zF σ) (l_ref08_Lists_rrlrd x x.most a0 a1 zI σ K)
theorem f_ref08_Lists (x : EV) (a0 a1 : Value) (σ : St) (K : VK) : fnX PP tbS c_ref08_Lists (x.E PP) [a0, a1] σ K = r_ref08_Lists x a0 a1 σ K := by kernel_rfl
noncomputable def l_ref08_Lists_rrlrdB (x : EV) (m0 : Nat) (t0 t1 t5 : Value) (σ : St) (K : VK) : Bool :=
 rLenS t0 fun v0 =>
 rBin PP .lss 3 t5 v0 fun v1 =>
 rIf v1 (rIdx 1 t0 t5 fun v2 =>
 rLd v2 σ fun v3 σ =>
 rIdx 1 t1 t5 fun v4 =>
 rLd v4 σ fun v5 σ =>
 x.C c_ref08_Nums [v3, v5] σ fun v6 σ =>
 unK .not v6 fun v7 =>
 rIf v7 (K zF σ) (rBin PP .add 3 t5 (.int .i64 (.ofNat 1)) fun v8 =>
 l_ref08_Lists_rrlrd x m0 t0 t1 v8 σ K)) (K (.bool true) σ)
theorem l_ref08_Lists_rrlrdE (x : EV) (m0 : Nat) (t0 t1 t5 : Value) (σ : St) (K : VK) : l_ref08_Lists_rrlrd x (m0 + 1) t0 t1 t5 σ K = l_ref08_Lists_rrlrdB x m0 t0 t1 t5 σ K := by kernel_rfl

/-! consistory/consistoryref03.Numbers -/
noncomputable def l_ref03_Numbers_rrlrd (x : EV) (m : Nat) (t0 t1 t5 : Value) (σ : St) (K : VK) : Bool := jmpL PP tbS c_ref03_Numbers (x.E PP) [.r, .r, .l, .r, .d] m [] [t0, t1, t5] σ K
noncomputable def r_ref03_Numbers (x : EV) (a0 a1 : Value) (σ : St) (K : VK) : Bool :=
 rLenS a0 fun v0 =>
 rLenS a1 fun v1 =>
 rBin PP .neq 3 v0 v1 fun v2 =>
 rIf v2 (K zF σ) (l_ref03_Numbers_rrlrd x x.most a0 a1 zI σ K)
theorem f_ref03_Numbers (x : EV) (a0 a1 : Value) (σ : St) (K : VK) : fnX PP tbS c_ref03_Numbers (x.E PP) [a0, a1] σ K = r_ref03_Numbers x a0 a1 σ K := by kernel_rfl
noncomputable def l_ref03_Numbers_rrlrdB (x : EV) (m0 : Nat) (t0 t1 t5 : Value) (σ : St) (K : VK) : Bool :=
 rLenS t0 fun v0 =>
 rBin PP .lss 3 t5 v0 fun v1 =>
 rIf v1 (rIdx 1 t0 t5 fun v2 =>
 rLd v2 σ fun v3 σ =>
 rIdx 1 t1 t5 fun v4 =>
 rLd v4 σ fun v5 σ =>
 rBin PP .neq 57 v3 v5 fun v6 =>
 rIf v6 (K zF σ) (rBin PP .add 3 t5 (.int .i64 (.ofNat 1)) fun v7 =>
 l_ref03_Numbers_rrlrd x m0 t0 t1 v7 σ K)) (K (.bool true) σ)
theorem l_ref03_Numbers_rrlrdE (x : EV) (m0 : Nat) (t0 t1 t5 : Value) (σ : St) (K : VK) : l_ref03_Numbers_rrlrd x (m0 + 1) t0 t1 t5 σ K = l_ref03_Numbers_rrlrdB x m0 t0 t1 t5 σ K := by kernel_rfl

/-! consistory/consistoryref19.tolds -/
noncomputable def l_ref19_tolds_rrlrd (x : EV) (m : Nat) (t0 t1 t5 : Value) (σ : St) (K : VK) : Bool := jmpL PP tbS c_ref19_tolds (x.E PP) [.r, .r, .l, .r, .d] m [] [t0, t1, t5] σ K
noncomputable def r_ref19_tolds (x : EV) (a0 a1 : Value) (σ : St) (K : VK) : Bool :=
 rLenS a0 fun v0 =>
 rLenS a1 fun v1 =>
 rBin PP .neq 3 v0 v1 fun v2 =>
 rIf v2 (K zF σ) (l_ref19_tolds_rrlrd x x.most a0 a1 zI σ K)
theorem f_ref19_tolds (x : EV) (a0 a1 : Value) (σ : St) (K : VK) : fnX PP tbS c_ref19_tolds (x.E PP) [a0, a1] σ K = r_ref19_tolds x a0 a1 σ K := by kernel_rfl
noncomputable def l_ref19_tolds_rrlrdB (x : EV) (m0 : Nat) (t0 t1 t5 : Value) (σ : St) (K : VK) : Bool :=
 rLenS t0 fun v0 =>
 rBin PP .lss 3 t5 v0 fun v1 =>
 rIf v1 (rIdx 2 t0 t5 fun v2 =>
 rFld 0 v2 fun v3 =>
 rLd v3 σ fun v4 σ =>
 rIdx 2 t1 t5 fun v5 =>
 rFld 0 v5 fun v6 =>
 rLd v6 σ fun v7 σ =>
 rBin PP .neq 3 v4 v7 fun v8 =>
 shut x.most (rGuard false v8 (fun k => k t0 σ) σ fun v9 σ =>
 shut x.most (rGuard false v8 (fun k => k t5 σ) σ fun v10 σ =>
 shut x.most (rGuard false v8 (fun k => rIdx 2 v9 v10 fun v11 =>
 k v11 σ) σ fun v12 σ =>
 shut x.most (rGuard false v8 (fun k => rFld 1 v12 fun v13 =>
 k v13 σ) σ fun v14 σ =>
 shut x.most (rGuard false v8 (fun k => rLd v14 σ fun v15 σ =>
 k v15 σ) σ fun v16 σ =>
 shut x.most (rGuard false v8 (fun k => k t1 σ) σ fun v17 σ =>
 shut x.most (rGuard false v8 (fun k => k t5 σ) σ fun v18 σ =>
 shut x.most (rGuard false v8 (fun k => rIdx 2 v17 v18 fun v19 =>
 k v19 σ) σ fun v20 σ =>
 shut x.most (rGuard false v8 (fun k => rFld 1 v20 fun v21 =>
 k v21 σ) σ fun v22 σ =>
 shut x.most (rGuard false v8 (fun k => rLd v22 σ fun v23 σ =>
 k v23 σ) σ fun v24 σ =>
 shut x.most (rGuard false v8 (fun k => x.C c_ref03_Numbers [v16, v24] σ fun v25 σ =>
 k v25 σ) σ fun v26 σ =>
 rLd v6 σ fun v27 σ =>
 rSame v27 v7 (rLd v3 σ fun v28 σ =>
 rSame v28 v4 (shut x.most (rGuard false v8 (fun k => unK .not v26 fun v29 =>
 k v29 σ) σ fun v30 σ =>
 shut x.most (rPick v8 (.bool true) v30 fun v31 =>
 rIf v31 (K zF σ) (rBin PP .add 3 t5 (.int .i64 (.ofNat 1)) fun v32 =>
 l_ref19_tolds_rrlrd x m0 t0 t1 v32 σ K))))))))))))))))) (K (.bool true) σ)
theorem l_ref19_tolds_rrlrdE (x : EV) (m0 : Nat) (t0 t1 t5 : Value) (σ : St) (K : VK) : l_ref19_tolds_rrlrd x (m0 + 1) t0 t1 t5 σ K = l_ref19_tolds_rrlrdB x m0 t0 t1 t5 σ K := by kernel_rfl

end Go.Am

set_option linter.unusedVariables false
set_option maxRecDepth 100000
namespace Go.Am

/-! consistory/consistoryref16.Same -/
noncomputable def r_ref16_Same (x : EV) (a0 a1 : Value) (σ : St) (K : VK) : Bool :=
 boxK 42 a0 σ fun v0 σ =>
 boxK 42 a1 σ fun v1 σ =>
 rFld 0 v0 fun v2 =>
 rLd v2 σ fun v3 σ =>
 rFld 0 v1 fun v4 =>
 rLd v4 σ fun v5 σ =>
 rBin PP .eql 3 v3 v5 fun v6 =>
 shut x.most (rGuard true v6 (fun k => rFld 1 v0 fun v7 =>
 k v7 σ) σ fun v8 σ =>
 shut x.most (rGuard true v6 (fun k => rLd v8 σ fun v9 σ =>
 k v9 σ) σ fun v10 σ =>
 shut x.most (rGuard true v6 (fun k => rFld 1 v1 fun v11 =>
 k v11 σ) σ fun v12 σ =>
 shut x.most (rGuard true v6 (fun k => rLd v12 σ fun v13 σ =>
 k v13 σ) σ fun v14 σ =>
 shut x.most (rGuard true v6 (fun k => rBin PP .eql 3 v10 v14 fun v15 =>
 k v15 σ) σ fun v16 σ =>
 shut x.most (rPick v6 v16 zF fun v17 =>
 shut x.most (rGuard true v17 (fun k => rFld 2 v0 fun v18 =>
 k v18 σ) σ fun v19 σ =>
 shut x.most (rGuard true v17 (fun k => rLd v19 σ fun v20 σ =>
 k v20 σ) σ fun v21 σ =>
 shut x.most (rGuard true v17 (fun k => rFld 2 v1 fun v22 =>
 k v22 σ) σ fun v23 σ =>
 shut x.most (rGuard true v17 (fun k => rLd v23 σ fun v24 σ =>
 k v24 σ) σ fun v25 σ =>
 shut x.most (rGuard true v17 (fun k => rBin PP .eql 3 v21 v25 fun v26 =>
 k v26 σ) σ fun v27 σ =>
 shut x.most (rPick v17 v27 zF fun v28 =>
 shut x.most (rGuard true v28 (fun k => rFld 3 v0 fun v29 =>
 k v29 σ) σ fun v30 σ =>
 shut x.most (rGuard true v28 (fun k => rLd v30 σ fun v31 σ =>
 k v31 σ) σ fun v32 σ =>
 shut x.most (rGuard true v28 (fun k => rFld 3 v1 fun v33 =>
 k v33 σ) σ fun v34 σ =>
 shut x.most (rGuard true v28 (fun k => rLd v34 σ fun v35 σ =>
 k v35 σ) σ fun v36 σ =>
 shut x.most (rGuard true v28 (fun k => rBin PP .eql 3 v32 v36 fun v37 =>
 k v37 σ) σ fun v38 σ =>
 shut x.most (rPick v28 v38 zF fun v39 =>
 shut x.most (rGuard true v39 (fun k => rFld 4 v0 fun v40 =>
 k v40 σ) σ fun v41 σ =>
 shut x.most (rGuard true v39 (fun k => rLd v41 σ fun v42 σ =>
 k v42 σ) σ fun v43 σ =>
 shut x.most (rGuard true v39 (fun k => rFld 4 v1 fun v44 =>
 k v44 σ) σ fun v45 σ =>
 shut x.most (rGuard true v39 (fun k => rLd v45 σ fun v46 σ =>
 k v46 σ) σ fun v47 σ =>
 shut x.most (rGuard true v39 (fun k => rBin PP .eql 3 v43 v47 fun v48 =>
 k v48 σ) σ fun v49 σ =>
 shut x.most (rPick v39 v49 zF fun v50 =>
 shut x.most (rGuard true v50 (fun k => rFld 5 v0 fun v51 =>
 k v51 σ) σ fun v52 σ =>
 shut x.most (rGuard true v50 (fun k => rLd v52 σ fun v53 σ =>
 k v53 σ) σ fun v54 σ =>
 shut x.most (rGuard true v50 (fun k => rFld 5 v1 fun v55 =>
 k v55 σ) σ fun v56 σ =>
 shut x.most (rGuard true v50 (fun k => rLd v56 σ fun v57 σ =>
 k v57 σ) σ fun v58 σ =>
 shut x.most (rGuard true v50 (fun k => rBin PP .eql 3 v54 v58 fun v59 =>
 k v59 σ) σ fun v60 σ =>
 shut x.most (rPick v50 v60 zF fun v61 =>
 shut x.most (rGuard true v61 (fun k => rFld 6 v0 fun v62 =>
 k v62 σ) σ fun v63 σ =>
 shut x.most (rGuard true v61 (fun k => rLd v63 σ fun v64 σ =>
 k v64 σ) σ fun v65 σ =>
 shut x.most (rGuard true v61 (fun k => rFld 6 v1 fun v66 =>
 k v66 σ) σ fun v67 σ =>
 shut x.most (rGuard true v61 (fun k => rLd v67 σ fun v68 σ =>
 k v68 σ) σ fun v69 σ =>
 shut x.most (rGuard true v61 (fun k => rBin PP .eql 3 v65 v69 fun v70 =>
 k v70 σ) σ fun v71 σ =>
 shut x.most (rPick v61 v71 zF fun v72 =>
 shut x.most (rGuard true v72 (fun k => rFld 7 v0 fun v73 =>
 k v73 σ) σ fun v74 σ =>
 shut x.most (rGuard true v72 (fun k => rLd v74 σ fun v75 σ =>
 k v75 σ) σ fun v76 σ =>
 shut x.most (rGuard true v72 (fun k => rFld 7 v1 fun v77 =>
 k v77 σ) σ fun v78 σ =>
 shut x.most (rGuard true v72 (fun k => rLd v78 σ fun v79 σ =>
 k v79 σ) σ fun v80 σ =>
 shut x.most (rGuard true v72 (fun k => rBin PP .eql 9 v76 v80 fun v81 =>
 k v81 σ) σ fun v82 σ =>
 shut x.most (rPick v72 v82 zF fun v83 =>
 shut x.most (rGuard true v83 (fun k => rFld 8 v0 fun v84 =>
 k v84 σ) σ fun v85 σ =>
 shut x.most (rGuard true v83 (fun k => rLd v85 σ fun v86 σ =>
 k v86 σ) σ fun v87 σ =>
 shut x.most (rGuard true v83 (fun k => rFld 8 v1 fun v88 =>
 k v88 σ) σ fun v89 σ =>
 shut x.most (rGuard true v83 (fun k => rLd v89 σ fun v90 σ =>
 k v90 σ) σ fun v91 σ =>
 shut x.most (rGuard true v83 (fun k => rBin PP .eql 9 v87 v91 fun v92 =>
 k v92 σ) σ fun v93 σ =>
 shut x.most (rPick v83 v93 zF fun v94 =>
 shut x.most (rGuard true v94 (fun k => rFld 9 v0 fun v95 =>
 k v95 σ) σ fun v96 σ =>
 shut x.most (rGuard true v94 (fun k => rLd v96 σ fun v97 σ =>
 k v97 σ) σ fun v98 σ =>
 shut x.most (rGuard true v94 (fun k => rFld 9 v1 fun v99 =>
 k v99 σ) σ fun v100 σ =>
 shut x.most (rGuard true v94 (fun k => rLd v100 σ fun v101 σ =>
 k v101 σ) σ fun v102 σ =>
 shut x.most (rGuard true v94 (fun k => rBin PP .eql 3 v98 v102 fun v103 =>
 k v103 σ) σ fun v104 σ =>
 shut x.most (rPick v94 v104 zF fun v105 =>
 shut x.most (rGuard true v105 (fun k => rFld 10 v0 fun v106 =>
 k v106 σ) σ fun v107 σ =>
 shut x.most (rGuard true v105 (fun k => rLd v107 σ fun v108 σ =>
 k v108 σ) σ fun v109 σ =>
 shut x.most (rGuard true v105 (fun k => rFld 10 v1 fun v110 =>
 k v110 σ) σ fun v111 σ =>
 shut x.most (rGuard true v105 (fun k => rLd v111 σ fun v112 σ =>
 k v112 σ) σ fun v113 σ =>
 shut x.most (rGuard true v105 (fun k => rBin PP .eql 3 v109 v113 fun v114 =>
 k v114 σ) σ fun v115 σ =>
 shut x.most (rPick v105 v115 zF fun v116 =>
 shut x.most (rGuard true v116 (fun k => rFld 11 v0 fun v117 =>
 k v117 σ) σ fun v118 σ =>
 shut x.most (rGuard true v116 (fun k => rLd v118 σ fun v119 σ =>
 k v119 σ) σ fun v120 σ =>
 shut x.most (rGuard true v116 (fun k => rFld 11 v1 fun v121 =>
 k v121 σ) σ fun v122 σ =>
 shut x.most (rGuard true v116 (fun k => rLd v122 σ fun v123 σ =>
 k v123 σ) σ fun v124 σ =>
 shut x.most (rGuard true v116 (fun k => rBin PP .eql 4 v120 v124 fun v125 =>
 k v125 σ) σ fun v126 σ =>
 shut x.most (rPick v116 v126 zF fun v127 =>
 shut x.most (rGuard true v127 (fun k => rFld 12 v0 fun v128 =>
 k v128 σ) σ fun v129 σ =>
 shut x.most (rGuard true v127 (fun k => rLd v129 σ fun v130 σ =>
 k v130 σ) σ fun v131 σ =>
 shut x.most (rGuard true v127 (fun k => rFld 12 v1 fun v132 =>
 k v132 σ) σ fun v133 σ =>
 shut x.most (rGuard true v127 (fun k => rLd v133 σ fun v134 σ =>
 k v134 σ) σ fun v135 σ =>
 shut x.most (rGuard true v127 (fun k => rBin PP .eql 4 v131 v135 fun v136 =>
 k v136 σ) σ fun v137 σ =>
 shut x.most (rPick v127 v137 zF fun v138 =>
 shut x.most (rGuard true v138 (fun k => rFld 13 v0 fun v139 =>
 k v139 σ) σ fun v140 σ =>
 shut x.most (rGuard true v138 (fun k => rLd v140 σ fun v141 σ =>
 k v141 σ) σ fun v142 σ =>
 shut x.most (rGuard true v138 (fun k => rFld 13 v1 fun v143 =>
 k v143 σ) σ fun v144 σ =>
 shut x.most (rGuard true v138 (fun k => rLd v144 σ fun v145 σ =>
 k v145 σ) σ fun v146 σ =>
 shut x.most (rGuard true v138 (fun k => rBin PP .eql 9 v142 v146 fun v147 =>
 k v147 σ) σ fun v148 σ =>
 shut x.most (rPick v138 v148 zF fun v149 =>
 shut x.most (rGuard true v149 (fun k => rFld 14 v0 fun v150 =>
 k v150 σ) σ fun v151 σ =>
 shut x.most (rGuard true v149 (fun k => rLd v151 σ fun v152 σ =>
 k v152 σ) σ fun v153 σ =>
 shut x.most (rGuard true v149 (fun k => rFld 14 v1 fun v154 =>
 k v154 σ) σ fun v155 σ =>
 shut x.most (rGuard true v149 (fun k => rLd v155 σ fun v156 σ =>
 k v156 σ) σ fun v157 σ =>
 shut x.most (rGuard true v149 (fun k => x.C c_ref15_Same [v153, v157] σ fun v158 σ =>
 k v158 σ) σ fun v159 σ =>
 shut x.most (rPick v149 v159 zF fun v160 =>
 K v160 σ))))))))))))))))))))))))))))))))))))))))))))))))))))))))))))))))))))))))))))))))))))
theorem f_ref16_Same (x : EV) (a0 a1 : Value) (σ : St) (K : VK) : fnX PP tbS c_ref16_Same (x.E PP) [a0, a1] σ K = r_ref16_Same x a0 a1 σ K := by kernel_rfl

end Go.Am

set_option linter.unusedVariables false
set_option maxRecDepth 100000
namespace Go.Am

/-! consistory/consistoryref19.Same -/
noncomputable def r_ref19_Same (x : EV) (a0 a1 : Value) (σ : St) (K : VK) : Bool :=
 boxK 137 a0 σ fun v0 σ =>
 boxK 137 a1 σ fun v1 σ =>
 rFld 0 v0 fun v2 =>
 rLd v2 σ fun v3 σ =>
 rFld 0 v1 fun v4 =>
 rLd v4 σ fun v5 σ =>
 rBin PP .eql 3 v3 v5 fun v6 =>
 shut x.most (rGuard true v6 (fun k => rFld 1 v0 fun v7 =>
 k v7 σ) σ fun v8 σ =>
 shut x.most (rGuard true v6 (fun k => rLd v8 σ fun v9 σ =>
 k v9 σ) σ fun v10 σ =>
 shut x.most (rGuard true v6 (fun k => rFld 1 v1 fun v11 =>
 k v11 σ) σ fun v12 σ =>
 shut x.most (rGuard true v6 (fun k => rLd v12 σ fun v13 σ =>
 k v13 σ) σ fun v14 σ =>
 shut x.most (rGuard true v6 (fun k => rBin PP .eql 3 v10 v14 fun v15 =>
 k v15 σ) σ fun v16 σ =>
 shut x.most (rPick v6 v16 zF fun v17 =>
 shut x.most (rGuard true v17 (fun k => rFld 2 v0 fun v18 =>
 k v18 σ) σ fun v19 σ =>
 shut x.most (rGuard true v17 (fun k => rLd v19 σ fun v20 σ =>
 k v20 σ) σ fun v21 σ =>
 shut x.most (rGuard true v17 (fun k => rFld 2 v1 fun v22 =>
 k v22 σ) σ fun v23 σ =>
 shut x.most (rGuard true v17 (fun k => rLd v23 σ fun v24 σ =>
 k v24 σ) σ fun v25 σ =>
 shut x.most (rGuard true v17 (fun k => x.C c_ref08_Lists [v21, v25] σ fun v26 σ =>
 k v26 σ) σ fun v27 σ =>
 shut x.most (rPick v17 v27 zF fun v28 =>
 shut x.most (rGuard true v28 (fun k => rFld 3 v0 fun v29 =>
 k v29 σ) σ fun v30 σ =>
 shut x.most (rGuard true v28 (fun k => rLd v30 σ fun v31 σ =>
 k v31 σ) σ fun v32 σ =>
 shut x.most (rGuard true v28 (fun k => rFld 3 v1 fun v33 =>
 k v33 σ) σ fun v34 σ =>
 shut x.most (rGuard true v28 (fun k => rLd v34 σ fun v35 σ =>
 k v35 σ) σ fun v36 σ =>
 shut x.most (rGuard true v28 (fun k => x.C c_ref03_Numbers [v32, v36] σ fun v37 σ =>
 k v37 σ) σ fun v38 σ =>
 shut x.most (rPick v28 v38 zF fun v39 =>
 shut x.most (rGuard true v39 (fun k => rFld 4 v0 fun v40 =>
 k v40 σ) σ fun v41 σ =>
 shut x.most (rGuard true v39 (fun k => rLd v41 σ fun v42 σ =>
 k v42 σ) σ fun v43 σ =>
 shut x.most (rGuard true v39 (fun k => rFld 4 v1 fun v44 =>
 k v44 σ) σ fun v45 σ =>
 shut x.most (rGuard true v39 (fun k => rLd v45 σ fun v46 σ =>
 k v46 σ) σ fun v47 σ =>
 shut x.most (rGuard true v39 (fun k => x.C c_ref19_tolds [v43, v47] σ fun v48 σ =>
 k v48 σ) σ fun v49 σ =>
 shut x.most (rPick v39 v49 zF fun v50 =>
 shut x.most (rGuard true v50 (fun k => rFld 5 v0 fun v51 =>
 k v51 σ) σ fun v52 σ =>
 shut x.most (rGuard true v50 (fun k => rLd v52 σ fun v53 σ =>
 k v53 σ) σ fun v54 σ =>
 shut x.most (rGuard true v50 (fun k => rFld 5 v1 fun v55 =>
 k v55 σ) σ fun v56 σ =>
 shut x.most (rGuard true v50 (fun k => rLd v56 σ fun v57 σ =>
 k v57 σ) σ fun v58 σ =>
 shut x.most (rGuard true v50 (fun k => x.C c_ref19_tolds [v54, v58] σ fun v59 σ =>
 k v59 σ) σ fun v60 σ =>
 shut x.most (rPick v50 v60 zF fun v61 =>
 shut x.most (rGuard true v61 (fun k => rFld 6 v0 fun v62 =>
 k v62 σ) σ fun v63 σ =>
 shut x.most (rGuard true v61 (fun k => rLd v63 σ fun v64 σ =>
 k v64 σ) σ fun v65 σ =>
 shut x.most (rGuard true v61 (fun k => rFld 6 v1 fun v66 =>
 k v66 σ) σ fun v67 σ =>
 shut x.most (rGuard true v61 (fun k => rLd v67 σ fun v68 σ =>
 k v68 σ) σ fun v69 σ =>
 shut x.most (rGuard true v61 (fun k => x.C c_ref03_Numbers [v65, v69] σ fun v70 σ =>
 k v70 σ) σ fun v71 σ =>
 shut x.most (rPick v61 v71 zF fun v72 =>
 shut x.most (rGuard true v72 (fun k => rFld 7 v0 fun v73 =>
 k v73 σ) σ fun v74 σ =>
 shut x.most (rGuard true v72 (fun k => rLd v74 σ fun v75 σ =>
 k v75 σ) σ fun v76 σ =>
 shut x.most (rGuard true v72 (fun k => rFld 7 v1 fun v77 =>
 k v77 σ) σ fun v78 σ =>
 shut x.most (rGuard true v72 (fun k => rLd v78 σ fun v79 σ =>
 k v79 σ) σ fun v80 σ =>
 shut x.most (rGuard true v72 (fun k => rBin PP .eql 4 v76 v80 fun v81 =>
 k v81 σ) σ fun v82 σ =>
 shut x.most (rPick v72 v82 zF fun v83 =>
 K v83 σ))))))))))))))))))))))))))))))))))))))))))
theorem f_ref19_Same (x : EV) (a0 a1 : Value) (σ : St) (K : VK) : fnX PP tbS c_ref19_Same (x.E PP) [a0, a1] σ K = r_ref19_Same x a0 a1 σ K := by kernel_rfl

end Go.Am

set_option linter.unusedVariables false
set_option maxRecDepth 100000
namespace Go.Am

/-! consistory/consistoryref14.Same -/
noncomputable def l_ref14_Same_rrlrd (x : EV) (m : Nat) (t2 t3 t5 : Value) (σ : St) (K : VK) : Bool := jmpL PP tbS c_ref14_Same (x.E PP) [.r, .r, .l, .r, .d] m [] [t2, t3, t5] σ K
noncomputable def r_ref14_Same (x : EV) (a0 a1 : Value) (σ : St) (K : VK) : Bool :=
 boxK 62 a0 σ fun v0 σ =>
 boxK 62 a1 σ fun v1 σ =>
 rFld 0 v0 fun v2 =>
 rLd v2 σ fun v3 σ =>
 rFld 0 v1 fun v4 =>
 rLd v4 σ fun v5 σ =>
 rBin PP .neq 5 v3 v5 fun v6 =>
 shut x.most (rGuard false v6 (fun k => rFld 1 v0 fun v7 =>
 k v7 σ) σ fun v8 σ =>
 shut x.most (rGuard false v6 (fun k => rLd v8 σ fun v9 σ =>
 k v9 σ) σ fun v10 σ =>
 shut x.most (rGuard false v6 (fun k => rFld 1 v1 fun v11 =>
 k v11 σ) σ fun v12 σ =>
 shut x.most (rGuard false v6 (fun k => rLd v12 σ fun v13 σ =>
 k v13 σ) σ fun v14 σ =>
 shut x.most (rGuard false v6 (fun k => rBin PP .neq 3 v10 v14 fun v15 =>
 k v15 σ) σ fun v16 σ =>
 shut x.most (rPick v6 (.bool true) v16 fun v17 =>
 shut x.most (rGuard false v17 (fun k => rFld 2 v0 fun v18 =>
 k v18 σ) σ fun v19 σ =>
 shut x.most (rGuard false v17 (fun k => rLd v19 σ fun v20 σ =>
 k v20 σ) σ fun v21 σ =>
 shut x.most (rGuard false v17 (fun k => rFld 2 v1 fun v22 =>
 k v22 σ) σ fun v23 σ =>
 shut x.most (rGuard false v17 (fun k => rLd v23 σ fun v24 σ =>
 k v24 σ) σ fun v25 σ =>
 shut x.most (rGuard false v17 (fun k => rBin PP .neq 3 v21 v25 fun v26 =>
 k v26 σ) σ fun v27 σ =>
 shut x.most (rPick v17 (.bool true) v27 fun v28 =>
 shut x.most (rGuard false v28 (fun k => rFld 3 v0 fun v29 =>
 k v29 σ) σ fun v30 σ =>
 shut x.most (rGuard false v28 (fun k => rLd v30 σ fun v31 σ =>
 k v31 σ) σ fun v32 σ =>
 shut x.most (rGuard false v28 (fun k => rFld 3 v1 fun v33 =>
 k v33 σ) σ fun v34 σ =>
 shut x.most (rGuard false v28 (fun k => rLd v34 σ fun v35 σ =>
 k v35 σ) σ fun v36 σ =>
 shut x.most (rGuard false v28 (fun k => rBin PP .neq 3 v32 v36 fun v37 =>
 k v37 σ) σ fun v38 σ =>
 shut x.most (rPick v28 (.bool true) v38 fun v39 =>
 shut x.most (rGuard false v39 (fun k => rFld 4 v0 fun v40 =>
 k v40 σ) σ fun v41 σ =>
 shut x.most (rGuard false v39 (fun k => rLd v41 σ fun v42 σ =>
 k v42 σ) σ fun v43 σ =>
 shut x.most (rGuard false v39 (fun k => rFld 4 v1 fun v44 =>
 k v44 σ) σ fun v45 σ =>
 shut x.most (rGuard false v39 (fun k => rLd v45 σ fun v46 σ =>
 k v46 σ) σ fun v47 σ =>
 shut x.most (rGuard false v39 (fun k => rBin PP .neq 3 v43 v47 fun v48 =>
 k v48 σ) σ fun v49 σ =>
 shut x.most (rPick v39 (.bool true) v49 fun v50 =>
 shut x.most (rGuard false v50 (fun k => rFld 5 v0 fun v51 =>
 k v51 σ) σ fun v52 σ =>
 shut x.most (rGuard false v50 (fun k => rLd v52 σ fun v53 σ =>
 k v53 σ) σ fun v54 σ =>
 shut x.most (rGuard false v50 (fun k => rFld 5 v1 fun v55 =>
 k v55 σ) σ fun v56 σ =>
 shut x.most (rGuard false v50 (fun k => rLd v56 σ fun v57 σ =>
 k v57 σ) σ fun v58 σ =>
 shut x.most (rGuard false v50 (fun k => rBin PP .neq 3 v54 v58 fun v59 =>
 k v59 σ) σ fun v60 σ =>
 shut x.most (rPick v50 (.bool true) v60 fun v61 =>
 shut x.most (rGuard false v61 (fun k => rFld 6 v0 fun v62 =>
 k v62 σ) σ fun v63 σ =>
 shut x.most (rGuard false v61 (fun k => rLd v63 σ fun v64 σ =>
 k v64 σ) σ fun v65 σ =>
 shut x.most (rGuard false v61 (fun k => rFld 6 v1 fun v66 =>
 k v66 σ) σ fun v67 σ =>
 shut x.most (rGuard false v61 (fun k => rLd v67 σ fun v68 σ =>
 k v68 σ) σ fun v69 σ =>
 shut x.most (rGuard false v61 (fun k => rBin PP .neq 3 v65 v69 fun v70 =>
 k v70 σ) σ fun v71 σ =>
 shut x.most (rPick v61 (.bool true) v71 fun v72 =>
 shut x.most (rGuard false v72 (fun k => rFld 7 v0 fun v73 =>
 k v73 σ) σ fun v74 σ =>
 shut x.most (rGuard false v72 (fun k => rLd v74 σ fun v75 σ =>
 k v75 σ) σ fun v76 σ =>
 shut x.most (rGuard false v72 (fun k => rFld 7 v1 fun v77 =>
 k v77 σ) σ fun v78 σ =>
 shut x.most (rGuard false v72 (fun k => rLd v78 σ fun v79 σ =>
 k v79 σ) σ fun v80 σ =>
 shut x.most (rGuard false v72 (fun k => rBin PP .neq 3 v76 v80 fun v81 =>
 k v81 σ) σ fun v82 σ =>
 shut x.most (rPick v72 (.bool true) v82 fun v83 =>
 shut x.most (rGuard false v83 (fun k => rFld 8 v0 fun v84 =>
 k v84 σ) σ fun v85 σ =>
 shut x.most (rGuard false v83 (fun k => rLd v85 σ fun v86 σ =>
 k v86 σ) σ fun v87 σ =>
 shut x.most (rGuard false v83 (fun k => rFld 8 v1 fun v88 =>
 k v88 σ) σ fun v89 σ =>
 shut x.most (rGuard false v83 (fun k => rLd v89 σ fun v90 σ =>
 k v90 σ) σ fun v91 σ =>
 shut x.most (rGuard false v83 (fun k => rBin PP .neq 3 v87 v91 fun v92 =>
 k v92 σ) σ fun v93 σ =>
 shut x.most (rPick v83 (.bool true) v93 fun v94 =>
 shut x.most (rGuard false v94 (fun k => rFld 9 v0 fun v95 =>
 k v95 σ) σ fun v96 σ =>
 shut x.most (rGuard false v94 (fun k => rLd v96 σ fun v97 σ =>
 k v97 σ) σ fun v98 σ =>
 shut x.most (rGuard false v94 (fun k => rFld 9 v1 fun v99 =>
 k v99 σ) σ fun v100 σ =>
 shut x.most (rGuard false v94 (fun k => rLd v100 σ fun v101 σ =>
 k v101 σ) σ fun v102 σ =>
 shut x.most (rGuard false v94 (fun k => rBin PP .neq 9 v98 v102 fun v103 =>
 k v103 σ) σ fun v104 σ =>
 shut x.most (rPick v94 (.bool true) v104 fun v105 =>
 shut x.most (rGuard false v105 (fun k => rFld 10 v0 fun v106 =>
 k v106 σ) σ fun v107 σ =>
 shut x.most (rGuard false v105 (fun k => rLd v107 σ fun v108 σ =>
 k v108 σ) σ fun v109 σ =>
 shut x.most (rGuard false v105 (fun k => rLenS v109 fun v110 =>
 k v110 σ) σ fun v111 σ =>
 shut x.most (rGuard false v105 (fun k => rFld 10 v1 fun v112 =>
 k v112 σ) σ fun v113 σ =>
 shut x.most (rGuard false v105 (fun k => rLd v113 σ fun v114 σ =>
 k v114 σ) σ fun v115 σ =>
 shut x.most (rGuard false v105 (fun k => rLenS v115 fun v116 =>
 k v116 σ) σ fun v117 σ =>
 shut x.most (rGuard false v105 (fun k => rBin PP .neq 3 v111 v117 fun v118 =>
 k v118 σ) σ fun v119 σ =>
 shut x.most (rPick v105 (.bool true) v119 fun v120 =>
 rIf v120 (K zF σ) (l_ref14_Same_rrlrd x x.most v0 v1 zI σ K)))))))))))))))))))))))))))))))))))))))))))))))))))))))))))))))
theorem f_ref14_Same (x : EV) (a0 a1 : Value) (σ : St) (K : VK) : fnX PP tbS c_ref14_Same (x.E PP) [a0, a1] σ K = r_ref14_Same x a0 a1 σ K := by kernel_rfl
noncomputable def l_ref14_Same_rrlrdB (x : EV) (m0 : Nat) (t2 t3 t5 : Value) (σ : St) (K : VK) : Bool :=
 rFld 10 t2 fun v0 =>
 rLd v0 σ fun v1 σ =>
 rLenS v1 fun v2 =>
 rBin PP .lss 3 t5 v2 fun v3 =>
 rIf v3 (rFld 10 t2 fun v4 =>
 rLd v4 σ fun v5 σ =>
 rIdx 1 v5 t5 fun v6 =>
 rLd v6 σ fun v7 σ =>
 rFld 10 t3 fun v8 =>
 rLd v8 σ fun v9 σ =>
 rIdx 1 v9 t5 fun v10 =>
 rLd v10 σ fun v11 σ =>
 rBin PP .neq 57 v7 v11 fun v12 =>
 rIf v12 (K zF σ) (rBin PP .add 3 t5 (.int .i64 (.ofNat 1)) fun v13 =>
 l_ref14_Same_rrlrd x m0 t2 t3 v13 σ K)) (K (.bool true) σ)
theorem l_ref14_Same_rrlrdE (x : EV) (m0 : Nat) (t2 t3 t5 : Value) (σ : St) (K : VK) : l_ref14_Same_rrlrd x (m0 + 1) t2 t3 t5 σ K = l_ref14_Same_rrlrdB x m0 t2 t3 t5 σ K := by kernel_rfl

end Go.Am

namespace Go.Am
open Go.RowKit Go.MapKept Go.Proofs Go.Proofs.Rdr
variable {most : Nat}
theorem rGuardC_ft (op : Bool → Bool) (k : Bool) : rGuardC false (.bool true) undef op k = k := rfl
theorem rGuardC_ff (u : Value) (op : Bool → Bool) (k : Bool) : rGuardC false zF u op k = op k := rfl
theorem eqD_refl (d : D) : eqD d d = true := (eqD_iff d d).2 rfl
theorem eqL_refl (d : List D) : eqL d d = true := (eqL_iff d d).2 rfl
theorem eqLL_refl (d : List (List D)) : eqLL d d = true := (eqLL_iff d d).2 rfl
theorem ats_ext {da db : List D} {n : Nat} (h1 : da.length = n) (h2 : db.length = n) (h : ∀ j, j < n → ats da j = ats db j) : da = db := by
 apply List.ext_getElem (by omega)
 intro j a b
 have := h j (by omega)
 unfold ats at this
 rw [List.getElem?_eq_getElem a, List.getElem?_eq_getElem b] at this
 exact this
theorem two_boxes {σ : St} {C C' : Nat → Prop} {its : List It} {va vb : List Value} {da db : List D} (ha : RdA σ C its va da) (hb : RdA σ C' its vb db) (t : TypeId) {g : Value → Value → St → Bool}
 (h : ∀ (b1 b2 : Nat) (σ2 : St), Ext' σ σ2 → Stc σ2 (fun _ => False) its b1 0 da → Stc σ2 (fun _ => False) its b2 0 db → g (pt b1 0) (pt b2 0) σ2 = true) :
 boxK t (.agg ⟨va⟩) σ (fun v0 σ => boxK t (.agg ⟨vb⟩) σ fun v1 σ => g v0 v1 σ) = true := by
 rw [boxK_agg (List.all_eq_true.2 ha.one), boxK_agg (List.all_eq_true.2 hb.one)]
 have x1 := Ext'.new σ (.cells va t .exact)
 have x2 := Ext'.new (σ.new (.cells va t .exact)) (.cells vb t .exact)
 exact h _ _ _ (x1.trans x2) ((ha.stc t).fr ⟨x2.n, fun i hi _ => x2.same i hi, fun _ h => .inl h⟩) ((hb.fr (x1.fr _)).stc t)
theorem Stc.val0 {σ : St} {C : Nat → Prop} {its : List It} {b : Nat} {ds : List D} (h : Stc σ C its b 0 ds) (j : Nat) {it : It} (hj : its[j]? = some it) : ∃ v, Rd σ C it v (ats ds j) ∧ ∀ σ', Ext' σ σ' → ∀ K, rLd (pt b j) σ' K = K v σ' := by
 obtain ⟨v, hv, hl⟩ := h.val' j hj
 exact ⟨v, hv, fun σ' hx K => by have := hl σ' hx K; rwa [Nat.zero_add] at this⟩
theorem Stc.list0 {σ : St} {C : Nat → Prop} {its its' : List It} {b : Nat} {ds : List D} (h : Stc σ C its b 0 ds) (j : Nat) (hj : its[j]? = some (.list its')) : ∃ v, Rd σ C (.list its') v (.l (esOf (ats ds j))) ∧ (∀ σ', Ext' σ σ' → ∀ K, rLd (pt b j) σ' K = K v σ') ∧ ats ds j = .l (esOf (ats ds j)) := by
 obtain ⟨v, hv, hl⟩ := h.val0 j hj
 have e := esOf_eq hv
 exact ⟨v, by rw [← e]; exact hv, hl, e⟩
theorem Stc.nums0 {σ : St} {C : Nat → Prop} {its : List It} {b : Nat} {ds : List D} (h : Stc σ C its b 0 ds) (j : Nat) (hj : its[j]? = some .nums) : ∃ v, Rd σ C (.list [.num]) v (.l (esOf (ats ds j))) ∧ (∀ σ', Ext' σ σ' → ∀ K, rLd (pt b j) σ' K = K v σ') ∧ ats ds j = .l (esOf (ats ds j)) := by
 obtain ⟨v, hv, hl⟩ := h.val0 j hj
 have hv' : ∃ es, ats ds j = .l es ∧ Rd σ C (.list [.num]) v (.l es) := by
  generalize hd : ats ds j = d at hv
  cases hv with | nums h => exact ⟨_, rfl, h⟩
 obtain ⟨es, e, hr⟩ := hv'
 rw [e]
 exact ⟨v, hr, hl, rfl⟩
theorem ne_D {da db : List D} {j : Nat} (q : eqD (ats da j) (ats db j) = false) : da ≠ db := fun e => by subst e; rw [eqD_refl] at q; cases q
theorem ne_L {da db : List D} {k m : Nat} (q : eqL ((da.drop k).take m) ((db.drop k).take m) = false) : da ≠ db := fun e => by subst e; rw [eqL_refl] at q; cases q
theorem ne_LL {da db : List D} {j : Nat} (q : eqLL (esOf (ats da j)) (esOf (ats db j)) = false) : da ≠ db := fun e => by subst e; rw [eqLL_refl] at q; cases q
theorem both_int_e {σ : St} {C C' : Nat → Prop} {its : List It} {b1 b2 : Nat} {da db : List D} (sa : Stc σ C its b1 0 da) (sb : Stc σ C' its b2 0 db) (j : Nat) (hj : its[j]? = some .int) :
 ∃ u w, (∀ σ', Ext' σ σ' → ∀ K, rLd (pt b1 j) σ' K = K u σ') ∧ (∀ σ', Ext' σ σ' → ∀ K, rLd (pt b2 j) σ' K = K w σ') ∧ ∀ (t : TypeId) (K : Value → Bool), rBin PP .eql t u w K = K (.bool (eqD (ats da j) (ats db j))) := by
 obtain ⟨u, hu, la⟩ := sa.val0 j hj
 obtain ⟨w, hw, lb⟩ := sb.val0 j hj
 exact ⟨u, w, la, lb, fun t K => (cmp_int hu hw t K).1⟩
theorem both_int_n {σ : St} {C C' : Nat → Prop} {its : List It} {b1 b2 : Nat} {da db : List D} (sa : Stc σ C its b1 0 da) (sb : Stc σ C' its b2 0 db) (j : Nat) (hj : its[j]? = some .int) :
 ∃ u w, (∀ σ', Ext' σ σ' → ∀ K, rLd (pt b1 j) σ' K = K u σ') ∧ (∀ σ', Ext' σ σ' → ∀ K, rLd (pt b2 j) σ' K = K w σ') ∧ ∀ (t : TypeId) (K : Value → Bool), rBin PP .neq t u w K = K (.bool (!eqD (ats da j) (ats db j))) := by
 obtain ⟨u, hu, la⟩ := sa.val0 j hj
 obtain ⟨w, hw, lb⟩ := sb.val0 j hj
 exact ⟨u, w, la, lb, fun t K => (cmp_int hu hw t K).2⟩
theorem both_is_e {σ : St} {C C' : Nat → Prop} {its : List It} {b1 b2 : Nat} {da db : List D} (sa : Stc σ C its b1 0 da) (sb : Stc σ C' its b2 0 db) (j : Nat) (hj : its[j]? = some .is) :
 ∃ u w, (∀ σ', Ext' σ σ' → ∀ K, rLd (pt b1 j) σ' K = K u σ') ∧ (∀ σ', Ext' σ σ' → ∀ K, rLd (pt b2 j) σ' K = K w σ') ∧ ∀ (K : Value → Bool), rBin PP .eql 4 u w K = K (.bool (eqD (ats da j) (ats db j))) := by
 obtain ⟨u, hu, la⟩ := sa.val0 j hj
 obtain ⟨w, hw, lb⟩ := sb.val0 j hj
 exact ⟨u, w, la, lb, fun K => (cmp_is hu hw K).1⟩
theorem both_is_n {σ : St} {C C' : Nat → Prop} {its : List It} {b1 b2 : Nat} {da db : List D} (sa : Stc σ C its b1 0 da) (sb : Stc σ C' its b2 0 db) (j : Nat) (hj : its[j]? = some .is) :
 ∃ u w, (∀ σ', Ext' σ σ' → ∀ K, rLd (pt b1 j) σ' K = K u σ') ∧ (∀ σ', Ext' σ σ' → ∀ K, rLd (pt b2 j) σ' K = K w σ') ∧ ∀ (K : Value → Bool), rBin PP .neq 4 u w K = K (.bool (!eqD (ats da j) (ats db j))) := by
 obtain ⟨u, hu, la⟩ := sa.val0 j hj
 obtain ⟨w, hw, lb⟩ := sb.val0 j hj
 exact ⟨u, w, la, lb, fun K => (cmp_is hu hw K).2⟩
theorem both_kind_n {σ : St} {C C' : Nat → Prop} {its : List It} {b1 b2 : Nat} {da db : List D} (sa : Stc σ C its b1 0 da) (sb : Stc σ C' its b2 0 db) (j : Nat) (hj : its[j]? = some .kind) :
 ∃ u w, (∀ σ', Ext' σ σ' → ∀ K, rLd (pt b1 j) σ' K = K u σ') ∧ (∀ σ', Ext' σ σ' → ∀ K, rLd (pt b2 j) σ' K = K w σ') ∧ ∀ (t : TypeId) (K : Value → Bool), rBin PP .neq t u w K = K (.bool (!eqD (ats da j) (ats db j))) := by
 obtain ⟨u, hu, la⟩ := sa.val0 j hj
 obtain ⟨w, hw, lb⟩ := sb.val0 j hj
 exact ⟨u, w, la, lb, fun t K => (cmp_kind hu hw t K).2⟩
theorem both_text_e {σ : St} {C C' : Nat → Prop} {its : List It} {b1 b2 : Nat} {da db : List D} (sa : Stc σ C its b1 0 da) (sb : Stc σ C' its b2 0 db) (j : Nat) (hj : its[j]? = some .text) :
 ∃ u w, (∀ σ', Ext' σ σ' → ∀ K, rLd (pt b1 j) σ' K = K u σ') ∧ (∀ σ', Ext' σ σ' → ∀ K, rLd (pt b2 j) σ' K = K w σ') ∧ ∀ (t : TypeId) (K : Value → Bool), rBin PP .eql t u w K = K (.bool (eqD (ats da j) (ats db j))) := by
 obtain ⟨u, hu, la⟩ := sa.val0 j hj
 obtain ⟨w, hw, lb⟩ := sb.val0 j hj
 exact ⟨u, w, la, lb, fun t K => (cmp_text hu hw t K).1⟩
theorem both_text_n {σ : St} {C C' : Nat → Prop} {its : List It} {b1 b2 : Nat} {da db : List D} (sa : Stc σ C its b1 0 da) (sb : Stc σ C' its b2 0 db) (j : Nat) (hj : its[j]? = some .text) :
 ∃ u w, (∀ σ', Ext' σ σ' → ∀ K, rLd (pt b1 j) σ' K = K u σ') ∧ (∀ σ', Ext' σ σ' → ∀ K, rLd (pt b2 j) σ' K = K w σ') ∧ ∀ (t : TypeId) (K : Value → Bool), rBin PP .neq t u w K = K (.bool (!eqD (ats da j) (ats db j))) := by
 obtain ⟨u, hu, la⟩ := sa.val0 j hj
 obtain ⟨w, hw, lb⟩ := sb.val0 j hj
 exact ⟨u, w, la, lb, fun t K => (cmp_text hu hw t K).2⟩
theorem part_eq {da db : List D} {k m n : Nat} (h1 : da.length = n) (h2 : db.length = n) (h : (da.drop k).take m = (db.drop k).take m) (i : Nat) (hi : i < m) (hn : k + i < n) : ats da (k + i) = ats db (k + i) := by
 have := congrArg (fun l => l[i]?) h
 simp only [List.getElem?_take, if_pos hi, List.getElem?_drop] at this
 unfold ats; rw [this]

theorem cmp_ref08_Nums_loop (hM : 140737488355328 < most) {n : Nat} {σ : St} {C C' : Nat → Prop} {a b : Value} {es fs : List (List D)} {K : VK} (ha : Rd σ C (.list [.num]) a (.l es)) (hb : Rd σ C' (.list [.num]) b (.l fs)) (he : es.length = fs.length) :
 ∀ (r i m : Nat) (σ' : St), i + r = es.length → r < m → Ext' σ σ' → (∀ σ2, Ext' σ σ2 → K (.bool (eqLL (es.drop i) (fs.drop i))) σ2 = true) → l_ref08_Nums_rrlrd (X most (n + 0)) m a b (.int .i64 (.ofNat i)) σ' K = true := by
 obtain ⟨hN, hlen⟩ := ha.listL
 have hN : es.length ≤ 140737488355328 := hN
 intro r
 induction r with
 | zero =>
  intro i m σ' hi hm hx hK
  obtain ⟨m, rfl⟩ := Nat.exists_eq_succ_of_ne_zero (show m ≠ 0 by omega)
  rw [l_ref08_Nums_rrlrdE]
  unfold l_ref08_Nums_rrlrdB
  rw [hlen, rBin_lssN, show decide (i < lenL (.l es)) = false from decide_eq_false (show ¬ i < es.length by omega), rIf_f]
  have := hK σ' hx
  rwa [eqLL_end (by omega) (by omega)] at this
 | succ r ih =>
  intro i m σ' hi hm hx hK
  obtain ⟨m, rfl⟩ := Nat.exists_eq_succ_of_ne_zero (show m ≠ 0 by omega)
  have hlt : i < es.length := by omega
  have hlt2 : i < fs.length := by omega
  rw [l_ref08_Nums_rrlrdE]
  unfold l_ref08_Nums_rrlrdB
  rw [hlen, rBin_lssN, show decide (i < lenL (.l es)) = true from decide_eq_true (show i < es.length from hlt), rIf_t]
  obtain ⟨ba, oa, sa, ia⟩ := ha.at hlt 1 rfl
  obtain ⟨bb, ob, sb, ib⟩ := hb.at hlt2 1 rfl
  obtain ⟨u, ru, lu⟩ := (sa.fr (hx.fr _)).val' 0 (it := .num) rfl
  obtain ⟨w, rw', lw⟩ := (sb.fr (hx.fr _)).val' 0 (it := .num) rfl
  have lu := lu σ' (.refl σ')
  have lw := lw σ' (.refl σ')
  rw [Nat.add_zero] at lu lw
  rw [ia, lu, ib, lw, (cmp_num ru rw' _ _).2, ← eqL_one sa.len sb.len]
  cases hq : eqL es[i] fs[i] with
  | false =>
   simp only [Bool.not_false, rIf_t]
   have := hK σ' hx
   rw [eqLL_drop hlt hlt2, hq] at this
   exact this
  | true =>
   simp only [Bool.not_true, rIf_f]
   rw [rBin_add _ _ _ _ (by omega)]
   refine ih (i + 1) m σ' (by omega) (by omega) hx fun σ2 x2 => ?_
   have := hK σ2 x2
   rw [eqLL_drop hlt hlt2, hq] at this
   exact this
theorem cmp_ref08_Nums (hM : 140737488355328 < most) : CmpL most c_ref08_Nums [.num] 1 := by
 intro n σ C C' a b es fs K ha hb hK
 rw [X_call (by rfl), f_ref08_Nums]
 unfold r_ref08_Nums
 rw [ha.listL.2, hb.listL.2, rBin_neqN]
 by_cases he : es.length = fs.length
 · rw [show decide (lenL (.l es) = lenL (.l fs)) = true from decide_eq_true he]
   show rIf zF _ _ = true
   rw [rIf_f, X_most]
   have hN : es.length ≤ 140737488355328 := ha.listL.1
   exact cmp_ref08_Nums_loop hM ha hb he es.length 0 most σ (by omega) (by omega) (.refl σ) fun σ2 x2 => hK σ2 x2
 · rw [show decide (lenL (.l es) = lenL (.l fs)) = false from decide_eq_false he]
   show rIf (.bool true) _ _ = true
   rw [rIf_t]
   have := hK σ (.refl σ)
   rwa [eqLL_len he] at this

theorem cmp_ref03_Numbers_loop (hM : 140737488355328 < most) {n : Nat} {σ : St} {C C' : Nat → Prop} {a b : Value} {es fs : List (List D)} {K : VK} (ha : Rd σ C (.list [.num]) a (.l es)) (hb : Rd σ C' (.list [.num]) b (.l fs)) (he : es.length = fs.length) :
 ∀ (r i m : Nat) (σ' : St), i + r = es.length → r < m → Ext' σ σ' → (∀ σ2, Ext' σ σ2 → K (.bool (eqLL (es.drop i) (fs.drop i))) σ2 = true) → l_ref03_Numbers_rrlrd (X most (n + 0)) m a b (.int .i64 (.ofNat i)) σ' K = true := by
 obtain ⟨hN, hlen⟩ := ha.listL
 have hN : es.length ≤ 140737488355328 := hN
 intro r
 induction r with
 | zero =>
  intro i m σ' hi hm hx hK
  obtain ⟨m, rfl⟩ := Nat.exists_eq_succ_of_ne_zero (show m ≠ 0 by omega)
  rw [l_ref03_Numbers_rrlrdE]
  unfold l_ref03_Numbers_rrlrdB
  rw [hlen, rBin_lssN, show decide (i < lenL (.l es)) = false from decide_eq_false (show ¬ i < es.length by omega), rIf_f]
  have := hK σ' hx
  rwa [eqLL_end (by omega) (by omega)] at this
 | succ r ih =>
  intro i m σ' hi hm hx hK
  obtain ⟨m, rfl⟩ := Nat.exists_eq_succ_of_ne_zero (show m ≠ 0 by omega)
  have hlt : i < es.length := by omega
  have hlt2 : i < fs.length := by omega
  rw [l_ref03_Numbers_rrlrdE]
  unfold l_ref03_Numbers_rrlrdB
  rw [hlen, rBin_lssN, show decide (i < lenL (.l es)) = true from decide_eq_true (show i < es.length from hlt), rIf_t]
  obtain ⟨ba, oa, sa, ia⟩ := ha.at hlt 1 rfl
  obtain ⟨bb, ob, sb, ib⟩ := hb.at hlt2 1 rfl
  obtain ⟨u, ru, lu⟩ := (sa.fr (hx.fr _)).val' 0 (it := .num) rfl
  obtain ⟨w, rw', lw⟩ := (sb.fr (hx.fr _)).val' 0 (it := .num) rfl
  have lu := lu σ' (.refl σ')
  have lw := lw σ' (.refl σ')
  rw [Nat.add_zero] at lu lw
  rw [ia, lu, ib, lw, (cmp_num ru rw' _ _).2, ← eqL_one sa.len sb.len]
  cases hq : eqL es[i] fs[i] with
  | false =>
   simp only [Bool.not_false, rIf_t]
   have := hK σ' hx
   rw [eqLL_drop hlt hlt2, hq] at this
   exact this
  | true =>
   simp only [Bool.not_true, rIf_f]
   rw [rBin_add _ _ _ _ (by omega)]
   refine ih (i + 1) m σ' (by omega) (by omega) hx fun σ2 x2 => ?_
   have := hK σ2 x2
   rw [eqLL_drop hlt hlt2, hq] at this
   exact this
theorem cmp_ref03_Numbers (hM : 140737488355328 < most) : CmpL most c_ref03_Numbers [.num] 1 := by
 intro n σ C C' a b es fs K ha hb hK
 rw [X_call (by rfl), f_ref03_Numbers]
 unfold r_ref03_Numbers
 rw [ha.listL.2, hb.listL.2, rBin_neqN]
 by_cases he : es.length = fs.length
 · rw [show decide (lenL (.l es) = lenL (.l fs)) = true from decide_eq_true he]
   show rIf zF _ _ = true
   rw [rIf_f, X_most]
   have hN : es.length ≤ 140737488355328 := ha.listL.1
   exact cmp_ref03_Numbers_loop hM ha hb he es.length 0 most σ (by omega) (by omega) (.refl σ) fun σ2 x2 => hK σ2 x2
 · rw [show decide (lenL (.l es) = lenL (.l fs)) = false from decide_eq_false he]
   show rIf (.bool true) _ _ = true
   rw [rIf_t]
   have := hK σ (.refl σ)
   rwa [eqLL_len he] at this

theorem cmp_ref24_Strings_loop (hM : 140737488355328 < most) {n : Nat} {σ : St} {C C' : Nat → Prop} {a b : Value} {es fs : List (List D)} {K : VK} (ha : Rd σ C (.list itsText) a (.l es)) (hb : Rd σ C' (.list itsText) b (.l fs)) (he : es.length = fs.length) :
 ∀ (r i m : Nat) (σ' : St), i + r = es.length → r < m → Ext' σ σ' → (∀ σ2, Ext' σ σ2 → K (.bool (eqLL (es.drop i) (fs.drop i))) σ2 = true) → l_ref24_Strings_rrlrd (X most (n + 0)) m a b (.int .i64 (.ofNat i)) σ' K = true := by
 obtain ⟨hN, hlen⟩ := ha.listL
 have hN : es.length ≤ 140737488355328 := hN
 intro r
 induction r with
 | zero =>
  intro i m σ' hi hm hx hK
  obtain ⟨m, rfl⟩ := Nat.exists_eq_succ_of_ne_zero (show m ≠ 0 by omega)
  rw [l_ref24_Strings_rrlrdE]
  unfold l_ref24_Strings_rrlrdB
  rw [hlen, rBin_lssN, show decide (i < lenL (.l es)) = false from decide_eq_false (show ¬ i < es.length by omega), rIf_f]
  have := hK σ' hx
  rwa [eqLL_end (by omega) (by omega)] at this
 | succ r ih =>
  intro i m σ' hi hm hx hK
  obtain ⟨m, rfl⟩ := Nat.exists_eq_succ_of_ne_zero (show m ≠ 0 by omega)
  have hlt : i < es.length := by omega
  have hlt2 : i < fs.length := by omega
  rw [l_ref24_Strings_rrlrdE]
  unfold l_ref24_Strings_rrlrdB
  rw [hlen, rBin_lssN, show decide (i < lenL (.l es)) = true from decide_eq_true (show i < es.length from hlt), rIf_t]
  obtain ⟨ba, oa, sa, ia⟩ := ha.at hlt 1 rfl
  obtain ⟨bb, ob, sb, ib⟩ := hb.at hlt2 1 rfl
  obtain ⟨u, ru, lu⟩ := (sa.fr (hx.fr _)).val' 0 (it := .text) rfl
  obtain ⟨w, rw', lw⟩ := (sb.fr (hx.fr _)).val' 0 (it := .text) rfl
  have lu := lu σ' (.refl σ')
  have lw := lw σ' (.refl σ')
  rw [Nat.add_zero] at lu lw
  rw [ia, lu, ib, lw, (cmp_text ru rw' _ _).2, ← eqL_one sa.len sb.len]
  cases hq : eqL es[i] fs[i] with
  | false =>
   simp only [Bool.not_false, rIf_t]
   have := hK σ' hx
   rw [eqLL_drop hlt hlt2, hq] at this
   exact this
  | true =>
   simp only [Bool.not_true, rIf_f]
   rw [rBin_add _ _ _ _ (by omega)]
   refine ih (i + 1) m σ' (by omega) (by omega) hx fun σ2 x2 => ?_
   have := hK σ2 x2
   rw [eqLL_drop hlt hlt2, hq] at this
   exact this
theorem cmp_ref24_Strings (hM : 140737488355328 < most) : CmpL most c_ref24_Strings itsText 1 := by
 intro n σ C C' a b es fs K ha hb hK
 rw [X_call (by rfl), f_ref24_Strings]
 unfold r_ref24_Strings
 rw [ha.listL.2, hb.listL.2, rBin_neqN]
 by_cases he : es.length = fs.length
 · rw [show decide (lenL (.l es) = lenL (.l fs)) = true from decide_eq_true he]
   show rIf zF _ _ = true
   rw [rIf_f, X_most]
   have hN : es.length ≤ 140737488355328 := ha.listL.1
   exact cmp_ref24_Strings_loop hM ha hb he es.length 0 most σ (by omega) (by omega) (.refl σ) fun σ2 x2 => hK σ2 x2
 · rw [show decide (lenL (.l es) = lenL (.l fs)) = false from decide_eq_false he]
   show rIf (.bool true) _ _ = true
   rw [rIf_t]
   have := hK σ (.refl σ)
   rwa [eqLL_len he] at this

theorem cmp_ref18_Same_loop (hM : 140737488355328 < most) {n : Nat} {σ : St} {C C' : Nat → Prop} {a b : Value} {es fs : List (List D)} {K : VK} (ha : Rd σ C (.list itsPair) a (.l es)) (hb : Rd σ C' (.list itsPair) b (.l fs)) (he : es.length = fs.length) :
 ∀ (r i m : Nat) (σ' : St), i + r = es.length → r < m → Ext' σ σ' → (∀ σ2, Ext' σ σ2 → K (.bool (eqLL (es.drop i) (fs.drop i))) σ2 = true) → l_ref18_Same_rrlrd (X most (n + 0)) m a b (.int .i64 (.ofNat i)) σ' K = true := by
 obtain ⟨hN, hlen⟩ := ha.listL
 have hN : es.length ≤ 140737488355328 := hN
 intro r
 induction r with
 | zero =>
  intro i m σ' hi hm hx hK
  obtain ⟨m, rfl⟩ := Nat.exists_eq_succ_of_ne_zero (show m ≠ 0 by omega)
  rw [l_ref18_Same_rrlrdE]
  unfold l_ref18_Same_rrlrdB
  rw [hlen, rBin_lssN, show decide (i < lenL (.l es)) = false from decide_eq_false (show ¬ i < es.length by omega), rIf_f]
  have := hK σ' hx
  rwa [eqLL_end (by omega) (by omega)] at this
 | succ r ih =>
  intro i m σ' hi hm hx hK
  obtain ⟨m, rfl⟩ := Nat.exists_eq_succ_of_ne_zero (show m ≠ 0 by omega)
  have hlt : i < es.length := by omega
  have hlt2 : i < fs.length := by omega
  rw [l_ref18_Same_rrlrdE]
  unfold l_ref18_Same_rrlrdB
  rw [hlen, rBin_lssN, show decide (i < lenL (.l es)) = true from decide_eq_true (show i < es.length from hlt), rIf_t]
  obtain ⟨ba, oa, sa, ia⟩ := ha.at hlt 2 rfl
  obtain ⟨bb, ob, sb, ib⟩ := hb.at hlt2 2 rfl
  obtain ⟨ca, ra, la⟩ := (sa.fr (hx.fr _)).lda 2 rfl
  obtain ⟨cb, rb, lb⟩ := (sb.fr (hx.fr _)).lda 2 rfl
  rw [ia, la σ' (.refl σ'), ib, lb σ' (.refl σ'), (cmp_agg (its := itsPair) (by kernel_rfl) (by decide) ra rb _).2]
  cases hq : eqL es[i] fs[i] with
  | false =>
   simp only [Bool.not_false, rIf_t]
   have := hK σ' hx
   rw [eqLL_drop hlt hlt2, hq] at this
   exact this
  | true =>
   simp only [Bool.not_true, rIf_f]
   rw [rBin_add _ _ _ _ (by omega)]
   refine ih (i + 1) m σ' (by omega) (by omega) hx fun σ2 x2 => ?_
   have := hK σ2 x2
   rw [eqLL_drop hlt hlt2, hq] at this
   exact this
theorem cmp_ref18_Same (hM : 140737488355328 < most) : CmpL most c_ref18_Same itsPair 1 := by
 intro n σ C C' a b es fs K ha hb hK
 rw [X_call (by rfl), f_ref18_Same]
 unfold r_ref18_Same
 rw [ha.listL.2, hb.listL.2, rBin_neqN]
 by_cases he : es.length = fs.length
 · rw [show decide (lenL (.l es) = lenL (.l fs)) = true from decide_eq_true he]
   show rIf zF _ _ = true
   rw [rIf_f, X_most]
   have hN : es.length ≤ 140737488355328 := ha.listL.1
   exact cmp_ref18_Same_loop hM ha hb he es.length 0 most σ (by omega) (by omega) (.refl σ) fun σ2 x2 => hK σ2 x2
 · rw [show decide (lenL (.l es) = lenL (.l fs)) = false from decide_eq_false he]
   show rIf (.bool true) _ _ = true
   rw [rIf_t]
   have := hK σ (.refl σ)
   rwa [eqLL_len he] at this

theorem cmp_ref15_Same_loop (hM : 140737488355328 < most) {n : Nat} {σ : St} {C C' : Nat → Prop} {a b : Value} {es fs : List (List D)} {K : VK} (ha : Rd σ C (.list itsVote) a (.l es)) (hb : Rd σ C' (.list itsVote) b (.l fs)) (he : es.length = fs.length) :
 ∀ (r i m : Nat) (σ' : St), i + r = es.length → r < m → Ext' σ σ' → (∀ σ2, Ext' σ σ2 → K (.bool (eqLL (es.drop i) (fs.drop i))) σ2 = true) → l_ref15_Same_rrlrd (X most (n + 0)) m a b (.int .i64 (.ofNat i)) σ' K = true := by
 obtain ⟨hN, hlen⟩ := ha.listL
 have hN : es.length ≤ 140737488355328 := hN
 intro r
 induction r with
 | zero =>
  intro i m σ' hi hm hx hK
  obtain ⟨m, rfl⟩ := Nat.exists_eq_succ_of_ne_zero (show m ≠ 0 by omega)
  rw [l_ref15_Same_rrlrdE]
  unfold l_ref15_Same_rrlrdB
  rw [hlen, rBin_lssN, show decide (i < lenL (.l es)) = false from decide_eq_false (show ¬ i < es.length by omega), rIf_f]
  have := hK σ' hx
  rwa [eqLL_end (by omega) (by omega)] at this
 | succ r ih =>
  intro i m σ' hi hm hx hK
  obtain ⟨m, rfl⟩ := Nat.exists_eq_succ_of_ne_zero (show m ≠ 0 by omega)
  have hlt : i < es.length := by omega
  have hlt2 : i < fs.length := by omega
  rw [l_ref15_Same_rrlrdE]
  unfold l_ref15_Same_rrlrdB
  rw [hlen, rBin_lssN, show decide (i < lenL (.l es)) = true from decide_eq_true (show i < es.length from hlt), rIf_t]
  obtain ⟨ba, oa, sa, ia⟩ := ha.at hlt 5 rfl
  obtain ⟨bb, ob, sb, ib⟩ := hb.at hlt2 5 rfl
  obtain ⟨ca, ra, la⟩ := (sa.fr (hx.fr _)).lda 5 rfl
  obtain ⟨cb, rb, lb⟩ := (sb.fr (hx.fr _)).lda 5 rfl
  rw [ia, la σ' (.refl σ'), ib, lb σ' (.refl σ'), (cmp_agg (its := itsVote) (by kernel_rfl) (by decide) ra rb _).2]
  cases hq : eqL es[i] fs[i] with
  | false =>
   simp only [Bool.not_false, rIf_t]
   have := hK σ' hx
   rw [eqLL_drop hlt hlt2, hq] at this
   exact this
  | true =>
   simp only [Bool.not_true, rIf_f]
   rw [rBin_add _ _ _ _ (by omega)]
   refine ih (i + 1) m σ' (by omega) (by omega) hx fun σ2 x2 => ?_
   have := hK σ2 x2
   rw [eqLL_drop hlt hlt2, hq] at this
   exact this
theorem cmp_ref15_Same (hM : 140737488355328 < most) : CmpL most c_ref15_Same itsVote 1 := by
 intro n σ C C' a b es fs K ha hb hK
 rw [X_call (by rfl), f_ref15_Same]
 unfold r_ref15_Same
 rw [ha.listL.2, hb.listL.2, rBin_neqN]
 by_cases he : es.length = fs.length
 · rw [show decide (lenL (.l es) = lenL (.l fs)) = true from decide_eq_true he]
   show rIf zF _ _ = true
   rw [rIf_f, X_most]
   have hN : es.length ≤ 140737488355328 := ha.listL.1
   exact cmp_ref15_Same_loop hM ha hb he es.length 0 most σ (by omega) (by omega) (.refl σ) fun σ2 x2 => hK σ2 x2
 · rw [show decide (lenL (.l es) = lenL (.l fs)) = false from decide_eq_false he]
   show rIf (.bool true) _ _ = true
   rw [rIf_t]
   have := hK σ (.refl σ)
   rwa [eqLL_len he] at this

theorem cmp_ref08_Lists_loop (hM : 140737488355328 < most) {n : Nat} {σ : St} {C C' : Nat → Prop} {a b : Value} {es fs : List (List D)} {K : VK} (ha : Rd σ C (.list itsNums) a (.l es)) (hb : Rd σ C' (.list itsNums) b (.l fs)) (he : es.length = fs.length) :
 ∀ (r i m : Nat) (σ' : St), i + r = es.length → r < m → Ext' σ σ' → (∀ σ2, Ext' σ σ2 → K (.bool (eqLL (es.drop i) (fs.drop i))) σ2 = true) → l_ref08_Lists_rrlrd (X most (n + 1)) m a b (.int .i64 (.ofNat i)) σ' K = true := by
 obtain ⟨hN, hlen⟩ := ha.listL
 have hN : es.length ≤ 140737488355328 := hN
 intro r
 induction r with
 | zero =>
  intro i m σ' hi hm hx hK
  obtain ⟨m, rfl⟩ := Nat.exists_eq_succ_of_ne_zero (show m ≠ 0 by omega)
  rw [l_ref08_Lists_rrlrdE]
  unfold l_ref08_Lists_rrlrdB
  rw [hlen, rBin_lssN, show decide (i < lenL (.l es)) = false from decide_eq_false (show ¬ i < es.length by omega), rIf_f]
  have := hK σ' hx
  rwa [eqLL_end (by omega) (by omega)] at this
 | succ r ih =>
  intro i m σ' hi hm hx hK
  obtain ⟨m, rfl⟩ := Nat.exists_eq_succ_of_ne_zero (show m ≠ 0 by omega)
  have hlt : i < es.length := by omega
  have hlt2 : i < fs.length := by omega
  rw [l_ref08_Lists_rrlrdE]
  unfold l_ref08_Lists_rrlrdB
  rw [hlen, rBin_lssN, show decide (i < lenL (.l es)) = true from decide_eq_true (show i < es.length from hlt), rIf_t]
  obtain ⟨ba, oa, sa, ia⟩ := ha.at hlt 1 rfl
  obtain ⟨bb, ob, sb, ib⟩ := hb.at hlt2 1 rfl
  obtain ⟨u, ru, lu⟩ := (sa.fr (hx.fr _)).val' 0 (it := .nums) rfl
  obtain ⟨w, rw', lw⟩ := (sb.fr (hx.fr _)).val' 0 (it := .nums) rfl
  have lu := lu σ' (.refl σ')
  have lw := lw σ' (.refl σ')
  rw [Nat.add_zero] at lu lw
  have hu : ∃ xs, ats es[i] 0 = .l xs ∧ Rd σ' C (.list [.num]) u (.l xs) := by
   generalize hd : ats es[i] 0 = d at ru
   cases ru with | nums h => exact ⟨_, rfl, h⟩
  have hw : ∃ xs, ats fs[i] 0 = .l xs ∧ Rd σ' C' (.list [.num]) w (.l xs) := by
   generalize hd : ats fs[i] 0 = d at rw'
   cases rw' with | nums h => exact ⟨_, rfl, h⟩
  obtain ⟨xs, ex, hxs⟩ := hu
  obtain ⟨ys, ey, hys⟩ := hw
  rw [ia, lu, ib, lw]
  refine cmp_ref08_Nums hM n hxs hys fun σ3 x3 => ?_
  have hq0 : eqLL xs ys = eqL es[i] fs[i] := by rw [eqL_one sa.len sb.len, ex, ey]; rfl
  rw [hq0]
  rw [unK_not]
  cases hq : eqL es[i] fs[i] with
  | false =>
   simp only [Bool.not_false, rIf_t]
   have := hK σ3 (hx.trans x3)
   rw [eqLL_drop hlt hlt2, hq] at this
   exact this
  | true =>
   simp only [Bool.not_true, rIf_f]
   rw [rBin_add _ _ _ _ (by omega)]
   refine ih (i + 1) m σ3 (by omega) (by omega) (hx.trans x3) fun σ2 x2 => ?_
   have := hK σ2 x2
   rw [eqLL_drop hlt hlt2, hq] at this
   exact this
theorem cmp_ref08_Lists (hM : 140737488355328 < most) : CmpL most c_ref08_Lists itsNums 2 := by
 intro n σ C C' a b es fs K ha hb hK
 rw [X_call (by rfl), f_ref08_Lists]
 unfold r_ref08_Lists
 rw [ha.listL.2, hb.listL.2, rBin_neqN]
 by_cases he : es.length = fs.length
 · rw [show decide (lenL (.l es) = lenL (.l fs)) = true from decide_eq_true he]
   show rIf zF _ _ = true
   rw [rIf_f, X_most]
   have hN : es.length ≤ 140737488355328 := ha.listL.1
   exact cmp_ref08_Lists_loop hM ha hb he es.length 0 most σ (by omega) (by omega) (.refl σ) fun σ2 x2 => hK σ2 x2
 · rw [show decide (lenL (.l es) = lenL (.l fs)) = false from decide_eq_false he]
   show rIf (.bool true) _ _ = true
   rw [rIf_t]
   have := hK σ (.refl σ)
   rwa [eqLL_len he] at this

theorem cmp_ref14_Same_tail (hM : 140737488355328 < most) {n : Nat} {σ : St} {C C' : Nat → Prop} {b1 b2 : Nat} {da db : List D} {a b : Value} {es fs : List (List D)} {K : VK} (_sa : Stc σ C itsMsg b1 0 da) (_sb : Stc σ C' itsMsg b2 0 db) (ha : Rd σ C (.list [.num]) a (.l es)) (hb : Rd σ C' (.list [.num]) b (.l fs))
 (la : ∀ σ', Ext' σ σ' → ∀ K, rLd (pt b1 10) σ' K = K a σ') (lb : ∀ σ', Ext' σ σ' → ∀ K, rLd (pt b2 10) σ' K = K b σ') (he : es.length = fs.length) :
 ∀ (r i m : Nat) (σ' : St), i + r = es.length → r < m → Ext' σ σ' → (∀ σ2, Ext' σ σ2 → K (.bool (eqLL (es.drop i) (fs.drop i))) σ2 = true) → l_ref14_Same_rrlrd (X most (n + 0)) m (pt b1 0) (pt b2 0) (.int .i64 (.ofNat i)) σ' K = true := by
 obtain ⟨hN, hlen⟩ := ha.listL
 have hN : es.length ≤ 140737488355328 := hN
 intro r
 induction r with
 | zero =>
  intro i m σ' hi hm hx hK
  obtain ⟨m, rfl⟩ := Nat.exists_eq_succ_of_ne_zero (show m ≠ 0 by omega)
  rw [l_ref14_Same_rrlrdE]
  unfold l_ref14_Same_rrlrdB
  rw [rFld_p, Nat.zero_add, la σ' hx, hlen, rBin_lssN, show decide (i < lenL (.l es)) = false from decide_eq_false (show ¬ i < es.length by omega), rIf_f]
  have := hK σ' hx
  rwa [eqLL_end (by omega) (by omega)] at this
 | succ r ih =>
  intro i m σ' hi hm hx hK
  obtain ⟨m, rfl⟩ := Nat.exists_eq_succ_of_ne_zero (show m ≠ 0 by omega)
  have hlt : i < es.length := by omega
  have hlt2 : i < fs.length := by omega
  rw [l_ref14_Same_rrlrdE]
  unfold l_ref14_Same_rrlrdB
  rw [rFld_p, Nat.zero_add, la σ' hx, hlen, rBin_lssN, show decide (i < lenL (.l es)) = true from decide_eq_true (show i < es.length from hlt), rIf_t]
  obtain ⟨ba, oa, sa', ia⟩ := ha.at hlt 1 rfl
  obtain ⟨bb, ob, sb', ib⟩ := hb.at hlt2 1 rfl
  obtain ⟨u, ru, lu⟩ := (sa'.fr (hx.fr _)).val' 0 (it := .num) rfl
  obtain ⟨w, rw', lw⟩ := (sb'.fr (hx.fr _)).val' 0 (it := .num) rfl
  have lu := lu σ' (.refl σ')
  have lw := lw σ' (.refl σ')
  rw [Nat.add_zero] at lu lw
  simp only [rFld_p, Nat.zero_add, la σ' hx, lb σ' hx, ia, ib, lu, lw]
  rw [(cmp_num ru rw' _ _).2, ← eqL_one sa'.len sb'.len]
  cases hq : eqL es[i] fs[i] with
  | false =>
   simp only [Bool.not_false, rIf_t]
   have := hK σ' hx
   rw [eqLL_drop hlt hlt2, hq] at this
   exact this
  | true =>
   simp only [Bool.not_true, rIf_f]
   rw [rBin_add _ _ _ _ (by omega)]
   refine ih (i + 1) m σ' (by omega) (by omega) hx fun σ2 x2 => ?_
   have := hK σ2 x2
   rw [eqLL_drop hlt hlt2, hq] at this
   exact this

set_option maxRecDepth 100000 in
theorem cmp_ref14_Same (hM : 140737488355328 < most) : CmpS most c_ref14_Same itsMsg 1 := by
 intro n σ C C' va vb da db K ha hb hK
 have hT : da = db → ∀ σ', Ext' σ σ' → K (.bool true) σ' = true := fun e σ' hx => by
  have := hK σ' hx
  rwa [(eqL_iff da db).2 e] at this
 have hF : da ≠ db → ∀ σ', Ext' σ σ' → K zF σ' = true := fun e σ' hx => by
  have := hK σ' hx
  rwa [show eqL da db = false from by
   cases hq : eqL da db with
   | false => rfl
   | true => exact absurd ((eqL_iff da db).1 hq) e] at this
 have hla : da.length = 11 := ha.dlen
 have hlb : db.length = 11 := hb.dlen
 rw [X_call (by rfl), f_ref14_Same]
 unfold r_ref14_Same
 refine two_boxes ha hb _ fun b1 b2 σ2 x2 sa sb => ?_
 obtain ⟨u0, w0, la0, lb0, c0⟩ := both_kind_n sa sb 0 rfl
 obtain ⟨u1, w1, la1, lb1, c1⟩ := both_int_n sa sb 1 rfl
 obtain ⟨u2, w2, la2, lb2, c2⟩ := both_int_n sa sb 2 rfl
 obtain ⟨u3, w3, la3, lb3, c3⟩ := both_int_n sa sb 3 rfl
 obtain ⟨u4, w4, la4, lb4, c4⟩ := both_int_n sa sb 4 rfl
 obtain ⟨u5, w5, la5, lb5, c5⟩ := both_int_n sa sb 5 rfl
 obtain ⟨u6, w6, la6, lb6, c6⟩ := both_int_n sa sb 6 rfl
 obtain ⟨u7, w7, la7, lb7, c7⟩ := both_int_n sa sb 7 rfl
 obtain ⟨u8, w8, la8, lb8, c8⟩ := both_int_n sa sb 8 rfl
 obtain ⟨u9, w9, la9, lb9, c9⟩ := both_text_n sa sb 9 rfl
 obtain ⟨u10, ra10, la10, ea10⟩ := sa.nums0 10 rfl
 obtain ⟨w10, rb10, lb10, eb10⟩ := sb.nums0 10 rfl
 have hx : Ext' σ2 σ2 := .refl σ2
 simp only [rFld_p, Nat.zero_add, la0 σ2 hx, lb0 σ2 hx, c0]
 cases q0 : eqD (ats da 0) (ats db 0) with
 | false =>
  simp only [shut_eq, rGuard_ft, rPick_t, rIf_t, Bool.not_false]
  exact hF (ne_D q0) _ (x2.trans hx)
 | true =>
 simp only [shut_eq, rGuard_ff, rPick_f, Bool.not_true, la1 σ2 hx, lb1 σ2 hx, c1]
 cases q1 : eqD (ats da 1) (ats db 1) with
 | false =>
  simp only [rGuard_ft, rPick_t, rIf_t, Bool.not_false]
  exact hF (ne_D q1) _ (x2.trans hx)
 | true =>
 simp only [rGuard_ff, rPick_f, Bool.not_true, la2 σ2 hx, lb2 σ2 hx, c2]
 cases q2 : eqD (ats da 2) (ats db 2) with
 | false =>
  simp only [rGuard_ft, rPick_t, rIf_t, Bool.not_false]
  exact hF (ne_D q2) _ (x2.trans hx)
 | true =>
 simp only [rGuard_ff, rPick_f, Bool.not_true, la3 σ2 hx, lb3 σ2 hx, c3]
 cases q3 : eqD (ats da 3) (ats db 3) with
 | false =>
  simp only [rGuard_ft, rPick_t, rIf_t, Bool.not_false]
  exact hF (ne_D q3) _ (x2.trans hx)
 | true =>
 simp only [rGuard_ff, rPick_f, Bool.not_true, la4 σ2 hx, lb4 σ2 hx, c4]
 cases q4 : eqD (ats da 4) (ats db 4) with
 | false =>
  simp only [rGuard_ft, rPick_t, rIf_t, Bool.not_false]
  exact hF (ne_D q4) _ (x2.trans hx)
 | true =>
 simp only [rGuard_ff, rPick_f, Bool.not_true, la5 σ2 hx, lb5 σ2 hx, c5]
 cases q5 : eqD (ats da 5) (ats db 5) with
 | false =>
  simp only [rGuard_ft, rPick_t, rIf_t, Bool.not_false]
  exact hF (ne_D q5) _ (x2.trans hx)
 | true =>
 simp only [rGuard_ff, rPick_f, Bool.not_true, la6 σ2 hx, lb6 σ2 hx, c6]
 cases q6 : eqD (ats da 6) (ats db 6) with
 | false =>
  simp only [rGuard_ft, rPick_t, rIf_t, Bool.not_false]
  exact hF (ne_D q6) _ (x2.trans hx)
 | true =>
 simp only [rGuard_ff, rPick_f, Bool.not_true, la7 σ2 hx, lb7 σ2 hx, c7]
 cases q7 : eqD (ats da 7) (ats db 7) with
 | false =>
  simp only [rGuard_ft, rPick_t, rIf_t, Bool.not_false]
  exact hF (ne_D q7) _ (x2.trans hx)
 | true =>
 simp only [rGuard_ff, rPick_f, Bool.not_true, la8 σ2 hx, lb8 σ2 hx, c8]
 cases q8 : eqD (ats da 8) (ats db 8) with
 | false =>
  simp only [rGuard_ft, rPick_t, rIf_t, Bool.not_false]
  exact hF (ne_D q8) _ (x2.trans hx)
 | true =>
 simp only [rGuard_ff, rPick_f, Bool.not_true, la9 σ2 hx, lb9 σ2 hx, c9]
 cases q9 : eqD (ats da 9) (ats db 9) with
 | false =>
  simp only [rGuard_ft, rPick_t, rIf_t, Bool.not_false]
  exact hF (ne_D q9) _ (x2.trans hx)
 | true =>
 simp only [rGuard_ff, rPick_f, Bool.not_true, la10 σ2 hx, lb10 σ2 hx, ra10.listL.2, rb10.listL.2, rBin_neqN, lenL]
 cases q10 : decide ((esOf (ats da 10)).length = (esOf (ats db 10)).length) with
 | false =>
  simp only [rIf_t, Bool.not_false]
  exact hF (fun e => by subst e; simp at q10) _ (x2.trans hx)
 | true =>
  simp only [Bool.not_true, rIf_f]
  have hN : (esOf (ats da 10)).length ≤ 140737488355328 := ra10.listL.1
  rw [X_most]
  refine cmp_ref14_Same_tail hM (n := n) sa sb ra10 rb10 la10 lb10 (of_decide_eq_true q10) (K := K) (esOf (ats da 10)).length 0 most σ2 (by omega) (by omega) hx fun σ9 x9 => ?_
  rw [List.drop_zero, List.drop_zero]
  cases he : eqLL (esOf (ats da 10)) (esOf (ats db 10)) with
  | false => exact hF (fun e => by subst e; rw [eqLL_refl] at he; cases he) _ (x2.trans x9)
  | true => exact hT (ats_ext hla hlb fun j hj => by
   have h : j = 0 ∨ j = 1 ∨ j = 2 ∨ j = 3 ∨ j = 4 ∨ j = 5 ∨ j = 6 ∨ j = 7 ∨ j = 8 ∨ j = 9 ∨ j = 10 := by omega
   rcases h with rfl | rfl | rfl | rfl | rfl | rfl | rfl | rfl | rfl | rfl | rfl
   · exact (eqD_iff _ _).1 q0
   · exact (eqD_iff _ _).1 q1
   · exact (eqD_iff _ _).1 q2
   · exact (eqD_iff _ _).1 q3
   · exact (eqD_iff _ _).1 q4
   · exact (eqD_iff _ _).1 q5
   · exact (eqD_iff _ _).1 q6
   · exact (eqD_iff _ _).1 q7
   · exact (eqD_iff _ _).1 q8
   · exact (eqD_iff _ _).1 q9
   · exact by rw [ea10, eb10, (eqLL_iff _ _).1 he]) _ (x2.trans x9)

theorem cmp_ref14_Msgs_loop (hM : 140737488355328 < most) {n : Nat} {σ : St} {C C' : Nat → Prop} {a b : Value} {es fs : List (List D)} {K : VK} (ha : Rd σ C (.list itsMsg) a (.l es)) (hb : Rd σ C' (.list itsMsg) b (.l fs)) (he : es.length = fs.length) :
 ∀ (r i m : Nat) (σ' : St), i + r = es.length → r < m → Ext' σ σ' → (∀ σ2, Ext' σ σ2 → K (.bool (eqLL (es.drop i) (fs.drop i))) σ2 = true) → l_ref14_Msgs_rrlrd (X most (n + 1)) m a b (.int .i64 (.ofNat i)) σ' K = true := by
 obtain ⟨hN, hlen⟩ := ha.listL
 have hN : es.length ≤ 140737488355328 := hN
 intro r
 induction r with
 | zero =>
  intro i m σ' hi hm hx hK
  obtain ⟨m, rfl⟩ := Nat.exists_eq_succ_of_ne_zero (show m ≠ 0 by omega)
  rw [l_ref14_Msgs_rrlrdE]
  unfold l_ref14_Msgs_rrlrdB
  rw [hlen, rBin_lssN, show decide (i < lenL (.l es)) = false from decide_eq_false (show ¬ i < es.length by omega), rIf_f]
  have := hK σ' hx
  rwa [eqLL_end (by omega) (by omega)] at this
 | succ r ih =>
  intro i m σ' hi hm hx hK
  obtain ⟨m, rfl⟩ := Nat.exists_eq_succ_of_ne_zero (show m ≠ 0 by omega)
  have hlt : i < es.length := by omega
  have hlt2 : i < fs.length := by omega
  rw [l_ref14_Msgs_rrlrdE]
  unfold l_ref14_Msgs_rrlrdB
  rw [hlen, rBin_lssN, show decide (i < lenL (.l es)) = true from decide_eq_true (show i < es.length from hlt), rIf_t]
  obtain ⟨ba, oa, sa, ia⟩ := ha.at hlt 11 rfl
  obtain ⟨bb, ob, sb, ib⟩ := hb.at hlt2 11 rfl
  obtain ⟨ca, ra, la⟩ := (sa.fr (hx.fr _)).lda 11 rfl
  obtain ⟨cb, rb, lb⟩ := (sb.fr (hx.fr _)).lda 11 rfl
  rw [ia, la σ' (.refl σ'), ib, lb σ' (.refl σ')]
  refine cmp_ref14_Same hM n ra rb fun σ3 x3 => ?_
  rw [unK_not]
  cases hq : eqL es[i] fs[i] with
  | false =>
   simp only [Bool.not_false, rIf_t]
   have := hK σ3 (hx.trans x3)
   rw [eqLL_drop hlt hlt2, hq] at this
   exact this
  | true =>
   simp only [Bool.not_true, rIf_f]
   rw [rBin_add _ _ _ _ (by omega)]
   refine ih (i + 1) m σ3 (by omega) (by omega) (hx.trans x3) fun σ2 x2 => ?_
   have := hK σ2 x2
   rw [eqLL_drop hlt hlt2, hq] at this
   exact this
theorem cmp_ref14_Msgs (hM : 140737488355328 < most) : CmpL most c_ref14_Msgs itsMsg 2 := by
 intro n σ C C' a b es fs K ha hb hK
 rw [X_call (by rfl), f_ref14_Msgs]
 unfold r_ref14_Msgs
 rw [ha.listL.2, hb.listL.2, rBin_neqN]
 by_cases he : es.length = fs.length
 · rw [show decide (lenL (.l es) = lenL (.l fs)) = true from decide_eq_true he]
   show rIf zF _ _ = true
   rw [rIf_f, X_most]
   have hN : es.length ≤ 140737488355328 := ha.listL.1
   exact cmp_ref14_Msgs_loop hM ha hb he es.length 0 most σ (by omega) (by omega) (.refl σ) fun σ2 x2 => hK σ2 x2
 · rw [show decide (lenL (.l es) = lenL (.l fs)) = false from decide_eq_false he]
   show rIf (.bool true) _ _ = true
   rw [rIf_t]
   have := hK σ (.refl σ)
   rwa [eqLL_len he] at this

set_option maxRecDepth 100000 in
theorem cmp_ref16_Same (hM : 140737488355328 < most) : CmpS most c_ref16_Same itsVoting 2 := by
 intro n σ C C' va vb da db K ha hb hK
 have hT : da = db → ∀ σ', Ext' σ σ' → K (.bool true) σ' = true := fun e σ' hx => by
  have := hK σ' hx
  rwa [(eqL_iff da db).2 e] at this
 have hF : da ≠ db → ∀ σ', Ext' σ σ' → K zF σ' = true := fun e σ' hx => by
  have := hK σ' hx
  rwa [show eqL da db = false from by
   cases hq : eqL da db with
   | false => rfl
   | true => exact absurd ((eqL_iff da db).1 hq) e] at this
 have hla : da.length = 15 := ha.dlen
 have hlb : db.length = 15 := hb.dlen
 rw [X_call (by rfl), f_ref16_Same]
 unfold r_ref16_Same
 refine two_boxes ha hb _ fun b1 b2 σ2 x2 sa sb => ?_
 obtain ⟨u0, w0, la0, lb0, c0⟩ := both_int_e sa sb 0 rfl
 obtain ⟨u1, w1, la1, lb1, c1⟩ := both_int_e sa sb 1 rfl
 obtain ⟨u2, w2, la2, lb2, c2⟩ := both_int_e sa sb 2 rfl
 obtain ⟨u3, w3, la3, lb3, c3⟩ := both_int_e sa sb 3 rfl
 obtain ⟨u4, w4, la4, lb4, c4⟩ := both_int_e sa sb 4 rfl
 obtain ⟨u5, w5, la5, lb5, c5⟩ := both_int_e sa sb 5 rfl
 obtain ⟨u6, w6, la6, lb6, c6⟩ := both_int_e sa sb 6 rfl
 obtain ⟨u7, w7, la7, lb7, c7⟩ := both_text_e sa sb 7 rfl
 obtain ⟨u8, w8, la8, lb8, c8⟩ := both_text_e sa sb 8 rfl
 obtain ⟨u9, w9, la9, lb9, c9⟩ := both_int_e sa sb 9 rfl
 obtain ⟨u10, w10, la10, lb10, c10⟩ := both_int_e sa sb 10 rfl
 obtain ⟨u11, w11, la11, lb11, c11⟩ := both_is_e sa sb 11 rfl
 obtain ⟨u12, w12, la12, lb12, c12⟩ := both_is_e sa sb 12 rfl
 obtain ⟨u13, w13, la13, lb13, c13⟩ := both_text_e sa sb 13 rfl
 obtain ⟨u14, ra14, la14, ea14⟩ := sa.list0 14 (its' := itsVote) rfl
 obtain ⟨w14, rb14, lb14, eb14⟩ := sb.list0 14 (its' := itsVote) rfl
 have hx : Ext' σ2 σ2 := .refl σ2
 simp only [rFld_p, Nat.zero_add, la0 σ2 hx, lb0 σ2 hx, c0]
 cases q0 : eqD (ats da 0) (ats db 0) with
 | false =>
  simp only [shut_eq, rGuard_tf, rPick_f]
  exact hF (ne_D q0) _ (x2.trans hx)
 | true =>
 simp only [shut_eq, rGuard_tt, rPick_t, la1 σ2 hx, lb1 σ2 hx, c1]
 cases q1 : eqD (ats da 1) (ats db 1) with
 | false =>
  simp only [rGuard_tf, rPick_f]
  exact hF (ne_D q1) _ (x2.trans hx)
 | true =>
 simp only [rGuard_tt, rPick_t, la2 σ2 hx, lb2 σ2 hx, c2]
 cases q2 : eqD (ats da 2) (ats db 2) with
 | false =>
  simp only [rGuard_tf, rPick_f]
  exact hF (ne_D q2) _ (x2.trans hx)
 | true =>
 simp only [rGuard_tt, rPick_t, la3 σ2 hx, lb3 σ2 hx, c3]
 cases q3 : eqD (ats da 3) (ats db 3) with
 | false =>
  simp only [rGuard_tf, rPick_f]
  exact hF (ne_D q3) _ (x2.trans hx)
 | true =>
 simp only [rGuard_tt, rPick_t, la4 σ2 hx, lb4 σ2 hx, c4]
 cases q4 : eqD (ats da 4) (ats db 4) with
 | false =>
  simp only [rGuard_tf, rPick_f]
  exact hF (ne_D q4) _ (x2.trans hx)
 | true =>
 simp only [rGuard_tt, rPick_t, la5 σ2 hx, lb5 σ2 hx, c5]
 cases q5 : eqD (ats da 5) (ats db 5) with
 | false =>
  simp only [rGuard_tf, rPick_f]
  exact hF (ne_D q5) _ (x2.trans hx)
 | true =>
 simp only [rGuard_tt, rPick_t, la6 σ2 hx, lb6 σ2 hx, c6]
 cases q6 : eqD (ats da 6) (ats db 6) with
 | false =>
  simp only [rGuard_tf, rPick_f]
  exact hF (ne_D q6) _ (x2.trans hx)
 | true =>
 simp only [rGuard_tt, rPick_t, la7 σ2 hx, lb7 σ2 hx, c7]
 cases q7 : eqD (ats da 7) (ats db 7) with
 | false =>
  simp only [rGuard_tf, rPick_f]
  exact hF (ne_D q7) _ (x2.trans hx)
 | true =>
 simp only [rGuard_tt, rPick_t, la8 σ2 hx, lb8 σ2 hx, c8]
 cases q8 : eqD (ats da 8) (ats db 8) with
 | false =>
  simp only [rGuard_tf, rPick_f]
  exact hF (ne_D q8) _ (x2.trans hx)
 | true =>
 simp only [rGuard_tt, rPick_t, la9 σ2 hx, lb9 σ2 hx, c9]
 cases q9 : eqD (ats da 9) (ats db 9) with
 | false =>
  simp only [rGuard_tf, rPick_f]
  exact hF (ne_D q9) _ (x2.trans hx)
 | true =>
 simp only [rGuard_tt, rPick_t, la10 σ2 hx, lb10 σ2 hx, c10]
 cases q10 : eqD (ats da 10) (ats db 10) with
 | false =>
  simp only [rGuard_tf, rPick_f]
  exact hF (ne_D q10) _ (x2.trans hx)
 | true =>
 simp only [rGuard_tt, rPick_t, la11 σ2 hx, lb11 σ2 hx, c11]
 cases q11 : eqD (ats da 11) (ats db 11) with
 | false =>
  simp only [rGuard_tf, rPick_f]
  exact hF (ne_D q11) _ (x2.trans hx)
 | true =>
 simp only [rGuard_tt, rPick_t, la12 σ2 hx, lb12 σ2 hx, c12]
 cases q12 : eqD (ats da 12) (ats db 12) with
 | false =>
  simp only [rGuard_tf, rPick_f]
  exact hF (ne_D q12) _ (x2.trans hx)
 | true =>
 simp only [rGuard_tt, rPick_t, la13 σ2 hx, lb13 σ2 hx, c13]
 cases q13 : eqD (ats da 13) (ats db 13) with
 | false =>
  simp only [rGuard_tf, rPick_f]
  exact hF (ne_D q13) _ (x2.trans hx)
 | true =>
 simp only [rGuard_tt, rPick_t, la14 σ2 hx, lb14 σ2 hx]
 refine cmp_ref15_Same hM (n + 0) (ra14.fr (hx.fr _)) (rb14.fr (hx.fr _)) fun σ3 y3 => ?_
 have hx3 := hx.trans y3
 cases q14 : eqLL (esOf (ats da 14)) (esOf (ats db 14)) with
 | false =>
  exact hF (ne_LL q14) _ (x2.trans hx3)
 | true =>
  exact hT (ats_ext hla hlb fun j hj => by
   have h : j = 0 ∨ j = 1 ∨ j = 2 ∨ j = 3 ∨ j = 4 ∨ j = 5 ∨ j = 6 ∨ j = 7 ∨ j = 8 ∨ j = 9 ∨ j = 10 ∨ j = 11 ∨ j = 12 ∨ j = 13 ∨ j = 14 := by omega
   rcases h with rfl | rfl | rfl | rfl | rfl | rfl | rfl | rfl | rfl | rfl | rfl | rfl | rfl | rfl | rfl
   · exact (eqD_iff _ _).1 q0
   · exact (eqD_iff _ _).1 q1
   · exact (eqD_iff _ _).1 q2
   · exact (eqD_iff _ _).1 q3
   · exact (eqD_iff _ _).1 q4
   · exact (eqD_iff _ _).1 q5
   · exact (eqD_iff _ _).1 q6
   · exact (eqD_iff _ _).1 q7
   · exact (eqD_iff _ _).1 q8
   · exact (eqD_iff _ _).1 q9
   · exact (eqD_iff _ _).1 q10
   · exact (eqD_iff _ _).1 q11
   · exact (eqD_iff _ _).1 q12
   · exact (eqD_iff _ _).1 q13
   · exact by rw [ea14, eb14, (eqLL_iff _ _).1 q14]) _ (x2.trans hx3)

theorem cmp_ref17_Same_tail (hM : 140737488355328 < most) {n : Nat} {σ : St} {C C' : Nat → Prop} {b1 b2 : Nat} {da db : List D} {a b : Value} {es fs : List (List D)} {K : VK} (_sa : Stc σ C itsRows b1 0 da) (_sb : Stc σ C' itsRows b2 0 db) (ha : Rd σ C (.list itsSaid) a (.l es)) (hb : Rd σ C' (.list itsSaid) b (.l fs))
 (la : ∀ σ', Ext' σ σ' → ∀ K, rLd (pt b1 18) σ' K = K a σ') (lb : ∀ σ', Ext' σ σ' → ∀ K, rLd (pt b2 18) σ' K = K b σ') (he : es.length = fs.length) :
 ∀ (r i m : Nat) (σ' : St), i + r = es.length → r < m → Ext' σ σ' → (∀ σ2, Ext' σ σ2 → K (.bool (eqLL (es.drop i) (fs.drop i))) σ2 = true) → l_ref17_Same_rrlrd (X most (n + 2)) m (pt b1 0) (pt b2 0) (.int .i64 (.ofNat i)) σ' K = true := by
 obtain ⟨hN, hlen⟩ := ha.listL
 have hN : es.length ≤ 140737488355328 := hN
 intro r
 induction r with
 | zero =>
  intro i m σ' hi hm hx hK
  obtain ⟨m, rfl⟩ := Nat.exists_eq_succ_of_ne_zero (show m ≠ 0 by omega)
  rw [l_ref17_Same_rrlrdE]
  unfold l_ref17_Same_rrlrdB
  rw [rFld_p, Nat.zero_add, la σ' hx, hlen, rBin_lssN, show decide (i < lenL (.l es)) = false from decide_eq_false (show ¬ i < es.length by omega), rIf_f]
  have := hK σ' hx
  rwa [eqLL_end (by omega) (by omega)] at this
 | succ r ih =>
  intro i m σ' hi hm hx hK
  obtain ⟨m, rfl⟩ := Nat.exists_eq_succ_of_ne_zero (show m ≠ 0 by omega)
  have hlt : i < es.length := by omega
  have hlt2 : i < fs.length := by omega
  rw [l_ref17_Same_rrlrdE]
  unfold l_ref17_Same_rrlrdB
  rw [rFld_p, Nat.zero_add, la σ' hx, hlen, rBin_lssN, show decide (i < lenL (.l es)) = true from decide_eq_true (show i < es.length from hlt), rIf_t]
  obtain ⟨ba, oa, sa', ia⟩ := ha.at hlt 2 rfl
  obtain ⟨bb, ob, sb', ib⟩ := hb.at hlt2 2 rfl
  obtain ⟨ca, ra', lca⟩ := (sa'.fr (hx.fr _)).lda 2 rfl
  obtain ⟨cb, rb', lcb⟩ := (sb'.fr (hx.fr _)).lda 2 rfl
  simp only [rFld_p, Nat.zero_add, la σ' hx, lb σ' hx, ia, ib, lca σ' (.refl σ'), lcb σ' (.refl σ')]
  rw [(cmp_agg (its := itsSaid) (by kernel_rfl) (by decide) ra' rb' _).2]
  cases hq : eqL es[i] fs[i] with
  | false =>
   simp only [Bool.not_false, rIf_t]
   have := hK σ' hx
   rw [eqLL_drop hlt hlt2, hq] at this
   exact this
  | true =>
   simp only [Bool.not_true, rIf_f]
   rw [rBin_add _ _ _ _ (by omega)]
   refine ih (i + 1) m σ' (by omega) (by omega) hx fun σ2 x2 => ?_
   have := hK σ2 x2
   rw [eqLL_drop hlt hlt2, hq] at this
   exact this

set_option maxRecDepth 100000 in
theorem cmp_ref17_Same (hM : 140737488355328 < most) : CmpS most c_ref17_Same itsRows 3 := by
 intro n σ C C' va vb da db K ha hb hK
 have hT : da = db → ∀ σ', Ext' σ σ' → K (.bool true) σ' = true := fun e σ' hx => by
  have := hK σ' hx
  rwa [(eqL_iff da db).2 e] at this
 have hF : da ≠ db → ∀ σ', Ext' σ σ' → K zF σ' = true := fun e σ' hx => by
  have := hK σ' hx
  rwa [show eqL da db = false from by
   cases hq : eqL da db with
   | false => rfl
   | true => exact absurd ((eqL_iff da db).1 hq) e] at this
 have hla : da.length = 20 := ha.dlen
 have hlb : db.length = 20 := hb.dlen
 rw [X_call (by rfl), f_ref17_Same]
 unfold r_ref17_Same
 refine two_boxes ha hb _ fun b1 b2 σ2 x2 sa sb => ?_
 obtain ⟨u0, w0, la0, lb0, c0⟩ := both_int_n sa sb 0 rfl
 obtain ⟨u1, w1, la1, lb1, c1⟩ := both_text_n sa sb 1 rfl
 obtain ⟨u2, w2, la2, lb2, c2⟩ := both_is_n sa sb 2 rfl
 have pa3 := sa.part 3 15 (by decide)
 have pb3 := sb.part 3 15 (by decide)
 rw [Nat.zero_add] at pa3 pb3
 obtain ⟨ca3, ra3, la3⟩ := Stc.lda (its := itsVoting) pa3 15 rfl
 obtain ⟨cb3, rb3, lb3⟩ := Stc.lda (its := itsVoting) pb3 15 rfl
 obtain ⟨u18, ra18, la18, ea18⟩ := sa.list0 18 (its' := itsSaid) rfl
 obtain ⟨w18, rb18, lb18, eb18⟩ := sb.list0 18 (its' := itsSaid) rfl
 obtain ⟨u19, ra19, la19, ea19⟩ := sa.list0 19 (its' := itsMsg) rfl
 obtain ⟨w19, rb19, lb19, eb19⟩ := sb.list0 19 (its' := itsMsg) rfl
 have hx : Ext' σ2 σ2 := .refl σ2
 simp only [rFld_p, Nat.zero_add, la0 σ2 hx, lb0 σ2 hx, c0]
 cases q0 : eqD (ats da 0) (ats db 0) with
 | false =>
  simp only [shut_eq, rGuard_ft, rPick_t, rIf_t, Bool.not_false]
  exact hF (ne_D q0) _ (x2.trans hx)
 | true =>
 simp only [shut_eq, rGuard_ff, rPick_f, Bool.not_true, la1 σ2 hx, lb1 σ2 hx, c1]
 cases q1 : eqD (ats da 1) (ats db 1) with
 | false =>
  simp only [rGuard_ft, rPick_t, rIf_t, Bool.not_false]
  exact hF (ne_D q1) _ (x2.trans hx)
 | true =>
 simp only [rGuard_ff, rPick_f, Bool.not_true, la2 σ2 hx, lb2 σ2 hx, c2]
 cases q2 : eqD (ats da 2) (ats db 2) with
 | false =>
  simp only [rGuard_ft, rPick_t, rIf_t, Bool.not_false]
  exact hF (ne_D q2) _ (x2.trans hx)
 | true =>
 simp only [rGuard_ff, rPick_f, Bool.not_true, la3 σ2 hx, lb3 σ2 hx]
 refine cmp_ref16_Same hM (n + 0) (ra3.fr (hx.fr _)) (rb3.fr (hx.fr _)) fun σ3 y3 => ?_
 have hx3 := hx.trans y3
 simp only [unK_not]
 cases q3 : eqL ((da.drop 3).take 15) ((db.drop 3).take 15) with
 | false =>
  simp only [rGuard_ft, rPick_t, rIf_t, Bool.not_false]
  exact hF (ne_L q3) _ (x2.trans hx3)
 | true =>
 simp only [rGuard_ff, rPick_f, Bool.not_true, la18 σ3 hx3, lb18 σ3 hx3, ra18.listL.2, rb18.listL.2, rBin_neqN, lenL]
 cases q18 : decide ((esOf (ats da 18)).length = (esOf (ats db 18)).length) with
 | false =>
  simp only [rGuard_ft, rPick_t, rIf_t, Bool.not_false]
  exact hF (fun e => by subst e; simp at q18) _ (x2.trans hx3)
 | true =>
 simp only [rGuard_ff, rPick_f, Bool.not_true, la19 σ3 hx3, lb19 σ3 hx3]
 refine cmp_ref14_Msgs hM (n + 0) (ra19.fr (hx3.fr _)) (rb19.fr (hx3.fr _)) fun σ4 y4 => ?_
 have hx4 := hx3.trans y4
 simp only [unK_not]
 cases q19 : eqLL (esOf (ats da 19)) (esOf (ats db 19)) with
 | false =>
  simp only [rIf_t, Bool.not_false]
  exact hF (ne_LL q19) _ (x2.trans hx4)
 | true =>
  simp only [Bool.not_true, rIf_f]
  have hN : (esOf (ats da 18)).length ≤ 140737488355328 := ra18.listL.1
  rw [X_most]
  refine cmp_ref17_Same_tail hM (n := n) sa sb ra18 rb18 la18 lb18 (of_decide_eq_true q18) (K := K) (esOf (ats da 18)).length 0 most σ4 (by omega) (by omega) hx4 fun σ9 x9 => ?_
  rw [List.drop_zero, List.drop_zero]
  cases he : eqLL (esOf (ats da 18)) (esOf (ats db 18)) with
  | false => exact hF (fun e => by subst e; rw [eqLL_refl] at he; cases he) _ (x2.trans x9)
  | true => exact hT (ats_ext hla hlb fun j hj => by
   have h : j = 0 ∨ j = 1 ∨ j = 2 ∨ j = 3 ∨ j = 4 ∨ j = 5 ∨ j = 6 ∨ j = 7 ∨ j = 8 ∨ j = 9 ∨ j = 10 ∨ j = 11 ∨ j = 12 ∨ j = 13 ∨ j = 14 ∨ j = 15 ∨ j = 16 ∨ j = 17 ∨ j = 18 ∨ j = 19 := by omega
   rcases h with rfl | rfl | rfl | rfl | rfl | rfl | rfl | rfl | rfl | rfl | rfl | rfl | rfl | rfl | rfl | rfl | rfl | rfl | rfl | rfl
   · exact (eqD_iff _ _).1 q0
   · exact (eqD_iff _ _).1 q1
   · exact (eqD_iff _ _).1 q2
   · exact part_eq (k := 3) (m := 15) hla hlb ((eqL_iff _ _).1 q3) 0 (by omega) (by omega)
   · exact part_eq (k := 3) (m := 15) hla hlb ((eqL_iff _ _).1 q3) 1 (by omega) (by omega)
   · exact part_eq (k := 3) (m := 15) hla hlb ((eqL_iff _ _).1 q3) 2 (by omega) (by omega)
   · exact part_eq (k := 3) (m := 15) hla hlb ((eqL_iff _ _).1 q3) 3 (by omega) (by omega)
   · exact part_eq (k := 3) (m := 15) hla hlb ((eqL_iff _ _).1 q3) 4 (by omega) (by omega)
   · exact part_eq (k := 3) (m := 15) hla hlb ((eqL_iff _ _).1 q3) 5 (by omega) (by omega)
   · exact part_eq (k := 3) (m := 15) hla hlb ((eqL_iff _ _).1 q3) 6 (by omega) (by omega)
   · exact part_eq (k := 3) (m := 15) hla hlb ((eqL_iff _ _).1 q3) 7 (by omega) (by omega)
   · exact part_eq (k := 3) (m := 15) hla hlb ((eqL_iff _ _).1 q3) 8 (by omega) (by omega)
   · exact part_eq (k := 3) (m := 15) hla hlb ((eqL_iff _ _).1 q3) 9 (by omega) (by omega)
   · exact part_eq (k := 3) (m := 15) hla hlb ((eqL_iff _ _).1 q3) 10 (by omega) (by omega)
   · exact part_eq (k := 3) (m := 15) hla hlb ((eqL_iff _ _).1 q3) 11 (by omega) (by omega)
   · exact part_eq (k := 3) (m := 15) hla hlb ((eqL_iff _ _).1 q3) 12 (by omega) (by omega)
   · exact part_eq (k := 3) (m := 15) hla hlb ((eqL_iff _ _).1 q3) 13 (by omega) (by omega)
   · exact part_eq (k := 3) (m := 15) hla hlb ((eqL_iff _ _).1 q3) 14 (by omega) (by omega)
   · exact by rw [ea18, eb18, (eqLL_iff _ _).1 he]
   · exact by rw [ea19, eb19, (eqLL_iff _ _).1 q19]) _ (x2.trans x9)

theorem Stc.numsV {σ : St} {C : Nat → Prop} {its : List It} {b o : Nat} {ds : List D} (h : Stc σ C its b o ds) (j : Nat) (hj : its[j]? = some .nums) : ∃ v, Rd σ C (.list [.num]) v (.l (esOf (ats ds j))) ∧ (∀ σ', Ext' σ σ' → ∀ K, rLd (pt b (o + j)) σ' K = K v σ') ∧ ats ds j = .l (esOf (ats ds j)) := by
 obtain ⟨v, hv, hl⟩ := h.val' j hj
 have hv' : ∃ es, ats ds j = .l es ∧ Rd σ C (.list [.num]) v (.l es) := by
  generalize hd : ats ds j = d at hv
  cases hv with | nums h => exact ⟨_, rfl, h⟩
 obtain ⟨es, e, hr⟩ := hv'
 rw [e]
 exact ⟨v, hr, hl, rfl⟩
theorem eqL_two {ds es : List D} (h1 : ds.length = 2) (h2 : es.length = 2) : eqL ds es = (eqD (ats ds 0) (ats es 0) && eqD (ats ds 1) (ats es 1)) := by
 match ds, es, h1, h2 with
 | [a, b], [c, d], _, _ => simp [eqL, ats]
theorem eqL_three {ds es : List D} (h1 : ds.length = 3) (h2 : es.length = 3) : eqL ds es = (eqD (ats ds 0) (ats es 0) && (eqD (ats ds 1) (ats es 1) && eqD (ats ds 2) (ats es 2))) := by
 match ds, es, h1, h2 with
 | [a, b, c], [d, e, f], _, _ => simp [eqL, ats]
theorem cmp_ref19_tolds_loop (hM : 140737488355328 < most) {n : Nat} {σ : St} {C C' : Nat → Prop} {a b : Value} {es fs : List (List D)} {K : VK} (ha : Rd σ C (.list itsTold) a (.l es)) (hb : Rd σ C' (.list itsTold) b (.l fs)) (he : es.length = fs.length) :
 ∀ (r i m : Nat) (σ' : St), i + r = es.length → r < m → Ext' σ σ' → (∀ σ2, Ext' σ σ2 → K (.bool (eqLL (es.drop i) (fs.drop i))) σ2 = true) → l_ref19_tolds_rrlrd (X most (n + 1)) m a b (.int .i64 (.ofNat i)) σ' K = true := by
 obtain ⟨hN, hlen⟩ := ha.listL
 have hN : es.length ≤ 140737488355328 := hN
 intro r
 induction r with
 | zero =>
  intro i m σ' hi hm hx hK
  obtain ⟨m, rfl⟩ := Nat.exists_eq_succ_of_ne_zero (show m ≠ 0 by omega)
  rw [l_ref19_tolds_rrlrdE]
  unfold l_ref19_tolds_rrlrdB
  rw [hlen, rBin_lssN, show decide (i < lenL (.l es)) = false from decide_eq_false (show ¬ i < es.length by omega), rIf_f]
  have := hK σ' hx
  rwa [eqLL_end (by omega) (by omega)] at this
 | succ r ih =>
  intro i m σ' hi hm hx hK
  obtain ⟨m, rfl⟩ := Nat.exists_eq_succ_of_ne_zero (show m ≠ 0 by omega)
  have hlt : i < es.length := by omega
  have hlt2 : i < fs.length := by omega
  rw [l_ref19_tolds_rrlrdE]
  unfold l_ref19_tolds_rrlrdB
  rw [hlen, rBin_lssN, show decide (i < lenL (.l es)) = true from decide_eq_true (show i < es.length from hlt), rIf_t]
  obtain ⟨ba, oa, sa, ia⟩ := ha.at hlt 2 rfl
  obtain ⟨bb, ob, sb, ib⟩ := hb.at hlt2 2 rfl
  obtain ⟨u0, ra0, la0⟩ := sa.val' 0 (it := .int) rfl
  obtain ⟨w0, rb0, lb0⟩ := sb.val' 0 (it := .int) rfl
  obtain ⟨u1, ra1, la1, ea1⟩ := sa.numsV 1 rfl
  obtain ⟨w1, rb1, lb1, eb1⟩ := sb.numsV 1 rfl
  have su : sameV u0 u0 = true := by obtain ⟨z, rfl, _⟩ := ra0.int_inv; exact sameV_int _ _
  have sw : sameV w0 w0 = true := by obtain ⟨z, rfl, _⟩ := rb0.int_inv; exact sameV_int _ _
  have h2 := eqL_two sa.len sb.len
  simp only [ia, ib, rFld_p, la0 σ' hx, lb0 σ' hx, (cmp_int ra0 rb0 _ _).2]
  cases q0 : eqD (ats es[i] 0) (ats fs[i] 0) with
  | false =>
   simp only [Bool.not_false, shut_eq, rGuard_ft, la0 σ' hx, lb0 σ' hx, rSame_v su, rSame_v sw, rPick_t, rIf_t]
   have := hK σ' hx
   rw [eqLL_drop hlt hlt2, h2, q0] at this
   exact this
  | true =>
   simp only [Bool.not_true, shut_eq, rGuard_ff, ia, ib, rFld_p, la1 σ' hx, lb1 σ' hx]
   refine cmp_ref03_Numbers hM n (ra1.fr (hx.fr _)) (rb1.fr (hx.fr _)) fun σ3 x3 => ?_
   have hx3 := hx.trans x3
   simp only [la0 σ3 hx3, lb0 σ3 hx3, rSame_v su, rSame_v sw, unK_not, rPick_f]
   rw [q0, ea1, eb1] at h2
   have h2 : eqL es[i] fs[i] = eqLL (esOf (ats es[i] 1)) (esOf (ats fs[i] 1)) := h2
   cases q1 : eqLL (esOf (ats es[i] 1)) (esOf (ats fs[i] 1)) with
   | false =>
    simp only [Bool.not_false, rIf_t]
    have := hK σ3 hx3
    rw [eqLL_drop hlt hlt2, h2, q1] at this
    exact this
   | true =>
    simp only [Bool.not_true, rIf_f]
    rw [rBin_add _ _ _ _ (by omega)]
    refine ih (i + 1) m σ3 (by omega) (by omega) hx3 fun σ4 x4 => ?_
    have := hK σ4 x4
    rw [eqLL_drop hlt hlt2, h2, q1] at this
    exact this
theorem cmp_ref19_tolds (hM : 140737488355328 < most) : CmpL most c_ref19_tolds itsTold 2 := by
 intro n σ C C' a b es fs K ha hb hK
 rw [X_call (by rfl), f_ref19_tolds]
 unfold r_ref19_tolds
 rw [ha.listL.2, hb.listL.2, rBin_neqN]
 by_cases he : es.length = fs.length
 · rw [show decide (lenL (.l es) = lenL (.l fs)) = true from decide_eq_true he]
   show rIf zF _ _ = true
   rw [rIf_f, X_most]
   have hN : es.length ≤ 140737488355328 := ha.listL.1
   exact cmp_ref19_tolds_loop hM ha hb he es.length 0 most σ (by omega) (by omega) (.refl σ) fun σ2 x2 => hK σ2 x2
 · rw [show decide (lenL (.l es) = lenL (.l fs)) = false from decide_eq_false he]
   show rIf (.bool true) _ _ = true
   rw [rIf_t]
   have := hK σ (.refl σ)
   rwa [eqLL_len he] at this

set_option maxRecDepth 100000 in
theorem cmp_ref19_Same (hM : 140737488355328 < most) : CmpS most c_ref19_Same itsDealing 3 := by
 intro n σ C C' va vb da db K ha hb hK
 have hT : da = db → ∀ σ', Ext' σ σ' → K (.bool true) σ' = true := fun e σ' hx => by
  have := hK σ' hx
  rwa [(eqL_iff da db).2 e] at this
 have hF : da ≠ db → ∀ σ', Ext' σ σ' → K zF σ' = true := fun e σ' hx => by
  have := hK σ' hx
  rwa [show eqL da db = false from by
   cases hq : eqL da db with
   | false => rfl
   | true => exact absurd ((eqL_iff da db).1 hq) e] at this
 have hla : da.length = 8 := ha.dlen
 have hlb : db.length = 8 := hb.dlen
 rw [X_call (by rfl), f_ref19_Same]
 unfold r_ref19_Same
 refine two_boxes ha hb _ fun b1 b2 σ2 x2 sa sb => ?_
 obtain ⟨u0, w0, la0, lb0, c0⟩ := both_int_e sa sb 0 rfl
 obtain ⟨u1, w1, la1, lb1, c1⟩ := both_int_e sa sb 1 rfl
 obtain ⟨u2, ra2, la2, ea2⟩ := sa.list0 2 (its' := itsNums) rfl
 obtain ⟨w2, rb2, lb2, eb2⟩ := sb.list0 2 (its' := itsNums) rfl
 obtain ⟨u3, ra3, la3, ea3⟩ := sa.nums0 3 rfl
 obtain ⟨w3, rb3, lb3, eb3⟩ := sb.nums0 3 rfl
 obtain ⟨u4, ra4, la4, ea4⟩ := sa.list0 4 (its' := itsTold) rfl
 obtain ⟨w4, rb4, lb4, eb4⟩ := sb.list0 4 (its' := itsTold) rfl
 obtain ⟨u5, ra5, la5, ea5⟩ := sa.list0 5 (its' := itsTold) rfl
 obtain ⟨w5, rb5, lb5, eb5⟩ := sb.list0 5 (its' := itsTold) rfl
 obtain ⟨u6, ra6, la6, ea6⟩ := sa.nums0 6 rfl
 obtain ⟨w6, rb6, lb6, eb6⟩ := sb.nums0 6 rfl
 obtain ⟨u7, w7, la7, lb7, c7⟩ := both_is_e sa sb 7 rfl
 have hx : Ext' σ2 σ2 := .refl σ2
 simp only [rFld_p, Nat.zero_add, la0 σ2 hx, lb0 σ2 hx, c0]
 cases q0 : eqD (ats da 0) (ats db 0) with
 | false =>
  simp only [shut_eq, rGuard_tf, rPick_f]
  exact hF (ne_D q0) _ (x2.trans hx)
 | true =>
 simp only [shut_eq, rGuard_tt, rPick_t, la1 σ2 hx, lb1 σ2 hx, c1]
 cases q1 : eqD (ats da 1) (ats db 1) with
 | false =>
  simp only [rGuard_tf, rPick_f]
  exact hF (ne_D q1) _ (x2.trans hx)
 | true =>
 simp only [rGuard_tt, rPick_t, la2 σ2 hx, lb2 σ2 hx]
 refine cmp_ref08_Lists hM (n + 0) (ra2.fr (hx.fr _)) (rb2.fr (hx.fr _)) fun σ3 y3 => ?_
 have hx3 := hx.trans y3
 cases q2 : eqLL (esOf (ats da 2)) (esOf (ats db 2)) with
 | false =>
  simp only [rGuard_tf, rPick_f]
  exact hF (ne_LL q2) _ (x2.trans hx3)
 | true =>
 simp only [rGuard_tt, rPick_t, la3 σ3 hx3, lb3 σ3 hx3]
 refine cmp_ref03_Numbers hM (n + 1) (ra3.fr (hx3.fr _)) (rb3.fr (hx3.fr _)) fun σ4 y4 => ?_
 have hx4 := hx3.trans y4
 cases q3 : eqLL (esOf (ats da 3)) (esOf (ats db 3)) with
 | false =>
  simp only [rGuard_tf, rPick_f]
  exact hF (ne_LL q3) _ (x2.trans hx4)
 | true =>
 simp only [rGuard_tt, rPick_t, la4 σ4 hx4, lb4 σ4 hx4]
 refine cmp_ref19_tolds hM (n + 0) (ra4.fr (hx4.fr _)) (rb4.fr (hx4.fr _)) fun σ5 y5 => ?_
 have hx5 := hx4.trans y5
 cases q4 : eqLL (esOf (ats da 4)) (esOf (ats db 4)) with
 | false =>
  simp only [rGuard_tf, rPick_f]
  exact hF (ne_LL q4) _ (x2.trans hx5)
 | true =>
 simp only [rGuard_tt, rPick_t, la5 σ5 hx5, lb5 σ5 hx5]
 refine cmp_ref19_tolds hM (n + 0) (ra5.fr (hx5.fr _)) (rb5.fr (hx5.fr _)) fun σ6 y6 => ?_
 have hx6 := hx5.trans y6
 cases q5 : eqLL (esOf (ats da 5)) (esOf (ats db 5)) with
 | false =>
  simp only [rGuard_tf, rPick_f]
  exact hF (ne_LL q5) _ (x2.trans hx6)
 | true =>
 simp only [rGuard_tt, rPick_t, la6 σ6 hx6, lb6 σ6 hx6]
 refine cmp_ref03_Numbers hM (n + 1) (ra6.fr (hx6.fr _)) (rb6.fr (hx6.fr _)) fun σ7 y7 => ?_
 have hx7 := hx6.trans y7
 cases q6 : eqLL (esOf (ats da 6)) (esOf (ats db 6)) with
 | false =>
  simp only [rGuard_tf, rPick_f]
  exact hF (ne_LL q6) _ (x2.trans hx7)
 | true =>
 simp only [rGuard_tt, rPick_t, la7 σ7 hx7, lb7 σ7 hx7, c7]
 cases q7 : eqD (ats da 7) (ats db 7) with
 | false =>
  exact hF (ne_D q7) _ (x2.trans hx7)
 | true =>
  exact hT (ats_ext hla hlb fun j hj => by
   have h : j = 0 ∨ j = 1 ∨ j = 2 ∨ j = 3 ∨ j = 4 ∨ j = 5 ∨ j = 6 ∨ j = 7 := by omega
   rcases h with rfl | rfl | rfl | rfl | rfl | rfl | rfl | rfl
   · exact (eqD_iff _ _).1 q0
   · exact (eqD_iff _ _).1 q1
   · exact by rw [ea2, eb2, (eqLL_iff _ _).1 q2]
   · exact by rw [ea3, eb3, (eqLL_iff _ _).1 q3]
   · exact by rw [ea4, eb4, (eqLL_iff _ _).1 q4]
   · exact by rw [ea5, eb5, (eqLL_iff _ _).1 q5]
   · exact by rw [ea6, eb6, (eqLL_iff _ _).1 q6]
   · exact (eqD_iff _ _).1 q7) _ (x2.trans hx7)

theorem cmp_ref24_dealings_loop (hM : 140737488355328 < most) {n : Nat} {σ : St} {C C' : Nat → Prop} {a b : Value} {es fs : List (List D)} {K : VK} (ha : Rd σ C (.list itsDealing) a (.l es)) (hb : Rd σ C' (.list itsDealing) b (.l fs)) (he : es.length = fs.length) :
 ∀ (r i m : Nat) (σ' : St), i + r = es.length → r < m → Ext' σ σ' → (∀ σ2, Ext' σ σ2 → K (.bool (eqLL (es.drop i) (fs.drop i))) σ2 = true) → l_ref24_dealings_rrlrd (X most (n + 3)) m a b (.int .i64 (.ofNat i)) σ' K = true := by
 obtain ⟨hN, hlen⟩ := ha.listL
 have hN : es.length ≤ 140737488355328 := hN
 intro r
 induction r with
 | zero =>
  intro i m σ' hi hm hx hK
  obtain ⟨m, rfl⟩ := Nat.exists_eq_succ_of_ne_zero (show m ≠ 0 by omega)
  rw [l_ref24_dealings_rrlrdE]
  unfold l_ref24_dealings_rrlrdB
  rw [hlen, rBin_lssN, show decide (i < lenL (.l es)) = false from decide_eq_false (show ¬ i < es.length by omega), rIf_f]
  have := hK σ' hx
  rwa [eqLL_end (by omega) (by omega)] at this
 | succ r ih =>
  intro i m σ' hi hm hx hK
  obtain ⟨m, rfl⟩ := Nat.exists_eq_succ_of_ne_zero (show m ≠ 0 by omega)
  have hlt : i < es.length := by omega
  have hlt2 : i < fs.length := by omega
  rw [l_ref24_dealings_rrlrdE]
  unfold l_ref24_dealings_rrlrdB
  rw [hlen, rBin_lssN, show decide (i < lenL (.l es)) = true from decide_eq_true (show i < es.length from hlt), rIf_t]
  obtain ⟨ba, oa, sa, ia⟩ := ha.at hlt 8 rfl
  obtain ⟨bb, ob, sb, ib⟩ := hb.at hlt2 8 rfl
  obtain ⟨ca, ra, la⟩ := (sa.fr (hx.fr _)).lda 8 rfl
  obtain ⟨cb, rb, lb⟩ := (sb.fr (hx.fr _)).lda 8 rfl
  rw [ia, la σ' (.refl σ'), ib, lb σ' (.refl σ')]
  refine cmp_ref19_Same hM n ra rb fun σ3 x3 => ?_
  rw [unK_not]
  cases hq : eqL es[i] fs[i] with
  | false =>
   simp only [Bool.not_false, rIf_t]
   have := hK σ3 (hx.trans x3)
   rw [eqLL_drop hlt hlt2, hq] at this
   exact this
  | true =>
   simp only [Bool.not_true, rIf_f]
   rw [rBin_add _ _ _ _ (by omega)]
   refine ih (i + 1) m σ3 (by omega) (by omega) (hx.trans x3) fun σ2 x2 => ?_
   have := hK σ2 x2
   rw [eqLL_drop hlt hlt2, hq] at this
   exact this
theorem cmp_ref24_dealings (hM : 140737488355328 < most) : CmpL most c_ref24_dealings itsDealing 4 := by
 intro n σ C C' a b es fs K ha hb hK
 rw [X_call (by rfl), f_ref24_dealings]
 unfold r_ref24_dealings
 rw [ha.listL.2, hb.listL.2, rBin_neqN]
 by_cases he : es.length = fs.length
 · rw [show decide (lenL (.l es) = lenL (.l fs)) = true from decide_eq_true he]
   show rIf zF _ _ = true
   rw [rIf_f, X_most]
   have hN : es.length ≤ 140737488355328 := ha.listL.1
   exact cmp_ref24_dealings_loop hM ha hb he es.length 0 most σ (by omega) (by omega) (.refl σ) fun σ2 x2 => hK σ2 x2
 · rw [show decide (lenL (.l es) = lenL (.l fs)) = false from decide_eq_false he]
   show rIf (.bool true) _ _ = true
   rw [rIf_t]
   have := hK σ (.refl σ)
   rwa [eqLL_len he] at this

set_option maxRecDepth 100000 in
theorem cmp_ref24_Same_tail (hM : 140737488355328 < most) {n : Nat} {σ : St} {C C' : Nat → Prop} {b1 b2 : Nat} {da db : List D} {a b : Value} {es fs : List (List D)} {K : VK} (_sa : Stc σ C itsAll b1 0 da) (_sb : Stc σ C' itsAll b2 0 db) (ha : Rd σ C (.list itsDone) a (.l es)) (hb : Rd σ C' (.list itsDone) b (.l fs))
 (la : ∀ σ', Ext' σ σ' → ∀ K, rLd (pt b1 27) σ' K = K a σ') (lb : ∀ σ', Ext' σ σ' → ∀ K, rLd (pt b2 27) σ' K = K b σ') (he : es.length = fs.length) :
 ∀ (r i m : Nat) (σ' : St), i + r = es.length → r < m → Ext' σ σ' → (∀ σ2, Ext' σ σ2 → K (.bool (eqLL (es.drop i) (fs.drop i))) σ2 = true) → l_ref24_Same_rrlrd (X most (n + 4)) m (pt b1 0) (pt b2 0) (.int .i64 (.ofNat i)) σ' K = true := by
 obtain ⟨hN, hlen⟩ := ha.listL
 have hN : es.length ≤ 140737488355328 := hN
 intro r
 induction r with
 | zero =>
  intro i m σ' hi hm hx hK
  obtain ⟨m, rfl⟩ := Nat.exists_eq_succ_of_ne_zero (show m ≠ 0 by omega)
  rw [l_ref24_Same_rrlrdE]
  unfold l_ref24_Same_rrlrdB
  rw [rFld_p, Nat.zero_add, la σ' hx, hlen, rBin_lssN, show decide (i < lenL (.l es)) = false from decide_eq_false (show ¬ i < es.length by omega), rIf_f]
  have := hK σ' hx
  rwa [eqLL_end (by omega) (by omega)] at this
 | succ r ih =>
  intro i m σ' hi hm hx hK
  obtain ⟨m, rfl⟩ := Nat.exists_eq_succ_of_ne_zero (show m ≠ 0 by omega)
  have hlt : i < es.length := by omega
  have hlt2 : i < fs.length := by omega
  rw [l_ref24_Same_rrlrdE]
  unfold l_ref24_Same_rrlrdB
  rw [rFld_p, Nat.zero_add, la σ' hx, hlen, rBin_lssN, show decide (i < lenL (.l es)) = true from decide_eq_true (show i < es.length from hlt), rIf_t]
  obtain ⟨ba, oa, sa, ia⟩ := ha.at hlt 3 rfl
  obtain ⟨bb, ob, sb, ib⟩ := hb.at hlt2 3 rfl
  obtain ⟨u0, ra0, la0⟩ := sa.val' 0 (it := .int) rfl
  obtain ⟨w0, rb0, lb0⟩ := sb.val' 0 (it := .int) rfl
  obtain ⟨u1, ra1, la1⟩ := sa.val' 1 (it := .int) rfl
  obtain ⟨w1, rb1, lb1⟩ := sb.val' 1 (it := .int) rfl
  obtain ⟨u2, ra2, la2, ea2⟩ := sa.numsV 2 rfl
  obtain ⟨w2, rb2, lb2, eb2⟩ := sb.numsV 2 rfl
  have su : sameV u0 u0 = true := by obtain ⟨z, rfl, _⟩ := ra0.int_inv; exact sameV_int _ _
  have sw : sameV w0 w0 = true := by obtain ⟨z, rfl, _⟩ := rb0.int_inv; exact sameV_int _ _
  have su1 : sameV u1 u1 = true := by obtain ⟨z, rfl, _⟩ := ra1.int_inv; exact sameV_int _ _
  have sw1 : sameV w1 w1 = true := by obtain ⟨z, rfl, _⟩ := rb1.int_inv; exact sameV_int _ _
  have sA := sameV_list ha
  have sB := sameV_list hb
  have h2 := eqL_three sa.len sb.len
  simp only [rFld_p, Nat.zero_add, la σ' hx, lb σ' hx, ia, ib, la0 σ' hx, lb0 σ' hx, (cmp_int ra0 rb0 _ _).2]
  cases q0 : eqD (ats es[i] 0) (ats fs[i] 0) with
  | false =>
   simp only [Bool.not_false, shut_eq, rGuard_ft, rGuardC_ft, la σ' hx, lb σ' hx, la0 σ' hx, lb0 σ' hx, rSame_v su, rSame_v sw, rSame_v sA, rSame_v sB, rPick_t, rIf_t]
   have := hK σ' hx
   rw [eqLL_drop hlt hlt2, h2, q0] at this
   exact this
  | true =>
   simp only [Bool.not_true, shut_eq, rGuard_ff, rFld_p, la σ' hx, lb σ' hx, ia, ib, la1 σ' hx, lb1 σ' hx, (cmp_int ra1 rb1 _ _).2, rPick_f]
   cases q1 : eqD (ats es[i] 1) (ats fs[i] 1) with
   | false =>
    simp only [Bool.not_false, rGuard_ft, rGuardC_ft, rGuardC_ff, la σ' hx, lb σ' hx, la0 σ' hx, lb0 σ' hx, la1 σ' hx, lb1 σ' hx, rSame_v su, rSame_v sw, rSame_v su1, rSame_v sw1, rSame_v sA, rSame_v sB, rPick_t, rIf_t]
    have := hK σ' hx
    rw [eqLL_drop hlt hlt2, h2, q0, q1] at this
    exact this
   | true =>
    simp only [Bool.not_true, rGuard_ff, rFld_p, la σ' hx, lb σ' hx, ia, ib, la2 σ' hx, lb2 σ' hx]
    refine cmp_ref08_Nums hM (n + 3) (ra2.fr (hx.fr _)) (rb2.fr (hx.fr _)) fun σ3 x3 => ?_
    have hx3 := hx.trans x3
    simp only [rGuardC_ff, la σ3 hx3, lb σ3 hx3, la0 σ3 hx3, lb0 σ3 hx3, la1 σ3 hx3, lb1 σ3 hx3, rSame_v su, rSame_v sw, rSame_v su1, rSame_v sw1, rSame_v sA, rSame_v sB, unK_not, rPick_f]
    rw [q0, q1, ea2, eb2] at h2
    have h2 : eqL es[i] fs[i] = eqLL (esOf (ats es[i] 2)) (esOf (ats fs[i] 2)) := h2
    cases q2 : eqLL (esOf (ats es[i] 2)) (esOf (ats fs[i] 2)) with
    | false =>
     simp only [Bool.not_false, rIf_t]
     have := hK σ3 hx3
     rw [eqLL_drop hlt hlt2, h2, q2] at this
     exact this
    | true =>
     simp only [Bool.not_true, rIf_f]
     rw [rBin_add _ _ _ _ (by omega)]
     refine ih (i + 1) m σ3 (by omega) (by omega) hx3 fun σ4 x4 => ?_
     have := hK σ4 x4
     rw [eqLL_drop hlt hlt2, h2, q2] at this
     exact this

set_option maxRecDepth 100000 in
theorem cmp_ref24_Same (hM : 140737488355328 < most) : CmpS most c_ref24_Same itsAll 5 := by
 intro n σ C C' va vb da db K ha hb hK
 have hT : da = db → ∀ σ', Ext' σ σ' → K (.bool true) σ' = true := fun e σ' hx => by
  have := hK σ' hx
  rwa [(eqL_iff da db).2 e] at this
 have hF : da ≠ db → ∀ σ', Ext' σ σ' → K zF σ' = true := fun e σ' hx => by
  have := hK σ' hx
  rwa [show eqL da db = false from by
   cases hq : eqL da db with
   | false => rfl
   | true => exact absurd ((eqL_iff da db).1 hq) e] at this
 have hla : da.length = 30 := ha.dlen
 have hlb : db.length = 30 := hb.dlen
 rw [X_call (by rfl), f_ref24_Same]
 unfold r_ref24_Same
 refine two_boxes ha hb _ fun b1 b2 σ2 x2 sa sb => ?_
 obtain ⟨u0, w0, la0, lb0, c0⟩ := both_int_n sa sb 0 rfl
 obtain ⟨u25, w25, la25, lb25, c25⟩ := both_is_n sa sb 25 rfl
 obtain ⟨u1, ra1, la1, ea1⟩ := sa.list0 1 (its' := itsText) rfl
 obtain ⟨w1, rb1, lb1, eb1⟩ := sb.list0 1 (its' := itsText) rfl
 obtain ⟨u22, ra22, la22, ea22⟩ := sa.list0 22 (its' := itsText) rfl
 obtain ⟨w22, rb22, lb22, eb22⟩ := sb.list0 22 (its' := itsText) rfl
 have pa2 := sa.part 2 20 (by decide)
 have pb2 := sb.part 2 20 (by decide)
 rw [Nat.zero_add] at pa2 pb2
 obtain ⟨ca2, ra2, la2⟩ := Stc.lda (its := itsRows) pa2 20 rfl
 obtain ⟨cb2, rb2, lb2⟩ := Stc.lda (its := itsRows) pb2 20 rfl
 obtain ⟨u23, ra23, la23, ea23⟩ := sa.list0 23 (its' := itsPair) rfl
 obtain ⟨w23, rb23, lb23, eb23⟩ := sb.list0 23 (its' := itsPair) rfl
 obtain ⟨u24, ra24, la24, ea24⟩ := sa.list0 24 (its' := itsPair) rfl
 obtain ⟨w24, rb24, lb24, eb24⟩ := sb.list0 24 (its' := itsPair) rfl
 obtain ⟨u26, ra26, la26, ea26⟩ := sa.list0 26 (its' := itsDealing) rfl
 obtain ⟨w26, rb26, lb26, eb26⟩ := sb.list0 26 (its' := itsDealing) rfl
 obtain ⟨u29, ra29, la29, ea29⟩ := sa.list0 29 (its' := itsDealing) rfl
 obtain ⟨w29, rb29, lb29, eb29⟩ := sb.list0 29 (its' := itsDealing) rfl
 obtain ⟨u28, ra28, la28, ea28⟩ := sa.list0 28 (its' := itsMsg) rfl
 obtain ⟨w28, rb28, lb28, eb28⟩ := sb.list0 28 (its' := itsMsg) rfl
 obtain ⟨u27, ra27, la27, ea27⟩ := sa.list0 27 (its' := itsDone) rfl
 obtain ⟨w27, rb27, lb27, eb27⟩ := sb.list0 27 (its' := itsDone) rfl
 have hx : Ext' σ2 σ2 := .refl σ2
 simp only [rFld_p, Nat.zero_add, la0 σ2 hx, lb0 σ2 hx, c0]
 cases q0 : eqD (ats da 0) (ats db 0) with
 | false =>
  simp only [shut_eq, rGuard_ft, rPick_t, rIf_t, Bool.not_false]
  exact hF (ne_D q0) _ (x2.trans hx)
 | true =>
 simp only [shut_eq, rGuard_ff, rPick_f, Bool.not_true, la25 σ2 hx, lb25 σ2 hx, c25]
 cases q25 : eqD (ats da 25) (ats db 25) with
 | false =>
  simp only [rGuard_ft, rPick_t, rIf_t, Bool.not_false]
  exact hF (ne_D q25) _ (x2.trans hx)
 | true =>
 simp only [rGuard_ff, rPick_f, Bool.not_true, la1 σ2 hx, lb1 σ2 hx]
 refine cmp_ref24_Strings hM (n + 3) (ra1.fr (hx.fr _)) (rb1.fr (hx.fr _)) fun σ3 y3 => ?_
 have hx3 := hx.trans y3
 simp only [unK_not]
 cases q1 : eqLL (esOf (ats da 1)) (esOf (ats db 1)) with
 | false =>
  simp only [rGuard_ft, rPick_t, rIf_t, Bool.not_false]
  exact hF (ne_LL q1) _ (x2.trans hx3)
 | true =>
 simp only [rGuard_ff, rPick_f, Bool.not_true, la22 σ3 hx3, lb22 σ3 hx3]
 refine cmp_ref24_Strings hM (n + 3) (ra22.fr (hx3.fr _)) (rb22.fr (hx3.fr _)) fun σ4 y4 => ?_
 have hx4 := hx3.trans y4
 simp only [unK_not]
 cases q22 : eqLL (esOf (ats da 22)) (esOf (ats db 22)) with
 | false =>
  simp only [rGuard_ft, rPick_t, rIf_t, Bool.not_false]
  exact hF (ne_LL q22) _ (x2.trans hx4)
 | true =>
 simp only [rGuard_ff, rPick_f, Bool.not_true, la2 σ4 hx4, lb2 σ4 hx4]
 refine cmp_ref17_Same hM (n + 1) (ra2.fr (hx4.fr _)) (rb2.fr (hx4.fr _)) fun σ5 y5 => ?_
 have hx5 := hx4.trans y5
 simp only [unK_not]
 cases q2 : eqL ((da.drop 2).take 20) ((db.drop 2).take 20) with
 | false =>
  simp only [rGuard_ft, rPick_t, rIf_t, Bool.not_false]
  exact hF (ne_L q2) _ (x2.trans hx5)
 | true =>
 simp only [rGuard_ff, rPick_f, Bool.not_true, la23 σ5 hx5, lb23 σ5 hx5]
 refine cmp_ref18_Same hM (n + 3) (ra23.fr (hx5.fr _)) (rb23.fr (hx5.fr _)) fun σ6 y6 => ?_
 have hx6 := hx5.trans y6
 simp only [unK_not]
 cases q23 : eqLL (esOf (ats da 23)) (esOf (ats db 23)) with
 | false =>
  simp only [rGuard_ft, rPick_t, rIf_t, Bool.not_false]
  exact hF (ne_LL q23) _ (x2.trans hx6)
 | true =>
 simp only [rGuard_ff, rPick_f, Bool.not_true, la24 σ6 hx6, lb24 σ6 hx6]
 refine cmp_ref18_Same hM (n + 3) (ra24.fr (hx6.fr _)) (rb24.fr (hx6.fr _)) fun σ7 y7 => ?_
 have hx7 := hx6.trans y7
 simp only [unK_not]
 cases q24 : eqLL (esOf (ats da 24)) (esOf (ats db 24)) with
 | false =>
  simp only [rGuard_ft, rPick_t, rIf_t, Bool.not_false]
  exact hF (ne_LL q24) _ (x2.trans hx7)
 | true =>
 simp only [rGuard_ff, rPick_f, Bool.not_true, la26 σ7 hx7, lb26 σ7 hx7]
 refine cmp_ref24_dealings hM (n + 0) (ra26.fr (hx7.fr _)) (rb26.fr (hx7.fr _)) fun σ8 y8 => ?_
 have hx8 := hx7.trans y8
 simp only [unK_not]
 cases q26 : eqLL (esOf (ats da 26)) (esOf (ats db 26)) with
 | false =>
  simp only [rGuard_ft, rPick_t, rIf_t, Bool.not_false]
  exact hF (ne_LL q26) _ (x2.trans hx8)
 | true =>
 simp only [rGuard_ff, rPick_f, Bool.not_true, la29 σ8 hx8, lb29 σ8 hx8]
 refine cmp_ref24_dealings hM (n + 0) (ra29.fr (hx8.fr _)) (rb29.fr (hx8.fr _)) fun σ9 y9 => ?_
 have hx9 := hx8.trans y9
 simp only [unK_not]
 cases q29 : eqLL (esOf (ats da 29)) (esOf (ats db 29)) with
 | false =>
  simp only [rGuard_ft, rPick_t, rIf_t, Bool.not_false]
  exact hF (ne_LL q29) _ (x2.trans hx9)
 | true =>
 simp only [rGuard_ff, rPick_f, Bool.not_true, la28 σ9 hx9, lb28 σ9 hx9]
 refine cmp_ref14_Msgs hM (n + 2) (ra28.fr (hx9.fr _)) (rb28.fr (hx9.fr _)) fun σ10 y10 => ?_
 have hx10 := hx9.trans y10
 simp only [unK_not]
 cases q28 : eqLL (esOf (ats da 28)) (esOf (ats db 28)) with
 | false =>
  simp only [rGuard_ft, rPick_t, rIf_t, Bool.not_false]
  exact hF (ne_LL q28) _ (x2.trans hx10)
 | true =>
 simp only [rGuard_ff, rPick_f, Bool.not_true, la27 σ10 hx10, lb27 σ10 hx10, ra27.listL.2, rb27.listL.2, rBin_neqN, lenL]
 cases q27 : decide ((esOf (ats da 27)).length = (esOf (ats db 27)).length) with
 | false =>
  simp only [rIf_t, Bool.not_false]
  exact hF (fun e => by subst e; simp at q27) _ (x2.trans hx10)
 | true =>
  simp only [Bool.not_true, rIf_f]
  have hN : (esOf (ats da 27)).length ≤ 140737488355328 := ra27.listL.1
  rw [X_most]
  refine cmp_ref24_Same_tail hM (n := n) sa sb ra27 rb27 la27 lb27 (of_decide_eq_true q27) (K := K) (esOf (ats da 27)).length 0 most σ10 (by omega) (by omega) hx10 fun σ9 x9 => ?_
  rw [List.drop_zero, List.drop_zero]
  cases he : eqLL (esOf (ats da 27)) (esOf (ats db 27)) with
  | false => exact hF (fun e => by subst e; rw [eqLL_refl] at he; cases he) _ (x2.trans x9)
  | true => exact hT (ats_ext hla hlb fun j hj => by
   have h : j = 0 ∨ j = 1 ∨ j = 2 ∨ j = 3 ∨ j = 4 ∨ j = 5 ∨ j = 6 ∨ j = 7 ∨ j = 8 ∨ j = 9 ∨ j = 10 ∨ j = 11 ∨ j = 12 ∨ j = 13 ∨ j = 14 ∨ j = 15 ∨ j = 16 ∨ j = 17 ∨ j = 18 ∨ j = 19 ∨ j = 20 ∨ j = 21 ∨ j = 22 ∨ j = 23 ∨ j = 24 ∨ j = 25 ∨ j = 26 ∨ j = 27 ∨ j = 28 ∨ j = 29 := by omega
   rcases h with rfl | rfl | rfl | rfl | rfl | rfl | rfl | rfl | rfl | rfl | rfl | rfl | rfl | rfl | rfl | rfl | rfl | rfl | rfl | rfl | rfl | rfl | rfl | rfl | rfl | rfl | rfl | rfl | rfl | rfl
   · exact (eqD_iff _ _).1 q0
   · exact by rw [ea1, eb1, (eqLL_iff _ _).1 q1]
   · exact part_eq (k := 2) (m := 20) hla hlb ((eqL_iff _ _).1 q2) 0 (by omega) (by omega)
   · exact part_eq (k := 2) (m := 20) hla hlb ((eqL_iff _ _).1 q2) 1 (by omega) (by omega)
   · exact part_eq (k := 2) (m := 20) hla hlb ((eqL_iff _ _).1 q2) 2 (by omega) (by omega)
   · exact part_eq (k := 2) (m := 20) hla hlb ((eqL_iff _ _).1 q2) 3 (by omega) (by omega)
   · exact part_eq (k := 2) (m := 20) hla hlb ((eqL_iff _ _).1 q2) 4 (by omega) (by omega)
   · exact part_eq (k := 2) (m := 20) hla hlb ((eqL_iff _ _).1 q2) 5 (by omega) (by omega)
   · exact part_eq (k := 2) (m := 20) hla hlb ((eqL_iff _ _).1 q2) 6 (by omega) (by omega)
   · exact part_eq (k := 2) (m := 20) hla hlb ((eqL_iff _ _).1 q2) 7 (by omega) (by omega)
   · exact part_eq (k := 2) (m := 20) hla hlb ((eqL_iff _ _).1 q2) 8 (by omega) (by omega)
   · exact part_eq (k := 2) (m := 20) hla hlb ((eqL_iff _ _).1 q2) 9 (by omega) (by omega)
   · exact part_eq (k := 2) (m := 20) hla hlb ((eqL_iff _ _).1 q2) 10 (by omega) (by omega)
   · exact part_eq (k := 2) (m := 20) hla hlb ((eqL_iff _ _).1 q2) 11 (by omega) (by omega)
   · exact part_eq (k := 2) (m := 20) hla hlb ((eqL_iff _ _).1 q2) 12 (by omega) (by omega)
   · exact part_eq (k := 2) (m := 20) hla hlb ((eqL_iff _ _).1 q2) 13 (by omega) (by omega)
   · exact part_eq (k := 2) (m := 20) hla hlb ((eqL_iff _ _).1 q2) 14 (by omega) (by omega)
   · exact part_eq (k := 2) (m := 20) hla hlb ((eqL_iff _ _).1 q2) 15 (by omega) (by omega)
   · exact part_eq (k := 2) (m := 20) hla hlb ((eqL_iff _ _).1 q2) 16 (by omega) (by omega)
   · exact part_eq (k := 2) (m := 20) hla hlb ((eqL_iff _ _).1 q2) 17 (by omega) (by omega)
   · exact part_eq (k := 2) (m := 20) hla hlb ((eqL_iff _ _).1 q2) 18 (by omega) (by omega)
   · exact part_eq (k := 2) (m := 20) hla hlb ((eqL_iff _ _).1 q2) 19 (by omega) (by omega)
   · exact by rw [ea22, eb22, (eqLL_iff _ _).1 q22]
   · exact by rw [ea23, eb23, (eqLL_iff _ _).1 q23]
   · exact by rw [ea24, eb24, (eqLL_iff _ _).1 q24]
   · exact (eqD_iff _ _).1 q25
   · exact by rw [ea26, eb26, (eqLL_iff _ _).1 q26]
   · exact by rw [ea27, eb27, (eqLL_iff _ _).1 he]
   · exact by rw [ea28, eb28, (eqLL_iff _ _).1 q28]
   · exact by rw [ea29, eb29, (eqLL_iff _ _).1 q29]) _ (x2.trans x9)

end Go.Am

namespace Go.Am
open Go.RowKit Go.MapKept Go.Proofs Go.Proofs.Rdr
theorem loopF_len {f : Nat → List D → Nat} (hf : ∀ n ds, n + 1 ≤ f n ds) {es : List (List D)} {n : Nat} (h : loopF f es n < 9000) : es.length ≤ 2000000 := by
 have := (loopF_bd (f := f) (fun _ => 0) (fun n ds => by have := hf n ds; omega) es n h).1
 omega
theorem fComs_up : ∀ (es : List (List D)) (n : Nat), n ≤ loopF fComs es n := loopF_up fun n ds => by unfold fComs; omega
theorem dealt_in {es : List (List D)} {n : Nat} (h : loopF fDealt es n < 9000) : ∀ x ∈ es, (esOf (ats x 4)).length ≤ 2000000 ∧ (esOf (ats x 5)).length ≤ 2000000 := by
 induction es generalizing n with
 | nil => intro x hx; cases hx
 | cons ds es ih =>
  by_cases hn : n < 9000
  · rw [loopF_lt hn] at h
    have h1 : fDealt n ds < 9000 := Nat.lt_of_le_of_lt (loopF_up (f := fDealt) (fun n ds => Nat.le_trans (by omega) (fComs_up _ _)) es _) h
    unfold fDealt at h1
    have h2 := Nat.lt_of_le_of_lt (fComs_up _ _) h1
    intro x hx
    rcases List.mem_cons.1 hx with e | hx
    · subst e
      exact ⟨loopF_len (f := fTold) (n := 0) (fun n ds => by unfold fTold; omega) (by omega), loopF_len (f := fTold) (n := 0) (fun n ds => by unfold fTold; omega) (by omega)⟩
    · exact ih h x hx
  · rw [loopF_ge hn] at h; exact absurd h hn
theorem backB_small {ds : List D} (hl : largeN ds < 9000) : BackB ds := by
 unfold largeN at hl
 have l19 := Nat.lt_of_le_of_lt (loopF_up (f := fSaid) (fun n ds => by unfold fSaid; omega) _ _) hl
 have l3 := Nat.lt_of_le_of_lt (loopF_up (f := fVotes) (fun n ds => by unfold fVotes; omega) _ _) l19
 have l27 : loopF fDones (esOf (ats ds 27)) (N1 ds) < 9000 := Nat.lt_of_le_of_lt (by unfold N3; exact Nat.le_add_right _ _) l3
 have l1 := Nat.lt_of_le_of_lt (loopF_up (f := fDones) (fun n ds => by unfold fDones; omega) _ _) l27
 unfold N1 at l1
 have l26 : loopF fDealt (esOf (ats ds 26)) 0 < 9000 := by omega
 have l29 : loopF fDealt (esOf (ats ds 29)) 0 < 9000 := by omega
 have fd : ∀ n ds, n + 1 ≤ fDealt n ds := fun n ds => Nat.le_trans (by omega) (fComs_up _ _)
 exact ⟨loopF_len (f := fVotes) (fun n ds => by unfold fVotes; omega) l19, loopF_len (f := fSaid) (fun n ds => by unfold fSaid; omega) hl, loopF_len fd l26, dealt_in l26, loopF_len (f := fDones) (fun n ds => by unfold fDones; omega) l27, loopF_len fd l29, dealt_in l29⟩
/-! what was read -/
theorem rdC_most (m : Nat) (st : RS) : (rdC m st).1 ≤ m := by
 unfold rdC
 split
 · exact Nat.zero_le _
 · split
   · split
     · assumption
     · exact Nat.zero_le _
   · exact Nat.zero_le _
theorem decL_most (f : RS → List D × RS) : ∀ (n : Nat) (st : RS), (decL f n st).1.length ≤ n := by
 intro n
 induction n with
 | zero => intro st; exact Nat.le_refl _
 | succ n ih =>
  intro st
  unfold decL
  split
  · exact Nat.zero_le _
  · show ((f st).1 :: (decL f n (f st).2).1).length ≤ n + 1
    rw [List.length_cons]
    have := ih (f st).2
    omega
theorem decL_mem (f : RS → List D × RS) : ∀ (n : Nat) (st : RS), ∀ x ∈ (decL f n st).1, ∃ st', x = (f st').1 := by
 intro n
 induction n with
 | zero => intro st x hx; cases hx
 | succ n ih =>
  intro st x hx
  unfold decL at hx
  split at hx
  · cases hx
  · rcases List.mem_cons.1 hx with e | hx
    · exact ⟨st, e⟩
    · exact ih _ x hx
theorem decs_get : ∀ (its : List It) (st : RS) (j : Nat) (it : It), its[j]? = some it → ∃ st', ats (decs its st).1 j = (dec it st').1 := by
 intro its
 induction its with
 | nil => intro st j it h; simp at h
 | cons t its ih =>
  intro st j it h
  cases j with
  | zero =>
   injection h with h; subst h
   exact ⟨st, by rw [decs]; rfl⟩
  | succ j =>
   obtain ⟨st', hs⟩ := ih (dec t st).2 j it h
   exact ⟨st', by rw [decs]; exact hs⟩
theorem dec_len (its : List It) (st : RS) : (esOf (dec (.list its) st).1).length ≤ 2000000 := by
 rw [dec]
 show (decL (decs its) (rdC 1048576 st).1 (rdC 1048576 st).2).1.length ≤ 2000000
 have h1 := decL_most (decs its) (rdC 1048576 st).1 (rdC 1048576 st).2
 have h2 := rdC_most 1048576 st
 omega
theorem dec_mem (its : List It) (st : RS) : ∀ x ∈ esOf (dec (.list its) st).1, ∃ st', x = (decs its st').1 := by
 rw [dec]
 exact decL_mem (decs its) _ _
theorem dec_deal (st : RS) : ∀ x ∈ esOf (dec (.list itsDealing) st).1, (esOf (ats x 4)).length ≤ 2000000 ∧ (esOf (ats x 5)).length ≤ 2000000 := by
 intro x hx
 obtain ⟨st', rfl⟩ := dec_mem _ _ x hx
 obtain ⟨s4, h4⟩ := decs_get itsDealing st' 4 _ rfl
 obtain ⟨s5, h5⟩ := decs_get itsDealing st' 5 _ rfl
 rw [h4, h5]
 exact ⟨dec_len _ _, dec_len _ _⟩
theorem backB_zero : BackB (itsAll.map zeroD) := by
 refine ⟨?_, ?_, ?_, ?_, ?_, ?_, ?_⟩ <;> first | exact Nat.zero_le _ | (intro x hx; cases hx)
theorem backB_decode (l : List UInt8) : BackB (decode l).1 := by
 unfold decode
 split
 · have g : ∀ j it, itsAll[j]? = some (.list it) → ∃ st', ats (decs itsAll (l, 0)).1 j = (dec (.list it) st').1 := fun j it h => decs_get itsAll _ j _ h
   obtain ⟨s19, h19⟩ := g 19 _ rfl
   obtain ⟨s20, h20⟩ := g 20 _ rfl
   obtain ⟨s26, h26⟩ := g 26 _ rfl
   obtain ⟨s27, h27⟩ := g 27 _ rfl
   obtain ⟨s29, h29⟩ := g 29 _ rfl
   constructor <;> simp only [h19, h20, h26, h27, h29] <;> first | exact dec_len _ _ | exact dec_deal _
 · exact backB_zero
end Go.Am

set_option linter.unusedVariables false
set_option maxRecDepth 100000
namespace Go.Am

/-! consistory/consistorylaw25.SaveOne -/
end Go.Am

namespace Go.Am
open Go.RowKit Go.MapKept Go.Proofs Go.Proofs.Rdr
variable {most : Nat}
theorem not_t (k : Value → Bool) : unK .not (.bool true) k = k zF := rfl
end Go.Am

namespace Go.Am
open Go.RowKit Go.MapKept Go.Proofs Go.Proofs.Rdr
def Cst (it : It) : Prop := ∀ d, WF it d → (enc it d ([], 0)).2 = 0 → cost it d ≤ 4097 * (enc it d ([], 0)).1.length
def Csts (its : List It) : Prop := ∀ ds, WFs its ds → (encs its ds ([], 0)).2 = 0 → costs its ds ≤ 4097 * (encs its ds ([], 0)).1.length
theorem csts_of : ∀ its : List It, (∀ it ∈ its, Cst it) → Csts its := by
 intro its
 induction its with
 | nil => intro _ ds _ _; unfold costs; exact Nat.zero_le _
 | cons it its ih =>
  intro hi ds h e
  match ds, h, e with
  | [], h, e => exact absurd h.1 (by simp)
  | d :: ds, h, e =>
   simp only [encs] at e ⊢
   obtain ⟨a1, a2, a3⟩ := two (f := enc it d) (encs_app its ds) (encs_keeps its ds) e
   rw [a3, List.length_append, Nat.mul_add]
   have h1 := hi it (.head _) d (h.2 0 it d rfl rfl) a1
   have h2 := ih (fun x hx => hi x (.tail _ hx)) ds ⟨by simpa using h.1, fun j x y p q => h.2 (j + 1) x y p q⟩ a2
   unfold costs
   omega
theorem list_cst {its : List It} (h : Csts its) : ∀ (es : List (List D)), (∀ ds ∈ es, WFs its ds) → (es.foldl (fun st ds => if st.2 = 0 then encs its ds st else st) (([], 0) : PenS)).2 = 0 →
 es.foldl (fun c ds => c + costs its ds) 0 ≤ 4097 * (es.foldl (fun st ds => if st.2 = 0 then encs its ds st else st) (([], 0) : PenS)).1.length := by
 intro es
 induction es with
 | nil => intro _ _; exact Nat.zero_le _
 | cons ds es ih =>
  intro hw e
  obtain ⟨a1, a2, a3⟩ := lfold_cons its ds es e
  rw [a3, List.length_append, Nat.mul_add, List.foldl_cons, foldl_cost]
  have h1 := h ds (hw _ (.head _)) a1
  have h2 := ih (fun x hx => hw x (.tail _ hx)) a2
  omega
theorem cst_list {its : List It} (h : Csts its) : Cst (.list its) := by
 intro d w e
 cases w with
 | @list _ es hl hr =>
 obtain ⟨hb, e1, e2⟩ := enc_list e
 rw [e2, List.length_append, beb_length]
 unfold cost
 rw [foldl_cost]
 have := list_cst h es (fun ds hd => ⟨hl ds hd, fun j it d p q => by obtain ⟨k, hk⟩ := List.getElem?_of_mem hd; exact hr k ds j it d hk p q⟩) e1
 omega
mutual
theorem cst_it : ∀ it : It, Cst it
 | .num => by intro d w e; cases w with | @num z h => simp [enc, wrN, cost, beb_length]
 | .kind => by intro d w e; cases w with | @kind z h => simp [enc, wrN, cost, beb_length]
 | .int => by intro d w e; cases w with | @int z h1 h2 => simp [enc, wrN, cost, beb_length]
 | .is => by intro d w e; cases w with | @is b => simp [enc, wrN, cost, beb_length]
 | .text => by
  intro d w e
  cases w with | @text l =>
  obtain ⟨h1, h2⟩ := enc_text e
  rw [h2, List.length_append, beb_length]
  unfold cost
  omega
 | .nums => by
  intro d w e
  cases w with | @nums ns h =>
  obtain ⟨h1, h2⟩ := enc_nums e
  rw [h2, List.length_append, beb_length]
  unfold cost
  omega
 | .list its => cst_list (csts_of its (cst_its its))
theorem cst_its : ∀ (its : List It), ∀ it ∈ its, Cst it
 | [] => fun x hx => nomatch hx
 | it :: its => fun x hx => by
  rcases List.mem_cons.1 hx with e | hx
  · rw [e]; exact cst_it it
  · exact cst_its its x hx
end
theorem costs_of {ds : List D} (h : WFs itsAll ds) (e : (encs itsAll ds ([], 0)).2 = 0) : costs itsAll ds ≤ 4097 * (encs itsAll ds ([], 0)).1.length := csts_of itsAll (cst_its itsAll) ds h e
/-! errors -/
def Err40 (st : PenS) : Prop := st.2 = 0 ∨ st.2 = 40
theorem wr_err (x : List UInt8 × Nat) (hx : x.2 = 0 ∨ x.2 = 40) (st : PenS) (h : Err40 st) : Err40 (wr x st) := by
 unfold wr
 split
 · exact hx
 · exact h
theorem fold_err {f : PenS → List D → PenS} (h : ∀ st ds, Err40 st → Err40 (f st ds)) : ∀ (es : List (List D)) (st : PenS), Err40 st → Err40 (es.foldl f st) := by
 intro es
 induction es with
 | nil => intro st hs; exact hs
 | cons ds es ih => intro st hs; exact ih _ (h st ds hs)
mutual
theorem enc_err : ∀ (it : It) (d : D) (st : PenS), Err40 st → Err40 (enc it d st)
 | .num, d, st, h => by cases d <;> simpa [enc, wrN, Err40] using h
 | .kind, d, st, h => by cases d <;> simpa [enc, wrN, Err40] using h
 | .int, d, st, h => by cases d <;> simpa [enc, wrN, Err40] using h
 | .is, d, st, h => by cases d <;> simpa [enc, wrN, Err40] using h
 | .text, .s t, st, h => by simp only [enc]; exact wr_err _ (by unfold encText; split <;> simp) st h
 | .text, .n _, st, h => by simpa [enc] using h
 | .text, .b _, st, h => by simpa [enc] using h
 | .text, .l _, st, h => by simpa [enc] using h
 | .nums, .l es, st, h => by simp only [enc]; exact wr_err _ (by unfold encNums; split <;> simp) st h
 | .nums, .n _, st, h => by simpa [enc] using h
 | .nums, .b _, st, h => by simpa [enc] using h
 | .nums, .s _, st, h => by simpa [enc] using h
 | .list its, .n _, st, h => by simpa [enc] using h
 | .list its, .b _, st, h => by simpa [enc] using h
 | .list its, .s _, st, h => by simpa [enc] using h
 | .list its, .l es, st, h => by
  simp only [enc]
  split
  · exact wr_err _ (.inr rfl) st h
  · exact fold_err (fun st ds h => by
     show Err40 (if st.2 = 0 then encs its ds st else st)
     split
     · exact encs_err its ds st h
     · exact h) es _ h
theorem encs_err : ∀ (its : List It) (ds : List D) (st : PenS), Err40 st → Err40 (encs its ds st)
 | [], _, st, h => by simpa [encs] using h
 | _ :: _, [], st, h => by simpa [encs] using h
 | it :: its, d :: ds, st, h => by simp only [encs]; exact encs_err its ds _ (enc_err it d st h)
end
theorem encode_err {ds : List D} (e : (encode ds).2 ≠ 0) : (encode ds).1 = [] ∧ (encode ds).2 = 40 := by
 unfold encode at e ⊢
 by_cases h : (encs itsAll ds ([], 0)).2 = 0
 · simp only [if_pos h] at e; exact absurd rfl e
 · simp only [if_neg h] at e ⊢
   rcases encs_err itsAll ds ([], 0) (.inl rfl) with c | c
   · exact absurd c h
   · exact ⟨trivial, c⟩
theorem decode_no {l : List UInt8} (h : ¬ (rdE (decs itsAll (l, 0)).2).2 = 0) : decode l = (itsAll.map zeroD, (rdE (decs itsAll (l, 0)).2).2) := by
 unfold decode
 simp only [if_neg h]
theorem decode_inv {l : List UInt8} (e : (decode l).2 = 0) : WFs itsAll (decode l).1 ∧ (encode (decode l).1).2 = 0 ∧ (encode (decode l).1).1 = l ∧ costs itsAll (decode l).1 ≤ 4097 * l.length := by
 by_cases h : (rdE (decs itsAll (l, 0)).2).2 = 0
 · have h1 : (decode l).1 = (decs itsAll (l, 0)).1 := by unfold decode; rw [if_pos h]
   rw [h1]
   have h2 : (decs itsAll (l, 0)).2.2 = 0 ∧ (decs itsAll (l, 0)).2.1 = [] := by
    unfold rdE at h
    by_cases a : (decs itsAll (l, 0)).2.2 ≠ 0
    · rw [if_pos a] at h; exact absurd h a
    · rw [if_neg a] at h
      refine ⟨by omega, ?_⟩
      by_cases b : (decs itsAll (l, 0)).2.1 = []
      · exact b
      · rw [if_neg b] at h; cases h
   obtain ⟨g1, g2, g3⟩ := invs_of itsAll (inv_its' itsAll) l _ _ (st_eta h2.1)
   rw [h2.2, List.append_nil] at g3
   have hc := costs_of g1 g2
   have he : encode (decs itsAll (l, 0)).1 = ((encs itsAll (decs itsAll (l, 0)).1 ([], 0)).1, 0) := by
    unfold encode
    simp only [if_pos g2]
   rw [he]
   rw [← g3] at hc
   refine ⟨g1, ?_, ?_, hc⟩
   · simp only
   · simp only; exact g3.symm
 · rw [decode_no h] at e
   simp only at e
   exact absurd e h
theorem decode_bad {l : List UInt8} (e : (decode l).2 ≠ 0) : (decode l).1 = itsAll.map zeroD := by
 by_cases h : (rdE (decs itsAll (l, 0)).2).2 = 0
 · have : (decode l).2 = 0 := by unfold decode; rw [if_pos h]
   exact absurd this e
 · rw [decode_no h]
end Go.Am

set_option linter.unusedVariables false
set_option maxRecDepth 100000
namespace Go.Am

/-! consistory/consistorylaw25.SaveBack -/
noncomputable def j_law25_SaveBack_rrrr (x : EV) (t1 : Value) (σ : St) (K : VK) : Bool := jmpJ PP tbS c_law25_SaveBack (x.E PP) [.r, .r, .r, .r] [] [t1] σ K
noncomputable def r_law25_SaveBack (x : EV) (a0 a1 : Value) (σ : St) (K : VK) : Bool :=
 boxK 34 a0 σ fun v0 σ =>
 rLdN 30 v0 σ fun v1 σ =>
 x.C c_law25_large [v1] σ fun v2 σ =>
 shut x.most (rGuard false v2 (fun k => k a1 σ) σ fun v3 σ =>
 shut x.most (rGuard false v2 (fun k => rLenT v3 fun v4 =>
 k v4 σ) σ fun v5 σ =>
 shut x.most (rGuard false v2 (fun k => rBin PP .gtr 3 v5 (.int .i64 (.ofNat 40000)) fun v6 =>
 k v6 σ) σ fun v7 σ =>
 shut x.most (rPick v2 (.bool true) v7 fun v8 =>
 shut x.most (rGuard false v8 (fun k => x.C c_law25_awake [] σ fun v9 σ =>
 k v9 σ) σ fun v10 σ =>
 shut x.most (rGuard false v8 (fun k => unK .not v10 fun v11 =>
 k v11 σ) σ fun v12 σ =>
 shut x.most (rPick v8 (.bool true) v12 fun v13 =>
 rIf v13 (x.C c_law25_awake [] σ fun v14 σ =>
 K v14 σ) (rLdN 30 v0 σ fun v15 σ =>
 x.C c_save_Encode [v15] σ fun v16 σ =>
 rExt 0 v16 fun v17 =>
 rExt 1 v16 fun v18 =>
 rBin PP .eql 37 v18 zI fun v19 =>
 rIf v19 (x.C c_save_Decode [v17] σ fun v20 σ =>
 rExt 0 v20 fun v21 =>
 rExt 1 v20 fun v22 =>
 rAlloc [zI, zL, zI, zS, zF, zI, zI, zI, zI, zI, zI, zI, zS, zS, zI, zI, zF, zF, zS, zL, zL, zL, zL, zL, zL, zF, zL, zL, zL, zL] 34 σ fun v23 σ =>
 rSt 30 v23 v21 σ fun σ =>
 rBin PP .neq 37 v22 zI fun v24 =>
 shut x.most (rGuard false v24 (fun k => rLdN 30 v23 σ fun v25 σ =>
 k v25 σ) σ fun v26 σ =>
 shut x.most (rGuard false v24 (fun k => rLdN 30 v0 σ fun v27 σ =>
 k v27 σ) σ fun v28 σ =>
 shut x.most (rGuard false v24 (fun k => x.C c_law25_back [v26] σ fun v29 σ =>
 k v29 σ) σ fun v30 σ =>
 shut x.most (rGuardC false v24 v28 (fun k => rLdN 30 v0 σ fun v31 σ =>
 rSame v31 v28 k) (shut x.most (rGuard false v24 (fun k => x.C c_law25_back [v28] σ fun v32 σ =>
 k v32 σ) σ fun v33 σ =>
 shut x.most (rGuard false v24 (fun k => x.C c_ref24_Same [v30, v33] σ fun v34 σ =>
 k v34 σ) σ fun v35 σ =>
 shut x.most (rGuard false v24 (fun k => unK .not v35 fun v36 =>
 k v36 σ) σ fun v37 σ =>
 shut x.most (rPick v24 (.bool true) v37 fun v38 =>
 rIf v38 (K zF σ) (j_law25_SaveBack_rrrr x a1 σ K))))))))))) (rBin PP .neq 9 v17 zS fun v39 =>
 shut x.most (rGuard false v39 (fun k => k v18 σ) σ fun v40 σ =>
 shut x.most (rGuard false v39 (fun k => rBin PP .neq 37 v40 (.int .i64 (.ofNat 40)) fun v41 =>
 k v41 σ) σ fun v42 σ =>
 shut x.most (rPick v39 (.bool true) v42 fun v43 =>
 rIf v43 (K zF σ) (j_law25_SaveBack_rrrr x a1 σ K)))))))))))))
theorem f_law25_SaveBack (x : EV) (a0 a1 : Value) (σ : St) (K : VK) : fnX PP tbS c_law25_SaveBack (x.E PP) [a0, a1] σ K = r_law25_SaveBack x a0 a1 σ K := by kernel_rfl
noncomputable def j_law25_SaveBack_rrrrB (x : EV) (t1 : Value) (σ : St) (K : VK) : Bool :=
 x.C c_save_Decode [t1] σ fun v0 σ =>
 rExt 0 v0 fun v1 =>
 rExt 1 v0 fun v2 =>
 rAlloc [zI, zL, zI, zS, zF, zI, zI, zI, zI, zI, zI, zI, zS, zS, zI, zI, zF, zF, zS, zL, zL, zL, zL, zL, zL, zF, zL, zL, zL, zL] 34 σ fun v3 σ =>
 rSt 30 v3 v1 σ fun σ =>
 rBin PP .neq 37 v2 zI fun v4 =>
 rIf v4 (rLdN 30 v3 σ fun v5 σ =>
 x.C c_law25_back [v5] σ fun v6 σ =>
 rBuild [zI, zL, zI, zS, zF, zI, zI, zI, zI, zI, zI, zI, zS, zS, zI, zI, zF, zF, zS, zL, zL, zL, zL, zL, zL, zF, zL, zL, zL, zL] [] fun v7 =>
 x.C c_ref24_Same [v6, v7] σ fun v8 σ =>
 K v8 σ) (rLdN 30 v3 σ fun v9 σ =>
 x.C c_save_Encode [v9] σ fun v10 σ =>
 rExt 0 v10 fun v11 =>
 rExt 1 v10 fun v12 =>
 rBin PP .eql 37 v12 zI fun v13 =>
 shut x.most (rGuard true v13 (fun k => k v11 σ) σ fun v14 σ =>
 shut x.most (rGuard true v13 (fun k => k t1 σ) σ fun v15 σ =>
 shut x.most (rGuard true v13 (fun k => rBin PP .eql 9 v14 v15 fun v16 =>
 k v16 σ) σ fun v17 σ =>
 shut x.most (rPick v13 v17 zF fun v18 =>
 K v18 σ)))))
theorem j_law25_SaveBack_rrrrE0 (x : EV) (t1 : Value) (σ : St) (K : VK) : jmp0 PP tbS c_law25_SaveBack (x.E PP) [.r, .r, .r, .r] [] [t1] σ K = j_law25_SaveBack_rrrrB x t1 σ K := by kernel_rfl
theorem j_law25_SaveBack_rrrrE (x : EV) (hm : x.most ≠ 0) (t1 : Value) (σ : St) (K : VK) : j_law25_SaveBack_rrrr x t1 σ K = j_law25_SaveBack_rrrrB x t1 σ K := (jmpJ_eq c_law25_SaveBack (x.E PP) [.r, .r, .r, .r] [] [t1] σ K hm).trans (j_law25_SaveBack_rrrrE0 x t1 σ K)

end Go.Am

namespace Go.Am
open Go.RowKit Go.MapKept Go.Proofs Go.Proofs.Rdr
variable {most : Nat}
theorem behind_back (hM : 140737488355328 < most) {n : Nat} {σ : St} {l : List UInt8} (hl : l.length ≤ 40000) {K : VK} (hK : ∀ σ', K (.bool true) σ' = true) : j_law25_SaveBack_rrrr (X most (n + 10)) (.string ⟨⟨l⟩⟩) σ K = true := by
 rw [j_law25_SaveBack_rrrrE _ (by rw [X_most]; omega)]
 unfold j_law25_SaveBack_rrrrB
 refine Decode_s (by omega) (n := n) (by omega) fun σ1 cs1 x1 r1 => ?_
 have l1 : cs1.length = 30 := r1.len
 rw [rExt_t, nthK_z, rExt_t, nthK_s, nthK_z, zeros_all, rAlloc_h, rSt_all obj_new_same (by rw [l1, zs30_len]) (List.all_eq_true.2 r1.one) 30 l1.symm]
 generalize hσ2 : (σ1.new (.cells zs30 34 .exact)).set σ1.n (.cells cs1 34 .exact) = σ2
 have o2 : σ2.obj σ1.n = some (.cells cs1 34 .exact) := by rw [← hσ2]; exact obj_set_same
 have x2 : Ext' σ1 σ2 := ⟨by rw [← hσ2]; exact Nat.le_succ _, fun k hk => by rw [← hσ2, obj_set_other (by omega), obj_new_old (by omega)]⟩
 have r2 := r1.fr (x2.fr _)
 have ld : ∀ K, rLdN 30 (pt σ1.n 0) σ2 K = K (.agg ⟨cs1⟩) σ2 := fun K => by rw [rLdN_h o2 (by omega), List.drop_zero, List.take_of_length_le (by omega)]
 rw [rBin_neqN]
 by_cases he : (decode l).2 = 0
 · rw [decide_eq_true he, Bool.not_true, rIf_f, ld]
   obtain ⟨w, e1, e2, hc⟩ := decode_inv he
   have hLIM : LIM = 274877906944 := rfl
   refine Encode_s (by omega) (n := n) r2 (by omega) fun σ3 x3 => ?_
   rw [rExt_t, nthK_z, rExt_t, nthK_s, nthK_z, rBin_eqlN, decide_eq_true e1]
   simp only [shut_eq, rGuard_tt, rPick_t]
   rw [rBin_eqlS, decide_eq_true e2]
   exact hK _
 · rw [decide_eq_false he, Bool.not_false, rIf_t, ld]
   refine back_s (n := n + 8) (C := fun _ => False) (by omega) (fun _ h => h.elim) r2 (backB_decode l) fun σ3 c3 x3 r3 => ?_
   rw [rBuild_none]
   have rz : RdA σ3 (fun _ => False) itsAll zs30 (itsAll.map zeroD) := zero_rda σ3 _ itsAll
   refine cmp_ref24_Same hM (n + 5) r3 rz fun σ4 _ => ?_
   rw [decode_bad he, eqL_refl]
   exact hK _
theorem SaveBack_s (hM : 140737488355328 < most) {n : Nat} {σ : St} {cs : List Value} {ds : List D} {l : List UInt8} (h : RdA σ (fun _ => False) itsAll cs ds) {K : VK}
 (hl8 : l.length ≤ 140737488355328) (hK : ∀ σ', K (.bool true) σ' = true) : (X most (n + 11)).C c_law25_SaveBack [.agg ⟨cs⟩, .string ⟨⟨l⟩⟩] σ K = true := by
 rw [X_call (by rfl), f_law25_SaveBack]
 unfold r_law25_SaveBack
 have l30 : cs.length = 30 := h.len
 rw [boxK_agg (List.all_eq_true.2 h.one), rLdN_h obj_new_same (by omega), List.drop_zero, List.take_of_length_le (by omega)]
 have x1 := Ext'.new σ (.cells cs 34 .exact)
 have lt1 : σ.n < (σ.new (.cells cs 34 .exact)).n := Nat.lt_succ_self _
 have o1 : (σ.new (.cells cs 34 .exact)).obj σ.n = some (.cells cs 34 .exact) := obj_new_same
 revert x1 lt1 o1
 generalize (σ.new (.cells cs 34 .exact)) = σ1
 intro x1 lt1 o1
 have again : ∀ (σ' : St), Ext' σ1 σ' → ∀ K, rLdN 30 (pt σ.n 0) σ' K = K (.agg ⟨cs⟩) σ' := fun σ' hx K => by
  rw [rLdN_h (by rw [hx.same _ lt1]; exact o1) (by omega), List.drop_zero, List.take_of_length_le (by omega)]
 have h1 := h.fr (x1.fr _)
 refine large_s (n := n + 7) hM h1 fun σ2 x2 => ?_
 by_cases hl : 9000 ≤ largeN ds
 · rw [decide_eq_true hl]
   simp only [shut_eq, rGuard_ft, rPick_t, rIf_t, awakeX_c]
   exact hK _
 rw [decide_eq_false hl]
 simp only [shut_eq, rGuard_ff, rPick_f, rLenT_s]
 rw [rBin_gtrN]
 by_cases hm : 40000 < l.length
 · rw [decide_eq_true hm]
   simp only [rGuard_ft, rPick_t, rIf_t, awakeX_c]
   exact hK _
 rw [decide_eq_false hm]
 simp only [rGuard_ff, rPick_f, awakeX_c, not_t, rIf_f, again σ2 x2]
 have hl' : largeN ds < 9000 := by omega
 have h2 := h1.fr (x2.fr _)
 have hc := small h2 hl'
 refine Encode_s (by omega) (n := n) h2 hc fun σ3 x3 => ?_
 have x13 := x2.trans x3
 rw [rExt_t, nthK_z, rExt_t, nthK_s, nthK_z, rBin_eqlN]
 by_cases he : (encode ds).2 = 0
 · rw [decide_eq_true he, rIf_t]
   have hw := h2.wfs
   have hlen := encode_len hc
   have hLIM : LIM = 274877906944 := rfl
   refine Decode_s (by omega) (n := n) (by omega) fun σ4 cs4 x4 r4 => ?_
   have x14 := x13.trans x4
   have hdec : decode (encode ds).1 = (ds, 0) := by
    have := (decode_enc hw he []).1 rfl
    rwa [List.append_nil] at this
   have e4 : (decode (encode ds).1).2 = 0 := by rw [hdec]
   have d4 : (decode (encode ds).1).1 = ds := by rw [hdec]
   rw [d4] at r4
   have l4 : cs4.length = 30 := r4.len
   rw [e4, rExt_t, nthK_z, rExt_t, nthK_s, nthK_z, zeros_all, rAlloc_h, rSt_all obj_new_same (by rw [l4, zs30_len]) (List.all_eq_true.2 r4.one) 30 l4.symm]
   generalize hσ5 : (σ4.new (.cells zs30 34 .exact)).set σ4.n (.cells cs4 34 .exact) = σ5
   have o5 : σ5.obj σ4.n = some (.cells cs4 34 .exact) := by rw [← hσ5]; exact obj_set_same
   have x5 : Ext' σ4 σ5 := ⟨by rw [← hσ5]; exact Nat.le_succ _, fun k hk => by rw [← hσ5, obj_set_other (by omega), obj_new_old (by omega)]⟩
   have x15 := x14.trans x5
   have r5 := r4.fr (x5.fr _)
   have ld : ∀ K, rLdN 30 (pt σ4.n 0) σ5 K = K (.agg ⟨cs4⟩) σ5 := fun K => by rw [rLdN_h o5 (by omega), List.drop_zero, List.take_of_length_le (by omega)]
   rw [rBin_neqN, decide_eq_true rfl]
   simp only [Bool.not_true, rGuard_ff, ld, again σ5 x15]
   refine back_s (n := n + 8) (C := fun _ => False) (by omega) (fun _ h => h.elim) r5 (backB_small hl') fun σ6 c6 x6 r6 => ?_
   have x16 := x15.trans x6
   have h6 := h1.fr (x16.fr (fun _ => False))
   simp only [rGuardC_ff, again σ6 x16, rSame_v h6.sameV]
   refine back_s (n := n + 8) (C := fun _ => False) (by omega) (fun _ h => h.elim) h6 (backB_small hl') fun σ7 c7 x7 r7 => ?_
   refine cmp_ref24_Same hM (n + 5) (r6.fr (x7.fr _)) r7 fun σ8 _ => ?_
   rw [eqL_refl]
   simp only [not_t, rPick_f, rIf_f]
   exact behind_back hM (by omega) hK
 · rw [decide_eq_false he, rIf_f]
   obtain ⟨e1, e2⟩ := encode_err he
   rw [e1, e2, rBin_neqS, decide_eq_true rfl]
   simp only [Bool.not_true, rGuard_ff, rPick_f]
   rw [rBin_neqN, decide_eq_true rfl]
   simp only [Bool.not_true, rIf_f]
   exact behind_back hM (by omega) hK
end Go.Am

namespace Go.Am
open Go.RowKit Go.MapKept
theorem mapM_some {α β : Type} {f : α → Option β} : ∀ {l : List α} {xs : List β}, l.mapM f = some xs → xs.length = l.length ∧ ∀ (i : Nat) (a : α), l[i]? = some a → ∃ x, xs[i]? = some x ∧ f a = some x := by
 intro l
 induction l with
 | nil => intro xs h; simp at h; subst h; exact ⟨rfl, fun i a h => by simp at h⟩
 | cons b l ih =>
  intro xs h
  rw [List.mapM_cons] at h
  cases hb : f b with
  | none => rw [hb] at h; cases h
  | some y =>
   rw [hb] at h
   cases hl : l.mapM f with
   | none => rw [hl] at h; cases h
   | some ys =>
    rw [hl] at h
    have h : some (y :: ys) = some xs := h
    injection h with h
    subst h
    obtain ⟨i1, i2⟩ := ih hl
    refine ⟨by simp [i1], fun i a ha => ?_⟩
    cases i with
    | zero => simp at ha; subst ha; exact ⟨y, rfl, hb⟩
    | succ i => simpa using i2 i a (by simpa using ha)
def itsF (P : Program) (g : TypeId → Option (List It)) : List Field → Nat → Option (List It)
 | [], _ => some []
 | fd :: fs, off => if fd.offset = off then match g fd.type, sizeT P fd.type with
  | some its, some m => if m = its.length then (itsF P g fs (off + m)).map (its ++ ·) else none
  | _, _ => none else none
def itsT (P : Program) : Nat → TypeId → Option (List It)
 | 0, _ => none
 | f + 1, t => match P.underlying t with
  | some .bool => some [.is]
  | some (.int .u64) => some [.num]
  | some (.int .u8) => some [.kind]
  | some (.int .i64) => some [.int]
  | some .string => some [.text]
  | some (.slice e) => match itsT P f e, sizeT P e, P.bytesOf e with
   | some (i :: its), some m, _ + 1 => if m = its.length + 1 then (match i, its with | .num, [] => some [.nums] | i, its => some [.list (i :: its)]) else none
   | _, _, _ => none
  | some (.struct fs) => match itsF P (itsT P f) fs.toList 0, sizeT P t with
   | some its, some m => if m = its.length then some its else none
   | _, _ => none
  | _ => none
def Lay (P : Program) (w : World) (ρ : Rn) (σ : St) : Prop := Rel P w ρ σ w ∧ ∀ i o, σ.obj i = some o → o.reads = true
section
variable {P : Program} {w : World}
theorem Lay.add {ρ : Rn} {σ : St} (h : Lay P w ρ σ) (vs : List Value) (e : TypeId) (L : Loc) {cs : Array Value} {t : TypeId} {fz : Nat × Nat} (hb : w.heap[L.b]? = some (.cells cs t fz))
 (hc : ∀ (j : Nat) (v : Value), vs[j]? = some v → ∃ v', cs[L.s + j]? = some v' ∧ VR ρ v v') (hm : sizeT P e = some L.m) (hz : ∀ j, j < vs.length → ¬ (fz.1 ≤ L.s + j ∧ L.s + j < fz.2)) :
 Lay P w (ρ.put σ.n L) (σ.new (.cells vs e .rs)) ∧ Ext ρ (ρ.put σ.n L) := by
 obtain ⟨h, hr⟩ := h
 have hnone := h.dom σ.n (Nat.le_refl _)
 have he : Ext ρ (ρ.put σ.n L) := Rn.ext_put hnone
 have hput : ∀ j M, ρ.put σ.n L j = some M → (j = σ.n ∧ M = L) ∨ (j ≠ σ.n ∧ ρ j = some M) := fun j M hj => by
  unfold Rn.put at hj
  by_cases e : j = σ.n
  · rw [if_pos e] at hj; injection hj with hj; exact .inl ⟨e, hj.symm⟩
  · rw [if_neg e] at hj; exact .inr ⟨e, hj⟩
 have hobj : ∀ j x, (σ.new (.cells vs e .rs)).obj j = some x → (j = σ.n ∧ x = .cells vs e .rs) ∨ (j ≠ σ.n ∧ σ.obj j = some x) := fun j x hx => by
  rw [obj_new] at hx
  by_cases e : j = σ.n
  · rw [if_pos e] at hx; injection hx with hx; exact .inl ⟨e, hx.symm⟩
  · rw [if_neg e] at hx; exact .inr ⟨e, hx⟩
 have hreads : ∀ j x, (σ.new (.cells vs e .rs)).obj j = some x → x.reads = true := fun j x hx => by
  rcases hobj j x hx with ⟨_, rfl⟩ | ⟨_, hx⟩
  · rfl
  · exact hr j x hx
 have hlt : L.b < w.heap.size := (Array.getElem?_eq_some_iff.1 hb).1
 refine ⟨⟨⟨fun g hg => let ⟨M, h1, h2⟩ := h.glob g hg; ⟨M, he _ _ h1, h2⟩, fun j x hx => ?_, fun j hj => ?_, fun j x hx => ?_, fun j M hj => ?_, fun i j a b M N hij ha hb' _ _ _ _ _ => .inl ⟨hreads i a ha, hreads j b hb'⟩, fun j us e' olds hj i hi => ?_, h.base⟩, hreads⟩, he⟩
 · rcases hobj j x hx with ⟨rfl, rfl⟩ | ⟨_, hx⟩
   · exact ⟨L, cs, t, fz, Rn.put_same _ _ _, hb, fun j v hv => let ⟨v', a, b⟩ := hc j v hv; ⟨v', a, b.mono he⟩, hm, hz⟩
   · exact (h.objs j x hx).frame he fun _ _ => rfl
 · have hj' : σ.n + 1 ≤ j := hj
   unfold Rn.put; rw [if_neg (by omega)]; exact h.dom j (by omega)
 · rcases hobj j x hx with ⟨rfl, _⟩ | ⟨_, hx⟩
   · exact Nat.lt_succ_self _
   · exact Nat.lt_succ_of_lt (h.lt j x hx)
 · rcases hput j M hj with ⟨_, rfl⟩ | ⟨_, hM⟩
   · exact hlt
   · exact h.loc j M hM
 · have := hreads j _ hj
   simp [AObj.reads] at this
def Laying (P : Program) (w : World) (cs : List Value) (its : List It) : Prop :=
 ∀ (ρ : Rn) (σ : St), Lay P w ρ σ → ∃ ρ' σ' vs ds, Ext ρ ρ' ∧ Lay P w ρ' σ' ∧ Ext' σ σ' ∧ VRs ρ' vs cs ∧ RdA σ' (fun _ => False) its vs ds
theorem Ext'.none {σ σ' : St} (h : Ext' σ σ') : Fr' (fun _ => False) σ σ' (fun _ => False) := h.fr _
theorem Laying.plain {v : Value} {it : It} {d : D} (hf : flat0 v = true) (hr : ∀ σ, Rd σ (fun _ => False) it v d) : Laying P w [v] [it] := fun ρ σ h =>
 ⟨ρ, σ, [v], [d], .refl ρ, h, .refl σ, .cons (.flat hf) (.nil ρ), rfl, rfl, fun j it' v' d' a b c => by
  cases j with
  | zero => simp at a b c; subst a b c; exact hr σ
  | succ j => simp at a⟩
theorem Laying.append {a b : List Value} {x y : List It} (h : Laying P w a x) (k : Laying P w b y) : Laying P w (a ++ b) (x ++ y) := fun ρ σ hl => by
 obtain ⟨ρ1, σ1, v1, d1, e1, l1, x1, r1, s1⟩ := h ρ σ hl
 obtain ⟨ρ2, σ2, v2, d2, e2, l2, x2, r2, s2⟩ := k ρ1 σ1 l1
 refine ⟨ρ2, σ2, v1 ++ v2, d1 ++ d2, e1.trans e2, l2, x1.trans x2, (r1.mono e2).append r2, by simp [s1.len, s2.len], by simp [s1.dlen, s2.dlen], fun j it v d p q r => ?_⟩
 have s1' := s1.fr x2.none
 by_cases hj : j < x.length
 · rw [List.getElem?_append_left hj] at p
   rw [List.getElem?_append_left (by rw [s1.len]; exact hj)] at q
   rw [List.getElem?_append_left (by rw [s1.dlen]; exact hj)] at r
   exact s1'.rd j it v d p q r
 · rw [List.getElem?_append_right (by omega)] at p
   rw [List.getElem?_append_right (by rw [s1.len]; omega), s1.len] at q
   rw [List.getElem?_append_right (by rw [s1.dlen]; omega), s1.dlen] at r
   exact s2.rd _ it v d p q r
theorem lay_all {its : List It} : ∀ {css : List (List Value)}, (∀ cs ∈ css, Laying P w cs its) → ∀ (ρ : Rn) (σ : St), Lay P w ρ σ → ∃ (ρ' : Rn) (σ' : St) (vss : List (List Value)) (dss : List (List D)), Ext ρ ρ' ∧ Lay P w ρ' σ' ∧ Ext' σ σ' ∧ vss.length = css.length ∧ dss.length = css.length ∧
 (∀ (k : Nat) (vs cs : List Value), vss[k]? = some vs → css[k]? = some cs → VRs ρ' vs cs) ∧ ∀ (k : Nat) (vs : List Value) (ds : List D), vss[k]? = some vs → dss[k]? = some ds → RdA σ' (fun _ => False) its vs ds := by
 intro css
 induction css with
 | nil => intro _ ρ σ h; exact ⟨ρ, σ, [], [], .refl ρ, h, .refl σ, rfl, rfl, by simp, by simp⟩
 | cons cs css ih =>
  intro hall ρ σ h
  obtain ⟨ρ1, σ1, v1, d1, e1, l1, x1, r1, s1⟩ := hall cs (.head _) ρ σ h
  obtain ⟨ρ2, σ2, vss, dss, e2, l2, x2, n1, n2, r2, s2⟩ := ih (fun c hc => hall c (.tail _ hc)) ρ1 σ1 l1
  refine ⟨ρ2, σ2, v1 :: vss, d1 :: dss, e1.trans e2, l2, x1.trans x2, by simp [n1], by simp [n2], fun k vs cs' a b => ?_, fun k vs ds a b => ?_⟩
  · cases k with
    | zero => simp at a b; subst a b; exact r1.mono e2
    | succ k => exact r2 k vs cs' (by simpa using a) (by simpa using b)
  · cases k with
    | zero => simp at a b; subst a b; exact s1.fr x2.none
    | succ k => exact s2 k vs ds (by simpa using a) (by simpa using b)
theorem flatten_get {α : Type} {m : Nat} : ∀ {l : List (List α)}, (∀ x ∈ l, x.length = m) → ∀ (k j : Nat), j < m → l.flatten[k * m + j]? = (l[k]?).bind (·[j]?) := by
 intro l
 induction l with
 | nil => intro _ k j _; simp
 | cons x l ih =>
  intro h k j hj
  have hx := h x (.head _)
  cases k with
  | zero =>
   rw [List.flatten_cons, List.getElem?_append_left (by omega)]
   simp
  | succ k =>
   rw [List.flatten_cons, List.getElem?_append_right (by rw [hx, Nat.add_mul]; omega), hx]
   rw [show (k + 1) * m + j - m = k * m + j by rw [Nat.add_mul]; omega, ih (fun y hy => h y (.tail _ hy)) k j hj]
   simp
theorem flatten_len {α : Type} {m : Nat} : ∀ {l : List (List α)}, (∀ x ∈ l, x.length = m) → l.flatten.length = l.length * m := by
 intro l
 induction l with
 | nil => intro _; simp
 | cons x l ih => intro h; rw [List.flatten_cons, List.length_append, h x (.head _), ih fun y hy => h y (.tail _ hy), List.length_cons, Nat.add_mul]; omega
end
end Go.Am

namespace Go.Am
open Go.RowKit Go.MapKept
section
variable {P : Program} {w : World}
theorem cells_block {a : Addr} {n : Nat} {cs : List Value} (h : w.cells? 0 a n = some cs) (hn : 0 < n) : ∃ c t fz, w.heap[a.block]? = some (.cells c t fz) ∧ a.spot = none := by
 unfold World.cells? at h
 rw [if_pos (Nat.zero_le _)] at h
 obtain ⟨_, h2⟩ := mapM_some h
 obtain ⟨x, _, hx⟩ := h2 0 0 (by simp [hn])
 have hx : w.cell? a = some x := by simpa [Addr.add] using hx
 unfold World.cell? at hx
 cases hb : w.heap[a.block]? with
 | none => rw [hb] at hx; cases hx
 | some o =>
  rw [hb] at hx
  cases o with
  | cells c t fz =>
   simp only at hx
   cases hs : a.spot with
   | none => exact ⟨c, t, fz, rfl, rfl⟩
   | some s => rw [hs] at hx; simp at hx
  | _ => cases hx
theorem cells_get {b off n : Nat} {cs : List Value} {c : Array Value} {t : TypeId} {fz : Nat × Nat} (h : w.cells? 0 ⟨b, off, none⟩ n = some cs) (hb : w.heap[b]? = some (.cells c t fz)) : cs.length = n ∧ ∀ (j : Nat) (v : Value), cs[j]? = some v → c[off + j]? = some v := by
 unfold World.cells? at h
 rw [if_pos (Nat.zero_le _)] at h
 obtain ⟨h1, h2⟩ := mapM_some h
 have h1 : cs.length = n := by simpa using h1
 refine ⟨h1, fun j v hv => ?_⟩
 have hj : j < n := by rw [← h1]; exact (List.getElem?_eq_some_iff.1 hv).1
 obtain ⟨x, hx, hc⟩ := h2 j j (by simp [hj])
 rw [hv] at hx
 injection hx with hx
 subst hx
 rw [add_none] at hc
 unfold World.cell? at hc
 rw [hb] at hc
 simpa using hc
variable {H : Type} {enc : TypeId × Value → H}
theorem weights_all {e : TypeId} {x : Nat} : ∀ {l : List (DataW H)} {d : DataW H}, d ∈ l → x ∈ d.weights P e → x ∈ DataW.weightsAll P e l := by
 intro l
 induction l with
 | nil => intro d h; cases h
 | cons y l ih =>
  intro d h hx
  rw [DataW.weightsAll]
  rcases List.mem_cons.1 h with rfl | h
  · exact List.mem_append.2 (.inl hx)
  · exact List.mem_append.2 (.inr (ih h hx))
theorem itsF_spec {g : TypeId → Option (List It)} : ∀ {fs : List Field} {off : Nat} {its : List It}, itsF P g fs off = some its → ∀ (cs : List Value) (F : TypeId → List Value → Option (DataW H × List MemPlace)) (xs : List (DataW H × List MemPlace)),
 (fs.mapM fun f => F f.type ((cs.drop f.offset).take (P.cellsOf f.type))) = some xs → cs.length = off + its.length →
 (∀ (k : Nat) (f : Field) (x : DataW H × List MemPlace), fs[k]? = some f → xs[k]? = some x → ∀ (i : List It) (c : List Value), g f.type = some i → F f.type c = some x → Laying P w c i) → Laying P w (cs.drop off) its := by
 intro fs
 induction fs with
 | nil =>
  intro off its h cs F xs _ hl _
  unfold itsF at h
  injection h with h
  subst h
  rw [List.drop_of_length_le (by simp at hl; omega)]
  exact fun ρ σ hl => ⟨ρ, σ, [], [], .refl ρ, hl, .refl σ, .nil ρ, rfl, rfl, fun j it v d a => by simp at a⟩
 | cons f fs ih =>
  intro off its h cs F xs hx hl hall
  unfold itsF at h
  split at h
  · rename_i hoff
    split at h
    · rename_i i m hg hm
      split at h
      · rename_i hmi
        cases hr : itsF P g fs (off + m) with
        | none => rw [hr] at h; cases h
        | some rest =>
         rw [hr] at h
         have h : some (i ++ rest) = some its := h
         injection h with h
         subst h
         obtain ⟨x1, x2⟩ := mapM_some hx
         obtain ⟨x, hx0, hF⟩ := x2 0 f rfl
         have hcm : P.cellsOf f.type = m := by
          unfold Program.cellsOf
          unfold sizeT at hm
          rw [hm]; rfl
         rw [hcm, hoff] at hF
         have h1 : Laying P w ((cs.drop off).take m) i := hall 0 f x rfl hx0 i _ hg hF
         have hxs : ∃ ys, xs = x :: ys := by
          cases xs with
          | nil => simp at hx0
          | cons y ys => simp at hx0; subst hx0; exact ⟨ys, rfl⟩
         obtain ⟨ys, rfl⟩ := hxs
         have hys : (fs.mapM fun f => F f.type ((cs.drop f.offset).take (P.cellsOf f.type))) = some ys := by
          rw [List.mapM_cons] at hx
          cases ha : F f.type ((cs.drop f.offset).take (P.cellsOf f.type)) with
          | none => rw [ha] at hx; cases hx
          | some y =>
           rw [ha] at hx
           cases hb : (fs.mapM fun f => F f.type ((cs.drop f.offset).take (P.cellsOf f.type))) with
           | none => rw [hb] at hx; cases hx
           | some zs =>
            rw [hb] at hx
            have hx : some (y :: zs) = some (x :: ys) := hx
            injection hx with hx
            injection hx with _ hx
            rw [hx]
         have h2 := ih hr cs F ys hys (by rw [hl, List.length_append]; omega) fun k f' x' a b => hall (k + 1) f' x' (by simpa using a) (by simpa using b)
         have := h1.append h2
         rwa [show (cs.drop off).take m ++ cs.drop (off + m) = cs.drop off by rw [← List.drop_drop]; exact List.take_append_drop _ _] at this
      · cases h
    · cases h
  · cases h
end
end Go.Am

namespace Go.Am
open Go.RowKit Go.MapKept
section
variable {P : Program} {w : World} {H : Type} {enc : TypeId × Value → H}
theorem wf_range {k : IntKind} {n : Int} (h : (Lit.int k n).wf = true) : k.min ≤ n ∧ n ≤ k.max := by
 unfold Lit.wf at h
 simpa using h
theorem lay_slice {a : Addr} {len cap m : Nat} {e : TypeId} {its : List It} {els : List (DataW H × List MemPlace)} {F : List Value → Option (DataW H × List MemPlace)} (hm : its.length = m) (hpos : 0 < m) (hsz : sizeT P e = some m) (_hcell : P.cellsOf e = m) (hlc : len ≤ cap)
 (hel : (List.range len).mapM (fun i => (w.cells? 0 (a.add (i * m)) m).bind F) = some els) (hN : len ≤ 140737488355328)
 (hsp : cap = 0 ∨ ∃ c t fz, w.heap[a.block]? = some (.cells c t fz) ∧ a.spot = none)
 (hz : ∀ i, i < len * m → w.frozen? ⟨a.block, a.off + i, none⟩ = false)
 (hall : ∀ x ∈ els, ∀ cs, F cs = some x → Laying P w cs its) :
 ∀ (ρ : Rn) (σ : St), Lay P w ρ σ → ∃ ρ' σ' v ds, Ext ρ ρ' ∧ Lay P w ρ' σ' ∧ Ext' σ σ' ∧ VR ρ' v (.slice (some a) len cap) ∧ Rd σ' (fun _ => False) (.list its) v (.l ds) := by
 intro ρ σ hl
 rcases Nat.eq_zero_or_pos cap with hc0 | hc0
 · have : len = 0 := by omega
   subst this hc0
   obtain ⟨b, o, sp⟩ := a
   refine ⟨ρ, σ, .slice (some ⟨b, o, some ((match sp with | none => 0 | some k => k + 1) + 2)⟩) 0 0, [], .refl ρ, hl, .refl σ, .sliceR ?_, .emptyR⟩
   cases sp <;> rfl
 · rcases hsp with hsp | ⟨c, t, fz, hb, hspot⟩
   · omega
   · obtain ⟨b, o, sp⟩ := a
     have hspot : sp = none := hspot
     subst hspot
     obtain ⟨h1, h2⟩ := mapM_some hel
     have h1 : els.length = len := by simpa using h1
     -- the elements' cells
     let css : List (List Value) := (List.range len).map fun i => (w.cells? 0 ((⟨b, o, none⟩ : Addr).add (i * m)) m).getD []
     have hcss : ∀ i, i < len → ∃ cs x, css[i]? = some cs ∧ w.cells? 0 ⟨b, o + i * m, none⟩ m = some cs ∧ els[i]? = some x ∧ F cs = some x := by
      intro i hi
      obtain ⟨x, hx, hF⟩ := h2 i i (by simp [hi])
      rw [add_none] at hF
      cases hcs : w.cells? 0 ⟨b, o + i * m, none⟩ m with
      | none => rw [hcs] at hF; cases hF
      | some cs =>
       rw [hcs] at hF
       refine ⟨cs, x, ?_, rfl, hx, hF⟩
       show ((List.range len).map fun i => (w.cells? 0 ((⟨b, o, none⟩ : Addr).add (i * m)) m).getD [])[i]? = some cs
       rw [List.getElem?_map, List.getElem?_range hi]
       show some ((w.cells? 0 ((⟨b, o, none⟩ : Addr).add (i * m)) m).getD []) = some cs
       rw [add_none, hcs]; rfl
     have hcl : css.length = len := by show ((List.range len).map _).length = len; simp
     have hlay : ∀ cs ∈ css, Laying P w cs its := by
      intro cs hcs
      obtain ⟨i, hi⟩ := List.getElem?_of_mem hcs
      have hil : i < len := by rw [← hcl]; exact (List.getElem?_eq_some_iff.1 hi).1
      obtain ⟨cs', x, g1, _, g3, g4⟩ := hcss i hil
      rw [hi] at g1
      injection g1 with g1
      subst g1
      exact hall x (List.mem_of_getElem? g3) cs g4
     obtain ⟨ρ1, σ1, vss, dss, e1, l1, x1, n1, n2, r1, s1⟩ := lay_all hlay ρ σ hl
     have hvl : ∀ vs ∈ vss, vs.length = m := by
      intro vs hvs
      obtain ⟨i, hi⟩ := List.getElem?_of_mem hvs
      have hil : i < dss.length := by rw [n2, ← n1]; exact (List.getElem?_eq_some_iff.1 hi).1
      rw [(s1 i vs _ hi (List.getElem?_eq_getElem hil)).len, hm]
     have hfl := flatten_len hvl
     have hA : ∀ (j : Nat) (v : Value), vss.flatten[j]? = some v → ∃ v', c[o + j]? = some v' ∧ VR ρ1 v v' := by
      intro j v hj
      have hjl : j < len * m := by
       have := (List.getElem?_eq_some_iff.1 hj).1
       rw [hfl, n1, hcl] at this; exact this
      have hk : j / m < len := Nat.div_lt_of_lt_mul (by rw [Nat.mul_comm]; exact hjl)
      have hjm : j % m < m := Nat.mod_lt _ hpos
      have ej : j = (j / m) * m + j % m := by rw [Nat.mul_comm]; exact (Nat.div_add_mod j m).symm
      rw [ej, flatten_get hvl _ _ hjm] at hj
      obtain ⟨cs, x, g1, g2, g3, g4⟩ := hcss (j / m) hk
      cases hvk : vss[j / m]? with
      | none => rw [hvk] at hj; cases hj
      | some vs =>
       rw [hvk] at hj
       have hvr := r1 _ vs cs hvk g1
       obtain ⟨v', hv', hr'⟩ := hvr.get hj
       obtain ⟨_, q2⟩ := cells_get g2 hb
       have := q2 _ _ hv'
       exact ⟨v', by rw [Nat.add_assoc, ← ej] at this; exact this, hr'⟩
     have hB : ∀ j, j < vss.flatten.length → ¬ (fz.1 ≤ o + j ∧ o + j < fz.2) := by
      intro j hj
      have hjl : j < len * m := by rw [hfl, n1, hcl] at hj; exact hj
      have := hz j hjl
      unfold World.frozen? at this
      rw [hb] at this
      intro ⟨q1, q2⟩
      simp at this
      have := this q1
      omega
     obtain ⟨l2, e2⟩ := l1.add vss.flatten e ⟨b, o, 0, m⟩ hb hA hsz hB
     have x2 := Ext'.new σ1 (.cells vss.flatten e .rs)
     refine ⟨_, _, .slice (some ⟨σ1.n, 0, none⟩) len cap, dss, e1.trans e2, l2, x1.trans x2, ?_, ?_⟩
     · have := VR.slice (ρ := ρ1.put σ1.n ⟨b, o, 0, m⟩) (o := 0) (n := len) (c := cap) (Rn.put_same ρ1 σ1.n ⟨b, o, 0, m⟩)
       exact this
     · refine .row (e := e) (ck := .rs) rfl (Nat.lt_succ_self _) (fun h => h) obj_new_same (.inl rfl) (by rw [n2, hcl]) (by rw [hfl, n1, hcl, hm]; omega) (fun ds hds => ?_) hN (fun k ds j it v d a1 a2 a3 a4 => ?_)
       · obtain ⟨i, hi⟩ := List.getElem?_of_mem hds
         have hil : i < vss.length := by rw [n1, ← n2]; exact (List.getElem?_eq_some_iff.1 hi).1
         exact (s1 i _ ds (List.getElem?_eq_getElem hil) hi).dlen
       · have hjm : j < m := by rw [← hm]; exact (List.getElem?_eq_some_iff.1 a2).1
         rw [hm, Nat.zero_add, flatten_get hvl k j hjm] at a3
         cases hk : vss[k]? with
         | none => rw [hk] at a3; cases a3
         | some vs =>
          rw [hk] at a3
          exact ((s1 k vs ds hk a1).fr x2.none).rd j it v d a2 a3 a4
theorem weights_each {y : Nat} : ∀ {fs : List Field} {xs : List (DataW H × List MemPlace)} {j : Nat} {f : Field} {x : DataW H × List MemPlace}, fs[j]? = some f → xs[j]? = some x → y ∈ x.1.weights P f.type → y ∈ DataW.weightsEach P (fs.map (·.type)) (xs.map (·.1)) := by
 intro fs
 induction fs with
 | nil => intro xs j f x h; simp at h
 | cons g fs ih =>
  intro xs j f x h1 h2 h3
  cases xs with
  | nil => simp at h2
  | cons z xs =>
   rw [List.map_cons, List.map_cons, DataW.weightsEach]
   cases j with
   | zero => simp at h1 h2; subst h1 h2; exact List.mem_append.2 (.inl h3)
   | succ j => exact List.mem_append.2 (.inr (ih (by simpa using h1) (by simpa using h2) h3))
theorem lay (sp : Nat → Bool) (hsp : ∀ b, sp b = true) : ∀ (F k : Nat) (t : TypeId) (cs : List Value) (d : DataW H) (ps : List MemPlace), DataW.trod enc P w 0 sp true F t cs = some (d, ps) → (∀ b off, MemPlace.cell b off ∈ ps → w.frozen? ⟨b, off, none⟩ = false) →
 (∀ x ∈ d.weights P t, x ≤ reachBytes) → ∀ its, itsT P k t = some its → Laying P w cs its := by
 intro F
 induction F with
 | zero => intro k t cs d ps h; cases h
 | succ F ih =>
  intro k t cs d ps h hz hw its hi
  cases k with
  | zero => cases hi
  | succ k =>
   unfold itsT at hi
   unfold DataW.trod at h
   cases hu : P.underlying t with
   | none => rw [hu] at hi; cases hi
   | some td =>
    rw [hu] at hi h
    cases td with
    | bool =>
     injection hi with hi; subst hi
     match cs, h with
     | [.bool b], _ => exact Laying.plain rfl fun σ => .is
    | int kd =>
     match cs, h with
     | [.int k' n], h =>
      simp only at h
      split at h
      · rename_i hk
        obtain ⟨rfl, hwf⟩ := hk
        obtain ⟨r1, r2⟩ := wf_range hwf
        cases k' with
        | u64 =>
         injection hi with hi; subst hi
         have r1 : (0 : Int) ≤ n := r1
         have r2 : n ≤ 18446744073709551615 := r2
         obtain ⟨m, rfl⟩ := Int.eq_ofNat_of_zero_le r1
         exact Laying.plain rfl fun σ => .num (z := m) (by omega)
        | u8 =>
         injection hi with hi; subst hi
         have r1 : (0 : Int) ≤ n := r1
         have r2 : n ≤ 255 := r2
         obtain ⟨m, rfl⟩ := Int.eq_ofNat_of_zero_le r1
         exact Laying.plain rfl fun σ => .kind (z := m) (by omega)
        | i64 =>
         injection hi with hi; subst hi
         have r1 : (-9223372036854775808 : Int) ≤ n := r1
         have r2 : n ≤ 9223372036854775807 := r2
         exact Laying.plain rfl fun σ => .int r1 (by omega)
        | _ => cases hi
      · cases h
    | string =>
     injection hi with hi; subst hi
     match cs, h with
     | [.string s], h =>
      simp only at h
      split at h
      · injection h with h
        injection h with h _
        subst h
        obtain ⟨⟨l⟩⟩ := s
        have := hw l.length (by simp [DataW.weights])
        exact Laying.plain rfl fun σ => .text (l := l) (by unfold reachBytes at this; omega)
      · cases h
    | slice e =>
     simp only at hi
     split at hi
     · rename_i i0 its0 m by0 hit hsz hby
       split at hi
       · rename_i hm
         have hcell : P.cellsOf e = m := by unfold Program.cellsOf; unfold sizeT at hsz; rw [hsz]; rfl
         have hfin : (∀ (ρ : Rn) (σ : St), Lay P w ρ σ → ∃ ρ' σ' v ds, Ext ρ ρ' ∧ Lay P w ρ' σ' ∧ Ext' σ σ' ∧ VRs ρ' [v] cs ∧ Rd σ' (fun _ => False) (.list (i0 :: its0)) v (.l ds)) → Laying P w cs its := by
          intro hgo ρ σ hl
          obtain ⟨ρ', σ', v, ds, g1, g2, g3, g4, g5⟩ := hgo ρ σ hl
          refine ⟨ρ', σ', [v], [.l ds], g1, g2, g3, g4, ?_⟩
          split at hi
          · injection hi with hi; subst hi
            exact ⟨rfl, rfl, fun j it v' d' a b c => by
             cases j with
             | zero => simp at a b c; subst a b c; exact .nums g5
             | succ j => simp at a⟩
          · injection hi with hi; subst hi
            exact ⟨rfl, rfl, fun j it v' d' a b c => by
             cases j with
             | zero => simp at a b c; subst a b c; exact g5
             | succ j => simp at a⟩
         match cs, h, hfin with
         | [.slice none 0 0], _, hfin => exact hfin fun ρ σ hl => ⟨ρ, σ, _, [], .refl ρ, hl, .refl σ, .cons (.flat rfl) (.nil ρ), .empty⟩
         | [.slice (some a) len cap], h, hfin =>
          simp only at h
          split at h
          · rename_i hcond
            rw [hcell] at h
            cases hels : (List.range len).mapM (fun i => (w.cells? 0 (a.add (i * m)) m).bind (DataW.trod enc P w 0 sp true F e)) with
            | none => rw [hels] at h; cases h
            | some els =>
             rw [hels] at h
             simp only [Option.bind_some, hsp, if_true] at h
             cases hrest : (List.range (cap - len)).mapM (fun j => (w.cells? 0 (a.add ((len + j) * m)) m).bind (DataW.trod enc P w 0 sp true F e)) with
             | none => rw [hrest] at h; cases h
             | some rest =>
              rw [hrest] at h
              injection h with h
              injection h with hd hps
              subst hd hps
              obtain ⟨n1, n2⟩ := mapM_some hels
              obtain ⟨n3, n4⟩ := mapM_some hrest
              have n1 : els.length = len := by simpa using n1
              have n3 : rest.length = cap - len := by simpa using n3
              have hwt : (els.length + rest.length) * P.bytesOf e ≤ reachBytes := hw _ (by rw [DataW.weights, hu]; simp)
              rw [hby, n1] at hwt
              have hlen47 : len ≤ 140737488355328 := by
               unfold reachBytes at hwt
               have : len ≤ (len + rest.length) * by0.succ := Nat.le_trans (Nat.le_add_right _ _) (Nat.le_mul_of_pos_right _ (Nat.succ_pos _))
               omega
              refine hfin fun ρ σ hl => ?_
              obtain ⟨ρ', σ', v, ds, g1, g2, g3, g4, g5⟩ := lay_slice (F := DataW.trod enc P w 0 sp true F e) (its := i0 :: its0) (e := e) (by rw [hm]; rfl) (by omega) hsz hcell hcond.2.1 hels hlen47 (by
               rcases Nat.eq_zero_or_pos cap with h0 | h0
               · exact .inl h0
               · right
                 rcases Nat.eq_zero_or_pos len with h1 | h1
                 · obtain ⟨x, _, hx⟩ := n4 0 0 (List.getElem?_range (by omega))
                   cases hcs : w.cells? 0 (a.add ((len + 0) * m)) m with
                   | none => rw [hcs] at hx; cases hx
                   | some c0 =>
                    rw [h1] at hcs
                    simp only [Nat.add_zero, Nat.zero_mul] at hcs
                    exact cells_block (by simpa [Addr.add] using hcs) (by omega)
                 · obtain ⟨x, _, hx⟩ := n2 0 0 (List.getElem?_range (by omega))
                   cases hcs : w.cells? 0 (a.add (0 * m)) m with
                   | none => rw [hcs] at hx; cases hx
                   | some c0 =>
                    simp only [Nat.zero_mul] at hcs
                    exact cells_block (by simpa [Addr.add] using hcs) (by omega)) (fun i hi => by
               refine hz a.block (a.off + i) (List.mem_append.2 (.inl ?_))
               unfold MemPlace.row
               refine List.mem_map.2 ⟨i, List.mem_range.2 ?_, rfl⟩
               rw [n1]
               have : len * m ≤ (len + rest.length) * m := Nat.mul_le_mul_right _ (Nat.le_add_right _ _)
               omega) (fun x hx cs' hF => by
               obtain ⟨dx, px⟩ := x
               refine ih k e cs' dx px hF (fun b off hb => hz b off (List.mem_append.2 (.inr (List.mem_flatMap.2 ⟨(dx, px), List.mem_append.2 (.inl hx), hb⟩)))) (fun y hy => hw y ?_) _ hit
               rw [DataW.weights, hu]
               exact List.mem_cons_of_mem _ (List.mem_append.2 (.inl (weights_all (List.mem_map.2 ⟨(dx, px), hx, rfl⟩) hy)))) ρ σ hl
              exact ⟨ρ', σ', v, ds, g1, g2, g3, .cons g4 (.nil ρ'), g5⟩
          · cases h
       · cases hi
     · cases hi
    | struct fs =>
     simp only at hi h
     have hi : ∃ m, itsF P (itsT P k) fs.toList 0 = some its ∧ sizeT P t = some m ∧ m = its.length := by
      split at hi
      · rename_i its' m' h1 h2
        split at hi
        · rename_i h3
          injection hi with hi
          subst hi
          exact ⟨m', h1, h2, h3⟩
        · cases hi
      · cases hi
     obtain ⟨mm, hi, hsz, hmm⟩ := hi
     have hct : P.cellsOf t = mm := by unfold Program.cellsOf; unfold sizeT at hsz; rw [hsz]; rfl
     split at h
     · rename_i hlen
       cases hxs : (fs.toList.mapM fun f => DataW.trod enc P w 0 sp true F f.type ((cs.drop f.offset).take (P.cellsOf f.type))) with
       | none => rw [hxs] at h; cases h
       | some xs =>
        rw [hxs] at h
        injection h with h
        injection h with hd hps
        subst hd hps
        have := itsF_spec (w := w) hi cs (fun t c => DataW.trod enc P w 0 sp true F t c) xs hxs (by omega) (fun j f x hf hx i c hg hF => by
         obtain ⟨dx, px⟩ := x
         refine ih k f.type c dx px hF (fun b off hb => hz b off (List.mem_flatMap.2 ⟨(dx, px), List.mem_of_getElem? hx, hb⟩)) (fun y hy => hw y ?_) i hg
         rw [DataW.weights, hu]
         exact weights_each hf hx hy)
        rwa [List.drop_zero] at this
     · cases h
    | _ => cases hi
end
end Go.Am

namespace Go.Am
open Go.RowKit Go.MapKept Go.Proofs Go.Proofs.Rdr
theorem Lay.none {P : Program} {w : World} (hsz : P.globals.size ≤ w.heap.size) : Lay P w (Rn.globals P.globals.size) (St.none P.globals.size) := by
 refine ⟨Rel.none hsz, fun i o h => ?_⟩
 have : (St.none P.globals.size).obj i = Option.none := rfl
 rw [this] at h
 cases h
theorem xAt_C (P : Program) (tb : FuncId → LiveT) (ov : FuncId → Option (List Value → St → VK → Bool)) (most n : Nat) : (xAt P tb ov most n).C = (envX P tb ov most n).call := rfl
theorem its34 : itsT PP 8 34 = some itsAll := by kernel_rfl
end Go.Am
