/- save: a pen goes over structs and lists (written by a program). -/
import Derived.Test.YtbockfpeohfphaaSpa

namespace Go.Am
open Go.RowKit Go.MapKept Go.Proofs Go.Proofs.Rdr
variable {most : Nat}
def itsText : List It := [.text]
def itsNums : List It := [.nums]
def itsPair : List It := [.num, .num]
def itsMsg : List It := [.kind, .int, .int, .int, .int, .int, .int, .int, .int, .text, .nums]
def itsVote : List It := [.int, .int, .kind, .int, .text]
def itsSaid : List It := [.int, .text]
def itsTold : List It := [.int, .nums]
def itsDone : List It := [.int, .int, .nums]
def itsDealing : List It := [.int, .int, .list itsNums, .nums, .list itsTold, .list itsTold, .nums, .is]
def itsVoting : List It := [.int, .int, .int, .int, .int, .int, .int, .text, .text, .int, .int, .is, .is, .text, .list itsVote]
def itsRows : List It := [.int, .text, .is, .int, .int, .int, .int, .int, .int, .int, .text, .text, .int, .int, .is, .is, .text, .list itsVote, .list itsSaid, .list itsMsg]
def itsAll : List It := [.int, .list itsText, .int, .text, .is, .int, .int, .int, .int, .int, .int, .int, .text, .text, .int, .int, .is, .is, .text, .list itsVote, .list itsSaid, .list itsMsg, .list itsText, .list itsPair, .list itsPair, .is, .list itsDealing, .list itsDone, .list itsMsg, .list itsDealing]

theorem rB1 (v0 : Addr) (σ : St) (K : VK) : rBuildS 87 1 [.pointer none] [(0, 1, .pointer (some v0))] σ K = K (.slice (some ⟨σ.n, 0, none⟩) 1 1) (σ.new (.cells [.pointer (some v0)] 87 .exact)) :=
  rBuildS_ones 87 (.pointer none) [.pointer (some v0)] (by simp [oneCell]) σ K
theorem rB2 (v0 v1 : Addr) (σ : St) (K : VK) : rBuildS 87 2 [.pointer none] [(0, 1, .pointer (some v0)), (1, 1, .pointer (some v1))] σ K = K (.slice (some ⟨σ.n, 0, none⟩) 2 2) (σ.new (.cells [.pointer (some v0), .pointer (some v1)] 87 .exact)) :=
  rBuildS_ones 87 (.pointer none) [.pointer (some v0), .pointer (some v1)] (by simp [oneCell]) σ K
theorem rB7 (v0 v1 v2 v3 v4 v5 v6 : Addr) (σ : St) (K : VK) : rBuildS 87 7 [.pointer none] [(0, 1, .pointer (some v0)), (1, 1, .pointer (some v1)), (2, 1, .pointer (some v2)), (3, 1, .pointer (some v3)), (4, 1, .pointer (some v4)), (5, 1, .pointer (some v5)), (6, 1, .pointer (some v6))] σ K = K (.slice (some ⟨σ.n, 0, none⟩) 7 7) (σ.new (.cells [.pointer (some v0), .pointer (some v1), .pointer (some v2), .pointer (some v3), .pointer (some v4), .pointer (some v5), .pointer (some v6)] 87 .exact)) :=
  rBuildS_ones 87 (.pointer none) [.pointer (some v0), .pointer (some v1), .pointer (some v2), .pointer (some v3), .pointer (some v4), .pointer (some v5), .pointer (some v6)] (by simp [oneCell]) σ K
theorem rB8 (v0 v1 v2 v3 v4 v5 v6 v7 : Addr) (σ : St) (K : VK) : rBuildS 87 8 [.pointer none] [(0, 1, .pointer (some v0)), (1, 1, .pointer (some v1)), (2, 1, .pointer (some v2)), (3, 1, .pointer (some v3)), (4, 1, .pointer (some v4)), (5, 1, .pointer (some v5)), (6, 1, .pointer (some v6)), (7, 1, .pointer (some v7))] σ K = K (.slice (some ⟨σ.n, 0, none⟩) 8 8) (σ.new (.cells [.pointer (some v0), .pointer (some v1), .pointer (some v2), .pointer (some v3), .pointer (some v4), .pointer (some v5), .pointer (some v6), .pointer (some v7)] 87 .exact)) :=
  rBuildS_ones 87 (.pointer none) [.pointer (some v0), .pointer (some v1), .pointer (some v2), .pointer (some v3), .pointer (some v4), .pointer (some v5), .pointer (some v6), .pointer (some v7)] (by simp [oneCell]) σ K
theorem pen_text' (hm : 1024 < most) : PenOk most c_save_text itsText 5 := by
  intro n σ w B st b o ds K g
  rw [X_call (by rfl), f_save_text]
  unfold r_save_text
  rw [rInv_i meth_text]
  refine step_text (n := n + 0) (its := []) (j := 0) hm g rfl fun v σ B st g => ?_
  exact g.fin _

theorem pen_nums' (hm : 1024 < most) : PenOk most c_save_nums itsNums 5 := by
  intro n σ w B st b o ds K g
  rw [X_call (by rfl), f_save_nums]
  unfold r_save_nums
  rw [rInv_i meth_nums]
  refine step_nums (n := n + 0) (its := []) (j := 0) hm g rfl fun v σ B st g => ?_
  exact g.fin _

theorem pen_pair' (hm : 1024 < most) : PenOk most c_save_pair itsPair 5 := by
  intro n σ w B st b o ds K g
  rw [X_call (by rfl), f_save_pair]
  unfold r_save_pair
  rw [rNil_p, rFld_p, rNil_m meth_number, rInv_i meth_number]
  refine step_number (n := n + 0) (its := [.num]) hm g rfl fun v σ B st g => ?_
  rw [rNil_p, rFld_p, rNil_m meth_number, rInv_i meth_number]
  refine step_number (n := n + 0) (its := []) hm g rfl fun v σ B st g => ?_
  exact g.fin _

theorem pen_message' (hm : 1024 < most) : PenOk most c_save_message itsMsg 5 := by
  intro n σ w B st b o ds K g
  rw [X_call (by rfl), f_save_message]
  unfold r_save_message
  rw [rNil_p, rFld_p, rNil_m meth_kind, rInv_i meth_kind]
  refine step_kind (n := n + 0) (its := [.int, .int, .int, .int, .int, .int, .int, .int, .text, .nums]) hm g rfl fun v σ B st g => ?_
  rw [rNil_p, rFld_p, rNil_p, rFld_p, rNil_p, rFld_p, rNil_p, rFld_p, rNil_p, rFld_p, rNil_p, rFld_p, rNil_p, rFld_p, rNil_p, rFld_p]
  rw [rB8, bcase_t, rB8]
  refine step_whole (n := n + 0) (its := [.text, .nums]) hm 8 (by omega) g (by
    intro i hi
    have h : i = 0 ∨ i = 1 ∨ i = 2 ∨ i = 3 ∨ i = 4 ∨ i = 5 ∨ i = 6 ∨ i = 7 := by omega
    rcases h with rfl | rfl | rfl | rfl | rfl | rfl | rfl | rfl <;> rfl) fun v σ B st g => ?_
  rw [rNil_p, rFld_p, rNil_m meth_text, rInv_i meth_text]
  refine step_text (n := n + 0) (its := [.nums]) hm g rfl fun v σ B st g => ?_
  rw [rNil_p, rFld_p, rNil_m meth_nums, rInv_i meth_nums]
  refine step_nums (n := n + 0) (its := []) hm g rfl fun v σ B st g => ?_
  exact g.fin _

theorem pen_vote' (hm : 1024 < most) : PenOk most c_save_vote itsVote 5 := by
  intro n σ w B st b o ds K g
  rw [X_call (by rfl), f_save_vote]
  unfold r_save_vote
  rw [rNil_p, rFld_p, rNil_p, rFld_p]
  rw [rB2, bcase_t, rB2]
  refine step_whole (n := n + 0) (its := [.kind, .int, .text]) hm 2 (by omega) g (by
    intro i hi
    have h : i = 0 ∨ i = 1 := by omega
    rcases h with rfl | rfl <;> rfl) fun v σ B st g => ?_
  rw [rNil_p, rFld_p, rNil_m meth_kind, rInv_i meth_kind]
  refine step_kind (n := n + 0) (its := [.int, .text]) hm g rfl fun v σ B st g => ?_
  rw [rNil_p, rFld_p]
  rw [rB1]
  refine step_whole (n := n + 0) (its := [.text]) hm 1 (by omega) g (by
    intro i hi
    have h : i = 0 := by omega
    rcases h with rfl <;> rfl) fun v σ B st g => ?_
  rw [rNil_p, rFld_p, rNil_m meth_text, rInv_i meth_text]
  refine step_text (n := n + 0) (its := []) hm g rfl fun v σ B st g => ?_
  exact g.fin _

theorem pen_said' (hm : 1024 < most) : PenOk most c_save_said itsSaid 5 := by
  intro n σ w B st b o ds K g
  rw [X_call (by rfl), f_save_said]
  unfold r_save_said
  rw [rNil_p, rFld_p]
  rw [rB1]
  refine step_whole (n := n + 0) (its := [.text]) hm 1 (by omega) g (by
    intro i hi
    have h : i = 0 := by omega
    rcases h with rfl <;> rfl) fun v σ B st g => ?_
  rw [rNil_p, rFld_p, rNil_m meth_text, rInv_i meth_text]
  refine step_text (n := n + 0) (its := []) hm g rfl fun v σ B st g => ?_
  exact g.fin _

theorem pen_told' (hm : 1024 < most) : PenOk most c_save_told itsTold 5 := by
  intro n σ w B st b o ds K g
  rw [X_call (by rfl), f_save_told]
  unfold r_save_told
  rw [rNil_p, rFld_p]
  rw [rB1]
  refine step_whole (n := n + 0) (its := [.nums]) hm 1 (by omega) g (by
    intro i hi
    have h : i = 0 := by omega
    rcases h with rfl <;> rfl) fun v σ B st g => ?_
  rw [rNil_p, rFld_p, rNil_m meth_nums, rInv_i meth_nums]
  refine step_nums (n := n + 0) (its := []) hm g rfl fun v σ B st g => ?_
  exact g.fin _

theorem pen_done' (hm : 1024 < most) : PenOk most c_save_done itsDone 5 := by
  intro n σ w B st b o ds K g
  rw [X_call (by rfl), f_save_done]
  unfold r_save_done
  rw [rNil_p, rFld_p, rNil_p, rFld_p]
  rw [rB2, bcase_t, rB2]
  refine step_whole (n := n + 0) (its := [.nums]) hm 2 (by omega) g (by
    intro i hi
    have h : i = 0 ∨ i = 1 := by omega
    rcases h with rfl | rfl <;> rfl) fun v σ B st g => ?_
  rw [rNil_p, rFld_p, rNil_m meth_nums, rInv_i meth_nums]
  refine step_nums (n := n + 0) (its := []) hm g rfl fun v σ B st g => ?_
  exact g.fin _

theorem each_string_loop (hm : 1048576 < most) (hone : PenOk most c_save_text itsText 5) {n : Nat} {w b o : Nat} {es : List (List D)} (hle : es.length ≤ 1048576) :
    ∀ (r i m : Nat) (σ : St) (B : Nat → Prop) (st : PenS) (K : VK), i + r = es.length → r < m → Pen σ w B st → CellAt σ B (.list itsText) b o (.l es) → st.1.length + (es.drop i).foldl (fun c ds => c + costs itsText ds) 0 ≤ LIM →
      (∀ v σ' B', Pen σ' w B' ((es.drop i).foldl (fun st ds => if st.2 = 0 then encs itsText ds st else st) st) → Fr' B σ σ' B' → K v σ' = true) →
      l_save_each_string_rrd (X most (n + 5)) m (hand w) (pt b o) (.func (.func c_save_text) #[] #[]) (.int .i64 (.ofNat es.length)) (.int .i64 (.ofNat i)) σ K = true := by
  intro r
  induction r with
  | zero =>
    intro i m σ B st K hi hmr hp hc hl hK
    obtain ⟨m, rfl⟩ := Nat.exists_eq_succ_of_ne_zero (show m ≠ 0 by omega)
    rw [l_save_each_string_rrdE]
    unfold l_save_each_string_rrdB
    rw [rBin_lssN, show decide (i < es.length) = false from by simp; omega]
    simp only [rGuard_tf, rPick_f, rIf_f]
    refine hK _ σ B ?_ (.refl B σ)
    rw [List.drop_of_length_le (by omega)]
    exact hp
  | succ r ih =>
    intro i m σ B st K hi hmr hp hc hl hK
    obtain ⟨m, rfl⟩ := Nat.exists_eq_succ_of_ne_zero (show m ≠ 0 by omega)
    have hlt : i < es.length := by omega
    have hed : es.drop i = es[i] :: es.drop (i + 1) := List.drop_eq_getElem_cons hlt
    rw [l_save_each_string_rrdE]
    unfold l_save_each_string_rrdB
    rw [rBin_lssN, show decide (i < es.length) = true from by simpa using hlt]
    simp only [rGuard_tt, rInv_i meth_wrong]
    rw [pen_wrong (n := n + 4) hp, rBin_eqlN, rPick_t, rIf_b]
    by_cases he : st.2 = 0
    · rw [if_pos (by simpa using he), rNil_p]
      obtain ⟨v, hv, hld⟩ := hc.ld
      obtain ⟨⟨bb, cc, rfl⟩, hN⟩ := hv.len
      rw [hld, rLenS_s, rBin_eqlN, rIf_b, if_neg (by simp; omega), j_save_each_string_rrddrldrE _ (by rw [X_most]; omega)]
      unfold j_save_each_string_rrddrldrB
      obtain ⟨b2, o2, sp, c2, e2, hsp, hst⟩ := hv.elem (k := i) (ds := es[i]) (List.getElem?_eq_getElem hlt)
      rw [e2] at hld
      rw [rNil_p, hld, rIdx_sp 1 b2 o2 i _ c2 sp hsp hlt, rCallV_0]
      rw [hed, List.foldl_cons, foldl_cost] at hl
      refine hone n ⟨hp, hst, by rw [List.drop_zero]; omega, fun v2 σ' B' hp' f => ?_⟩
      rw [List.drop_zero] at hp'
      rw [rBin_add _ _ _ _ (by omega)]
      have hlen := encs_len itsText es[i] st
      refine ih (i + 1) m σ' B' (encs itsText es[i] st) K (by omega) (by omega) hp' (hc.fr f) (by omega) fun v3 σ3 B3 hp3 f3 => hK v3 σ3 B3 ?_ (f.trans f3)
      rw [hed, List.foldl_cons, if_pos he]
      exact hp3
    · rw [if_neg (by simpa using he)]
      refine hK _ σ B ?_ (.refl B σ)
      have key : ∀ l : List (List D), l.foldl (fun st ds => if st.2 = 0 then encs itsText ds st else st) st = st := by
        intro l
        induction l with
        | nil => rfl
        | cons d l ih => rw [List.foldl_cons, if_neg he, ih]
      rw [key]
      exact hp
theorem each_string (hm : 1048576 < most) (hone : PenOk most c_save_text itsText 5) : EachOk most c_save_each_string c_save_text itsText 6 := by
  intro n σ w B st b o es K hp hc hl hK
  rw [X_call (by rfl), f_save_each_string]
  unfold r_save_each_string
  obtain ⟨v, hv, hld⟩ := hc.ld
  obtain ⟨⟨bb, cc, rfl⟩, hN⟩ := hv.len
  rw [rNil_p, hld, rLenS_s, rNil_m meth_many, rInv_i meth_many]
  have h8 : ∀ l : List (List D), 8 ≤ l.foldl (fun c ds => c + costs itsText ds) 8 := fun l => by rw [foldl_cost]; omega
  have hl' : st.1.length + es.foldl (fun c ds => c + costs itsText ds) 8 ≤ LIM := by simpa [cost] using hl
  refine pen_many (n := n + 1) hp (by omega) hN (by have := h8 es; omega) fun σ' B' hp' f => ?_
  obtain ⟨v', hv', hld'⟩ := (hc.fr f).ld
  have hvv : v' = .slice bb es.length cc := by
    have h1 := hld (fun v _ => true)
    obtain ⟨vs, e, ck, u, g1, g2, g3, g4⟩ := hc.row
    have e1 : σ'.obj b = some (.cells vs e ck) := by rw [f.same b hc.lt hc.nC]; exact g1
    have a1 := hld' (fun x _ => true)
    have q : ∀ K : VK, K v' σ' = K u σ' := fun K => (hld' K).symm.trans (rLd_h e1 g3 K)
    have q2 : ∀ K : VK, K (.slice bb es.length cc) σ = K u σ := fun K => (hld K).symm.trans (rLd_h g1 g3 K)
    have r1 : u = v' := by
      by_cases h : u = v'
      · exact h
      · have := q (fun x _ => @decide (x = v') (Classical.propDecidable _)); simp [h] at this
    have r2 : u = .slice bb es.length cc := by
      by_cases h : u = .slice bb es.length cc
      · exact h
      · have := q2 (fun x _ => @decide (x = .slice bb es.length cc) (Classical.propDecidable _)); simp [h] at this
    rw [← r1, r2]
  subst hvv
  rw [hld', rSame_v (sameV_list hv'), X_most]
  unfold manyN
  by_cases hb : 1048576 < es.length
  · rw [if_pos hb]
    obtain ⟨m, hme⟩ := Nat.exists_eq_succ_of_ne_zero (show most ≠ 0 by omega)
    have hgo : ∀ x : EV, l_save_each_string_rrd x (m + 1) (hand w) (pt b o) (.func (.func c_save_text) #[] #[]) (.int .i64 (.ofNat 0)) (.int .i64 (.ofNat 0)) σ' K = K (.tuple ⟨[]⟩) σ' := fun x => by
      rw [l_save_each_string_rrdE]
      unfold l_save_each_string_rrdB
      rw [rBin_lssN, show decide (0 < 0) = false from rfl]
      simp only [rGuard_tf, rPick_f, rIf_f]
    have hgo2 : l_save_each_string_rrd (X most (n + 5)) most (hand w) (pt b o) (.func (.func c_save_text) #[] #[]) (.int .i64 (.ofNat 0)) (.int .i64 (.ofNat 0)) σ' K = K (.tuple ⟨[]⟩) σ' := by
      have := hgo (X most (n + 5))
      rw [show m + 1 = most from hme.symm] at this
      exact this
    refine Eq.trans hgo2 (hK _ σ' B' ?_ f)
    rw [enc, if_pos hb]
    unfold encMany at hp'
    rw [if_pos hb] at hp'
    exact hp'
  · rw [if_neg hb]
    unfold encMany at hp'
    rw [if_neg hb, wr_zero] at hp'
    refine each_string_loop hm hone (n := n) (by omega) es.length 0 most σ' B' _ K (by omega) (show es.length < most by omega) hp' (hc.fr f) ?_ fun v3 σ3 B3 hp3 f3 => hK v3 σ3 B3 ?_ (f.trans f3)
    · rw [List.drop_zero]
      rw [foldl_cost] at hl'
      show (st.1 ++ beb 8 es.length).length + _ ≤ _
      rw [List.length_append, beb_length]
      omega
    · rw [enc, if_neg hb]
      rw [List.drop_zero] at hp3
      exact hp3

theorem each_list_uint64_loop (hm : 1048576 < most) (hone : PenOk most c_save_nums itsNums 5) {n : Nat} {w b o : Nat} {es : List (List D)} (hle : es.length ≤ 1048576) :
    ∀ (r i m : Nat) (σ : St) (B : Nat → Prop) (st : PenS) (K : VK), i + r = es.length → r < m → Pen σ w B st → CellAt σ B (.list itsNums) b o (.l es) → st.1.length + (es.drop i).foldl (fun c ds => c + costs itsNums ds) 0 ≤ LIM →
      (∀ v σ' B', Pen σ' w B' ((es.drop i).foldl (fun st ds => if st.2 = 0 then encs itsNums ds st else st) st) → Fr' B σ σ' B' → K v σ' = true) →
      l_save_each_list_uint64_rrd (X most (n + 5)) m (hand w) (pt b o) (.func (.func c_save_nums) #[] #[]) (.int .i64 (.ofNat es.length)) (.int .i64 (.ofNat i)) σ K = true := by
  intro r
  induction r with
  | zero =>
    intro i m σ B st K hi hmr hp hc hl hK
    obtain ⟨m, rfl⟩ := Nat.exists_eq_succ_of_ne_zero (show m ≠ 0 by omega)
    rw [l_save_each_list_uint64_rrdE]
    unfold l_save_each_list_uint64_rrdB
    rw [rBin_lssN, show decide (i < es.length) = false from by simp; omega]
    simp only [rGuard_tf, rPick_f, rIf_f]
    refine hK _ σ B ?_ (.refl B σ)
    rw [List.drop_of_length_le (by omega)]
    exact hp
  | succ r ih =>
    intro i m σ B st K hi hmr hp hc hl hK
    obtain ⟨m, rfl⟩ := Nat.exists_eq_succ_of_ne_zero (show m ≠ 0 by omega)
    have hlt : i < es.length := by omega
    have hed : es.drop i = es[i] :: es.drop (i + 1) := List.drop_eq_getElem_cons hlt
    rw [l_save_each_list_uint64_rrdE]
    unfold l_save_each_list_uint64_rrdB
    rw [rBin_lssN, show decide (i < es.length) = true from by simpa using hlt]
    simp only [rGuard_tt, rInv_i meth_wrong]
    rw [pen_wrong (n := n + 4) hp, rBin_eqlN, rPick_t, rIf_b]
    by_cases he : st.2 = 0
    · rw [if_pos (by simpa using he), rNil_p]
      obtain ⟨v, hv, hld⟩ := hc.ld
      obtain ⟨⟨bb, cc, rfl⟩, hN⟩ := hv.len
      rw [hld, rLenS_s, rBin_eqlN, rIf_b, if_neg (by simp; omega), j_save_each_list_uint64_rrddrldrE _ (by rw [X_most]; omega)]
      unfold j_save_each_list_uint64_rrddrldrB
      obtain ⟨b2, o2, sp, c2, e2, hsp, hst⟩ := hv.elem (k := i) (ds := es[i]) (List.getElem?_eq_getElem hlt)
      rw [e2] at hld
      rw [rNil_p, hld, rIdx_sp 1 b2 o2 i _ c2 sp hsp hlt, rCallV_0]
      rw [hed, List.foldl_cons, foldl_cost] at hl
      refine hone n ⟨hp, hst, by rw [List.drop_zero]; omega, fun v2 σ' B' hp' f => ?_⟩
      rw [List.drop_zero] at hp'
      rw [rBin_add _ _ _ _ (by omega)]
      have hlen := encs_len itsNums es[i] st
      refine ih (i + 1) m σ' B' (encs itsNums es[i] st) K (by omega) (by omega) hp' (hc.fr f) (by omega) fun v3 σ3 B3 hp3 f3 => hK v3 σ3 B3 ?_ (f.trans f3)
      rw [hed, List.foldl_cons, if_pos he]
      exact hp3
    · rw [if_neg (by simpa using he)]
      refine hK _ σ B ?_ (.refl B σ)
      have key : ∀ l : List (List D), l.foldl (fun st ds => if st.2 = 0 then encs itsNums ds st else st) st = st := by
        intro l
        induction l with
        | nil => rfl
        | cons d l ih => rw [List.foldl_cons, if_neg he, ih]
      rw [key]
      exact hp
theorem each_list_uint64 (hm : 1048576 < most) (hone : PenOk most c_save_nums itsNums 5) : EachOk most c_save_each_list_uint64 c_save_nums itsNums 6 := by
  intro n σ w B st b o es K hp hc hl hK
  rw [X_call (by rfl), f_save_each_list_uint64]
  unfold r_save_each_list_uint64
  obtain ⟨v, hv, hld⟩ := hc.ld
  obtain ⟨⟨bb, cc, rfl⟩, hN⟩ := hv.len
  rw [rNil_p, hld, rLenS_s, rNil_m meth_many, rInv_i meth_many]
  have h8 : ∀ l : List (List D), 8 ≤ l.foldl (fun c ds => c + costs itsNums ds) 8 := fun l => by rw [foldl_cost]; omega
  have hl' : st.1.length + es.foldl (fun c ds => c + costs itsNums ds) 8 ≤ LIM := by simpa [cost] using hl
  refine pen_many (n := n + 1) hp (by omega) hN (by have := h8 es; omega) fun σ' B' hp' f => ?_
  obtain ⟨v', hv', hld'⟩ := (hc.fr f).ld
  have hvv : v' = .slice bb es.length cc := by
    have h1 := hld (fun v _ => true)
    obtain ⟨vs, e, ck, u, g1, g2, g3, g4⟩ := hc.row
    have e1 : σ'.obj b = some (.cells vs e ck) := by rw [f.same b hc.lt hc.nC]; exact g1
    have a1 := hld' (fun x _ => true)
    have q : ∀ K : VK, K v' σ' = K u σ' := fun K => (hld' K).symm.trans (rLd_h e1 g3 K)
    have q2 : ∀ K : VK, K (.slice bb es.length cc) σ = K u σ := fun K => (hld K).symm.trans (rLd_h g1 g3 K)
    have r1 : u = v' := by
      by_cases h : u = v'
      · exact h
      · have := q (fun x _ => @decide (x = v') (Classical.propDecidable _)); simp [h] at this
    have r2 : u = .slice bb es.length cc := by
      by_cases h : u = .slice bb es.length cc
      · exact h
      · have := q2 (fun x _ => @decide (x = .slice bb es.length cc) (Classical.propDecidable _)); simp [h] at this
    rw [← r1, r2]
  subst hvv
  rw [hld', rSame_v (sameV_list hv'), X_most]
  unfold manyN
  by_cases hb : 1048576 < es.length
  · rw [if_pos hb]
    obtain ⟨m, hme⟩ := Nat.exists_eq_succ_of_ne_zero (show most ≠ 0 by omega)
    have hgo : ∀ x : EV, l_save_each_list_uint64_rrd x (m + 1) (hand w) (pt b o) (.func (.func c_save_nums) #[] #[]) (.int .i64 (.ofNat 0)) (.int .i64 (.ofNat 0)) σ' K = K (.tuple ⟨[]⟩) σ' := fun x => by
      rw [l_save_each_list_uint64_rrdE]
      unfold l_save_each_list_uint64_rrdB
      rw [rBin_lssN, show decide (0 < 0) = false from rfl]
      simp only [rGuard_tf, rPick_f, rIf_f]
    have hgo2 : l_save_each_list_uint64_rrd (X most (n + 5)) most (hand w) (pt b o) (.func (.func c_save_nums) #[] #[]) (.int .i64 (.ofNat 0)) (.int .i64 (.ofNat 0)) σ' K = K (.tuple ⟨[]⟩) σ' := by
      have := hgo (X most (n + 5))
      rw [show m + 1 = most from hme.symm] at this
      exact this
    refine Eq.trans hgo2 (hK _ σ' B' ?_ f)
    rw [enc, if_pos hb]
    unfold encMany at hp'
    rw [if_pos hb] at hp'
    exact hp'
  · rw [if_neg hb]
    unfold encMany at hp'
    rw [if_neg hb, wr_zero] at hp'
    refine each_list_uint64_loop hm hone (n := n) (by omega) es.length 0 most σ' B' _ K (by omega) (show es.length < most by omega) hp' (hc.fr f) ?_ fun v3 σ3 B3 hp3 f3 => hK v3 σ3 B3 ?_ (f.trans f3)
    · rw [List.drop_zero]
      rw [foldl_cost] at hl'
      show (st.1 ++ beb 8 es.length).length + _ ≤ _
      rw [List.length_append, beb_length]
      omega
    · rw [enc, if_neg hb]
      rw [List.drop_zero] at hp3
      exact hp3

theorem each_api_Pair_loop (hm : 1048576 < most) (hone : PenOk most c_save_pair itsPair 5) {n : Nat} {w b o : Nat} {es : List (List D)} (hle : es.length ≤ 1048576) :
    ∀ (r i m : Nat) (σ : St) (B : Nat → Prop) (st : PenS) (K : VK), i + r = es.length → r < m → Pen σ w B st → CellAt σ B (.list itsPair) b o (.l es) → st.1.length + (es.drop i).foldl (fun c ds => c + costs itsPair ds) 0 ≤ LIM →
      (∀ v σ' B', Pen σ' w B' ((es.drop i).foldl (fun st ds => if st.2 = 0 then encs itsPair ds st else st) st) → Fr' B σ σ' B' → K v σ' = true) →
      l_save_each_api_Pair_rrd (X most (n + 5)) m (hand w) (pt b o) (.func (.func c_save_pair) #[] #[]) (.int .i64 (.ofNat es.length)) (.int .i64 (.ofNat i)) σ K = true := by
  intro r
  induction r with
  | zero =>
    intro i m σ B st K hi hmr hp hc hl hK
    obtain ⟨m, rfl⟩ := Nat.exists_eq_succ_of_ne_zero (show m ≠ 0 by omega)
    rw [l_save_each_api_Pair_rrdE]
    unfold l_save_each_api_Pair_rrdB
    rw [rBin_lssN, show decide (i < es.length) = false from by simp; omega]
    simp only [rGuard_tf, rPick_f, rIf_f]
    refine hK _ σ B ?_ (.refl B σ)
    rw [List.drop_of_length_le (by omega)]
    exact hp
  | succ r ih =>
    intro i m σ B st K hi hmr hp hc hl hK
    obtain ⟨m, rfl⟩ := Nat.exists_eq_succ_of_ne_zero (show m ≠ 0 by omega)
    have hlt : i < es.length := by omega
    have hed : es.drop i = es[i] :: es.drop (i + 1) := List.drop_eq_getElem_cons hlt
    rw [l_save_each_api_Pair_rrdE]
    unfold l_save_each_api_Pair_rrdB
    rw [rBin_lssN, show decide (i < es.length) = true from by simpa using hlt]
    simp only [rGuard_tt, rInv_i meth_wrong]
    rw [pen_wrong (n := n + 4) hp, rBin_eqlN, rPick_t, rIf_b]
    by_cases he : st.2 = 0
    · rw [if_pos (by simpa using he), rNil_p]
      obtain ⟨v, hv, hld⟩ := hc.ld
      obtain ⟨⟨bb, cc, rfl⟩, hN⟩ := hv.len
      rw [hld, rLenS_s, rBin_eqlN, rIf_b, if_neg (by simp; omega), j_save_each_api_Pair_rrddrldrE _ (by rw [X_most]; omega)]
      unfold j_save_each_api_Pair_rrddrldrB
      obtain ⟨b2, o2, sp, c2, e2, hsp, hst⟩ := hv.elem (k := i) (ds := es[i]) (List.getElem?_eq_getElem hlt)
      rw [e2] at hld
      rw [rNil_p, hld, rIdx_sp 2 b2 o2 i _ c2 sp hsp hlt, rCallV_0]
      rw [hed, List.foldl_cons, foldl_cost] at hl
      refine hone n ⟨hp, hst, by rw [List.drop_zero]; omega, fun v2 σ' B' hp' f => ?_⟩
      rw [List.drop_zero] at hp'
      rw [rBin_add _ _ _ _ (by omega)]
      have hlen := encs_len itsPair es[i] st
      refine ih (i + 1) m σ' B' (encs itsPair es[i] st) K (by omega) (by omega) hp' (hc.fr f) (by omega) fun v3 σ3 B3 hp3 f3 => hK v3 σ3 B3 ?_ (f.trans f3)
      rw [hed, List.foldl_cons, if_pos he]
      exact hp3
    · rw [if_neg (by simpa using he)]
      refine hK _ σ B ?_ (.refl B σ)
      have key : ∀ l : List (List D), l.foldl (fun st ds => if st.2 = 0 then encs itsPair ds st else st) st = st := by
        intro l
        induction l with
        | nil => rfl
        | cons d l ih => rw [List.foldl_cons, if_neg he, ih]
      rw [key]
      exact hp
theorem each_api_Pair (hm : 1048576 < most) (hone : PenOk most c_save_pair itsPair 5) : EachOk most c_save_each_api_Pair c_save_pair itsPair 6 := by
  intro n σ w B st b o es K hp hc hl hK
  rw [X_call (by rfl), f_save_each_api_Pair]
  unfold r_save_each_api_Pair
  obtain ⟨v, hv, hld⟩ := hc.ld
  obtain ⟨⟨bb, cc, rfl⟩, hN⟩ := hv.len
  rw [rNil_p, hld, rLenS_s, rNil_m meth_many, rInv_i meth_many]
  have h8 : ∀ l : List (List D), 8 ≤ l.foldl (fun c ds => c + costs itsPair ds) 8 := fun l => by rw [foldl_cost]; omega
  have hl' : st.1.length + es.foldl (fun c ds => c + costs itsPair ds) 8 ≤ LIM := by simpa [cost] using hl
  refine pen_many (n := n + 1) hp (by omega) hN (by have := h8 es; omega) fun σ' B' hp' f => ?_
  obtain ⟨v', hv', hld'⟩ := (hc.fr f).ld
  have hvv : v' = .slice bb es.length cc := by
    have h1 := hld (fun v _ => true)
    obtain ⟨vs, e, ck, u, g1, g2, g3, g4⟩ := hc.row
    have e1 : σ'.obj b = some (.cells vs e ck) := by rw [f.same b hc.lt hc.nC]; exact g1
    have a1 := hld' (fun x _ => true)
    have q : ∀ K : VK, K v' σ' = K u σ' := fun K => (hld' K).symm.trans (rLd_h e1 g3 K)
    have q2 : ∀ K : VK, K (.slice bb es.length cc) σ = K u σ := fun K => (hld K).symm.trans (rLd_h g1 g3 K)
    have r1 : u = v' := by
      by_cases h : u = v'
      · exact h
      · have := q (fun x _ => @decide (x = v') (Classical.propDecidable _)); simp [h] at this
    have r2 : u = .slice bb es.length cc := by
      by_cases h : u = .slice bb es.length cc
      · exact h
      · have := q2 (fun x _ => @decide (x = .slice bb es.length cc) (Classical.propDecidable _)); simp [h] at this
    rw [← r1, r2]
  subst hvv
  rw [hld', rSame_v (sameV_list hv'), X_most]
  unfold manyN
  by_cases hb : 1048576 < es.length
  · rw [if_pos hb]
    obtain ⟨m, hme⟩ := Nat.exists_eq_succ_of_ne_zero (show most ≠ 0 by omega)
    have hgo : ∀ x : EV, l_save_each_api_Pair_rrd x (m + 1) (hand w) (pt b o) (.func (.func c_save_pair) #[] #[]) (.int .i64 (.ofNat 0)) (.int .i64 (.ofNat 0)) σ' K = K (.tuple ⟨[]⟩) σ' := fun x => by
      rw [l_save_each_api_Pair_rrdE]
      unfold l_save_each_api_Pair_rrdB
      rw [rBin_lssN, show decide (0 < 0) = false from rfl]
      simp only [rGuard_tf, rPick_f, rIf_f]
    have hgo2 : l_save_each_api_Pair_rrd (X most (n + 5)) most (hand w) (pt b o) (.func (.func c_save_pair) #[] #[]) (.int .i64 (.ofNat 0)) (.int .i64 (.ofNat 0)) σ' K = K (.tuple ⟨[]⟩) σ' := by
      have := hgo (X most (n + 5))
      rw [show m + 1 = most from hme.symm] at this
      exact this
    refine Eq.trans hgo2 (hK _ σ' B' ?_ f)
    rw [enc, if_pos hb]
    unfold encMany at hp'
    rw [if_pos hb] at hp'
    exact hp'
  · rw [if_neg hb]
    unfold encMany at hp'
    rw [if_neg hb, wr_zero] at hp'
    refine each_api_Pair_loop hm hone (n := n) (by omega) es.length 0 most σ' B' _ K (by omega) (show es.length < most by omega) hp' (hc.fr f) ?_ fun v3 σ3 B3 hp3 f3 => hK v3 σ3 B3 ?_ (f.trans f3)
    · rw [List.drop_zero]
      rw [foldl_cost] at hl'
      show (st.1 ++ beb 8 es.length).length + _ ≤ _
      rw [List.length_append, beb_length]
      omega
    · rw [enc, if_neg hb]
      rw [List.drop_zero] at hp3
      exact hp3

theorem each_api_Msg_loop (hm : 1048576 < most) (hone : PenOk most c_save_message itsMsg 5) {n : Nat} {w b o : Nat} {es : List (List D)} (hle : es.length ≤ 1048576) :
    ∀ (r i m : Nat) (σ : St) (B : Nat → Prop) (st : PenS) (K : VK), i + r = es.length → r < m → Pen σ w B st → CellAt σ B (.list itsMsg) b o (.l es) → st.1.length + (es.drop i).foldl (fun c ds => c + costs itsMsg ds) 0 ≤ LIM →
      (∀ v σ' B', Pen σ' w B' ((es.drop i).foldl (fun st ds => if st.2 = 0 then encs itsMsg ds st else st) st) → Fr' B σ σ' B' → K v σ' = true) →
      l_save_each_api_Msg_rrd (X most (n + 5)) m (hand w) (pt b o) (.func (.func c_save_message) #[] #[]) (.int .i64 (.ofNat es.length)) (.int .i64 (.ofNat i)) σ K = true := by
  intro r
  induction r with
  | zero =>
    intro i m σ B st K hi hmr hp hc hl hK
    obtain ⟨m, rfl⟩ := Nat.exists_eq_succ_of_ne_zero (show m ≠ 0 by omega)
    rw [l_save_each_api_Msg_rrdE]
    unfold l_save_each_api_Msg_rrdB
    rw [rBin_lssN, show decide (i < es.length) = false from by simp; omega]
    simp only [rGuard_tf, rPick_f, rIf_f]
    refine hK _ σ B ?_ (.refl B σ)
    rw [List.drop_of_length_le (by omega)]
    exact hp
  | succ r ih =>
    intro i m σ B st K hi hmr hp hc hl hK
    obtain ⟨m, rfl⟩ := Nat.exists_eq_succ_of_ne_zero (show m ≠ 0 by omega)
    have hlt : i < es.length := by omega
    have hed : es.drop i = es[i] :: es.drop (i + 1) := List.drop_eq_getElem_cons hlt
    rw [l_save_each_api_Msg_rrdE]
    unfold l_save_each_api_Msg_rrdB
    rw [rBin_lssN, show decide (i < es.length) = true from by simpa using hlt]
    simp only [rGuard_tt, rInv_i meth_wrong]
    rw [pen_wrong (n := n + 4) hp, rBin_eqlN, rPick_t, rIf_b]
    by_cases he : st.2 = 0
    · rw [if_pos (by simpa using he), rNil_p]
      obtain ⟨v, hv, hld⟩ := hc.ld
      obtain ⟨⟨bb, cc, rfl⟩, hN⟩ := hv.len
      rw [hld, rLenS_s, rBin_eqlN, rIf_b, if_neg (by simp; omega), j_save_each_api_Msg_rrddrldrE _ (by rw [X_most]; omega)]
      unfold j_save_each_api_Msg_rrddrldrB
      obtain ⟨b2, o2, sp, c2, e2, hsp, hst⟩ := hv.elem (k := i) (ds := es[i]) (List.getElem?_eq_getElem hlt)
      rw [e2] at hld
      rw [rNil_p, hld, rIdx_sp 11 b2 o2 i _ c2 sp hsp hlt, rCallV_0]
      rw [hed, List.foldl_cons, foldl_cost] at hl
      refine hone n ⟨hp, hst, by rw [List.drop_zero]; omega, fun v2 σ' B' hp' f => ?_⟩
      rw [List.drop_zero] at hp'
      rw [rBin_add _ _ _ _ (by omega)]
      have hlen := encs_len itsMsg es[i] st
      refine ih (i + 1) m σ' B' (encs itsMsg es[i] st) K (by omega) (by omega) hp' (hc.fr f) (by omega) fun v3 σ3 B3 hp3 f3 => hK v3 σ3 B3 ?_ (f.trans f3)
      rw [hed, List.foldl_cons, if_pos he]
      exact hp3
    · rw [if_neg (by simpa using he)]
      refine hK _ σ B ?_ (.refl B σ)
      have key : ∀ l : List (List D), l.foldl (fun st ds => if st.2 = 0 then encs itsMsg ds st else st) st = st := by
        intro l
        induction l with
        | nil => rfl
        | cons d l ih => rw [List.foldl_cons, if_neg he, ih]
      rw [key]
      exact hp
theorem each_api_Msg (hm : 1048576 < most) (hone : PenOk most c_save_message itsMsg 5) : EachOk most c_save_each_api_Msg c_save_message itsMsg 6 := by
  intro n σ w B st b o es K hp hc hl hK
  rw [X_call (by rfl), f_save_each_api_Msg]
  unfold r_save_each_api_Msg
  obtain ⟨v, hv, hld⟩ := hc.ld
  obtain ⟨⟨bb, cc, rfl⟩, hN⟩ := hv.len
  rw [rNil_p, hld, rLenS_s, rNil_m meth_many, rInv_i meth_many]
  have h8 : ∀ l : List (List D), 8 ≤ l.foldl (fun c ds => c + costs itsMsg ds) 8 := fun l => by rw [foldl_cost]; omega
  have hl' : st.1.length + es.foldl (fun c ds => c + costs itsMsg ds) 8 ≤ LIM := by simpa [cost] using hl
  refine pen_many (n := n + 1) hp (by omega) hN (by have := h8 es; omega) fun σ' B' hp' f => ?_
  obtain ⟨v', hv', hld'⟩ := (hc.fr f).ld
  have hvv : v' = .slice bb es.length cc := by
    have h1 := hld (fun v _ => true)
    obtain ⟨vs, e, ck, u, g1, g2, g3, g4⟩ := hc.row
    have e1 : σ'.obj b = some (.cells vs e ck) := by rw [f.same b hc.lt hc.nC]; exact g1
    have a1 := hld' (fun x _ => true)
    have q : ∀ K : VK, K v' σ' = K u σ' := fun K => (hld' K).symm.trans (rLd_h e1 g3 K)
    have q2 : ∀ K : VK, K (.slice bb es.length cc) σ = K u σ := fun K => (hld K).symm.trans (rLd_h g1 g3 K)
    have r1 : u = v' := by
      by_cases h : u = v'
      · exact h
      · have := q (fun x _ => @decide (x = v') (Classical.propDecidable _)); simp [h] at this
    have r2 : u = .slice bb es.length cc := by
      by_cases h : u = .slice bb es.length cc
      · exact h
      · have := q2 (fun x _ => @decide (x = .slice bb es.length cc) (Classical.propDecidable _)); simp [h] at this
    rw [← r1, r2]
  subst hvv
  rw [hld', rSame_v (sameV_list hv'), X_most]
  unfold manyN
  by_cases hb : 1048576 < es.length
  · rw [if_pos hb]
    obtain ⟨m, hme⟩ := Nat.exists_eq_succ_of_ne_zero (show most ≠ 0 by omega)
    have hgo : ∀ x : EV, l_save_each_api_Msg_rrd x (m + 1) (hand w) (pt b o) (.func (.func c_save_message) #[] #[]) (.int .i64 (.ofNat 0)) (.int .i64 (.ofNat 0)) σ' K = K (.tuple ⟨[]⟩) σ' := fun x => by
      rw [l_save_each_api_Msg_rrdE]
      unfold l_save_each_api_Msg_rrdB
      rw [rBin_lssN, show decide (0 < 0) = false from rfl]
      simp only [rGuard_tf, rPick_f, rIf_f]
    have hgo2 : l_save_each_api_Msg_rrd (X most (n + 5)) most (hand w) (pt b o) (.func (.func c_save_message) #[] #[]) (.int .i64 (.ofNat 0)) (.int .i64 (.ofNat 0)) σ' K = K (.tuple ⟨[]⟩) σ' := by
      have := hgo (X most (n + 5))
      rw [show m + 1 = most from hme.symm] at this
      exact this
    refine Eq.trans hgo2 (hK _ σ' B' ?_ f)
    rw [enc, if_pos hb]
    unfold encMany at hp'
    rw [if_pos hb] at hp'
    exact hp'
  · rw [if_neg hb]
    unfold encMany at hp'
    rw [if_neg hb, wr_zero] at hp'
    refine each_api_Msg_loop hm hone (n := n) (by omega) es.length 0 most σ' B' _ K (by omega) (show es.length < most by omega) hp' (hc.fr f) ?_ fun v3 σ3 B3 hp3 f3 => hK v3 σ3 B3 ?_ (f.trans f3)
    · rw [List.drop_zero]
      rw [foldl_cost] at hl'
      show (st.1 ++ beb 8 es.length).length + _ ≤ _
      rw [List.length_append, beb_length]
      omega
    · rw [enc, if_neg hb]
      rw [List.drop_zero] at hp3
      exact hp3

theorem each_tally_Vote_loop (hm : 1048576 < most) (hone : PenOk most c_save_vote itsVote 5) {n : Nat} {w b o : Nat} {es : List (List D)} (hle : es.length ≤ 1048576) :
    ∀ (r i m : Nat) (σ : St) (B : Nat → Prop) (st : PenS) (K : VK), i + r = es.length → r < m → Pen σ w B st → CellAt σ B (.list itsVote) b o (.l es) → st.1.length + (es.drop i).foldl (fun c ds => c + costs itsVote ds) 0 ≤ LIM →
      (∀ v σ' B', Pen σ' w B' ((es.drop i).foldl (fun st ds => if st.2 = 0 then encs itsVote ds st else st) st) → Fr' B σ σ' B' → K v σ' = true) →
      l_save_each_tally_Vote_rrd (X most (n + 5)) m (hand w) (pt b o) (.func (.func c_save_vote) #[] #[]) (.int .i64 (.ofNat es.length)) (.int .i64 (.ofNat i)) σ K = true := by
  intro r
  induction r with
  | zero =>
    intro i m σ B st K hi hmr hp hc hl hK
    obtain ⟨m, rfl⟩ := Nat.exists_eq_succ_of_ne_zero (show m ≠ 0 by omega)
    rw [l_save_each_tally_Vote_rrdE]
    unfold l_save_each_tally_Vote_rrdB
    rw [rBin_lssN, show decide (i < es.length) = false from by simp; omega]
    simp only [rGuard_tf, rPick_f, rIf_f]
    refine hK _ σ B ?_ (.refl B σ)
    rw [List.drop_of_length_le (by omega)]
    exact hp
  | succ r ih =>
    intro i m σ B st K hi hmr hp hc hl hK
    obtain ⟨m, rfl⟩ := Nat.exists_eq_succ_of_ne_zero (show m ≠ 0 by omega)
    have hlt : i < es.length := by omega
    have hed : es.drop i = es[i] :: es.drop (i + 1) := List.drop_eq_getElem_cons hlt
    rw [l_save_each_tally_Vote_rrdE]
    unfold l_save_each_tally_Vote_rrdB
    rw [rBin_lssN, show decide (i < es.length) = true from by simpa using hlt]
    simp only [rGuard_tt, rInv_i meth_wrong]
    rw [pen_wrong (n := n + 4) hp, rBin_eqlN, rPick_t, rIf_b]
    by_cases he : st.2 = 0
    · rw [if_pos (by simpa using he), rNil_p]
      obtain ⟨v, hv, hld⟩ := hc.ld
      obtain ⟨⟨bb, cc, rfl⟩, hN⟩ := hv.len
      rw [hld, rLenS_s, rBin_eqlN, rIf_b, if_neg (by simp; omega), j_save_each_tally_Vote_rrddrldrE _ (by rw [X_most]; omega)]
      unfold j_save_each_tally_Vote_rrddrldrB
      obtain ⟨b2, o2, sp, c2, e2, hsp, hst⟩ := hv.elem (k := i) (ds := es[i]) (List.getElem?_eq_getElem hlt)
      rw [e2] at hld
      rw [rNil_p, hld, rIdx_sp 5 b2 o2 i _ c2 sp hsp hlt, rCallV_0]
      rw [hed, List.foldl_cons, foldl_cost] at hl
      refine hone n ⟨hp, hst, by rw [List.drop_zero]; omega, fun v2 σ' B' hp' f => ?_⟩
      rw [List.drop_zero] at hp'
      rw [rBin_add _ _ _ _ (by omega)]
      have hlen := encs_len itsVote es[i] st
      refine ih (i + 1) m σ' B' (encs itsVote es[i] st) K (by omega) (by omega) hp' (hc.fr f) (by omega) fun v3 σ3 B3 hp3 f3 => hK v3 σ3 B3 ?_ (f.trans f3)
      rw [hed, List.foldl_cons, if_pos he]
      exact hp3
    · rw [if_neg (by simpa using he)]
      refine hK _ σ B ?_ (.refl B σ)
      have key : ∀ l : List (List D), l.foldl (fun st ds => if st.2 = 0 then encs itsVote ds st else st) st = st := by
        intro l
        induction l with
        | nil => rfl
        | cons d l ih => rw [List.foldl_cons, if_neg he, ih]
      rw [key]
      exact hp
theorem each_tally_Vote (hm : 1048576 < most) (hone : PenOk most c_save_vote itsVote 5) : EachOk most c_save_each_tally_Vote c_save_vote itsVote 6 := by
  intro n σ w B st b o es K hp hc hl hK
  rw [X_call (by rfl), f_save_each_tally_Vote]
  unfold r_save_each_tally_Vote
  obtain ⟨v, hv, hld⟩ := hc.ld
  obtain ⟨⟨bb, cc, rfl⟩, hN⟩ := hv.len
  rw [rNil_p, hld, rLenS_s, rNil_m meth_many, rInv_i meth_many]
  have h8 : ∀ l : List (List D), 8 ≤ l.foldl (fun c ds => c + costs itsVote ds) 8 := fun l => by rw [foldl_cost]; omega
  have hl' : st.1.length + es.foldl (fun c ds => c + costs itsVote ds) 8 ≤ LIM := by simpa [cost] using hl
  refine pen_many (n := n + 1) hp (by omega) hN (by have := h8 es; omega) fun σ' B' hp' f => ?_
  obtain ⟨v', hv', hld'⟩ := (hc.fr f).ld
  have hvv : v' = .slice bb es.length cc := by
    have h1 := hld (fun v _ => true)
    obtain ⟨vs, e, ck, u, g1, g2, g3, g4⟩ := hc.row
    have e1 : σ'.obj b = some (.cells vs e ck) := by rw [f.same b hc.lt hc.nC]; exact g1
    have a1 := hld' (fun x _ => true)
    have q : ∀ K : VK, K v' σ' = K u σ' := fun K => (hld' K).symm.trans (rLd_h e1 g3 K)
    have q2 : ∀ K : VK, K (.slice bb es.length cc) σ = K u σ := fun K => (hld K).symm.trans (rLd_h g1 g3 K)
    have r1 : u = v' := by
      by_cases h : u = v'
      · exact h
      · have := q (fun x _ => @decide (x = v') (Classical.propDecidable _)); simp [h] at this
    have r2 : u = .slice bb es.length cc := by
      by_cases h : u = .slice bb es.length cc
      · exact h
      · have := q2 (fun x _ => @decide (x = .slice bb es.length cc) (Classical.propDecidable _)); simp [h] at this
    rw [← r1, r2]
  subst hvv
  rw [hld', rSame_v (sameV_list hv'), X_most]
  unfold manyN
  by_cases hb : 1048576 < es.length
  · rw [if_pos hb]
    obtain ⟨m, hme⟩ := Nat.exists_eq_succ_of_ne_zero (show most ≠ 0 by omega)
    have hgo : ∀ x : EV, l_save_each_tally_Vote_rrd x (m + 1) (hand w) (pt b o) (.func (.func c_save_vote) #[] #[]) (.int .i64 (.ofNat 0)) (.int .i64 (.ofNat 0)) σ' K = K (.tuple ⟨[]⟩) σ' := fun x => by
      rw [l_save_each_tally_Vote_rrdE]
      unfold l_save_each_tally_Vote_rrdB
      rw [rBin_lssN, show decide (0 < 0) = false from rfl]
      simp only [rGuard_tf, rPick_f, rIf_f]
    have hgo2 : l_save_each_tally_Vote_rrd (X most (n + 5)) most (hand w) (pt b o) (.func (.func c_save_vote) #[] #[]) (.int .i64 (.ofNat 0)) (.int .i64 (.ofNat 0)) σ' K = K (.tuple ⟨[]⟩) σ' := by
      have := hgo (X most (n + 5))
      rw [show m + 1 = most from hme.symm] at this
      exact this
    refine Eq.trans hgo2 (hK _ σ' B' ?_ f)
    rw [enc, if_pos hb]
    unfold encMany at hp'
    rw [if_pos hb] at hp'
    exact hp'
  · rw [if_neg hb]
    unfold encMany at hp'
    rw [if_neg hb, wr_zero] at hp'
    refine each_tally_Vote_loop hm hone (n := n) (by omega) es.length 0 most σ' B' _ K (by omega) (show es.length < most by omega) hp' (hc.fr f) ?_ fun v3 σ3 B3 hp3 f3 => hK v3 σ3 B3 ?_ (f.trans f3)
    · rw [List.drop_zero]
      rw [foldl_cost] at hl'
      show (st.1 ++ beb 8 es.length).length + _ ≤ _
      rw [List.length_append, beb_length]
      omega
    · rw [enc, if_neg hb]
      rw [List.drop_zero] at hp3
      exact hp3

theorem each_board_Told_loop (hm : 1048576 < most) (hone : PenOk most c_save_said itsSaid 5) {n : Nat} {w b o : Nat} {es : List (List D)} (hle : es.length ≤ 1048576) :
    ∀ (r i m : Nat) (σ : St) (B : Nat → Prop) (st : PenS) (K : VK), i + r = es.length → r < m → Pen σ w B st → CellAt σ B (.list itsSaid) b o (.l es) → st.1.length + (es.drop i).foldl (fun c ds => c + costs itsSaid ds) 0 ≤ LIM →
      (∀ v σ' B', Pen σ' w B' ((es.drop i).foldl (fun st ds => if st.2 = 0 then encs itsSaid ds st else st) st) → Fr' B σ σ' B' → K v σ' = true) →
      l_save_each_board_Told_rrd (X most (n + 5)) m (hand w) (pt b o) (.func (.func c_save_said) #[] #[]) (.int .i64 (.ofNat es.length)) (.int .i64 (.ofNat i)) σ K = true := by
  intro r
  induction r with
  | zero =>
    intro i m σ B st K hi hmr hp hc hl hK
    obtain ⟨m, rfl⟩ := Nat.exists_eq_succ_of_ne_zero (show m ≠ 0 by omega)
    rw [l_save_each_board_Told_rrdE]
    unfold l_save_each_board_Told_rrdB
    rw [rBin_lssN, show decide (i < es.length) = false from by simp; omega]
    simp only [rGuard_tf, rPick_f, rIf_f]
    refine hK _ σ B ?_ (.refl B σ)
    rw [List.drop_of_length_le (by omega)]
    exact hp
  | succ r ih =>
    intro i m σ B st K hi hmr hp hc hl hK
    obtain ⟨m, rfl⟩ := Nat.exists_eq_succ_of_ne_zero (show m ≠ 0 by omega)
    have hlt : i < es.length := by omega
    have hed : es.drop i = es[i] :: es.drop (i + 1) := List.drop_eq_getElem_cons hlt
    rw [l_save_each_board_Told_rrdE]
    unfold l_save_each_board_Told_rrdB
    rw [rBin_lssN, show decide (i < es.length) = true from by simpa using hlt]
    simp only [rGuard_tt, rInv_i meth_wrong]
    rw [pen_wrong (n := n + 4) hp, rBin_eqlN, rPick_t, rIf_b]
    by_cases he : st.2 = 0
    · rw [if_pos (by simpa using he), rNil_p]
      obtain ⟨v, hv, hld⟩ := hc.ld
      obtain ⟨⟨bb, cc, rfl⟩, hN⟩ := hv.len
      rw [hld, rLenS_s, rBin_eqlN, rIf_b, if_neg (by simp; omega), j_save_each_board_Told_rrddrldrE _ (by rw [X_most]; omega)]
      unfold j_save_each_board_Told_rrddrldrB
      obtain ⟨b2, o2, sp, c2, e2, hsp, hst⟩ := hv.elem (k := i) (ds := es[i]) (List.getElem?_eq_getElem hlt)
      rw [e2] at hld
      rw [rNil_p, hld, rIdx_sp 2 b2 o2 i _ c2 sp hsp hlt, rCallV_0]
      rw [hed, List.foldl_cons, foldl_cost] at hl
      refine hone n ⟨hp, hst, by rw [List.drop_zero]; omega, fun v2 σ' B' hp' f => ?_⟩
      rw [List.drop_zero] at hp'
      rw [rBin_add _ _ _ _ (by omega)]
      have hlen := encs_len itsSaid es[i] st
      refine ih (i + 1) m σ' B' (encs itsSaid es[i] st) K (by omega) (by omega) hp' (hc.fr f) (by omega) fun v3 σ3 B3 hp3 f3 => hK v3 σ3 B3 ?_ (f.trans f3)
      rw [hed, List.foldl_cons, if_pos he]
      exact hp3
    · rw [if_neg (by simpa using he)]
      refine hK _ σ B ?_ (.refl B σ)
      have key : ∀ l : List (List D), l.foldl (fun st ds => if st.2 = 0 then encs itsSaid ds st else st) st = st := by
        intro l
        induction l with
        | nil => rfl
        | cons d l ih => rw [List.foldl_cons, if_neg he, ih]
      rw [key]
      exact hp
theorem each_board_Told (hm : 1048576 < most) (hone : PenOk most c_save_said itsSaid 5) : EachOk most c_save_each_board_Told c_save_said itsSaid 6 := by
  intro n σ w B st b o es K hp hc hl hK
  rw [X_call (by rfl), f_save_each_board_Told]
  unfold r_save_each_board_Told
  obtain ⟨v, hv, hld⟩ := hc.ld
  obtain ⟨⟨bb, cc, rfl⟩, hN⟩ := hv.len
  rw [rNil_p, hld, rLenS_s, rNil_m meth_many, rInv_i meth_many]
  have h8 : ∀ l : List (List D), 8 ≤ l.foldl (fun c ds => c + costs itsSaid ds) 8 := fun l => by rw [foldl_cost]; omega
  have hl' : st.1.length + es.foldl (fun c ds => c + costs itsSaid ds) 8 ≤ LIM := by simpa [cost] using hl
  refine pen_many (n := n + 1) hp (by omega) hN (by have := h8 es; omega) fun σ' B' hp' f => ?_
  obtain ⟨v', hv', hld'⟩ := (hc.fr f).ld
  have hvv : v' = .slice bb es.length cc := by
    have h1 := hld (fun v _ => true)
    obtain ⟨vs, e, ck, u, g1, g2, g3, g4⟩ := hc.row
    have e1 : σ'.obj b = some (.cells vs e ck) := by rw [f.same b hc.lt hc.nC]; exact g1
    have a1 := hld' (fun x _ => true)
    have q : ∀ K : VK, K v' σ' = K u σ' := fun K => (hld' K).symm.trans (rLd_h e1 g3 K)
    have q2 : ∀ K : VK, K (.slice bb es.length cc) σ = K u σ := fun K => (hld K).symm.trans (rLd_h g1 g3 K)
    have r1 : u = v' := by
      by_cases h : u = v'
      · exact h
      · have := q (fun x _ => @decide (x = v') (Classical.propDecidable _)); simp [h] at this
    have r2 : u = .slice bb es.length cc := by
      by_cases h : u = .slice bb es.length cc
      · exact h
      · have := q2 (fun x _ => @decide (x = .slice bb es.length cc) (Classical.propDecidable _)); simp [h] at this
    rw [← r1, r2]
  subst hvv
  rw [hld', rSame_v (sameV_list hv'), X_most]
  unfold manyN
  by_cases hb : 1048576 < es.length
  · rw [if_pos hb]
    obtain ⟨m, hme⟩ := Nat.exists_eq_succ_of_ne_zero (show most ≠ 0 by omega)
    have hgo : ∀ x : EV, l_save_each_board_Told_rrd x (m + 1) (hand w) (pt b o) (.func (.func c_save_said) #[] #[]) (.int .i64 (.ofNat 0)) (.int .i64 (.ofNat 0)) σ' K = K (.tuple ⟨[]⟩) σ' := fun x => by
      rw [l_save_each_board_Told_rrdE]
      unfold l_save_each_board_Told_rrdB
      rw [rBin_lssN, show decide (0 < 0) = false from rfl]
      simp only [rGuard_tf, rPick_f, rIf_f]
    have hgo2 : l_save_each_board_Told_rrd (X most (n + 5)) most (hand w) (pt b o) (.func (.func c_save_said) #[] #[]) (.int .i64 (.ofNat 0)) (.int .i64 (.ofNat 0)) σ' K = K (.tuple ⟨[]⟩) σ' := by
      have := hgo (X most (n + 5))
      rw [show m + 1 = most from hme.symm] at this
      exact this
    refine Eq.trans hgo2 (hK _ σ' B' ?_ f)
    rw [enc, if_pos hb]
    unfold encMany at hp'
    rw [if_pos hb] at hp'
    exact hp'
  · rw [if_neg hb]
    unfold encMany at hp'
    rw [if_neg hb, wr_zero] at hp'
    refine each_board_Told_loop hm hone (n := n) (by omega) es.length 0 most σ' B' _ K (by omega) (show es.length < most by omega) hp' (hc.fr f) ?_ fun v3 σ3 B3 hp3 f3 => hK v3 σ3 B3 ?_ (f.trans f3)
    · rw [List.drop_zero]
      rw [foldl_cost] at hl'
      show (st.1 ++ beb 8 es.length).length + _ ≤ _
      rw [List.length_append, beb_length]
      omega
    · rw [enc, if_neg hb]
      rw [List.drop_zero] at hp3
      exact hp3

theorem each_avss_Told_loop (hm : 1048576 < most) (hone : PenOk most c_save_told itsTold 5) {n : Nat} {w b o : Nat} {es : List (List D)} (hle : es.length ≤ 1048576) :
    ∀ (r i m : Nat) (σ : St) (B : Nat → Prop) (st : PenS) (K : VK), i + r = es.length → r < m → Pen σ w B st → CellAt σ B (.list itsTold) b o (.l es) → st.1.length + (es.drop i).foldl (fun c ds => c + costs itsTold ds) 0 ≤ LIM →
      (∀ v σ' B', Pen σ' w B' ((es.drop i).foldl (fun st ds => if st.2 = 0 then encs itsTold ds st else st) st) → Fr' B σ σ' B' → K v σ' = true) →
      l_save_each_avss_Told_rrd (X most (n + 5)) m (hand w) (pt b o) (.func (.func c_save_told) #[] #[]) (.int .i64 (.ofNat es.length)) (.int .i64 (.ofNat i)) σ K = true := by
  intro r
  induction r with
  | zero =>
    intro i m σ B st K hi hmr hp hc hl hK
    obtain ⟨m, rfl⟩ := Nat.exists_eq_succ_of_ne_zero (show m ≠ 0 by omega)
    rw [l_save_each_avss_Told_rrdE]
    unfold l_save_each_avss_Told_rrdB
    rw [rBin_lssN, show decide (i < es.length) = false from by simp; omega]
    simp only [rGuard_tf, rPick_f, rIf_f]
    refine hK _ σ B ?_ (.refl B σ)
    rw [List.drop_of_length_le (by omega)]
    exact hp
  | succ r ih =>
    intro i m σ B st K hi hmr hp hc hl hK
    obtain ⟨m, rfl⟩ := Nat.exists_eq_succ_of_ne_zero (show m ≠ 0 by omega)
    have hlt : i < es.length := by omega
    have hed : es.drop i = es[i] :: es.drop (i + 1) := List.drop_eq_getElem_cons hlt
    rw [l_save_each_avss_Told_rrdE]
    unfold l_save_each_avss_Told_rrdB
    rw [rBin_lssN, show decide (i < es.length) = true from by simpa using hlt]
    simp only [rGuard_tt, rInv_i meth_wrong]
    rw [pen_wrong (n := n + 4) hp, rBin_eqlN, rPick_t, rIf_b]
    by_cases he : st.2 = 0
    · rw [if_pos (by simpa using he), rNil_p]
      obtain ⟨v, hv, hld⟩ := hc.ld
      obtain ⟨⟨bb, cc, rfl⟩, hN⟩ := hv.len
      rw [hld, rLenS_s, rBin_eqlN, rIf_b, if_neg (by simp; omega), j_save_each_avss_Told_rrddrldrE _ (by rw [X_most]; omega)]
      unfold j_save_each_avss_Told_rrddrldrB
      obtain ⟨b2, o2, sp, c2, e2, hsp, hst⟩ := hv.elem (k := i) (ds := es[i]) (List.getElem?_eq_getElem hlt)
      rw [e2] at hld
      rw [rNil_p, hld, rIdx_sp 2 b2 o2 i _ c2 sp hsp hlt, rCallV_0]
      rw [hed, List.foldl_cons, foldl_cost] at hl
      refine hone n ⟨hp, hst, by rw [List.drop_zero]; omega, fun v2 σ' B' hp' f => ?_⟩
      rw [List.drop_zero] at hp'
      rw [rBin_add _ _ _ _ (by omega)]
      have hlen := encs_len itsTold es[i] st
      refine ih (i + 1) m σ' B' (encs itsTold es[i] st) K (by omega) (by omega) hp' (hc.fr f) (by omega) fun v3 σ3 B3 hp3 f3 => hK v3 σ3 B3 ?_ (f.trans f3)
      rw [hed, List.foldl_cons, if_pos he]
      exact hp3
    · rw [if_neg (by simpa using he)]
      refine hK _ σ B ?_ (.refl B σ)
      have key : ∀ l : List (List D), l.foldl (fun st ds => if st.2 = 0 then encs itsTold ds st else st) st = st := by
        intro l
        induction l with
        | nil => rfl
        | cons d l ih => rw [List.foldl_cons, if_neg he, ih]
      rw [key]
      exact hp
theorem each_avss_Told (hm : 1048576 < most) (hone : PenOk most c_save_told itsTold 5) : EachOk most c_save_each_avss_Told c_save_told itsTold 6 := by
  intro n σ w B st b o es K hp hc hl hK
  rw [X_call (by rfl), f_save_each_avss_Told]
  unfold r_save_each_avss_Told
  obtain ⟨v, hv, hld⟩ := hc.ld
  obtain ⟨⟨bb, cc, rfl⟩, hN⟩ := hv.len
  rw [rNil_p, hld, rLenS_s, rNil_m meth_many, rInv_i meth_many]
  have h8 : ∀ l : List (List D), 8 ≤ l.foldl (fun c ds => c + costs itsTold ds) 8 := fun l => by rw [foldl_cost]; omega
  have hl' : st.1.length + es.foldl (fun c ds => c + costs itsTold ds) 8 ≤ LIM := by simpa [cost] using hl
  refine pen_many (n := n + 1) hp (by omega) hN (by have := h8 es; omega) fun σ' B' hp' f => ?_
  obtain ⟨v', hv', hld'⟩ := (hc.fr f).ld
  have hvv : v' = .slice bb es.length cc := by
    have h1 := hld (fun v _ => true)
    obtain ⟨vs, e, ck, u, g1, g2, g3, g4⟩ := hc.row
    have e1 : σ'.obj b = some (.cells vs e ck) := by rw [f.same b hc.lt hc.nC]; exact g1
    have a1 := hld' (fun x _ => true)
    have q : ∀ K : VK, K v' σ' = K u σ' := fun K => (hld' K).symm.trans (rLd_h e1 g3 K)
    have q2 : ∀ K : VK, K (.slice bb es.length cc) σ = K u σ := fun K => (hld K).symm.trans (rLd_h g1 g3 K)
    have r1 : u = v' := by
      by_cases h : u = v'
      · exact h
      · have := q (fun x _ => @decide (x = v') (Classical.propDecidable _)); simp [h] at this
    have r2 : u = .slice bb es.length cc := by
      by_cases h : u = .slice bb es.length cc
      · exact h
      · have := q2 (fun x _ => @decide (x = .slice bb es.length cc) (Classical.propDecidable _)); simp [h] at this
    rw [← r1, r2]
  subst hvv
  rw [hld', rSame_v (sameV_list hv'), X_most]
  unfold manyN
  by_cases hb : 1048576 < es.length
  · rw [if_pos hb]
    obtain ⟨m, hme⟩ := Nat.exists_eq_succ_of_ne_zero (show most ≠ 0 by omega)
    have hgo : ∀ x : EV, l_save_each_avss_Told_rrd x (m + 1) (hand w) (pt b o) (.func (.func c_save_told) #[] #[]) (.int .i64 (.ofNat 0)) (.int .i64 (.ofNat 0)) σ' K = K (.tuple ⟨[]⟩) σ' := fun x => by
      rw [l_save_each_avss_Told_rrdE]
      unfold l_save_each_avss_Told_rrdB
      rw [rBin_lssN, show decide (0 < 0) = false from rfl]
      simp only [rGuard_tf, rPick_f, rIf_f]
    have hgo2 : l_save_each_avss_Told_rrd (X most (n + 5)) most (hand w) (pt b o) (.func (.func c_save_told) #[] #[]) (.int .i64 (.ofNat 0)) (.int .i64 (.ofNat 0)) σ' K = K (.tuple ⟨[]⟩) σ' := by
      have := hgo (X most (n + 5))
      rw [show m + 1 = most from hme.symm] at this
      exact this
    refine Eq.trans hgo2 (hK _ σ' B' ?_ f)
    rw [enc, if_pos hb]
    unfold encMany at hp'
    rw [if_pos hb] at hp'
    exact hp'
  · rw [if_neg hb]
    unfold encMany at hp'
    rw [if_neg hb, wr_zero] at hp'
    refine each_avss_Told_loop hm hone (n := n) (by omega) es.length 0 most σ' B' _ K (by omega) (show es.length < most by omega) hp' (hc.fr f) ?_ fun v3 σ3 B3 hp3 f3 => hK v3 σ3 B3 ?_ (f.trans f3)
    · rw [List.drop_zero]
      rw [foldl_cost] at hl'
      show (st.1 ++ beb 8 es.length).length + _ ≤ _
      rw [List.length_append, beb_length]
      omega
    · rw [enc, if_neg hb]
      rw [List.drop_zero] at hp3
      exact hp3

theorem each_node_Done_loop (hm : 1048576 < most) (hone : PenOk most c_save_done itsDone 5) {n : Nat} {w b o : Nat} {es : List (List D)} (hle : es.length ≤ 1048576) :
    ∀ (r i m : Nat) (σ : St) (B : Nat → Prop) (st : PenS) (K : VK), i + r = es.length → r < m → Pen σ w B st → CellAt σ B (.list itsDone) b o (.l es) → st.1.length + (es.drop i).foldl (fun c ds => c + costs itsDone ds) 0 ≤ LIM →
      (∀ v σ' B', Pen σ' w B' ((es.drop i).foldl (fun st ds => if st.2 = 0 then encs itsDone ds st else st) st) → Fr' B σ σ' B' → K v σ' = true) →
      l_save_each_node_Done_rrd (X most (n + 5)) m (hand w) (pt b o) (.func (.func c_save_done) #[] #[]) (.int .i64 (.ofNat es.length)) (.int .i64 (.ofNat i)) σ K = true := by
  intro r
  induction r with
  | zero =>
    intro i m σ B st K hi hmr hp hc hl hK
    obtain ⟨m, rfl⟩ := Nat.exists_eq_succ_of_ne_zero (show m ≠ 0 by omega)
    rw [l_save_each_node_Done_rrdE]
    unfold l_save_each_node_Done_rrdB
    rw [rBin_lssN, show decide (i < es.length) = false from by simp; omega]
    simp only [rGuard_tf, rPick_f, rIf_f]
    refine hK _ σ B ?_ (.refl B σ)
    rw [List.drop_of_length_le (by omega)]
    exact hp
  | succ r ih =>
    intro i m σ B st K hi hmr hp hc hl hK
    obtain ⟨m, rfl⟩ := Nat.exists_eq_succ_of_ne_zero (show m ≠ 0 by omega)
    have hlt : i < es.length := by omega
    have hed : es.drop i = es[i] :: es.drop (i + 1) := List.drop_eq_getElem_cons hlt
    rw [l_save_each_node_Done_rrdE]
    unfold l_save_each_node_Done_rrdB
    rw [rBin_lssN, show decide (i < es.length) = true from by simpa using hlt]
    simp only [rGuard_tt, rInv_i meth_wrong]
    rw [pen_wrong (n := n + 4) hp, rBin_eqlN, rPick_t, rIf_b]
    by_cases he : st.2 = 0
    · rw [if_pos (by simpa using he), rNil_p]
      obtain ⟨v, hv, hld⟩ := hc.ld
      obtain ⟨⟨bb, cc, rfl⟩, hN⟩ := hv.len
      rw [hld, rLenS_s, rBin_eqlN, rIf_b, if_neg (by simp; omega), j_save_each_node_Done_rrddrldrE _ (by rw [X_most]; omega)]
      unfold j_save_each_node_Done_rrddrldrB
      obtain ⟨b2, o2, sp, c2, e2, hsp, hst⟩ := hv.elem (k := i) (ds := es[i]) (List.getElem?_eq_getElem hlt)
      rw [e2] at hld
      rw [rNil_p, hld, rIdx_sp 3 b2 o2 i _ c2 sp hsp hlt, rCallV_0]
      rw [hed, List.foldl_cons, foldl_cost] at hl
      refine hone n ⟨hp, hst, by rw [List.drop_zero]; omega, fun v2 σ' B' hp' f => ?_⟩
      rw [List.drop_zero] at hp'
      rw [rBin_add _ _ _ _ (by omega)]
      have hlen := encs_len itsDone es[i] st
      refine ih (i + 1) m σ' B' (encs itsDone es[i] st) K (by omega) (by omega) hp' (hc.fr f) (by omega) fun v3 σ3 B3 hp3 f3 => hK v3 σ3 B3 ?_ (f.trans f3)
      rw [hed, List.foldl_cons, if_pos he]
      exact hp3
    · rw [if_neg (by simpa using he)]
      refine hK _ σ B ?_ (.refl B σ)
      have key : ∀ l : List (List D), l.foldl (fun st ds => if st.2 = 0 then encs itsDone ds st else st) st = st := by
        intro l
        induction l with
        | nil => rfl
        | cons d l ih => rw [List.foldl_cons, if_neg he, ih]
      rw [key]
      exact hp
theorem each_node_Done (hm : 1048576 < most) (hone : PenOk most c_save_done itsDone 5) : EachOk most c_save_each_node_Done c_save_done itsDone 6 := by
  intro n σ w B st b o es K hp hc hl hK
  rw [X_call (by rfl), f_save_each_node_Done]
  unfold r_save_each_node_Done
  obtain ⟨v, hv, hld⟩ := hc.ld
  obtain ⟨⟨bb, cc, rfl⟩, hN⟩ := hv.len
  rw [rNil_p, hld, rLenS_s, rNil_m meth_many, rInv_i meth_many]
  have h8 : ∀ l : List (List D), 8 ≤ l.foldl (fun c ds => c + costs itsDone ds) 8 := fun l => by rw [foldl_cost]; omega
  have hl' : st.1.length + es.foldl (fun c ds => c + costs itsDone ds) 8 ≤ LIM := by simpa [cost] using hl
  refine pen_many (n := n + 1) hp (by omega) hN (by have := h8 es; omega) fun σ' B' hp' f => ?_
  obtain ⟨v', hv', hld'⟩ := (hc.fr f).ld
  have hvv : v' = .slice bb es.length cc := by
    have h1 := hld (fun v _ => true)
    obtain ⟨vs, e, ck, u, g1, g2, g3, g4⟩ := hc.row
    have e1 : σ'.obj b = some (.cells vs e ck) := by rw [f.same b hc.lt hc.nC]; exact g1
    have a1 := hld' (fun x _ => true)
    have q : ∀ K : VK, K v' σ' = K u σ' := fun K => (hld' K).symm.trans (rLd_h e1 g3 K)
    have q2 : ∀ K : VK, K (.slice bb es.length cc) σ = K u σ := fun K => (hld K).symm.trans (rLd_h g1 g3 K)
    have r1 : u = v' := by
      by_cases h : u = v'
      · exact h
      · have := q (fun x _ => @decide (x = v') (Classical.propDecidable _)); simp [h] at this
    have r2 : u = .slice bb es.length cc := by
      by_cases h : u = .slice bb es.length cc
      · exact h
      · have := q2 (fun x _ => @decide (x = .slice bb es.length cc) (Classical.propDecidable _)); simp [h] at this
    rw [← r1, r2]
  subst hvv
  rw [hld', rSame_v (sameV_list hv'), X_most]
  unfold manyN
  by_cases hb : 1048576 < es.length
  · rw [if_pos hb]
    obtain ⟨m, hme⟩ := Nat.exists_eq_succ_of_ne_zero (show most ≠ 0 by omega)
    have hgo : ∀ x : EV, l_save_each_node_Done_rrd x (m + 1) (hand w) (pt b o) (.func (.func c_save_done) #[] #[]) (.int .i64 (.ofNat 0)) (.int .i64 (.ofNat 0)) σ' K = K (.tuple ⟨[]⟩) σ' := fun x => by
      rw [l_save_each_node_Done_rrdE]
      unfold l_save_each_node_Done_rrdB
      rw [rBin_lssN, show decide (0 < 0) = false from rfl]
      simp only [rGuard_tf, rPick_f, rIf_f]
    have hgo2 : l_save_each_node_Done_rrd (X most (n + 5)) most (hand w) (pt b o) (.func (.func c_save_done) #[] #[]) (.int .i64 (.ofNat 0)) (.int .i64 (.ofNat 0)) σ' K = K (.tuple ⟨[]⟩) σ' := by
      have := hgo (X most (n + 5))
      rw [show m + 1 = most from hme.symm] at this
      exact this
    refine Eq.trans hgo2 (hK _ σ' B' ?_ f)
    rw [enc, if_pos hb]
    unfold encMany at hp'
    rw [if_pos hb] at hp'
    exact hp'
  · rw [if_neg hb]
    unfold encMany at hp'
    rw [if_neg hb, wr_zero] at hp'
    refine each_node_Done_loop hm hone (n := n) (by omega) es.length 0 most σ' B' _ K (by omega) (show es.length < most by omega) hp' (hc.fr f) ?_ fun v3 σ3 B3 hp3 f3 => hK v3 σ3 B3 ?_ (f.trans f3)
    · rw [List.drop_zero]
      rw [foldl_cost] at hl'
      show (st.1 ++ beb 8 es.length).length + _ ≤ _
      rw [List.length_append, beb_length]
      omega
    · rw [enc, if_neg hb]
      rw [List.drop_zero] at hp3
      exact hp3

theorem pen_dealing' (hM : 1048576 < most) : PenOk most c_save_dealing itsDealing 7 := by
  have hm : 1024 < most := by omega
  intro n σ w B st b o ds K g
  rw [X_call (by rfl), f_save_dealing]
  unfold r_save_dealing
  rw [rNil_p, rFld_p, rNil_p, rFld_p]
  rw [rB2, bcase_t, rB2]
  refine step_whole (n := n + 2) (its := [.list itsNums, .nums, .list itsTold, .list itsTold, .nums, .is]) hm 2 (by omega) g (by
    intro i hi
    have h : i = 0 ∨ i = 1 := by omega
    rcases h with rfl | rfl <;> rfl) fun v σ B st g => ?_
  rw [rNil_p, rFld_p]
  refine step_list (n := n + 0) (its := [.nums, .list itsTold, .list itsTold, .nums, .is]) (each_list_uint64 hM (pen_nums' hm)) g rfl fun v σ B st g => ?_
  rw [rNil_p, rFld_p, rNil_m meth_nums, rInv_i meth_nums]
  refine step_nums (n := n + 2) (its := [.list itsTold, .list itsTold, .nums, .is]) hm g rfl fun v σ B st g => ?_
  rw [rNil_p, rFld_p]
  refine step_list (n := n + 0) (its := [.list itsTold, .nums, .is]) (each_avss_Told hM (pen_told' hm)) g rfl fun v σ B st g => ?_
  rw [rNil_p, rFld_p]
  refine step_list (n := n + 0) (its := [.nums, .is]) (each_avss_Told hM (pen_told' hm)) g rfl fun v σ B st g => ?_
  rw [rNil_p, rFld_p, rNil_m meth_nums, rInv_i meth_nums]
  refine step_nums (n := n + 2) (its := [.is]) hm g rfl fun v σ B st g => ?_
  rw [rNil_p, rFld_p, rNil_m meth_is, rInv_i meth_is]
  refine step_is (n := n + 2) (its := []) hm g rfl fun v σ B st g => ?_
  exact g.fin _

theorem pen_voting' (hM : 1048576 < most) : PenOk most c_save_voting itsVoting 7 := by
  have hm : 1024 < most := by omega
  intro n σ w B st b o ds K g
  rw [X_call (by rfl), f_save_voting]
  unfold r_save_voting
  rw [rNil_p, rFld_p, rNil_p, rFld_p, rNil_p, rFld_p, rNil_p, rFld_p, rNil_p, rFld_p, rNil_p, rFld_p, rNil_p, rFld_p]
  rw [rB7, bcase_t, rB7]
  refine step_whole (n := n + 2) (its := [.text, .text, .int, .int, .is, .is, .text, .list itsVote]) hm 7 (by omega) g (by
    intro i hi
    have h : i = 0 ∨ i = 1 ∨ i = 2 ∨ i = 3 ∨ i = 4 ∨ i = 5 ∨ i = 6 := by omega
    rcases h with rfl | rfl | rfl | rfl | rfl | rfl | rfl <;> rfl) fun v σ B st g => ?_
  rw [rNil_p, rFld_p, rNil_m meth_text, rInv_i meth_text]
  refine step_text (n := n + 2) (its := [.text, .int, .int, .is, .is, .text, .list itsVote]) hm g rfl fun v σ B st g => ?_
  rw [rNil_p, rFld_p, rNil_m meth_text, rInv_i meth_text]
  refine step_text (n := n + 2) (its := [.int, .int, .is, .is, .text, .list itsVote]) hm g rfl fun v σ B st g => ?_
  rw [rNil_p, rFld_p, rNil_p, rFld_p]
  rw [rB2, bcase_t, rB2]
  refine step_whole (n := n + 2) (its := [.is, .is, .text, .list itsVote]) hm 2 (by omega) g (by
    intro i hi
    have h : i = 0 ∨ i = 1 := by omega
    rcases h with rfl | rfl <;> rfl) fun v σ B st g => ?_
  rw [rNil_p, rFld_p, rNil_m meth_is, rInv_i meth_is]
  refine step_is (n := n + 2) (its := [.is, .text, .list itsVote]) hm g rfl fun v σ B st g => ?_
  rw [rNil_p, rFld_p, rNil_m meth_is, rInv_i meth_is]
  refine step_is (n := n + 2) (its := [.text, .list itsVote]) hm g rfl fun v σ B st g => ?_
  rw [rNil_p, rFld_p, rNil_m meth_text, rInv_i meth_text]
  refine step_text (n := n + 2) (its := [.list itsVote]) hm g rfl fun v σ B st g => ?_
  rw [rNil_p, rFld_p]
  refine step_list (n := n + 0) (its := []) (each_tally_Vote hM (pen_vote' hm)) g rfl fun v σ B st g => ?_
  exact g.fin _

theorem pen_rows' (hM : 1048576 < most) : PenOk most c_save_rows itsRows 8 := by
  have hm : 1024 < most := by omega
  intro n σ w B st b o ds K g
  rw [X_call (by rfl), f_save_rows]
  unfold r_save_rows
  rw [rNil_p, rFld_p]
  rw [rB1]
  refine step_whole (n := n + 3) (its := [.text, .is, .int, .int, .int, .int, .int, .int, .int, .text, .text, .int, .int, .is, .is, .text, .list itsVote, .list itsSaid, .list itsMsg]) hm 1 (by omega) g (by
    intro i hi
    have h : i = 0 := by omega
    rcases h with rfl <;> rfl) fun v σ B st g => ?_
  rw [rNil_p, rFld_p, rNil_m meth_text, rInv_i meth_text]
  refine step_text (n := n + 3) (its := [.is, .int, .int, .int, .int, .int, .int, .int, .text, .text, .int, .int, .is, .is, .text, .list itsVote, .list itsSaid, .list itsMsg]) hm g rfl fun v σ B st g => ?_
  rw [rNil_p, rFld_p, rNil_m meth_is, rInv_i meth_is]
  refine step_is (n := n + 3) (its := [.int, .int, .int, .int, .int, .int, .int, .text, .text, .int, .int, .is, .is, .text, .list itsVote, .list itsSaid, .list itsMsg]) hm g rfl fun v σ B st g => ?_
  rw [rNil_p, rFld_p]
  refine step_sub (n := n + 0) (its' := itsVoting) (its := [.list itsSaid, .list itsMsg]) (pen_voting' hM) g rfl (by decide) fun v σ B st g => ?_
  rw [rNil_p, rFld_p]
  refine step_list (n := n + 1) (its := [.list itsMsg]) (each_board_Told hM (pen_said' hm)) g rfl fun v σ B st g => ?_
  rw [rNil_p, rFld_p]
  refine step_list (n := n + 1) (its := []) (each_api_Msg hM (pen_message' hm)) g rfl fun v σ B st g => ?_
  exact g.fin _

theorem each_avss_State_loop (hm : 1048576 < most) (hone : PenOk most c_save_dealing itsDealing 7) {n : Nat} {w b o : Nat} {es : List (List D)} (hle : es.length ≤ 1048576) :
    ∀ (r i m : Nat) (σ : St) (B : Nat → Prop) (st : PenS) (K : VK), i + r = es.length → r < m → Pen σ w B st → CellAt σ B (.list itsDealing) b o (.l es) → st.1.length + (es.drop i).foldl (fun c ds => c + costs itsDealing ds) 0 ≤ LIM →
      (∀ v σ' B', Pen σ' w B' ((es.drop i).foldl (fun st ds => if st.2 = 0 then encs itsDealing ds st else st) st) → Fr' B σ σ' B' → K v σ' = true) →
      l_save_each_avss_State_rrd (X most (n + 7)) m (hand w) (pt b o) (.func (.func c_save_dealing) #[] #[]) (.int .i64 (.ofNat es.length)) (.int .i64 (.ofNat i)) σ K = true := by
  intro r
  induction r with
  | zero =>
    intro i m σ B st K hi hmr hp hc hl hK
    obtain ⟨m, rfl⟩ := Nat.exists_eq_succ_of_ne_zero (show m ≠ 0 by omega)
    rw [l_save_each_avss_State_rrdE]
    unfold l_save_each_avss_State_rrdB
    rw [rBin_lssN, show decide (i < es.length) = false from by simp; omega]
    simp only [rGuard_tf, rPick_f, rIf_f]
    refine hK _ σ B ?_ (.refl B σ)
    rw [List.drop_of_length_le (by omega)]
    exact hp
  | succ r ih =>
    intro i m σ B st K hi hmr hp hc hl hK
    obtain ⟨m, rfl⟩ := Nat.exists_eq_succ_of_ne_zero (show m ≠ 0 by omega)
    have hlt : i < es.length := by omega
    have hed : es.drop i = es[i] :: es.drop (i + 1) := List.drop_eq_getElem_cons hlt
    rw [l_save_each_avss_State_rrdE]
    unfold l_save_each_avss_State_rrdB
    rw [rBin_lssN, show decide (i < es.length) = true from by simpa using hlt]
    simp only [rGuard_tt, rInv_i meth_wrong]
    rw [pen_wrong (n := n + 6) hp, rBin_eqlN, rPick_t, rIf_b]
    by_cases he : st.2 = 0
    · rw [if_pos (by simpa using he), rNil_p]
      obtain ⟨v, hv, hld⟩ := hc.ld
      obtain ⟨⟨bb, cc, rfl⟩, hN⟩ := hv.len
      rw [hld, rLenS_s, rBin_eqlN, rIf_b, if_neg (by simp; omega), j_save_each_avss_State_rrddrldrE _ (by rw [X_most]; omega)]
      unfold j_save_each_avss_State_rrddrldrB
      obtain ⟨b2, o2, sp, c2, e2, hsp, hst⟩ := hv.elem (k := i) (ds := es[i]) (List.getElem?_eq_getElem hlt)
      rw [e2] at hld
      rw [rNil_p, hld, rIdx_sp 8 b2 o2 i _ c2 sp hsp hlt, rCallV_0]
      rw [hed, List.foldl_cons, foldl_cost] at hl
      refine hone n ⟨hp, hst, by rw [List.drop_zero]; omega, fun v2 σ' B' hp' f => ?_⟩
      rw [List.drop_zero] at hp'
      rw [rBin_add _ _ _ _ (by omega)]
      have hlen := encs_len itsDealing es[i] st
      refine ih (i + 1) m σ' B' (encs itsDealing es[i] st) K (by omega) (by omega) hp' (hc.fr f) (by omega) fun v3 σ3 B3 hp3 f3 => hK v3 σ3 B3 ?_ (f.trans f3)
      rw [hed, List.foldl_cons, if_pos he]
      exact hp3
    · rw [if_neg (by simpa using he)]
      refine hK _ σ B ?_ (.refl B σ)
      have key : ∀ l : List (List D), l.foldl (fun st ds => if st.2 = 0 then encs itsDealing ds st else st) st = st := by
        intro l
        induction l with
        | nil => rfl
        | cons d l ih => rw [List.foldl_cons, if_neg he, ih]
      rw [key]
      exact hp
theorem each_avss_State (hm : 1048576 < most) (hone : PenOk most c_save_dealing itsDealing 7) : EachOk most c_save_each_avss_State c_save_dealing itsDealing 8 := by
  intro n σ w B st b o es K hp hc hl hK
  rw [X_call (by rfl), f_save_each_avss_State]
  unfold r_save_each_avss_State
  obtain ⟨v, hv, hld⟩ := hc.ld
  obtain ⟨⟨bb, cc, rfl⟩, hN⟩ := hv.len
  rw [rNil_p, hld, rLenS_s, rNil_m meth_many, rInv_i meth_many]
  have h8 : ∀ l : List (List D), 8 ≤ l.foldl (fun c ds => c + costs itsDealing ds) 8 := fun l => by rw [foldl_cost]; omega
  have hl' : st.1.length + es.foldl (fun c ds => c + costs itsDealing ds) 8 ≤ LIM := by simpa [cost] using hl
  refine pen_many (n := n + 3) hp (by omega) hN (by have := h8 es; omega) fun σ' B' hp' f => ?_
  obtain ⟨v', hv', hld'⟩ := (hc.fr f).ld
  have hvv : v' = .slice bb es.length cc := by
    have h1 := hld (fun v _ => true)
    obtain ⟨vs, e, ck, u, g1, g2, g3, g4⟩ := hc.row
    have e1 : σ'.obj b = some (.cells vs e ck) := by rw [f.same b hc.lt hc.nC]; exact g1
    have a1 := hld' (fun x _ => true)
    have q : ∀ K : VK, K v' σ' = K u σ' := fun K => (hld' K).symm.trans (rLd_h e1 g3 K)
    have q2 : ∀ K : VK, K (.slice bb es.length cc) σ = K u σ := fun K => (hld K).symm.trans (rLd_h g1 g3 K)
    have r1 : u = v' := by
      by_cases h : u = v'
      · exact h
      · have := q (fun x _ => @decide (x = v') (Classical.propDecidable _)); simp [h] at this
    have r2 : u = .slice bb es.length cc := by
      by_cases h : u = .slice bb es.length cc
      · exact h
      · have := q2 (fun x _ => @decide (x = .slice bb es.length cc) (Classical.propDecidable _)); simp [h] at this
    rw [← r1, r2]
  subst hvv
  rw [hld', rSame_v (sameV_list hv'), X_most]
  unfold manyN
  by_cases hb : 1048576 < es.length
  · rw [if_pos hb]
    obtain ⟨m, hme⟩ := Nat.exists_eq_succ_of_ne_zero (show most ≠ 0 by omega)
    have hgo : ∀ x : EV, l_save_each_avss_State_rrd x (m + 1) (hand w) (pt b o) (.func (.func c_save_dealing) #[] #[]) (.int .i64 (.ofNat 0)) (.int .i64 (.ofNat 0)) σ' K = K (.tuple ⟨[]⟩) σ' := fun x => by
      rw [l_save_each_avss_State_rrdE]
      unfold l_save_each_avss_State_rrdB
      rw [rBin_lssN, show decide (0 < 0) = false from rfl]
      simp only [rGuard_tf, rPick_f, rIf_f]
    have hgo2 : l_save_each_avss_State_rrd (X most (n + 7)) most (hand w) (pt b o) (.func (.func c_save_dealing) #[] #[]) (.int .i64 (.ofNat 0)) (.int .i64 (.ofNat 0)) σ' K = K (.tuple ⟨[]⟩) σ' := by
      have := hgo (X most (n + 7))
      rw [show m + 1 = most from hme.symm] at this
      exact this
    refine Eq.trans hgo2 (hK _ σ' B' ?_ f)
    rw [enc, if_pos hb]
    unfold encMany at hp'
    rw [if_pos hb] at hp'
    exact hp'
  · rw [if_neg hb]
    unfold encMany at hp'
    rw [if_neg hb, wr_zero] at hp'
    refine each_avss_State_loop hm hone (n := n) (by omega) es.length 0 most σ' B' _ K (by omega) (show es.length < most by omega) hp' (hc.fr f) ?_ fun v3 σ3 B3 hp3 f3 => hK v3 σ3 B3 ?_ (f.trans f3)
    · rw [List.drop_zero]
      rw [foldl_cost] at hl'
      show (st.1 ++ beb 8 es.length).length + _ ≤ _
      rw [List.length_append, beb_length]
      omega
    · rw [enc, if_neg hb]
      rw [List.drop_zero] at hp3
      exact hp3

theorem pen_all' (hM : 1048576 < most) : PenOk most c_save_all itsAll 9 := by
  have hm : 1024 < most := by omega
  intro n σ w B st b o ds K g
  rw [X_call (by rfl), f_save_all]
  unfold r_save_all
  rw [rNil_p, rFld_p]
  rw [rB1]
  refine step_whole (n := n + 4) (its := [.list itsText, .int, .text, .is, .int, .int, .int, .int, .int, .int, .int, .text, .text, .int, .int, .is, .is, .text, .list itsVote, .list itsSaid, .list itsMsg, .list itsText, .list itsPair, .list itsPair, .is, .list itsDealing, .list itsDone, .list itsMsg, .list itsDealing]) hm 1 (by omega) g (by
    intro i hi
    have h : i = 0 := by omega
    rcases h with rfl <;> rfl) fun v σ B st g => ?_
  rw [rNil_p, rFld_p]
  refine step_list (n := n + 2) (its := [.int, .text, .is, .int, .int, .int, .int, .int, .int, .int, .text, .text, .int, .int, .is, .is, .text, .list itsVote, .list itsSaid, .list itsMsg, .list itsText, .list itsPair, .list itsPair, .is, .list itsDealing, .list itsDone, .list itsMsg, .list itsDealing]) (each_string hM (pen_text' hm)) g rfl fun v σ B st g => ?_
  rw [rNil_p, rFld_p]
  refine step_sub (n := n + 0) (its' := itsRows) (its := [.list itsText, .list itsPair, .list itsPair, .is, .list itsDealing, .list itsDone, .list itsMsg, .list itsDealing]) (pen_rows' hM) g rfl (by decide) fun v σ B st g => ?_
  rw [rNil_p, rFld_p]
  refine step_list (n := n + 2) (its := [.list itsPair, .list itsPair, .is, .list itsDealing, .list itsDone, .list itsMsg, .list itsDealing]) (each_string hM (pen_text' hm)) g rfl fun v σ B st g => ?_
  rw [rNil_p, rFld_p]
  refine step_list (n := n + 2) (its := [.list itsPair, .is, .list itsDealing, .list itsDone, .list itsMsg, .list itsDealing]) (each_api_Pair hM (pen_pair' hm)) g rfl fun v σ B st g => ?_
  rw [rNil_p, rFld_p]
  refine step_list (n := n + 2) (its := [.is, .list itsDealing, .list itsDone, .list itsMsg, .list itsDealing]) (each_api_Pair hM (pen_pair' hm)) g rfl fun v σ B st g => ?_
  rw [rNil_p, rFld_p, rNil_m meth_is, rInv_i meth_is]
  refine step_is (n := n + 4) (its := [.list itsDealing, .list itsDone, .list itsMsg, .list itsDealing]) hm g rfl fun v σ B st g => ?_
  rw [rNil_p, rFld_p]
  refine step_list (n := n + 0) (its := [.list itsDone, .list itsMsg, .list itsDealing]) (each_avss_State hM (pen_dealing' hM)) g rfl fun v σ B st g => ?_
  rw [rNil_p, rFld_p]
  refine step_list (n := n + 2) (its := [.list itsMsg, .list itsDealing]) (each_node_Done hM (pen_done' hm)) g rfl fun v σ B st g => ?_
  rw [rNil_p, rFld_p]
  refine step_list (n := n + 2) (its := [.list itsDealing]) (each_api_Msg hM (pen_message' hm)) g rfl fun v σ B st g => ?_
  rw [rNil_p, rFld_p]
  refine step_list (n := n + 0) (its := []) (each_avss_State hM (pen_dealing' hM)) g rfl fun v σ B st g => ?_
  exact g.fin _

end Go.Am
