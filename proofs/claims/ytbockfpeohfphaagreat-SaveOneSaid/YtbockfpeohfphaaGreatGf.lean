/- save: a pen goes over structs and lists (written by a program). -/
import Derived.Test.YtbockfpeohfphaaGreatGe
import Derived.Test.YtbockfpeohfphaaGreatGd

namespace Go.Am
open Go.RowKit Go.MapKept Go.Proofs Go.Proofs.Rdr
variable {most : Nat}
def itsText : List It := [.text]
def itsNums : List It := [.nums]
def itsPair : List It := [.num, .num]
def itsMsg : List It := [.kind, .int, .int, .int, .int, .int, .int, .int, .int, .text, .nums]
def itsVote : List It := [.int, .int, .kind, .int, .text]
def itsSaid : List It := [.int, .text]
def itsTold : List It := [.int, .nums]
def itsDone : List It := [.int, .int, .nums]
def itsDealing : List It := [.int, .int, .list itsNums, .nums, .list itsTold, .list itsTold, .nums, .is]
def itsVoting : List It := [.int, .int, .int, .int, .int, .int, .int, .text, .text, .int, .int, .is, .is, .text, .list itsVote]
def itsRows : List It := [.int, .text, .is, .int, .int, .int, .int, .int, .int, .int, .text, .text, .int, .int, .is, .is, .text, .list itsVote, .list itsSaid, .list itsMsg]
def itsAll : List It := [.int, .list itsText, .int, .text, .is, .int, .int, .int, .int, .int, .int, .int, .text, .text, .int, .int, .is, .is, .text, .list itsVote, .list itsSaid, .list itsMsg, .list itsText, .list itsPair, .list itsPair, .is, .list itsDealing, .list itsDone, .list itsMsg, .list itsDealing]

theorem rB1 (v0 : Addr) (σ : St) (K : VK) : rBuildS 146 1 [.pointer none] [(0, 1, .pointer (some v0))] σ K = K (.slice (some ⟨σ.n, 0, none⟩) 1 1) (σ.new (.cells [.pointer (some v0)] 146 .exact)) :=
  rBuildS_ones 146 (.pointer none) [.pointer (some v0)] (by simp [oneCell]) σ K
theorem rB2 (v0 v1 : Addr) (σ : St) (K : VK) : rBuildS 146 2 [.pointer none] [(0, 1, .pointer (some v0)), (1, 1, .pointer (some v1))] σ K = K (.slice (some ⟨σ.n, 0, none⟩) 2 2) (σ.new (.cells [.pointer (some v0), .pointer (some v1)] 146 .exact)) :=
  rBuildS_ones 146 (.pointer none) [.pointer (some v0), .pointer (some v1)] (by simp [oneCell]) σ K
theorem rB7 (v0 v1 v2 v3 v4 v5 v6 : Addr) (σ : St) (K : VK) : rBuildS 146 7 [.pointer none] [(0, 1, .pointer (some v0)), (1, 1, .pointer (some v1)), (2, 1, .pointer (some v2)), (3, 1, .pointer (some v3)), (4, 1, .pointer (some v4)), (5, 1, .pointer (some v5)), (6, 1, .pointer (some v6))] σ K = K (.slice (some ⟨σ.n, 0, none⟩) 7 7) (σ.new (.cells [.pointer (some v0), .pointer (some v1), .pointer (some v2), .pointer (some v3), .pointer (some v4), .pointer (some v5), .pointer (some v6)] 146 .exact)) :=
  rBuildS_ones 146 (.pointer none) [.pointer (some v0), .pointer (some v1), .pointer (some v2), .pointer (some v3), .pointer (some v4), .pointer (some v5), .pointer (some v6)] (by simp [oneCell]) σ K
theorem rB8 (v0 v1 v2 v3 v4 v5 v6 v7 : Addr) (σ : St) (K : VK) : rBuildS 146 8 [.pointer none] [(0, 1, .pointer (some v0)), (1, 1, .pointer (some v1)), (2, 1, .pointer (some v2)), (3, 1, .pointer (some v3)), (4, 1, .pointer (some v4)), (5, 1, .pointer (some v5)), (6, 1, .pointer (some v6)), (7, 1, .pointer (some v7))] σ K = K (.slice (some ⟨σ.n, 0, none⟩) 8 8) (σ.new (.cells [.pointer (some v0), .pointer (some v1), .pointer (some v2), .pointer (some v3), .pointer (some v4), .pointer (some v5), .pointer (some v6), .pointer (some v7)] 146 .exact)) :=
  rBuildS_ones 146 (.pointer none) [.pointer (some v0), .pointer (some v1), .pointer (some v2), .pointer (some v3), .pointer (some v4), .pointer (some v5), .pointer (some v6), .pointer (some v7)] (by simp [oneCell]) σ K
theorem pen_text' (hm : 1024 < most) : PenOk most c_save_text itsText 5 := by
  intro n σ w B st b o ds K g
  rw [X_call (by rfl), f_save_text]
  unfold r_save_text
  rw [rInv_i meth_text]
  refine step_text (n := n + 0) (its := []) (j := 0) hm g rfl fun v σ B st g => ?_
  exact g.fin _

theorem pen_nums' (hm : 1024 < most) : PenOk most c_save_nums itsNums 5 := by
  intro n σ w B st b o ds K g
  rw [X_call (by rfl), f_save_nums]
  unfold r_save_nums
  rw [rInv_i meth_nums]
  refine step_nums (n := n + 0) (its := []) (j := 0) hm g rfl fun v σ B st g => ?_
  exact g.fin _

theorem pen_pair' (hm : 1024 < most) : PenOk most c_save_pair itsPair 5 := by
  intro n σ w B st b o ds K g
  rw [X_call (by rfl), f_save_pair]
  unfold r_save_pair
  rw [rNil_p, rFld_p, rNil_m meth_number, rInv_i meth_number]
  refine step_number (n := n + 0) (its := [.num]) hm g rfl fun v σ B st g => ?_
  rw [rNil_p, rFld_p, rNil_m meth_number, rInv_i meth_number]
  refine step_number (n := n + 0) (its := []) hm g rfl fun v σ B st g => ?_
  exact g.fin _

theorem pen_message' (hm : 1024 < most) : PenOk most c_save_message itsMsg 5 := by
  intro n σ w B st b o ds K g
  rw [X_call (by rfl), f_save_message]
  unfold r_save_message
  rw [rNil_p, rFld_p, rNil_m meth_kind, rInv_i meth_kind]
  refine step_kind (n := n + 0) (its := [.int, .int, .int, .int, .int, .int, .int, .int, .text, .nums]) hm g rfl fun v σ B st g => ?_
  rw [rNil_p, rFld_p, rNil_p, rFld_p, rNil_p, rFld_p, rNil_p, rFld_p, rNil_p, rFld_p, rNil_p, rFld_p, rNil_p, rFld_p, rNil_p, rFld_p]
  rw [rB8, bcase_t, rB8]
  refine step_whole (n := n + 0) (its := [.text, .nums]) hm 8 (by omega) g (by
    intro i hi
    have h : i = 0 ∨ i = 1 ∨ i = 2 ∨ i = 3 ∨ i = 4 ∨ i = 5 ∨ i = 6 ∨ i = 7 := by omega
    rcases h with rfl | rfl | rfl | rfl | rfl | rfl | rfl | rfl <;> rfl) fun v σ B st g => ?_
  rw [rNil_p, rFld_p, rNil_m meth_text, rInv_i meth_text]
  refine step_text (n := n + 0) (its := [.nums]) hm g rfl fun v σ B st g => ?_
  rw [rNil_p, rFld_p, rNil_m meth_nums, rInv_i meth_nums]
  refine step_nums (n := n + 0) (its := []) hm g rfl fun v σ B st g => ?_
  exact g.fin _

theorem pen_vote' (hm : 1024 < most) : PenOk most c_save_vote itsVote 5 := by
  intro n σ w B st b o ds K g
  rw [X_call (by rfl), f_save_vote]
  unfold r_save_vote
  rw [rNil_p, rFld_p, rNil_p, rFld_p]
  rw [rB2, bcase_t, rB2]
  refine step_whole (n := n + 0) (its := [.kind, .int, .text]) hm 2 (by omega) g (by
    intro i hi
    have h : i = 0 ∨ i = 1 := by omega
    rcases h with rfl | rfl <;> rfl) fun v σ B st g => ?_
  rw [rNil_p, rFld_p, rNil_m meth_kind, rInv_i meth_kind]
  refine step_kind (n := n + 0) (its := [.int, .text]) hm g rfl fun v σ B st g => ?_
  rw [rNil_p, rFld_p]
  rw [rB1]
  refine step_whole (n := n + 0) (its := [.text]) hm 1 (by omega) g (by
    intro i hi
    have h : i = 0 := by omega
    rcases h with rfl <;> rfl) fun v σ B st g => ?_
  rw [rNil_p, rFld_p, rNil_m meth_text, rInv_i meth_text]
  refine step_text (n := n + 0) (its := []) hm g rfl fun v σ B st g => ?_
  exact g.fin _

theorem pen_said' (hm : 1024 < most) : PenOk most c_save_said itsSaid 5 := by
  intro n σ w B st b o ds K g
  rw [X_call (by rfl), f_save_said]
  unfold r_save_said
  rw [rNil_p, rFld_p]
  rw [rB1]
  refine step_whole (n := n + 0) (its := [.text]) hm 1 (by omega) g (by
    intro i hi
    have h : i = 0 := by omega
    rcases h with rfl <;> rfl) fun v σ B st g => ?_
  rw [rNil_p, rFld_p, rNil_m meth_text, rInv_i meth_text]
  refine step_text (n := n + 0) (its := []) hm g rfl fun v σ B st g => ?_
  exact g.fin _

theorem pen_told' (hm : 1024 < most) : PenOk most c_save_told itsTold 5 := by
  intro n σ w B st b o ds K g
  rw [X_call (by rfl), f_save_told]
  unfold r_save_told
  rw [rNil_p, rFld_p]
  rw [rB1]
  refine step_whole (n := n + 0) (its := [.nums]) hm 1 (by omega) g (by
    intro i hi
    have h : i = 0 := by omega
    rcases h with rfl <;> rfl) fun v σ B st g => ?_
  rw [rNil_p, rFld_p, rNil_m meth_nums, rInv_i meth_nums]
  refine step_nums (n := n + 0) (its := []) hm g rfl fun v σ B st g => ?_
  exact g.fin _

theorem pen_done' (hm : 1024 < most) : PenOk most c_save_done itsDone 5 := by
  intro n σ w B st b o ds K g
  rw [X_call (by rfl), f_save_done]
  unfold r_save_done
  rw [rNil_p, rFld_p, rNil_p, rFld_p]
  rw [rB2, bcase_t, rB2]
  refine step_whole (n := n + 0) (its := [.nums]) hm 2 (by omega) g (by
    intro i hi
    have h : i = 0 ∨ i = 1 := by omega
    rcases h with rfl | rfl <;> rfl) fun v σ B st g => ?_
  rw [rNil_p, rFld_p, rNil_m meth_nums, rInv_i meth_nums]
  refine step_nums (n := n + 0) (its := []) hm g rfl fun v σ B st g => ?_
  exact g.fin _

theorem each_loop {c one : FuncId} {sz d : Nat} {its : List It} {G} (T : EachT c sz G) (hsz : its.length = sz) (hm : 1048576 < most) (hone : PenOk most one its (d + 5)) {n : Nat} {w b o : Nat} {es : List (List D)} (hle : es.length ≤ 1048576) :
    ∀ (r i m : Nat) (σ : St) (B : Nat → Prop) (st : PenS) (K : VK), i + r = es.length → r < m → Pen σ w B st → CellAt σ B (.list its) b o (.l es) → st.1.length + (es.drop i).foldl (fun c ds => c + costs its ds) 0 ≤ LIM →
      (∀ v σ' B', Pen σ' w B' ((es.drop i).foldl (fun st ds => if st.2 = 0 then encs its ds st else st) st) → Fr' B σ σ' B' → K v σ' = true) →
      T.L (X most (n + d + 5)) m (hand w) (pt b o) (.func (.func one) #[] #[]) (.int .i64 (.ofNat es.length)) (.int .i64 (.ofNat i)) σ K = true := by
  subst hsz
  intro r
  induction r with
  | zero =>
    intro i m σ B st K hi hmr hp hc hl hK
    obtain ⟨m, rfl⟩ := Nat.exists_eq_succ_of_ne_zero (show m ≠ 0 by omega)
    rw [T.LE]
    rw [rBin_lssN, show decide (i < es.length) = false from by simp; omega]
    simp only [shut_eq, rGuard_tf, rPick_f, rIf_f]
    refine hK _ σ B ?_ (.refl B σ)
    rw [List.drop_of_length_le (by omega)]
    exact hp
  | succ r ih =>
    intro i m σ B st K hi hmr hp hc hl hK
    obtain ⟨m, rfl⟩ := Nat.exists_eq_succ_of_ne_zero (show m ≠ 0 by omega)
    have hlt : i < es.length := by omega
    have hed : es.drop i = es[i] :: es.drop (i + 1) := List.drop_eq_getElem_cons hlt
    rw [T.LE]
    rw [rBin_lssN, show decide (i < es.length) = true from by simpa using hlt]
    simp only [shut_eq, rGuard_tt, rInv_i meth_wrong]
    rw [pen_wrong (n := n + d + 4) hp, rBin_eqlN, rPick_t, rIf_b]
    by_cases he : st.2 = 0
    · rw [if_pos (by simpa using he), rNil_p]
      obtain ⟨v, hv, hld⟩ := hc.ld
      obtain ⟨⟨bb, cc, rfl⟩, hN⟩ := hv.len
      rw [hld, rLenS_s, rBin_eqlN, rIf_b, if_neg (by simp; omega), T.JE _ (by rw [X_most]; omega)]
      obtain ⟨b2, o2, sp, c2, e2, hsp, hst⟩ := hv.elem (k := i) (ds := es[i]) (List.getElem?_eq_getElem hlt)
      rw [e2] at hld
      rw [rNil_p, hld, rIdx_sp its.length b2 o2 i _ c2 sp hsp hlt, rCallV_0]
      rw [hed, List.foldl_cons, foldl_cost] at hl
      refine hone n ⟨hp, hst, by rw [List.drop_zero]; omega, fun v2 σ' B' hp' f => ?_⟩
      rw [List.drop_zero] at hp'
      rw [rBin_add _ _ _ _ (by omega)]
      have hlen := encs_len its es[i] st
      refine ih (i + 1) m σ' B' (encs its es[i] st) K (by omega) (by omega) hp' (hc.fr f) (by omega) fun v3 σ3 B3 hp3 f3 => hK v3 σ3 B3 ?_ (f.trans f3)
      rw [hed, List.foldl_cons, if_pos he]
      exact hp3
    · rw [if_neg (by simpa using he)]
      refine hK _ σ B ?_ (.refl B σ)
      have key : ∀ l : List (List D), l.foldl (fun st ds => if st.2 = 0 then encs its ds st else st) st = st := by
        intro l
        induction l with
        | nil => rfl
        | cons d l ih => rw [List.foldl_cons, if_neg he, ih]
      rw [key]
      exact hp
theorem each_all {c one : FuncId} {sz d : Nat} {its : List It} {G} (T : EachT c sz G) (hsz : its.length = sz) (hm : 1048576 < most) (hone : PenOk most one its (d + 5)) : EachOk most c one its (d + 6) := by
  intro n σ w B st b o es K hp hc hl hK
  show (X most (n + d + 5 + 1)).C _ _ _ _ = true
  rw [X_call T.ov, T.R]
  obtain ⟨v, hv, hld⟩ := hc.ld
  obtain ⟨⟨bb, cc, rfl⟩, hN⟩ := hv.len
  rw [rNil_p, hld, rLenS_s, rNil_m meth_many, rInv_i meth_many]
  have h8 : ∀ l : List (List D), 8 ≤ l.foldl (fun c ds => c + costs its ds) 8 := fun l => by rw [foldl_cost]; omega
  have hl' : st.1.length + es.foldl (fun c ds => c + costs its ds) 8 ≤ LIM := by simpa [cost] using hl
  refine pen_many (n := n + d + 1) hp (by omega) hN (by have := h8 es; omega) fun σ' B' hp' f => ?_
  obtain ⟨v', hv', hld'⟩ := (hc.fr f).ld
  have hvv : v' = .slice bb es.length cc := by
    have h1 := hld (fun v _ => true)
    obtain ⟨vs, e, ck, u, g1, g2, g3, g4⟩ := hc.row
    have e1 : σ'.obj b = some (.cells vs e ck) := by rw [f.same b hc.lt hc.nC]; exact g1
    have a1 := hld' (fun x _ => true)
    have q : ∀ K : VK, K v' σ' = K u σ' := fun K => (hld' K).symm.trans (rLd_h e1 g3 K)
    have q2 : ∀ K : VK, K (.slice bb es.length cc) σ = K u σ := fun K => (hld K).symm.trans (rLd_h g1 g3 K)
    have r1 : u = v' := by
      by_cases h : u = v'
      · exact h
      · have := q (fun x _ => @decide (x = v') (Classical.propDecidable _)); simp [h] at this
    have r2 : u = .slice bb es.length cc := by
      by_cases h : u = .slice bb es.length cc
      · exact h
      · have := q2 (fun x _ => @decide (x = .slice bb es.length cc) (Classical.propDecidable _)); simp [h] at this
    rw [← r1, r2]
  subst hvv
  rw [hld', rSame_v (sameV_list hv'), X_most]
  unfold manyN
  by_cases hb : 1048576 < es.length
  · rw [if_pos hb]
    obtain ⟨m, hme⟩ := Nat.exists_eq_succ_of_ne_zero (show most ≠ 0 by omega)
    have hgo : ∀ x : EV, T.L x (m + 1) (hand w) (pt b o) (.func (.func one) #[] #[]) zI zI σ' K = K (.tuple ⟨[]⟩) σ' := fun x => by
      rw [T.LE]
      rw [rBin_lssN, show decide (0 < 0) = false from rfl]
      simp only [shut_eq, rGuard_tf, rPick_f, rIf_f]
    have hgo2 : T.L (X most (n + d + 5)) most (hand w) (pt b o) (.func (.func one) #[] #[]) zI zI σ' K = K (.tuple ⟨[]⟩) σ' := by
      have := hgo (X most (n + d + 5))
      rw [show m + 1 = most from hme.symm] at this
      exact this
    refine Eq.trans hgo2 (hK _ σ' B' ?_ f)
    rw [enc, if_pos hb]
    unfold encMany at hp'
    rw [if_pos hb] at hp'
    exact hp'
  · rw [if_neg hb]
    unfold encMany at hp'
    rw [if_neg hb, wr_zero] at hp'
    refine each_loop T hsz hm hone (n := n) (by omega) es.length 0 most σ' B' _ K (by omega) (show es.length < most by omega) hp' (hc.fr f) ?_ fun v3 σ3 B3 hp3 f3 => hK v3 σ3 B3 ?_ (f.trans f3)
    · rw [List.drop_zero]
      rw [foldl_cost] at hl'
      show (st.1 ++ beb 8 es.length).length + _ ≤ _
      rw [List.length_append, beb_length]
      omega
    · rw [enc, if_neg hb]
      rw [List.drop_zero] at hp3
      exact hp3

theorem each_string (hm : 1048576 < most) (hone : PenOk most c_save_text itsText 5) : EachOk most c_save_each_string c_save_text itsText 6 := each_all (d := 0) eT_string rfl hm hone
theorem each_list_uint64 (hm : 1048576 < most) (hone : PenOk most c_save_nums itsNums 5) : EachOk most c_save_each_list_uint64 c_save_nums itsNums 6 := each_all (d := 0) eT_list_uint64 rfl hm hone
theorem each_api_Pair (hm : 1048576 < most) (hone : PenOk most c_save_pair itsPair 5) : EachOk most c_save_each_api_Pair c_save_pair itsPair 6 := each_all (d := 0) eT_api_Pair rfl hm hone
theorem each_api_Msg (hm : 1048576 < most) (hone : PenOk most c_save_message itsMsg 5) : EachOk most c_save_each_api_Msg c_save_message itsMsg 6 := each_all (d := 0) eT_api_Msg rfl hm hone
theorem each_tally_Vote (hm : 1048576 < most) (hone : PenOk most c_save_vote itsVote 5) : EachOk most c_save_each_tally_Vote c_save_vote itsVote 6 := each_all (d := 0) eT_tally_Vote rfl hm hone
theorem each_board_Told (hm : 1048576 < most) (hone : PenOk most c_save_said itsSaid 5) : EachOk most c_save_each_board_Told c_save_said itsSaid 6 := each_all (d := 0) eT_board_Told rfl hm hone
theorem each_avss_Told (hm : 1048576 < most) (hone : PenOk most c_save_told itsTold 5) : EachOk most c_save_each_avss_Told c_save_told itsTold 6 := each_all (d := 0) eT_avss_Told rfl hm hone
theorem each_node_Done (hm : 1048576 < most) (hone : PenOk most c_save_done itsDone 5) : EachOk most c_save_each_node_Done c_save_done itsDone 6 := each_all (d := 0) eT_node_Done rfl hm hone
theorem pen_dealing' (hM : 1048576 < most) : PenOk most c_save_dealing itsDealing 7 := by
  have hm : 1024 < most := by omega
  intro n σ w B st b o ds K g
  rw [X_call (by rfl), f_save_dealing]
  unfold r_save_dealing
  rw [rNil_p, rFld_p, rNil_p, rFld_p]
  rw [rB2, bcase_t, rB2]
  refine step_whole (n := n + 2) (its := [.list itsNums, .nums, .list itsTold, .list itsTold, .nums, .is]) hm 2 (by omega) g (by
    intro i hi
    have h : i = 0 ∨ i = 1 := by omega
    rcases h with rfl | rfl <;> rfl) fun v σ B st g => ?_
  rw [rNil_p, rFld_p]
  refine step_list (n := n + 0) (its := [.nums, .list itsTold, .list itsTold, .nums, .is]) (each_list_uint64 hM (pen_nums' hm)) g rfl fun v σ B st g => ?_
  rw [rNil_p, rFld_p, rNil_m meth_nums, rInv_i meth_nums]
  refine step_nums (n := n + 2) (its := [.list itsTold, .list itsTold, .nums, .is]) hm g rfl fun v σ B st g => ?_
  rw [rNil_p, rFld_p]
  refine step_list (n := n + 0) (its := [.list itsTold, .nums, .is]) (each_avss_Told hM (pen_told' hm)) g rfl fun v σ B st g => ?_
  rw [rNil_p, rFld_p]
  refine step_list (n := n + 0) (its := [.nums, .is]) (each_avss_Told hM (pen_told' hm)) g rfl fun v σ B st g => ?_
  rw [rNil_p, rFld_p, rNil_m meth_nums, rInv_i meth_nums]
  refine step_nums (n := n + 2) (its := [.is]) hm g rfl fun v σ B st g => ?_
  rw [rNil_p, rFld_p, rNil_m meth_is, rInv_i meth_is]
  refine step_is (n := n + 2) (its := []) hm g rfl fun v σ B st g => ?_
  exact g.fin _

theorem pen_voting' (hM : 1048576 < most) : PenOk most c_save_voting itsVoting 7 := by
  have hm : 1024 < most := by omega
  intro n σ w B st b o ds K g
  rw [X_call (by rfl), f_save_voting]
  unfold r_save_voting
  rw [rNil_p, rFld_p, rNil_p, rFld_p, rNil_p, rFld_p, rNil_p, rFld_p, rNil_p, rFld_p, rNil_p, rFld_p, rNil_p, rFld_p]
  rw [rB7, bcase_t, rB7]
  refine step_whole (n := n + 2) (its := [.text, .text, .int, .int, .is, .is, .text, .list itsVote]) hm 7 (by omega) g (by
    intro i hi
    have h : i = 0 ∨ i = 1 ∨ i = 2 ∨ i = 3 ∨ i = 4 ∨ i = 5 ∨ i = 6 := by omega
    rcases h with rfl | rfl | rfl | rfl | rfl | rfl | rfl <;> rfl) fun v σ B st g => ?_
  rw [rNil_p, rFld_p, rNil_m meth_text, rInv_i meth_text]
  refine step_text (n := n + 2) (its := [.text, .int, .int, .is, .is, .text, .list itsVote]) hm g rfl fun v σ B st g => ?_
  rw [rNil_p, rFld_p, rNil_m meth_text, rInv_i meth_text]
  refine step_text (n := n + 2) (its := [.int, .int, .is, .is, .text, .list itsVote]) hm g rfl fun v σ B st g => ?_
  rw [rNil_p, rFld_p, rNil_p, rFld_p]
  rw [rB2, bcase_t, rB2]
  refine step_whole (n := n + 2) (its := [.is, .is, .text, .list itsVote]) hm 2 (by omega) g (by
    intro i hi
    have h : i = 0 ∨ i = 1 := by omega
    rcases h with rfl | rfl <;> rfl) fun v σ B st g => ?_
  rw [rNil_p, rFld_p, rNil_m meth_is, rInv_i meth_is]
  refine step_is (n := n + 2) (its := [.is, .text, .list itsVote]) hm g rfl fun v σ B st g => ?_
  rw [rNil_p, rFld_p, rNil_m meth_is, rInv_i meth_is]
  refine step_is (n := n + 2) (its := [.text, .list itsVote]) hm g rfl fun v σ B st g => ?_
  rw [rNil_p, rFld_p, rNil_m meth_text, rInv_i meth_text]
  refine step_text (n := n + 2) (its := [.list itsVote]) hm g rfl fun v σ B st g => ?_
  rw [rNil_p, rFld_p]
  refine step_list (n := n + 0) (its := []) (each_tally_Vote hM (pen_vote' hm)) g rfl fun v σ B st g => ?_
  exact g.fin _

theorem pen_rows' (hM : 1048576 < most) : PenOk most c_save_rows itsRows 8 := by
  have hm : 1024 < most := by omega
  intro n σ w B st b o ds K g
  rw [X_call (by rfl), f_save_rows]
  unfold r_save_rows
  rw [rNil_p, rFld_p]
  rw [rB1]
  refine step_whole (n := n + 3) (its := [.text, .is, .int, .int, .int, .int, .int, .int, .int, .text, .text, .int, .int, .is, .is, .text, .list itsVote, .list itsSaid, .list itsMsg]) hm 1 (by omega) g (by
    intro i hi
    have h : i = 0 := by omega
    rcases h with rfl <;> rfl) fun v σ B st g => ?_
  rw [rNil_p, rFld_p, rNil_m meth_text, rInv_i meth_text]
  refine step_text (n := n + 3) (its := [.is, .int, .int, .int, .int, .int, .int, .int, .text, .text, .int, .int, .is, .is, .text, .list itsVote, .list itsSaid, .list itsMsg]) hm g rfl fun v σ B st g => ?_
  rw [rNil_p, rFld_p, rNil_m meth_is, rInv_i meth_is]
  refine step_is (n := n + 3) (its := [.int, .int, .int, .int, .int, .int, .int, .text, .text, .int, .int, .is, .is, .text, .list itsVote, .list itsSaid, .list itsMsg]) hm g rfl fun v σ B st g => ?_
  rw [rNil_p, rFld_p]
  refine step_sub (n := n + 0) (its' := itsVoting) (its := [.list itsSaid, .list itsMsg]) (pen_voting' hM) g rfl (by decide) fun v σ B st g => ?_
  rw [rNil_p, rFld_p]
  refine step_list (n := n + 1) (its := [.list itsMsg]) (each_board_Told hM (pen_said' hm)) g rfl fun v σ B st g => ?_
  rw [rNil_p, rFld_p]
  refine step_list (n := n + 1) (its := []) (each_api_Msg hM (pen_message' hm)) g rfl fun v σ B st g => ?_
  exact g.fin _

theorem each_avss_State (hm : 1048576 < most) (hone : PenOk most c_save_dealing itsDealing 7) : EachOk most c_save_each_avss_State c_save_dealing itsDealing 8 := each_all (d := 2) eT_avss_State rfl hm hone
theorem pen_all' (hM : 1048576 < most) : PenOk most c_save_all itsAll 9 := by
  have hm : 1024 < most := by omega
  intro n σ w B st b o ds K g
  rw [X_call (by rfl), f_save_all]
  unfold r_save_all
  rw [rNil_p, rFld_p]
  rw [rB1]
  refine step_whole (n := n + 4) (its := [.list itsText, .int, .text, .is, .int, .int, .int, .int, .int, .int, .int, .text, .text, .int, .int, .is, .is, .text, .list itsVote, .list itsSaid, .list itsMsg, .list itsText, .list itsPair, .list itsPair, .is, .list itsDealing, .list itsDone, .list itsMsg, .list itsDealing]) hm 1 (by omega) g (by
    intro i hi
    have h : i = 0 := by omega
    rcases h with rfl <;> rfl) fun v σ B st g => ?_
  rw [rNil_p, rFld_p]
  refine step_list (n := n + 2) (its := [.int, .text, .is, .int, .int, .int, .int, .int, .int, .int, .text, .text, .int, .int, .is, .is, .text, .list itsVote, .list itsSaid, .list itsMsg, .list itsText, .list itsPair, .list itsPair, .is, .list itsDealing, .list itsDone, .list itsMsg, .list itsDealing]) (each_string hM (pen_text' hm)) g rfl fun v σ B st g => ?_
  rw [rNil_p, rFld_p]
  refine step_sub (n := n + 0) (its' := itsRows) (its := [.list itsText, .list itsPair, .list itsPair, .is, .list itsDealing, .list itsDone, .list itsMsg, .list itsDealing]) (pen_rows' hM) g rfl (by decide) fun v σ B st g => ?_
  rw [rNil_p, rFld_p]
  refine step_list (n := n + 2) (its := [.list itsPair, .list itsPair, .is, .list itsDealing, .list itsDone, .list itsMsg, .list itsDealing]) (each_string hM (pen_text' hm)) g rfl fun v σ B st g => ?_
  rw [rNil_p, rFld_p]
  refine step_list (n := n + 2) (its := [.list itsPair, .is, .list itsDealing, .list itsDone, .list itsMsg, .list itsDealing]) (each_api_Pair hM (pen_pair' hm)) g rfl fun v σ B st g => ?_
  rw [rNil_p, rFld_p]
  refine step_list (n := n + 2) (its := [.is, .list itsDealing, .list itsDone, .list itsMsg, .list itsDealing]) (each_api_Pair hM (pen_pair' hm)) g rfl fun v σ B st g => ?_
  rw [rNil_p, rFld_p, rNil_m meth_is, rInv_i meth_is]
  refine step_is (n := n + 4) (its := [.list itsDealing, .list itsDone, .list itsMsg, .list itsDealing]) hm g rfl fun v σ B st g => ?_
  rw [rNil_p, rFld_p]
  refine step_list (n := n + 0) (its := [.list itsDone, .list itsMsg, .list itsDealing]) (each_avss_State hM (pen_dealing' hM)) g rfl fun v σ B st g => ?_
  rw [rNil_p, rFld_p]
  refine step_list (n := n + 2) (its := [.list itsMsg, .list itsDealing]) (each_node_Done hM (pen_done' hm)) g rfl fun v σ B st g => ?_
  rw [rNil_p, rFld_p]
  refine step_list (n := n + 2) (its := [.list itsDealing]) (each_api_Msg hM (pen_message' hm)) g rfl fun v σ B st g => ?_
  rw [rNil_p, rFld_p]
  refine step_list (n := n + 0) (its := []) (each_avss_State hM (pen_dealing' hM)) g rfl fun v σ B st g => ?_
  exact g.fin _

end Go.Am

namespace Go.Am
open Go.RowKit Go.MapKept Go.Proofs Go.Proofs.Rdr
variable {most : Nat}
def encode (ds : List D) : List UInt8 × Nat := let st := encs itsAll ds ([], 0); if st.2 = 0 then (st.1, 0) else ([], st.2)
theorem rBin_neqN {P : Program} (t : TypeId) (k : IntKind) (a b : Nat) (K : Value → Bool) : rBin P .neq t (.int k (.ofNat a)) (.int k (.ofNat b)) K = K (.bool (!decide (a = b))) := by
  rw [rBin_i _ _ _ _ _ _ (by simp) (by simp)]; simp only [intBinK, boolK_eq, eqI_eq]
  congr 3
  by_cases h : a = b
  · subst h; simp
  · rw [decide_eq_false h]
    have : ¬ (Int.ofNat a = Int.ofNat b) := fun e => h (Int.ofNat.inj e)
    simpa using this
theorem Encode_s (hM : 1048576 < most) {n : Nat} {σ : St} {C : Nat → Prop} {cs : List Value} {ds : List D} (h : RdA σ C itsAll cs ds) (hl : costs itsAll ds ≤ LIM) {K : VK}
    (hK : ∀ σ', Ext' σ σ' → K (.tuple ⟨[.string ⟨⟨(encode ds).1⟩⟩, .int .i64 (.ofNat (encode ds).2)]⟩) σ' = true) : (X most (n + 10)).C c_save_Encode [.agg ⟨cs⟩] σ K = true := by
  rw [X_call (by rfl), f_save_Encode]
  unfold r_save_Encode
  rw [boxK_agg (List.all_eq_true.2 h.one)]
  have hbd : ∀ K : Value → Bool, rBuild [(.pointer none), zL, zI] [] K = K (.agg ⟨[.pointer none, .slice none 0 0, .int .i64 (.ofNat 0)]⟩) := fun K => rfl
  rw [hbd, boxK_agg rfl]
  have hs := h.stc 34
  let σ1 := σ.new (.cells cs 34 .exact)
  let σ2 := σ1.new (.cells [.pointer none, .slice none 0 0, .int .i64 (.ofNat 0)] 96 .exact)
  have hx2 : Ext' σ σ2 := (Ext'.new σ _).trans (Ext'.new σ1 _)
  have hp : Pen σ2 σ1.n (fun i => i = σ1.n) ([], 0) := ⟨rfl, fun i hi => by subst hi; exact Nat.lt_succ_self _, _, _, obj_new_same, .inl rfl, .inl ⟨rfl, rfl⟩⟩
  have hs2 : Stc σ2 (fun i => i = σ1.n) itsAll σ.n 0 ds := hs.fr ⟨Nat.le_succ _, fun i hi _ => obj_new_old (Nat.ne_of_lt hi), fun i hi => .inr (by subst hi; exact Nat.le_refl _)⟩
  have hlast : ∀ (v : Value) (σ' : St) (B' : Nat → Prop), Pen σ' σ1.n B' (encs itsAll ds ([], 0)) → Fr' (fun i => i = σ1.n) σ2 σ' B' →
      (rNil PP (pt σ1.n 0) fun v4 => rFld 2 v4 fun v5 => rLd v5 σ' fun v6 σ => rBin PP .neq 37 v6 zI fun v7 =>
        rIf v7 (rNil PP (pt σ1.n 0) fun v8 => rFld 2 v8 fun v9 => rLd v9 σ fun v10 σ => K (.tuple ⟨[zS, v10]⟩) σ)
          (rNil PP (pt σ1.n 0) fun v11 => rFld 0 v11 fun v12 => (X most (n + 9)).C c_strings_Builder_String [v12] σ fun v13 σ => K (.tuple ⟨[v13, zI]⟩) σ)) = true := by
    intro _ σ' B' hp' f
    have hx : Ext' σ σ' := f.ext hx2 fun i hi => by subst hi; exact Nat.le_succ _
    rw [rNil_p, rFld_p, Nat.zero_add, pen_err hp', rBin_neqN, rIf_b]
    have hK' := hK
    unfold encode at hK'
    simp only at hK'
    by_cases he : (encs itsAll ds ([], 0)).2 = 0
    · rw [if_neg (by simp [he]), rNil_p, rFld_p]
      rw [if_pos he] at hK'
      have hlen := encs_len itsAll ds ([], 0)
      refine String_s (n := n + 8) hp' (by simp at hlen; unfold LIM at hl; omega) fun σ3 f3 => hK' σ3 (f3.ext hx fun i hi => ?_)
      rcases f.sub i hi with h1 | h1
      · subst h1; exact Nat.le_succ _
      · exact Nat.le_trans hx2.n h1
    · rw [if_pos (by simp [he]), rNil_p, rFld_p, Nat.zero_add, pen_err hp']
      rw [if_neg he] at hK'
      exact hK' σ' hx
  exact pen_all' hM n ⟨hp, hs2, by rw [List.drop_zero]; simpa using hl, fun v σ' B' hp' f => hlast v σ' B' (by simpa using hp') f⟩
end Go.Am

namespace Go.Am
open Go.RowKit Go.MapKept Go.Proofs Go.Proofs.Rdr
def valB : List UInt8 → Nat
  | [] => 0
  | x :: l => x.toNat * 256 ^ l.length + valB l
theorem valB_beb (n : Nat) : ∀ k, valB (beb k n) = n % 256 ^ k := by
  intro k
  induction k with
  | zero => simp [beb, valB, Nat.mod_one]
  | succ k ih =>
    simp only [beb, valB, beb_length, ih]
    rw [Nat.pow_succ, Nat.mod_mul, UInt8.toNat_ofNat']
    rw [Nat.add_comm, Nat.mul_comm]
theorem beb_inj {k n m : Nat} (hn : n < 256 ^ k) (hm : m < 256 ^ k) {r r' : List UInt8} (h : beb k n ++ r = beb k m ++ r') : n = m ∧ r = r' := by
  obtain ⟨h1, h2⟩ := List.append_inj h (by rw [beb_length, beb_length])
  refine ⟨?_, h2⟩
  have := congrArg valB h1
  rwa [valB_beb, valB_beb, Nat.mod_eq_of_lt hn, Nat.mod_eq_of_lt hm] at this
inductive WF : It → D → Prop where
  | num {z : Nat} (h : z < 18446744073709551616) : WF .num (.n z)
  | kind {z : Nat} (h : z < 256) : WF .kind (.n z)
  | int {z : Int} (h1 : -9223372036854775808 ≤ z) (h2 : z < 9223372036854775808) : WF .int (.n z)
  | is {b : Bool} : WF .is (.b b)
  | text {l : List UInt8} : WF .text (.s l)
  | nums {ns : List Nat} (h : ∀ z ∈ ns, z < 18446744073709551616) : WF .nums (.l (ns.map fun z : Nat => [.n (z : Int)]))
  | list {its : List It} {es : List (List D)} (hl : ∀ ds ∈ es, ds.length = its.length) (hr : ∀ (k : Nat) (ds : List D) (j : Nat) (it : It) (d : D), es[k]? = some ds → its[j]? = some it → ds[j]? = some d → WF it d) : WF (.list its) (.l es)
theorem wrN_app (l b : List UInt8) (e : Nat) : wrN l (b, e) = (b ++ (wrN l ([], e)).1, (wrN l ([], e)).2) := by simp [wrN]
def App (f : PenS → PenS) : Prop := ∀ b e, f (b, e) = (b ++ (f ([], e)).1, (f ([], e)).2)
theorem App.comp {f g : PenS → PenS} (hf : App f) (hg : App g) : App fun st => g (f st) := by
  intro b e
  show g (f (b, e)) = _
  rw [hf b e, hg (b ++ _) _]
  have := hg (f ([], e)).1 (f ([], e)).2
  show _ = (b ++ (g (f ([], e))).1, (g (f ([], e))).2)
  rw [show g (f ([], e)) = g ((f ([], e)).1, (f ([], e)).2) from rfl, this]
  simp
theorem App.fold {f : PenS → List D → PenS} (h : ∀ ds, App fun st => f st ds) : ∀ es : List (List D), App fun st => es.foldl f st := by
  intro es
  induction es with
  | nil => intro b e; simp
  | cons ds es ih => exact App.comp (h ds) ih
mutual
theorem enc_app : ∀ (it : It) (d : D), App (enc it d)
  | .num, d => by intro b e; cases d <;> simp [enc, wrN]
  | .kind, d => by intro b e; cases d <;> simp [enc, wrN]
  | .int, d => by intro b e; cases d <;> simp [enc, wrN]
  | .is, d => by intro b e; cases d <;> simp [enc, wrN]
  | .text, d => by intro b e; cases d <;> simp [enc, wr]
  | .nums, d => by intro b e; cases d <;> simp [enc, wr]
  | .list its, .n _ => by intro b e; simp [enc]
  | .list its, .b _ => by intro b e; simp [enc]
  | .list its, .s _ => by intro b e; simp [enc]
  | .list its, .l es => by
    by_cases hb : 1048576 < es.length
    · intro b e; simp [enc, hb, wr]
    · have h1 : App fun st => es.foldl (fun st ds => if st.2 = 0 then encs its ds st else st) st := App.fold (fun ds => by
        intro b e
        show (if e = 0 then encs its ds (b, e) else (b, e)) = (b ++ (if e = 0 then encs its ds ([], e) else ([], e)).1, (if e = 0 then encs its ds ([], e) else ([], e)).2)
        by_cases he : e = 0
        · simp only [if_pos he]; exact encs_app its ds b e
        · simp only [if_neg he, List.append_nil]) es
      have h2 : App (wrN (beb 8 es.length)) := fun b e => wrN_app _ b e
      have h3 := App.comp h2 h1
      intro b e
      simp only [enc, if_neg hb]
      exact h3 b e
theorem encs_app : ∀ (its : List It) (ds : List D), App (encs its ds)
  | [], _ => by intro b e; simp [encs]
  | _ :: _, [] => by intro b e; simp [encs]
  | it :: its, d :: ds => by
    have := App.comp (enc_app it d) (encs_app its ds)
    intro b e
    simp only [encs]
    exact this b e
end
end Go.Am

namespace Go.Am
open Go.RowKit Go.MapKept Go.Proofs Go.Proofs.Rdr
def Keeps (f : PenS → PenS) : Prop := ∀ st, (f st).2 = 0 → st.2 = 0
theorem wr_keeps (x : List UInt8 × Nat) : Keeps (wr x) := by
  intro st h
  unfold wr at h
  by_cases he : st.2 = 0
  · exact he
  · simp only [if_neg he] at h; exact h
theorem fold_keeps {f : PenS → List D → PenS} (h : ∀ ds, Keeps fun st => f st ds) : ∀ es : List (List D), Keeps fun st => es.foldl f st := by
  intro es
  induction es with
  | nil => intro st h; exact h
  | cons ds es ih => intro st hs; exact h ds st (ih _ hs)
mutual
theorem enc_keeps : ∀ (it : It) (d : D), Keeps (enc it d)
  | .num, d => by intro st h; cases d <;> simpa [enc, wrN] using h
  | .kind, d => by intro st h; cases d <;> simpa [enc, wrN] using h
  | .int, d => by intro st h; cases d <;> simpa [enc, wrN] using h
  | .is, d => by intro st h; cases d <;> simpa [enc, wrN] using h
  | .text, .s t => by intro st h; simp only [enc] at h; exact wr_keeps _ st h
  | .text, .n _ => by intro st h; simpa [enc] using h
  | .text, .b _ => by intro st h; simpa [enc] using h
  | .text, .l _ => by intro st h; simpa [enc] using h
  | .nums, .l es => by intro st h; simp only [enc] at h; exact wr_keeps _ st h
  | .nums, .n _ => by intro st h; simpa [enc] using h
  | .nums, .b _ => by intro st h; simpa [enc] using h
  | .nums, .s _ => by intro st h; simpa [enc] using h
  | .list its, .n _ => by intro st h; simpa [enc] using h
  | .list its, .b _ => by intro st h; simpa [enc] using h
  | .list its, .s _ => by intro st h; simpa [enc] using h
  | .list its, .l es => by
    intro st h
    simp only [enc] at h
    by_cases hb : 1048576 < es.length
    · rw [if_pos hb] at h; exact wr_keeps _ st h
    · rw [if_neg hb] at h
      have := fold_keeps (f := fun st ds => if st.2 = 0 then encs its ds st else st) (fun ds st h => by
        by_cases he : st.2 = 0
        · exact he
        · simpa [if_neg he] using h) es (wrN (beb 8 es.length) st) h
      exact this
theorem encs_keeps : ∀ (its : List It) (ds : List D), Keeps (encs its ds)
  | [], _ => by intro st h; simpa [encs] using h
  | _ :: _, [] => by intro st h; simpa [encs] using h
  | it :: its, d :: ds => by
    intro st h
    simp only [encs] at h
    exact enc_keeps it d st (encs_keeps its ds _ h)
end
theorem u64_inj {a b : Int} (a1 : -9223372036854775808 ≤ a) (a2 : a < 9223372036854775808) (b1 : -9223372036854775808 ≤ b) (b2 : b < 9223372036854775808) (h : u64 a = u64 b) : a = b := by
  unfold u64 at h; omega
theorem flat_inj : ∀ (ns ms : List Nat) (r r' : List UInt8), ns.length = ms.length → (∀ z ∈ ns, z < 18446744073709551616) → (∀ z ∈ ms, z < 18446744073709551616) → ns.flatMap (beb 8) ++ r = ms.flatMap (beb 8) ++ r' → ns = ms ∧ r = r' := by
  intro ns
  induction ns with
  | nil =>
    intro ms r r' hl _ _ h
    have : ms = [] := List.eq_nil_of_length_eq_zero (by simpa using hl.symm)
    subst this
    exact ⟨rfl, by simpa using h⟩
  | cons n ns ih =>
    intro ms r r' hl h1 h2 h
    match ms, hl, h2, h with
    | m :: ms, hl, h2, h =>
      rw [List.flatMap_cons, List.flatMap_cons, List.append_assoc, List.append_assoc] at h
      obtain ⟨e1, e2⟩ := beb_inj (k := 8) (by simpa using h1 n (.head _)) (by simpa using h2 m (.head _)) h
      obtain ⟨e3, e4⟩ := ih ms r r' (by simpa using hl) (fun z hz => h1 z (.tail _ hz)) (fun z hz => h2 z (.tail _ hz)) e2
      exact ⟨by rw [e1, e3], e4⟩
theorem numOf_map (ns : List Nat) : (ns.map fun z : Nat => [D.n (z : Int)]).map numOf = ns := by
  induction ns with
  | nil => rfl
  | cons n ns ih => simp only [List.map_cons, ih]; rfl
def Inj (it : It) : Prop := ∀ d d', WF it d → WF it d' → (enc it d ([], 0)).2 = 0 → (enc it d' ([], 0)).2 = 0 → ∀ r r', (enc it d ([], 0)).1 ++ r = (enc it d' ([], 0)).1 ++ r' → d = d' ∧ r = r'
def WFs (its : List It) (ds : List D) : Prop := ds.length = its.length ∧ ∀ (j : Nat) (it : It) (d : D), its[j]? = some it → ds[j]? = some d → WF it d
def Injs (its : List It) : Prop := ∀ ds ds', WFs its ds → WFs its ds' → (encs its ds ([], 0)).2 = 0 → (encs its ds' ([], 0)).2 = 0 → ∀ r r', (encs its ds ([], 0)).1 ++ r = (encs its ds' ([], 0)).1 ++ r' → ds = ds' ∧ r = r'
theorem two {f g : PenS → PenS} (hg : App g) (kg : Keeps g) (h : (g (f ([], 0))).2 = 0) : (f ([], 0)).2 = 0 ∧ (g ([], 0)).2 = 0 ∧ (g (f ([], 0))).1 = (f ([], 0)).1 ++ (g ([], 0)).1 := by
  have h0 := kg _ h
  have := hg (f ([], 0)).1 (f ([], 0)).2
  rw [show ((f ([], 0)).1, (f ([], 0)).2) = f ([], 0) from rfl, h0] at this
  rw [this] at h ⊢
  exact ⟨h0, h, rfl⟩
theorem injs_of : ∀ its : List It, (∀ it ∈ its, Inj it) → Injs its := by
  intro its
  induction its with
  | nil =>
    intro _ ds ds' h h' _ _ r r' hh
    have e1 : ds = [] := List.eq_nil_of_length_eq_zero h.1
    have e2 : ds' = [] := List.eq_nil_of_length_eq_zero h'.1
    subst e1 e2
    exact ⟨rfl, by simpa [encs] using hh⟩
  | cons it its ih =>
    intro hi ds ds' h h' e e' r r' hh
    match ds, ds', h, h', e, e', hh with
    | d :: ds, d' :: ds', h, h', e, e', hh =>
      simp only [encs] at e e' hh
      obtain ⟨a1, a2, a3⟩ := two (f := enc it d) (encs_app its ds) (encs_keeps its ds) e
      obtain ⟨b1, b2, b3⟩ := two (f := enc it d') (encs_app its ds') (encs_keeps its ds') e'
      rw [a3, b3, List.append_assoc, List.append_assoc] at hh
      obtain ⟨c1, c2⟩ := hi it (.head _) d d' (h.2 0 it d rfl rfl) (h'.2 0 it d' rfl rfl) a1 b1 _ _ hh
      obtain ⟨c3, c4⟩ := ih (fun x hx => hi x (.tail _ hx)) ds ds' ⟨by simpa using h.1, fun j x y p q => h.2 (j + 1) x y p q⟩ ⟨by simpa using h'.1, fun j x y p q => h'.2 (j + 1) x y p q⟩ a2 b2 r r' c2
      exact ⟨by rw [c1, c3], c4⟩
end Go.Am

namespace Go.Am
open Go.RowKit Go.MapKept Go.Proofs Go.Proofs.Rdr
theorem list_inj {its : List It} (h : Injs its) : ∀ (es es' : List (List D)) (r r' : List UInt8), es.length = es'.length → (∀ ds ∈ es, WFs its ds) → (∀ ds ∈ es', WFs its ds) →
    (es.foldl (fun st ds => if st.2 = 0 then encs its ds st else st) ([], 0)).2 = 0 → (es'.foldl (fun st ds => if st.2 = 0 then encs its ds st else st) ([], 0)).2 = 0 →
    (es.foldl (fun st ds => if st.2 = 0 then encs its ds st else st) ([], 0)).1 ++ r = (es'.foldl (fun st ds => if st.2 = 0 then encs its ds st else st) ([], 0)).1 ++ r' → es = es' ∧ r = r' := by
  have hApp : ∀ es : List (List D), App fun st => es.foldl (fun st ds => if st.2 = 0 then encs its ds st else st) st := App.fold fun ds => by
    intro b e
    show (if e = 0 then encs its ds (b, e) else (b, e)) = (b ++ (if e = 0 then encs its ds ([], e) else ([], e)).1, (if e = 0 then encs its ds ([], e) else ([], e)).2)
    by_cases he : e = 0
    · simp only [if_pos he]; exact encs_app its ds b e
    · simp only [if_neg he, List.append_nil]
  have hKeep : ∀ es : List (List D), Keeps fun st => es.foldl (fun st ds => if st.2 = 0 then encs its ds st else st) st := fold_keeps fun ds st h => by
    by_cases he : st.2 = 0
    · exact he
    · simpa [if_neg he] using h
  intro es
  induction es with
  | nil =>
    intro es' r r' hl _ _ _ _ hh
    have : es' = [] := List.eq_nil_of_length_eq_zero (by simpa using hl.symm)
    subst this
    exact ⟨rfl, by simpa using hh⟩
  | cons ds es ih =>
    intro es' r r' hl hw hw' e e' hh
    match es', hl, hw', e', hh with
    | ds' :: es', hl, hw', e', hh =>
      rw [List.foldl_cons] at e e' hh
      rw [List.foldl_cons] at hh
      simp only [if_true] at e e' hh
      obtain ⟨a1, a2, a3⟩ := two (f := encs its ds) (hApp es) (hKeep es) e
      obtain ⟨b1, b2, b3⟩ := two (f := encs its ds') (hApp es') (hKeep es') e'
      rw [a3, b3, List.append_assoc, List.append_assoc] at hh
      obtain ⟨c1, c2⟩ := h ds ds' (hw _ (.head _)) (hw' _ (.head _)) a1 b1 _ _ hh
      obtain ⟨c3, c4⟩ := ih es' r r' (by simpa using hl) (fun x hx => hw x (.tail _ hx)) (fun x hx => hw' x (.tail _ hx)) a2 b2 c2
      exact ⟨by rw [c1, c3], c4⟩
theorem inj_list {its : List It} (h : Injs its) : Inj (.list its) := by
  intro d d' w w' e e' r r' hh
  cases w with
  | @list _ es hl hr =>
  cases w' with
  | @list _ es' hl' hr' =>
  simp only [enc] at e e' hh
  by_cases hb : 1048576 < es.length
  · rw [if_pos hb] at e; simp [wr] at e
  by_cases hb' : 1048576 < es'.length
  · rw [if_pos hb'] at e'; simp [wr] at e'
  rw [if_neg hb] at e hh
  rw [if_neg hb'] at e' hh
  have hApp : ∀ es : List (List D), App fun st => es.foldl (fun st ds => if st.2 = 0 then encs its ds st else st) st := App.fold fun ds => by
    intro b e
    show (if e = 0 then encs its ds (b, e) else (b, e)) = (b ++ (if e = 0 then encs its ds ([], e) else ([], e)).1, (if e = 0 then encs its ds ([], e) else ([], e)).2)
    by_cases he : e = 0
    · simp only [if_pos he]; exact encs_app its ds b e
    · simp only [if_neg he, List.append_nil]
  have hA : ∀ (es : List (List D)) (b : List UInt8) (e : Nat), es.foldl (fun st ds => if st.2 = 0 then encs its ds st else st) (b, e) = (b ++ (es.foldl (fun st ds => if st.2 = 0 then encs its ds st else st) ([], e)).1, (es.foldl (fun st ds => if st.2 = 0 then encs its ds st else st) ([], e)).2) := fun es b e => hApp es b e
  have hw1 : ∀ n, wrN (beb 8 n) ([], 0) = (beb 8 n, 0) := fun n => rfl
  rw [hw1, hA es] at e hh
  rw [hw1, hA es'] at e' hh
  simp only [List.append_assoc] at hh e e'
  obtain ⟨c1, c2⟩ := beb_inj (k := 8) (by simp; omega) (by simp; omega) hh
  obtain ⟨c3, c4⟩ := list_inj h es es' r r' c1 (fun ds hd => ⟨hl ds hd, fun j it d p q => by obtain ⟨k, hk⟩ := List.getElem?_of_mem hd; exact hr k ds j it d hk p q⟩)
    (fun ds hd => ⟨hl' ds hd, fun j it d p q => by obtain ⟨k, hk⟩ := List.getElem?_of_mem hd; exact hr' k ds j it d hk p q⟩) e e' c2
  exact ⟨by rw [c3], c4⟩
theorem inj_num : Inj .num := by
  intro d d' w w' _ _ r r' hh
  cases w with | num h => cases w' with | num h' =>
  simp only [enc, wrN, List.nil_append] at hh
  obtain ⟨c1, c2⟩ := beb_inj (k := 8) (by simpa using h) (by simpa using h') hh
  simp at c1
  exact ⟨by rw [c1], c2⟩
theorem inj_kind : Inj .kind := by
  intro d d' w w' _ _ r r' hh
  cases w with | kind h => cases w' with | kind h' =>
  simp only [enc, wrN, List.nil_append] at hh
  obtain ⟨c1, c2⟩ := beb_inj (k := 1) (by simpa using h) (by simpa using h') hh
  simp at c1
  exact ⟨by rw [c1], c2⟩
theorem inj_int : Inj .int := by
  intro d d' w w' _ _ r r' hh
  cases w with | int h1 h2 => cases w' with | int h1' h2' =>
  simp only [enc, wrN, List.nil_append] at hh
  obtain ⟨c1, c2⟩ := beb_inj (k := 8) (u64_lt _) (u64_lt _) hh
  exact ⟨by rw [u64_inj h1 h2 h1' h2' c1], c2⟩
theorem inj_is : Inj .is := by
  intro d d' w w' _ _ r r' hh
  cases w with | @is b => cases w' with | @is b' =>
  simp only [enc, wrN, List.nil_append] at hh
  obtain ⟨c1, c2⟩ := beb_inj (k := 8) (by cases b <;> simp) (by cases b' <;> simp) hh
  refine ⟨?_, c2⟩
  cases b <;> cases b' <;> first | rfl | (simp at c1)
theorem inj_text : Inj .text := by
  intro d d' w w' e e' r r' hh
  cases w with | @text l => cases w' with | @text l' =>
  simp only [enc, wr, if_true, List.nil_append] at e e' hh
  unfold encText at e e' hh
  by_cases hl : 2048 < l.length
  · rw [if_pos hl] at e; simp at e
  by_cases hl' : 2048 < l'.length
  · rw [if_pos hl'] at e'; simp at e'
  rw [if_neg hl, if_neg hl'] at hh
  simp only [List.append_assoc] at hh
  obtain ⟨c1, c2⟩ := beb_inj (k := 2) (by simp; omega) (by simp; omega) hh
  obtain ⟨c3, c4⟩ := List.append_inj c2 c1
  exact ⟨by rw [c3], c4⟩
theorem inj_nums : Inj .nums := by
  intro d d' w w' e e' r r' hh
  cases w with | @nums ns h => cases w' with | @nums ms h' =>
  simp only [enc, wr, if_true, List.nil_append, numOf_map] at e e' hh
  unfold encNums at e e' hh
  by_cases hl : 1024 < ns.length
  · rw [if_pos hl] at e; simp at e
  by_cases hl' : 1024 < ms.length
  · rw [if_pos hl'] at e'; simp at e'
  rw [if_neg hl, if_neg hl'] at hh
  simp only [List.append_assoc] at hh
  obtain ⟨c1, c2⟩ := beb_inj (k := 2) (by simp; omega) (by simp; omega) hh
  obtain ⟨c3, c4⟩ := flat_inj ns ms r r' c1 h h' c2
  exact ⟨by rw [c3], c4⟩
mutual
theorem inj_it : ∀ it : It, Inj it
  | .num => inj_num
  | .kind => inj_kind
  | .int => inj_int
  | .is => inj_is
  | .text => inj_text
  | .nums => inj_nums
  | .list its => inj_list (injs_of its (inj_its its))
theorem inj_its : ∀ (its : List It), ∀ it ∈ its, Inj it
  | [] => fun x hx => nomatch hx
  | it :: its => fun x hx => by
    rcases List.mem_cons.1 hx with e | hx
    · rw [e]; exact inj_it it
    · exact inj_its its x hx
end
theorem encode_inj {ds ds' : List D} (h : WFs itsAll ds) (h' : WFs itsAll ds') (e : (encode ds).2 = 0) (e' : (encode ds').2 = 0) (hh : (encode ds).1 = (encode ds').1) : ds = ds' := by
  unfold encode at e e' hh
  by_cases a : (encs itsAll ds ([], 0)).2 = 0
  · by_cases b : (encs itsAll ds' ([], 0)).2 = 0
    · simp only [if_pos a, if_pos b] at hh
      exact (injs_of itsAll (inj_its itsAll) ds ds' h h' a b [] [] (by rw [hh])).1
    · simp only [if_neg b] at e'; exact absurd e' b
  · simp only [if_neg a] at e; exact absurd e a
end Go.Am

namespace Go.Am
open Go.RowKit Go.MapKept Go.Proofs Go.Proofs.Rdr
theorem nums_form : ∀ (es : List (List D)), (∀ ds ∈ es, ds.length = 1) → (∀ ds ∈ es, ∀ d, ds[0]? = some d → WF .num d) → ∃ ns : List Nat, es = ns.map (fun z : Nat => [D.n (z : Int)]) ∧ ∀ z ∈ ns, z < 18446744073709551616 := by
  intro es
  induction es with
  | nil => intro _ _; exact ⟨[], rfl, fun _ h => by cases h⟩
  | cons ds es ih =>
    intro hl hw
    obtain ⟨ns, e, hn⟩ := ih (fun x hx => hl x (.tail _ hx)) fun x hx => hw x (.tail _ hx)
    match ds, hl _ (.head _), hw _ (.head _) with
    | [d], _, hd =>
      have := hd d rfl
      cases this with
      | @num z hz =>
        refine ⟨z :: ns, by rw [e]; rfl, fun y hy => ?_⟩
        rcases List.mem_cons.1 hy with h | h
        · rw [h]; exact hz
        · exact hn y h
theorem Rd.wf {σ : St} {C : Nat → Prop} {it : It} {v : Value} {d : D} (h : Rd σ C it v d) : WF it d := by
  induction h with
  | num h => exact .num h
  | kind h => exact .kind h
  | int h1 h2 => exact .int h1 h2
  | is => exact .is
  | text => exact .text
  | @nums v es _ ih =>
    cases ih with
    | list hl hr =>
      obtain ⟨ns, e, hn⟩ := nums_form es hl fun ds hd d h0 => by
        obtain ⟨k, hk⟩ := List.getElem?_of_mem hd
        exact hr k ds 0 .num d hk rfl h0
      rw [e]; exact .nums hn
  | empty => exact .list (fun _ h => by cases h) fun k ds j it d a => by simp at a
  | emptyR => exact .list (fun _ h => by cases h) fun k ds j it d a => by simp at a
  | @row its b o n c sp vs e ck es hsp hb hC ho hw hn hl hd hN _ ih =>
    refine .list hd fun k ds j it d a b c => ?_
    have hlt := (List.getElem?_eq_some_iff.1 b).1
    have hk := (List.getElem?_eq_some_iff.1 a).1
    have hle : k * its.length + its.length ≤ n * its.length := by
      have : (k + 1) * its.length ≤ n * its.length := Nat.mul_le_mul_right _ (by omega)
      rwa [Nat.add_mul, Nat.one_mul] at this
    exact ih k ds j it _ d a b (List.getElem?_eq_getElem (by omega)) c
theorem RdA.wfs {σ : St} {C : Nat → Prop} {its : List It} {cs : List Value} {ds : List D} (h : RdA σ C its cs ds) : WFs its ds := by
  refine ⟨h.dlen, fun j it d a b => ?_⟩
  have hlt := (List.getElem?_eq_some_iff.1 a).1
  exact (h.rd j it _ d a (List.getElem?_eq_getElem (by rw [h.len]; exact hlt)) b).wf
end Go.Am

namespace Go.Am
open Go.RowKit Go.MapKept Go.Proofs Go.Proofs.Rdr
abbrev RS := List UInt8 × Nat
def i64 (n : Nat) : Int := ((n : Int) + 9223372036854775808) % 18446744073709551616 - 9223372036854775808
theorem p8 : (256 : Nat) ^ 8 = 18446744073709551616 := by decide
theorem p2 : (256 : Nat) ^ 2 = 65536 := by decide
/-! what was written is read -/
end Go.Am

namespace Go.Am
open Go.RowKit Go.MapKept Go.Proofs Go.Proofs.Rdr
variable {most : Nat}
abbrev eye (rr : Nat) : Value := .iface 103 (.agg ⟨[pt rr 0]⟩)
section
variable {σ : St} {W : Nat → Prop} {rr : Nat} {st : RS} {n : Nat} {K : VK}
end
end Go.Am

namespace Go.Am
open Go.RowKit Go.MapKept Go.Proofs Go.Proofs.Rdr
theorem cut {a b p q : List UInt8} (h : a ++ b = p ++ q) (_hq : q ≠ []) : (∃ c, a = p ++ c ∧ c ≠ []) ∨ ∃ p', p = a ++ p' ∧ b = p' ++ q := by
  rcases List.append_eq_append_iff.1 h with ⟨c, h1, h2⟩ | ⟨c, h1, h2⟩
  · exact .inr ⟨c, h1, h2⟩
  · by_cases hc : c = []
    · subst hc; exact .inr ⟨[], by simpa using h1.symm, by simpa using h2.symm⟩
    · exact .inl ⟨c, h1, hc⟩
end Go.Am

namespace Go.Am
open Go.RowKit Go.MapKept Go.Proofs Go.Proofs.Rdr
end Go.Am

namespace Go.Am
open Go.RowKit Go.MapKept Go.Proofs Go.Proofs.Rdr
variable {most : Nat}
section
variable {σ : St} {W : Nat → Prop} {rr : Nat} {st : RS} {n : Nat} {K : VK}
end
end Go.Am

namespace Go.Am
open Go.RowKit Go.MapKept Go.Proofs Go.Proofs.Rdr
variable {most : Nat}
theorem Fr'.up {W C : Nat → Prop} {σ σ' : St} (f : Fr' W σ σ' W) (hs : ∀ i, W i → C i) : Fr' C σ σ' C := ⟨f.n, fun i hi hc => f.same i hi fun w => hc (hs i w), fun _ h => .inl h⟩
section
variable {σ : St} {W C : Nat → Prop} {rr : Nat} {st : RS} {b o : Nat} {e : TypeId} {gr : Bool} {vs : List Value} {all : List It} {ds : List D} {j : Nat} {it : It} {its : List It} {K K0 : VK} {n : Nat}
end
end Go.Am

namespace Go.Am
open Go.RowKit Go.MapKept Go.Proofs Go.Proofs.Rdr
variable {most : Nat}
structure Fn (n0 : Nat) (W : Nat → Prop) (σ σ' : St) : Prop where
  n : σ.n ≤ σ'.n
  same : ∀ i, i < n0 → ¬ W i → σ'.obj i = σ.obj i
section
variable {σ : St} {W C : Nat → Prop} {n0 rr b q : Nat} {e0 : TypeId} {gr : Bool} {vs : List Value} {its : List It} {el : TypeId} {w v : Value} {es : List (List D)} {st : RS} {n : Nat}
end
end Go.Am

namespace Go.Am
open Go.RowKit Go.MapKept Go.Proofs Go.Proofs.Rdr
variable {most : Nat}
end Go.Am

namespace Go.Am
open Go.RowKit Go.MapKept Go.Proofs Go.Proofs.Rdr
variable {most : Nat}
def loopF (f : Nat → List D → Nat) : List (List D) → Nat → Nat
  | [], n => n
  | ds :: es, n => if n < 9000 then loopF f es (f n ds) else n
def lenS : D → Nat
  | .s l => l.length
  | _ => 0
def lenL : D → Nat
  | .l es => es.length
  | _ => 0
def ats (ds : List D) (j : Nat) : D := (ds[j]?).getD (.b false)
def fTexts (n : Nat) (ds : List D) : Nat := n + 1 + lenS (ats ds 0) / 8
def fTold (n : Nat) (ds : List D) : Nat := n + 3 + lenL (ats ds 1)
def fMsgs (n : Nat) (ds : List D) : Nat := n + 10 + lenL (ats ds 10) + lenS (ats ds 9) / 8
theorem Stc.at {σ : St} {C : Nat → Prop} {its : List It} {b o : Nat} {ds : List D} (h : Stc σ C its b o ds) (j : Nat) {it : It} (hj : its[j]? = some it) : ∃ v, Rd σ C it v (ats ds j) ∧ ∀ K, rLd (pt b (o + j)) σ K = K v σ := by
  obtain ⟨d, hd, hc⟩ := h.cell j hj
  obtain ⟨v, hv, hld⟩ := hc.ld
  have : ats ds j = d := by unfold ats; rw [hd]; rfl
  exact ⟨v, by rw [this]; exact hv, hld⟩
theorem Rd.textL {σ : St} {C : Nat → Prop} {v : Value} {d : D} (h : Rd σ C .text v d) : lenS d ≤ 140737488355328 ∧ ∀ K, rLenT v K = K (.int .i64 (.ofNat (lenS d))) := by
  obtain ⟨l, rfl, rfl, hl⟩ := h.text_inv
  exact ⟨hl, fun K => rLenT_s l K⟩
theorem Rd.listL {σ : St} {C : Nat → Prop} {its : List It} {v : Value} {d : D} (h : Rd σ C (.list its) v d) : lenL d ≤ 140737488355328 ∧ ∀ K, rLenS v K = K (.int .i64 (.ofNat (lenL d))) := by
  obtain ⟨es, rfl⟩ := h.list_inv
  obtain ⟨⟨b, c, rfl⟩, hN⟩ := h.len
  exact ⟨hN, fun K => rfl⟩
theorem Rd.numsL {σ : St} {C : Nat → Prop} {v : Value} {d : D} (h : Rd σ C .nums v d) : lenL d ≤ 140737488355328 ∧ ∀ K, rLenS v K = K (.int .i64 (.ofNat (lenL d))) := by
  cases h with | nums h => exact h.listL
theorem Rd.at {σ : St} {C : Nat → Prop} {its : List It} {v : Value} {es : List (List D)} (h : Rd σ C (.list its) v (.l es)) {i : Nat} (hi : i < es.length) (sz : Nat) (hsz : its.length = sz) :
    ∃ b o, Stc σ C its b o es[i] ∧ ∀ K, rIdx sz v (.int .i64 (.ofNat i)) K = K (pt b o) := by
  obtain ⟨b, o, sp, c, rfl, hsp, hst⟩ := h.elem (k := i) (List.getElem?_eq_getElem hi)
  subst hsz
  exact ⟨b, o + i * its.length, hst, fun K => rIdx_sp _ b o i _ c sp hsp hi K⟩
theorem sizeTexts_loop {n : Nat} {σ : St} {C : Nat → Prop} {v : Value} {es : List (List D)} (hv : Rd σ C (.list itsText) v (.l es)) (K : VK) :
    ∀ (r i m N : Nat), i + r = es.length → r < m → l_law25_sizeTexts_rrlrd (X most n) m v (.int .i64 (.ofNat N)) (.int .i64 (.ofNat i)) σ K = K (.int .i64 (.ofNat (loopF fTexts (es.drop i) N))) σ := by
  obtain ⟨hN, hlen⟩ := hv.listL
  intro r
  induction r with
  | zero =>
    intro i m N hi hm
    obtain ⟨m, rfl⟩ := Nat.exists_eq_succ_of_ne_zero (show m ≠ 0 by omega)
    rw [l_law25_sizeTexts_rrlrdE]
    unfold l_law25_sizeTexts_rrlrdB
    rw [hlen, rBin_lssN, show decide (i < lenL (.l es)) = false from decide_eq_false (show ¬ i < es.length by omega)]
    simp only [shut_eq, rGuard_tf, rPick_f, rIf_f]
    rw [List.drop_of_length_le (by omega)]
    rfl
  | succ r ih =>
    intro i m N hi hm
    obtain ⟨m, rfl⟩ := Nat.exists_eq_succ_of_ne_zero (show m ≠ 0 by omega)
    have hlt : i < es.length := by omega
    rw [l_law25_sizeTexts_rrlrdE]
    unfold l_law25_sizeTexts_rrlrdB
    rw [hlen, rBin_lssN, show decide (i < lenL (.l es)) = true from decide_eq_true (show i < es.length from hlt)]
    simp only [shut_eq, rGuard_tt, rPick_t, rBin_lssN, rIf_b]
    rw [List.drop_eq_getElem_cons hlt]
    unfold loopF
    by_cases h9 : N < 9000
    · rw [if_pos h9, if_pos (by simpa using h9)]
      obtain ⟨b, o, hst, hix⟩ := hv.at hlt 1 rfl
      obtain ⟨u, hu, hld⟩ := hst.at 0 (it := .text) rfl
      obtain ⟨hL, hlt'⟩ := hu.textL
      have hlen2 : lenL (.l es) = es.length := rfl
      rw [Nat.add_zero] at hld
      rw [rBin_add _ _ _ _ (by omega), hix, hld, hlt', rBin_quo _ _ _ _ (by omega) (by omega), rBin_add _ _ _ _ (by omega), rBin_add _ _ _ _ (by omega)]
      exact ih (i + 1) m _ (by omega) (by omega)
    · rw [if_neg h9, if_neg (by simpa using h9)]
theorem sizeTexts_s {n : Nat} (hm : 140737488355328 < most) {σ : St} {C : Nat → Prop} {v : Value} {es : List (List D)} (hv : Rd σ C (.list itsText) v (.l es)) (K : VK) :
    (X most (n + 1)).C c_law25_sizeTexts [v] σ K = K (.int .i64 (.ofNat (loopF fTexts es 0))) σ := by
  rw [X_call (by rfl), f_law25_sizeTexts]
  unfold r_law25_sizeTexts
  obtain ⟨hN, hlen⟩ := hv.listL
  have hlen2 : lenL (.l es) = es.length := rfl
  rw [X_most]
  exact sizeTexts_loop hv K es.length 0 most 0 (by omega) (by omega)
theorem sizeTold_loop {n : Nat} {σ : St} {C : Nat → Prop} {v : Value} {es : List (List D)} (hv : Rd σ C (.list itsTold) v (.l es)) (K : VK) :
    ∀ (r i m N : Nat), i + r = es.length → r < m → l_law25_sizeTold_rrlrd (X most n) m v (.int .i64 (.ofNat N)) (.int .i64 (.ofNat i)) σ K = K (.int .i64 (.ofNat (loopF fTold (es.drop i) N))) σ := by
  obtain ⟨hN, hlen⟩ := hv.listL
  intro r
  induction r with
  | zero =>
    intro i m N hi hm
    obtain ⟨m, rfl⟩ := Nat.exists_eq_succ_of_ne_zero (show m ≠ 0 by omega)
    rw [l_law25_sizeTold_rrlrdE]
    unfold l_law25_sizeTold_rrlrdB
    rw [hlen, rBin_lssN, show decide (i < lenL (.l es)) = false from decide_eq_false (show ¬ i < es.length by omega)]
    simp only [shut_eq, rGuard_tf, rPick_f, rIf_f]
    rw [List.drop_of_length_le (by omega)]
    rfl
  | succ r ih =>
    intro i m N hi hm
    obtain ⟨m, rfl⟩ := Nat.exists_eq_succ_of_ne_zero (show m ≠ 0 by omega)
    have hlt : i < es.length := by omega
    rw [l_law25_sizeTold_rrlrdE]
    unfold l_law25_sizeTold_rrlrdB
    rw [hlen, rBin_lssN, show decide (i < lenL (.l es)) = true from decide_eq_true (show i < es.length from hlt)]
    simp only [shut_eq, rGuard_tt, rPick_t, rBin_lssN, rIf_b]
    rw [List.drop_eq_getElem_cons hlt]
    unfold loopF
    by_cases h9 : N < 9000
    · rw [if_pos h9, if_pos (by simpa using h9)]
      obtain ⟨b, o, hst, hix⟩ := hv.at hlt 2 rfl
      obtain ⟨u, hu, hld⟩ := hst.at 1 (it := .nums) rfl
      obtain ⟨hL, hlt'⟩ := hu.numsL
      have hlen2 : lenL (.l es) = es.length := rfl
      rw [rBin_add _ _ _ _ (by omega), hix, rFld_p, hld, hlt', rBin_add _ _ _ _ (by omega), rBin_add _ _ _ _ (by omega)]
      exact ih (i + 1) m _ (by omega) (by omega)
    · rw [if_neg h9, if_neg (by simpa using h9)]
theorem sizeTold_s {n : Nat} (hm : 140737488355328 < most) {σ : St} {C : Nat → Prop} {v : Value} {es : List (List D)} (hv : Rd σ C (.list itsTold) v (.l es)) (K : VK) :
    (X most (n + 1)).C c_law25_sizeTold [v] σ K = K (.int .i64 (.ofNat (loopF fTold es 0))) σ := by
  rw [X_call (by rfl), f_law25_sizeTold]
  unfold r_law25_sizeTold
  obtain ⟨hN, hlen⟩ := hv.listL
  have hlen2 : lenL (.l es) = es.length := rfl
  rw [X_most]
  exact sizeTold_loop hv K es.length 0 most 0 (by omega) (by omega)
theorem sizeMsgs_loop {n : Nat} {σ : St} {C : Nat → Prop} {v : Value} {es : List (List D)} (hv : Rd σ C (.list itsMsg) v (.l es)) (K : VK) :
    ∀ (r i m N : Nat), i + r = es.length → r < m → l_law25_sizeMsgs_rrlrd (X most n) m v (.int .i64 (.ofNat N)) (.int .i64 (.ofNat i)) σ K = K (.int .i64 (.ofNat (loopF fMsgs (es.drop i) N))) σ := by
  obtain ⟨hN, hlen⟩ := hv.listL
  intro r
  induction r with
  | zero =>
    intro i m N hi hm
    obtain ⟨m, rfl⟩ := Nat.exists_eq_succ_of_ne_zero (show m ≠ 0 by omega)
    rw [l_law25_sizeMsgs_rrlrdE]
    unfold l_law25_sizeMsgs_rrlrdB
    rw [hlen, rBin_lssN, show decide (i < lenL (.l es)) = false from decide_eq_false (show ¬ i < es.length by omega)]
    simp only [shut_eq, rGuard_tf, rPick_f, rIf_f]
    rw [List.drop_of_length_le (by omega)]
    rfl
  | succ r ih =>
    intro i m N hi hm
    obtain ⟨m, rfl⟩ := Nat.exists_eq_succ_of_ne_zero (show m ≠ 0 by omega)
    have hlt : i < es.length := by omega
    rw [l_law25_sizeMsgs_rrlrdE]
    unfold l_law25_sizeMsgs_rrlrdB
    rw [hlen, rBin_lssN, show decide (i < lenL (.l es)) = true from decide_eq_true (show i < es.length from hlt)]
    simp only [shut_eq, rGuard_tt, rPick_t, rBin_lssN, rIf_b]
    rw [List.drop_eq_getElem_cons hlt]
    unfold loopF
    by_cases h9 : N < 9000
    · rw [if_pos h9, if_pos (by simpa using h9)]
      obtain ⟨b, o, hst, hix⟩ := hv.at hlt 11 rfl
      obtain ⟨u, hu, hld⟩ := hst.at 10 (it := .nums) rfl
      obtain ⟨hL, hlt'⟩ := hu.numsL
      obtain ⟨u2, hu2, hld2⟩ := hst.at 9 (it := .text) rfl
      obtain ⟨hL2, hlt2⟩ := hu2.textL
      have hlen2 : lenL (.l es) = es.length := rfl
      rw [rBin_add _ _ _ _ (by omega), hix, rFld_p, hld, hlt', rBin_add _ _ _ _ (by omega), hix, rFld_p, hld2, hlt2, rBin_quo _ _ _ _ (by omega) (by omega), rBin_add _ _ _ _ (by omega), rBin_add _ _ _ _ (by omega)]
      exact ih (i + 1) m _ (by omega) (by omega)
    · rw [if_neg h9, if_neg (by simpa using h9)]
theorem sizeMsgs_s {n : Nat} (hm : 140737488355328 < most) {σ : St} {C : Nat → Prop} {v : Value} {es : List (List D)} (hv : Rd σ C (.list itsMsg) v (.l es)) (K : VK) :
    (X most (n + 1)).C c_law25_sizeMsgs [v] σ K = K (.int .i64 (.ofNat (loopF fMsgs es 0))) σ := by
  rw [X_call (by rfl), f_law25_sizeMsgs]
  unfold r_law25_sizeMsgs
  obtain ⟨hN, hlen⟩ := hv.listL
  have hlen2 : lenL (.l es) = es.length := rfl
  rw [X_most]
  exact sizeMsgs_loop hv K es.length 0 most 0 (by omega) (by omega)
end Go.Am

namespace Go.Am
open Go.RowKit Go.MapKept Go.Proofs Go.Proofs.Rdr
variable {most : Nat}
def esOf : D → List (List D)
  | .l es => es
  | _ => []
def fComs (n : Nat) (ds : List D) : Nat := n + 1 + lenL (ats ds 0)
def fDealt (n : Nat) (ds : List D) : Nat := loopF fComs (esOf (ats ds 2)) (n + 9 + lenL (ats ds 3) + lenL (ats ds 6) + loopF fTold (esOf (ats ds 4)) 0 + loopF fTold (esOf (ats ds 5)) 0)
theorem loopF_le (f : Nat → List D → Nat) (M : Nat) : ∀ (es : List (List D)) (n : Nat), (∀ ds ∈ es, ∀ n, n < 9000 → f n ds ≤ 9000 + M) → n ≤ 9000 + M → loopF f es n ≤ 9000 + M := by
  intro es
  induction es with
  | nil => intro n _ h; exact h
  | cons ds es ih =>
    intro n h hn
    unfold loopF
    split
    · rename_i h9
      exact ih _ (fun d hd => h d (.tail _ hd)) (h ds (.head _) n h9)
    · exact hn
theorem Rd.mem {σ : St} {C : Nat → Prop} {its : List It} {v : Value} {es : List (List D)} (h : Rd σ C (.list its) v (.l es)) {ds : List D} (hd : ds ∈ es) : ∃ b o, Stc σ C its b o ds := by
  obtain ⟨i, hi⟩ := List.getElem?_of_mem hd
  obtain ⟨b, o, sp, c, _, _, hst⟩ := h.elem hi
  exact ⟨b, _, hst⟩
theorem told_le {σ : St} {C : Nat → Prop} {v : Value} {es : List (List D)} (h : Rd σ C (.list itsTold) v (.l es)) : loopF fTold es 0 ≤ 9000 + 140737488355332 := by
  refine loopF_le _ _ es 0 (fun ds hd n hn => ?_) (by omega)
  obtain ⟨b, o, hst⟩ := h.mem hd
  obtain ⟨u, hu, _⟩ := hst.at 1 (it := .nums) rfl
  have := hu.numsL.1
  unfold fTold; omega
theorem texts_le {σ : St} {C : Nat → Prop} {v : Value} {es : List (List D)} (h : Rd σ C (.list itsText) v (.l es)) : loopF fTexts es 0 ≤ 9000 + 140737488355332 := by
  refine loopF_le _ _ es 0 (fun ds hd n hn => ?_) (by omega)
  obtain ⟨b, o, hst⟩ := h.mem hd
  obtain ⟨u, hu, _⟩ := hst.at 0 (it := .text) rfl
  have := hu.textL.1
  unfold fTexts; omega
theorem msgs_le {σ : St} {C : Nat → Prop} {v : Value} {es : List (List D)} (h : Rd σ C (.list itsMsg) v (.l es)) : loopF fMsgs es 0 ≤ 9000 + 422212465065990 := by
  refine loopF_le _ _ es 0 (fun ds hd n hn => ?_) (by omega)
  obtain ⟨b, o, hst⟩ := h.mem hd
  obtain ⟨u, hu, _⟩ := hst.at 10 (it := .nums) rfl
  obtain ⟨u2, hu2, _⟩ := hst.at 9 (it := .text) rfl
  have := hu.numsL.1
  have := hu2.textL.1
  unfold fMsgs; omega
theorem coms_le {σ : St} {C : Nat → Prop} {v : Value} {es : List (List D)} (h : Rd σ C (.list itsNums) v (.l es)) (N : Nat) (hN : N ≤ 9000 + 1125899906842624) : loopF fComs es N ≤ 9000 + 1125899906842624 := by
  refine loopF_le _ _ es N (fun ds hd n hn => ?_) hN
  obtain ⟨b, o, hst⟩ := h.mem hd
  obtain ⟨u, hu, _⟩ := hst.at 0 (it := .nums) rfl
  have := hu.numsL.1
  unfold fComs; omega
theorem esOf_eq {σ : St} {C : Nat → Prop} {its : List It} {v : Value} {d : D} (h : Rd σ C (.list its) v d) : d = .l (esOf d) := by
  obtain ⟨es, rfl⟩ := h.list_inv; rfl
theorem dealt_le {σ : St} {C : Nat → Prop} {v : Value} {es : List (List D)} (h : Rd σ C (.list itsDealing) v (.l es)) : loopF fDealt es 0 ≤ 9000 + 1125899906842624 := by
  refine loopF_le _ _ es 0 (fun ds hd n hn => ?_) (by omega)
  obtain ⟨b, o, hst⟩ := h.mem hd
  obtain ⟨u2, h2, _⟩ := hst.at 2 (it := .list itsNums) rfl
  obtain ⟨u3, h3, _⟩ := hst.at 3 (it := .nums) rfl
  obtain ⟨u4, h4, _⟩ := hst.at 4 (it := .list itsTold) rfl
  obtain ⟨u5, h5, _⟩ := hst.at 5 (it := .list itsTold) rfl
  obtain ⟨u6, h6, _⟩ := hst.at 6 (it := .nums) rfl
  have a3 := h3.numsL.1
  have a6 := h6.numsL.1
  rw [esOf_eq h4] at h4
  rw [esOf_eq h5] at h5
  rw [esOf_eq h2] at h2
  have a4 := told_le h4
  have a5 := told_le h5
  unfold fDealt
  exact coms_le h2 _ (by omega)
theorem sameV_nums {σ : St} {C : Nat → Prop} {v : Value} {d : D} (h : Rd σ C .nums v d) : sameV v v = true := by
  cases h with | nums h => exact sameV_list h
theorem coms_loop {n : Nat} {σ : St} {C : Nat → Prop} {v : Value} {es : List (List D)} (hv : Rd σ C (.list itsDealing) v (.l es)) {i : Nat} (hi : i < es.length) (m0 : Nat) (K : VK) :
    ∀ (r k m N : Nat), k + r = lenL (ats es[i] 2) → r < m → l_law25_sizeDealt_rrlrddrldrrd (X most n) m m0 v (.int .i64 (.ofNat N)) (.int .i64 (.ofNat i)) (.int .i64 (.ofNat k)) σ K =
      l_law25_sizeDealt_rrlrd (X most n) m0 v (.int .i64 (.ofNat (loopF fComs ((esOf (ats es[i] 2)).drop k) N))) (.int .i64 (.ofNat (i + 1))) σ K := by
  obtain ⟨hN, _⟩ := hv.listL
  obtain ⟨b, o, hst, hix⟩ := hv.at hi 8 rfl
  obtain ⟨u, hu, hld⟩ := hst.at 2 (it := .list itsNums) rfl
  have hes : lenL (.l es) = es.length := rfl
  have hu' := hu
  rw [esOf_eq hu] at hu'
  obtain ⟨hL, hlen⟩ := hu.listL
  have hLe : lenL (ats es[i] 2) = (esOf (ats es[i] 2)).length := by conv => lhs; rw [esOf_eq hu]
                                                                    rfl
  intro r
  induction r with
  | zero =>
    intro k m N hk hm
    obtain ⟨m, rfl⟩ := Nat.exists_eq_succ_of_ne_zero (show m ≠ 0 by omega)
    rw [l_law25_sizeDealt_rrlrddrldrrdE]
    unfold l_law25_sizeDealt_rrlrddrldrrdB
    rw [hix, rFld_p, hld, hlen, rBin_lssN, show decide (k < lenL (ats es[i] 2)) = false from decide_eq_false (by omega)]
    simp only [shut_eq, rGuard_tf, rPick_f, rIf_f]
    rw [List.drop_of_length_le (by omega), rBin_add _ _ _ _ (by omega)]
    rfl
  | succ r ih =>
    intro k m N hk hm
    obtain ⟨m, rfl⟩ := Nat.exists_eq_succ_of_ne_zero (show m ≠ 0 by omega)
    have hlt : k < (esOf (ats es[i] 2)).length := by omega
    rw [l_law25_sizeDealt_rrlrddrldrrdE]
    unfold l_law25_sizeDealt_rrlrddrldrrdB
    rw [hix, rFld_p, hld, hlen, rBin_lssN, show decide (k < lenL (ats es[i] 2)) = true from decide_eq_true (by omega)]
    simp only [shut_eq, rGuard_tt, rPick_t, rBin_lssN, rIf_b]
    rw [List.drop_eq_getElem_cons hlt]
    unfold loopF
    by_cases h9 : N < 9000
    · rw [if_pos h9, if_pos (by simpa using h9)]
      obtain ⟨b2, o2, hst2, hix2⟩ := hu'.at hlt 1 rfl
      obtain ⟨u2, hu2, hld2⟩ := hst2.at 0 (it := .nums) rfl
      obtain ⟨hL2, hlt2⟩ := hu2.numsL
      rw [Nat.add_zero] at hld2
      rw [rBin_add _ _ _ _ (by omega), hix, rFld_p, hld, hix2, hld2, hlt2, rBin_add _ _ _ _ (by omega), rBin_add _ _ _ _ (by omega)]
      exact ih (k + 1) m _ (by omega) (by omega)
    · rw [if_neg h9, if_neg (by simpa using h9), rBin_add _ _ _ _ (by omega)]
theorem sizeDealt_loop {n : Nat} (hmost : 140737488355328 < most) {σ : St} {C : Nat → Prop} {v : Value} {es : List (List D)} (hv : Rd σ C (.list itsDealing) v (.l es)) (K : VK) :
    ∀ (r i m N : Nat), i + r = es.length → r < m → l_law25_sizeDealt_rrlrd (X most (n + 1)) m v (.int .i64 (.ofNat N)) (.int .i64 (.ofNat i)) σ K = K (.int .i64 (.ofNat (loopF fDealt (es.drop i) N))) σ := by
  obtain ⟨hN, hlen⟩ := hv.listL
  intro r
  induction r with
  | zero =>
    intro i m N hi hm
    obtain ⟨m, rfl⟩ := Nat.exists_eq_succ_of_ne_zero (show m ≠ 0 by omega)
    rw [l_law25_sizeDealt_rrlrdE]
    unfold l_law25_sizeDealt_rrlrdB
    rw [hlen, rBin_lssN, show decide (i < lenL (.l es)) = false from decide_eq_false (show ¬ i < es.length by omega)]
    simp only [shut_eq, rGuard_tf, rPick_f, rIf_f]
    rw [List.drop_of_length_le (by omega)]
    rfl
  | succ r ih =>
    intro i m N hi hm
    obtain ⟨m, rfl⟩ := Nat.exists_eq_succ_of_ne_zero (show m ≠ 0 by omega)
    have hlt : i < es.length := by omega
    rw [l_law25_sizeDealt_rrlrdE]
    unfold l_law25_sizeDealt_rrlrdB
    rw [hlen, rBin_lssN, show decide (i < lenL (.l es)) = true from decide_eq_true (show i < es.length from hlt)]
    simp only [shut_eq, rGuard_tt, rPick_t, rBin_lssN, rIf_b]
    rw [List.drop_eq_getElem_cons hlt]
    unfold loopF
    by_cases h9 : N < 9000
    · rw [if_pos h9, if_pos (by simpa using h9)]
      obtain ⟨b, o, hst, hix⟩ := hv.at hlt 8 rfl
      obtain ⟨u2, h2, l2⟩ := hst.at 2 (it := .list itsNums) rfl
      obtain ⟨u3, h3, l3⟩ := hst.at 3 (it := .nums) rfl
      obtain ⟨u4, h4, l4⟩ := hst.at 4 (it := .list itsTold) rfl
      obtain ⟨u5, h5, l5⟩ := hst.at 5 (it := .list itsTold) rfl
      obtain ⟨u6, h6, l6⟩ := hst.at 6 (it := .nums) rfl
      obtain ⟨a3, b3⟩ := h3.numsL
      obtain ⟨a6, b6⟩ := h6.numsL
      have h4' := h4
      have h5' := h5
      rw [esOf_eq h4] at h4'
      rw [esOf_eq h5] at h5'
      have a4 := told_le h4'
      have a5 := told_le h5'
      have hlen2 : lenL (.l es) = es.length := rfl
      have a2 := h2.listL.1
      rw [rBin_add _ _ _ _ (by omega), hix, rFld_p, l3, b3, rBin_add _ _ _ _ (by omega), hix, rFld_p, l6, b6, rBin_add _ _ _ _ (by omega), hix, rFld_p, l4, hix, rFld_p, l5]
      rw [sizeTold_s (n := n) hmost h4', l5, rSame_v (sameV_list h5), l6, rSame_v (sameV_nums h6), l3, rSame_v (sameV_nums h3), rBin_add _ _ _ _ (by omega)]
      rw [sizeTold_s (n := n) hmost h5', l6, rSame_v (sameV_nums h6), l3, rSame_v (sameV_nums h3), rBin_add _ _ _ _ (by omega), X_most]
      rw [coms_loop hv hlt m K (lenL (ats es[i] 2)) 0 most _ (by omega) (by omega), List.drop_zero]
      exact ih (i + 1) m _ (by omega) (by omega)
    · rw [if_neg h9, if_neg (by simpa using h9)]
theorem sizeDealt_s {n : Nat} (hm : 140737488355328 < most) {σ : St} {C : Nat → Prop} {v : Value} {es : List (List D)} (hv : Rd σ C (.list itsDealing) v (.l es)) (K : VK) :
    (X most (n + 2)).C c_law25_sizeDealt [v] σ K = K (.int .i64 (.ofNat (loopF fDealt es 0))) σ := by
  rw [X_call (by rfl), f_law25_sizeDealt]
  unfold r_law25_sizeDealt
  obtain ⟨hN, hlen⟩ := hv.listL
  have hlen2 : lenL (.l es) = es.length := rfl
  rw [X_most]
  exact sizeDealt_loop hm hv K es.length 0 most 0 (by omega) (by omega)
end Go.Am

namespace Go.Am
open Go.RowKit Go.MapKept Go.Proofs Go.Proofs.Rdr
variable {most : Nat}
def fDones (n : Nat) (ds : List D) : Nat := n + 3 + lenL (ats ds 2)
def fVotes (n : Nat) (ds : List D) : Nat := n + 4 + lenS (ats ds 4) / 8
def fSaid (n : Nat) (ds : List D) : Nat := n + 2 + lenS (ats ds 1) / 8
def N1 (ds : List D) : Nat := loopF fTexts (esOf (ats ds 1)) 0 + loopF fTexts (esOf (ats ds 22)) 0 + 2 * lenL (ats ds 23) + 2 * lenL (ats ds 24) + loopF fDealt (esOf (ats ds 26)) 0 + loopF fDealt (esOf (ats ds 29)) 0 + loopF fMsgs (esOf (ats ds 28)) 0 + loopF fMsgs (esOf (ats ds 21)) 0
def N3 (ds : List D) (n : Nat) : Nat := n + (lenS (ats ds 3) + lenS (ats ds 12) + lenS (ats ds 13) + lenS (ats ds 18)) / 8
def largeN (ds : List D) : Nat := loopF fSaid (esOf (ats ds 20)) (loopF fVotes (esOf (ats ds 19)) (N3 ds (loopF fDones (esOf (ats ds 27)) (N1 ds))))
theorem loopF_lt {f : Nat → List D → Nat} {ds : List D} {es : List (List D)} {n : Nat} (h : n < 9000) : loopF f (ds :: es) n = loopF f es (f n ds) := if_pos h
theorem loopF_ge {f : Nat → List D → Nat} {ds : List D} {es : List (List D)} {n : Nat} (h : ¬ n < 9000) : loopF f (ds :: es) n = n := if_neg h
theorem rSt_all {σ : St} {i : Nat} {vs cs : List Value} {e : TypeId} (h : σ.obj i = some (.cells vs e .exact)) (hl : cs.length = vs.length) (h1 : cs.all oneCell = true) (n : Nat) (hn : n = cs.length) (k : St → Bool) :
    rSt n (pt i 0) (.agg ⟨cs⟩) σ k = k (σ.set i (.cells cs e .exact)) := by
  show (match allB oneCell cs with | true => (lenK cs fun m => match Nat.beq m n with | true => writeK σ i 0 cs k | false => false) | false => false) = _
  rw [allB_eq, h1, lenK_eq, hn]
  simp only [show Nat.beq cs.length cs.length = true from Nat.beq_refl _]
  unfold writeK
  rw [cellsK_h h]
  show spliceK 0 cs vs (fun vs => setK σ i (.cells vs e .exact) k) = _
  rw [spliceK_eq, if_pos (by omega), setK_eq]
  have : splice 0 cs vs = cs := by
    unfold splice
    rw [List.take_zero, List.nil_append, List.drop_of_length_le (by omega), List.append_nil]
  rw [this]
theorem said_loop {n : Nat} {σ : St} {C : Nat → Prop} {b : Nat} {ds : List D} (hs : Stc σ C itsAll b 0 ds) (K : VK) :
    ∀ (r i m N : Nat), i + r = lenL (ats ds 20) → r < m → N ≤ 72057594037927936 → l_law25_large_rrrrrrlrd (X most n) m (pt b 0) (.int .i64 (.ofNat N)) (.int .i64 (.ofNat i)) σ K = K (.bool (decide (9000 ≤ loopF fSaid ((esOf (ats ds 20)).drop i) N))) σ := by
  obtain ⟨u, hu, hld⟩ := hs.at 20 (it := .list itsSaid) rfl
  have hu' := hu
  rw [esOf_eq hu] at hu'
  obtain ⟨hL, hlen⟩ := hu.listL
  have hLe : lenL (ats ds 20) = (esOf (ats ds 20)).length := by
    conv => lhs; rw [esOf_eq hu]
    rfl
  have hld : ∀ K, rLd (pt b (0 + 2 + 18)) σ K = K u σ := hld
  intro r
  induction r with
  | zero =>
    intro i m N hi hm _
    obtain ⟨m, rfl⟩ := Nat.exists_eq_succ_of_ne_zero (show m ≠ 0 by omega)
    rw [l_law25_large_rrrrrrlrdE]
    unfold l_law25_large_rrrrrrlrdB
    rw [rFld_p, rFld_p, hld, hlen, rBin_lssN, show decide (i < lenL (ats ds 20)) = false from decide_eq_false (by omega)]
    simp only [shut_eq, rGuard_tf, rPick_f, rIf_f]
    rw [List.drop_of_length_le (by omega), rBin_geqN]
    rfl
  | succ r ih =>
    intro i m N hi hm hNb
    obtain ⟨m, rfl⟩ := Nat.exists_eq_succ_of_ne_zero (show m ≠ 0 by omega)
    have hlt : i < (esOf (ats ds 20)).length := by omega
    rw [l_law25_large_rrrrrrlrdE]
    unfold l_law25_large_rrrrrrlrdB
    rw [rFld_p, rFld_p, hld, hlen, rBin_lssN, show decide (i < lenL (ats ds 20)) = true from decide_eq_true (by omega)]
    simp only [shut_eq, rGuard_tt, rPick_t, rBin_lssN, rIf_b]
    rw [List.drop_eq_getElem_cons hlt]
    unfold loopF
    by_cases h9 : N < 9000
    · rw [if_pos h9, if_pos (by simpa using h9)]
      obtain ⟨b2, o2, hst2, hix2⟩ := hu'.at hlt 2 rfl
      obtain ⟨u2, hu2, hld2⟩ := hst2.at 1 (it := .text) rfl
      obtain ⟨hL2, hlt2⟩ := hu2.textL
      rw [rBin_add _ _ _ _ (by omega), rFld_p, rFld_p, hld, hix2, rFld_p, hld2, hlt2, rBin_quo _ _ _ _ (by omega) (by omega), rBin_add _ _ _ _ (by omega), rBin_add _ _ _ _ (by omega)]
      exact ih (i + 1) m _ (by omega) (by omega) (by omega)
    · rw [if_neg h9, if_neg (by simpa using h9), rBin_geqN]
theorem votes_loop {n : Nat} {σ : St} {C : Nat → Prop} {b b2 : Nat} {ds vs : List D} (hs : Stc σ C itsAll b 0 ds) (hv : Stc σ C itsVoting b2 0 vs) (hmost : 140737488355328 < most) (K : VK) :
    ∀ (r i m N : Nat), i + r = lenL (ats vs 14) → r < m → N ≤ 72057594037927936 → l_law25_large_rrrrrlrd (X most n) m (pt b 0) (.int .i64 (.ofNat N)) (pt b2 0) (.int .i64 (.ofNat i)) σ K = K (.bool (decide (9000 ≤ loopF fSaid (esOf (ats ds 20)) (loopF fVotes ((esOf (ats vs 14)).drop i) N)))) σ := by
  obtain ⟨u, hu, hld⟩ := hv.at 14 (it := .list itsVote) rfl
  obtain ⟨us, hus, _⟩ := hs.at 20 (it := .list itsSaid) rfl
  have hu' := hu
  rw [esOf_eq hu] at hu'
  obtain ⟨hL, hlen⟩ := hu.listL
  have hLe : lenL (ats vs 14) = (esOf (ats vs 14)).length := by
    conv => lhs; rw [esOf_eq hu]
    rfl
  have hLs := hus.listL.1
  intro r
  induction r with
  | zero =>
    intro i m N hi hm hNb
    obtain ⟨m, rfl⟩ := Nat.exists_eq_succ_of_ne_zero (show m ≠ 0 by omega)
    rw [l_law25_large_rrrrrlrdE]
    unfold l_law25_large_rrrrrlrdB
    rw [rFld_p, hld, hlen, rBin_lssN, show decide (i < lenL (ats vs 14)) = false from decide_eq_false (by omega)]
    simp only [shut_eq, rGuard_tf, rPick_f, rIf_f]
    rw [List.drop_of_length_le (by omega), X_most, said_loop hs K (lenL (ats ds 20)) 0 most N (by omega) (by omega) hNb, List.drop_zero]
    rfl
  | succ r ih =>
    intro i m N hi hm hNb
    obtain ⟨m, rfl⟩ := Nat.exists_eq_succ_of_ne_zero (show m ≠ 0 by omega)
    have hlt : i < (esOf (ats vs 14)).length := by omega
    rw [l_law25_large_rrrrrlrdE]
    unfold l_law25_large_rrrrrlrdB
    rw [rFld_p, hld, hlen, rBin_lssN, show decide (i < lenL (ats vs 14)) = true from decide_eq_true (by omega)]
    simp only [shut_eq, rGuard_tt, rPick_t, rBin_lssN, rIf_b]
    rw [List.drop_eq_getElem_cons hlt]
    by_cases h9 : N < 9000
    · rw [if_pos (by simpa using h9), loopF_lt h9]
      obtain ⟨b3, o3, hst3, hix3⟩ := hu'.at hlt 5 rfl
      obtain ⟨u3, hu3, hld3⟩ := hst3.at 4 (it := .text) rfl
      obtain ⟨hL3, hlt3⟩ := hu3.textL
      rw [rBin_add _ _ _ _ (by omega), rFld_p, hld, hix3, rFld_p, hld3, hlt3, rBin_quo _ _ _ _ (by omega) (by omega), rBin_add _ _ _ _ (by omega), rBin_add _ _ _ _ (by omega)]
      exact ih (i + 1) m _ (by omega) (by omega) (by omega)
    · rw [if_neg (by simpa using h9), loopF_ge h9, X_most, said_loop hs K (lenL (ats ds 20)) 0 most N (by omega) (by omega) hNb, List.drop_zero]
theorem ats_part (ds : List D) (k m j : Nat) (h : j < m) : ats ((ds.drop k).take m) j = ats ds (k + j) := by
  unfold ats
  rw [List.getElem?_take, if_pos h, List.getElem?_drop]
theorem dones_loop {n : Nat} {σ : St} {C : Nat → Prop} {b : Nat} {ds : List D} (hs : Stc σ C itsAll b 0 ds) (hmost : 140737488355328 < most) {K : VK} :
    ∀ (r i m N : Nat), i + r = lenL (ats ds 27) → r < m → N ≤ 36028797018963968 → (∀ σ', Ext' σ σ' → K (.bool (decide (9000 ≤ loopF fSaid (esOf (ats ds 20)) (loopF fVotes (esOf (ats ds 19)) (N3 ds (loopF fDones ((esOf (ats ds 27)).drop i) N)))))) σ' = true) →
      l_law25_large_rrlrd (X most n) m (pt b 0) (.int .i64 (.ofNat N)) (.int .i64 (.ofNat i)) σ K = true := by
  obtain ⟨u, hu, hld⟩ := hs.at 27 (it := .list itsDone) rfl
  obtain ⟨v3, h3, l3⟩ := hs.at 3 (it := .text) rfl
  obtain ⟨v12, h12, l12⟩ := hs.at 12 (it := .text) rfl
  obtain ⟨v13, h13, l13⟩ := hs.at 13 (it := .text) rfl
  obtain ⟨v18, h18, l18⟩ := hs.at 18 (it := .text) rfl
  obtain ⟨v19, h19, l19⟩ := hs.at 19 (it := .list itsVote) rfl
  have a3 := h3.textL.1
  have a12 := h12.textL.1
  have a13 := h13.textL.1
  have a18 := h18.textL.1
  have a19 := h19.listL.1
  have hu' := hu
  rw [esOf_eq hu] at hu'
  obtain ⟨hL, hlen⟩ := hu.listL
  have hLe : lenL (ats ds 27) = (esOf (ats ds 27)).length := by
    conv => lhs; rw [esOf_eq hu]
    rfl
  -- behind the loop
  have behind : ∀ N, N ≤ 36028797018963968 → (∀ σ', Ext' σ σ' → K (.bool (decide (9000 ≤ loopF fSaid (esOf (ats ds 20)) (loopF fVotes (esOf (ats ds 19)) (N3 ds N))))) σ' = true) →
      (rFld 2 (pt b 0) fun v17 => rFld 3 v17 fun v18 => rLdN 15 v18 σ fun v19 σ =>
        rAlloc [zI, zI, zI, zI, zI, zI, zI, zS, zS, zI, zI, zF, zF, zS, zL] 25 σ fun v20 σ =>
        rSt 15 v20 v19 σ fun σ => rFld 2 (pt b 0) fun v21 => rFld 1 v21 fun v22 => rLd v22 σ fun v23 σ => rLenT v23 fun v24 => rFld 7 v20 fun v25 => rLd v25 σ fun v26 σ => rLenT v26 fun v27 => rBin PP .add 3 v24 v27 fun v28 =>
        rFld 8 v20 fun v29 => rLd v29 σ fun v30 σ => rLenT v30 fun v31 => rBin PP .add 3 v28 v31 fun v32 => rFld 13 v20 fun v33 => rLd v33 σ fun v34 σ => rLenT v34 fun v35 => rBin PP .add 3 v32 v35 fun v36 =>
        rBin PP .quo 3 v36 (.int .i64 (.ofNat 8)) fun v37 => rBin PP .add 3 (.int .i64 (.ofNat N)) v37 fun v38 => l_law25_large_rrrrrlrd (X most n) (X most n).most (pt b 0) v38 v20 zI σ K) = true := by
    intro N hN hKN
    obtain ⟨vs, e, ck, g1, g2, g3, g4⟩ := hs.row
    have g3 : 0 + 30 ≤ vs.length := g3
    have hone : ((vs.drop 5).take 15).all oneCell = true := by
      refine List.all_eq_true.2 fun v hv => ?_
      obtain ⟨j, hj⟩ := List.getElem?_of_mem hv
      rw [List.getElem?_take] at hj
      split at hj
      · rename_i hj15
        rw [List.getElem?_drop] at hj
        have hlt : 5 + j < itsAll.length := by show 5 + j < 30; omega
        exact (g4 (5 + j) _ v _ (List.getElem?_eq_getElem hlt) (by rw [Nat.zero_add]; exact hj) (List.getElem?_eq_getElem (by rw [hs.len]; exact hlt))).one
      · cases hj
    rw [rFld_p, rFld_p, rLdN_h (n := 15) (o := 0 + 2 + 3) g1 (by omega), rAlloc_h, rSt_all obj_new_same (by simp; omega) hone 15 (by simp; omega)]
    let σ2 := (σ.new (.cells [zI, zI, zI, zI, zI, zI, zI, zS, zS, zI, zI, zF, zF, zS, zL] 25 .exact)).set σ.n (.cells ((vs.drop (0 + 2 + 3)).take 15) 25 .exact)
    have hx : Ext' σ σ2 := ⟨Nat.le_succ _, fun i hi => by rw [obj_set_other (show i ≠ σ.n by omega), obj_new_old (by omega)]⟩
    have f : Fr' C σ σ2 (fun _ => False) := ⟨hx.n, fun i hi _ => hx.same i hi, fun _ h => h.elim⟩
    have hs2 := hs.fr f
    have hv2 : Stc σ2 (fun _ => False) itsVoting σ.n 0 ((ds.drop 5).take 15) := by
      refine ⟨⟨_, 25, .exact, obj_set_same, .inr (.inl rfl), by show 0 + 15 ≤ _; rw [List.length_take, List.length_drop]; omega, fun j it v d a1 a2 a3 => ?_⟩, by show σ.n < σ.n + 1; omega, fun h => h, by rw [List.length_take, List.length_drop, hs.len]; rfl⟩
      have hj : j < 15 := (List.getElem?_eq_some_iff.1 a1).1
      have a1' : itsAll[5 + j]? = some it := by
        have : itsVoting = (itsAll.drop 5).take 15 := rfl
        rw [this, List.getElem?_take, if_pos hj, List.getElem?_drop] at a1
        exact a1
      have a2 : ((vs.drop 5).take 15)[0 + j]? = some v := a2
      rw [Nat.zero_add, List.getElem?_take, if_pos hj, List.getElem?_drop] at a2
      rw [List.getElem?_take, if_pos hj, List.getElem?_drop] at a3
      exact (g4 (5 + j) it v d a1' (by rw [Nat.zero_add]; exact a2) a3).fr f
    obtain ⟨w3, k3, m3⟩ := hs2.at 3 (it := .text) rfl
    obtain ⟨w7, k7, m7⟩ := hv2.at 7 (it := .text) rfl
    obtain ⟨w8, k8, m8⟩ := hv2.at 8 (it := .text) rfl
    obtain ⟨w13, k13, m13⟩ := hv2.at 13 (it := .text) rfl
    have e14 : ats ((ds.drop 5).take 15) 14 = ats ds 19 := ats_part ds 5 15 14 (by omega)
    rw [ats_part ds 5 15 7 (by omega)] at k7
    rw [ats_part ds 5 15 8 (by omega)] at k8
    rw [ats_part ds 5 15 13 (by omega)] at k13
    obtain ⟨p3, q3⟩ := k3.textL
    obtain ⟨p7, q7⟩ := k7.textL
    obtain ⟨p8, q8⟩ := k8.textL
    obtain ⟨p13, q13⟩ := k13.textL
    have m3 : ∀ K, rLd (pt b (0 + 2 + 1)) σ2 K = K w3 σ2 := m3
    rw [rFld_p, rFld_p, m3, q3, rFld_p, m7, q7, rBin_add _ _ _ _ (by omega), rFld_p, m8, q8, rBin_add _ _ _ _ (by omega), rFld_p, m13, q13, rBin_add _ _ _ _ (by omega), rBin_quo _ _ _ _ (by omega) (by omega), rBin_add _ _ _ _ (by omega), X_most]
    rw [votes_loop hs2 hv2 hmost K (lenL (ats ds 19)) 0 most _ (by rw [e14]; omega) (by omega) (by omega), List.drop_zero, e14]
    exact hKN σ2 hx
  intro r
  induction r with
  | zero =>
    intro i m N hi hm hNb hKN
    obtain ⟨m, rfl⟩ := Nat.exists_eq_succ_of_ne_zero (show m ≠ 0 by omega)
    rw [l_law25_large_rrlrdE]
    unfold l_law25_large_rrlrdB
    rw [rFld_p, hld, hlen, rBin_lssN, show decide (i < lenL (ats ds 27)) = false from decide_eq_false (by omega)]
    simp only [shut_eq, rGuard_tf, rPick_f, rIf_f]
    rw [List.drop_of_length_le (by omega)] at hKN
    exact behind N hNb hKN
  | succ r ih =>
    intro i m N hi hm hNb hKN
    obtain ⟨m, rfl⟩ := Nat.exists_eq_succ_of_ne_zero (show m ≠ 0 by omega)
    have hlt : i < (esOf (ats ds 27)).length := by omega
    rw [l_law25_large_rrlrdE]
    unfold l_law25_large_rrlrdB
    rw [rFld_p, hld, hlen, rBin_lssN, show decide (i < lenL (ats ds 27)) = true from decide_eq_true (by omega)]
    simp only [shut_eq, rGuard_tt, rPick_t, rBin_lssN, rIf_b]
    rw [List.drop_eq_getElem_cons hlt] at hKN
    by_cases h9 : N < 9000
    · rw [if_pos (by simpa using h9)]
      rw [loopF_lt h9] at hKN
      obtain ⟨b3, o3, hst3, hix3⟩ := hu'.at hlt 3 rfl
      obtain ⟨u3, hu3, hld3⟩ := hst3.at 2 (it := .nums) rfl
      obtain ⟨hL3, hlt3⟩ := hu3.numsL
      rw [rBin_add _ _ _ _ (by omega), rFld_p, hld, hix3, rFld_p, hld3, hlt3, rBin_add _ _ _ _ (by omega), rBin_add _ _ _ _ (by omega)]
      exact ih (i + 1) m _ (by omega) (by omega) (by omega) hKN
    · rw [if_neg (by simpa using h9)]
      rw [loopF_ge h9] at hKN
      exact behind N hNb hKN
theorem large_s {n : Nat} (hmost : 140737488355328 < most) {σ : St} {C : Nat → Prop} {cs : List Value} {ds : List D} (h : RdA σ C itsAll cs ds) {K : VK}
    (hK : ∀ σ', Ext' σ σ' → K (.bool (decide (9000 ≤ largeN ds))) σ' = true) : (X most (n + 3)).C c_law25_large [.agg ⟨cs⟩] σ K = true := by
  rw [X_call (by rfl), f_law25_large]
  unfold r_law25_large
  rw [boxK_agg (List.all_eq_true.2 h.one)]
  have hs := h.stc 34
  obtain ⟨u1, h1, l1⟩ := hs.at 1 (it := .list itsText) rfl
  obtain ⟨u21, h21, l21⟩ := hs.at 21 (it := .list itsMsg) rfl
  obtain ⟨u22, h22, l22⟩ := hs.at 22 (it := .list itsText) rfl
  obtain ⟨u23, h23, l23⟩ := hs.at 23 (it := .list itsPair) rfl
  obtain ⟨u24, h24, l24⟩ := hs.at 24 (it := .list itsPair) rfl
  obtain ⟨u26, h26, l26⟩ := hs.at 26 (it := .list itsDealing) rfl
  obtain ⟨u27, h27, l27⟩ := hs.at 27 (it := .list itsDone) rfl
  obtain ⟨u28, h28, l28⟩ := hs.at 28 (it := .list itsMsg) rfl
  obtain ⟨u29, h29, l29⟩ := hs.at 29 (it := .list itsDealing) rfl
  have l21 : ∀ K, rLd (pt σ.n (0 + 2 + 19)) (σ.new (.cells cs 34 .exact)) K = K u21 (σ.new (.cells cs 34 .exact)) := l21
  obtain ⟨a23, b23⟩ := h23.listL
  obtain ⟨a24, b24⟩ := h24.listL
  have a27 := h27.listL.1
  have s1 := sameV_list h1
  have s21 := rSame_v (sameV_list h21)
  have s22 := rSame_v (sameV_list h22)
  have s23 := rSame_v (sameV_list h23)
  have s24 := rSame_v (sameV_list h24)
  have s26 := rSame_v (sameV_list h26)
  have s28 := rSame_v (sameV_list h28)
  have s29 := rSame_v (sameV_list h29)
  rw [esOf_eq h1] at h1
  rw [esOf_eq h21] at h21
  rw [esOf_eq h22] at h22
  rw [esOf_eq h26] at h26
  rw [esOf_eq h28] at h28
  rw [esOf_eq h29] at h29
  have e1 := texts_le h1
  have e22 := texts_le h22
  have e21 := msgs_le h21
  have e28 := msgs_le h28
  have e26 := dealt_le h26
  have e29 := dealt_le h29
  rw [rFld_p, l1, rFld_p, l22, rFld_p, l23, b23, rBin_mul _ _ _ _ (by omega), rFld_p, l24, b24, rBin_mul _ _ _ _ (by omega), rFld_p, l26, rFld_p, l29, rFld_p, l28, rFld_p, rFld_p, l21]
  rw [sizeTexts_s (n := n + 1) hmost h1, l21, s21, l28, s28, l29, s29, l26, s26, l24, s24, l23, s23, l22, s22]
  rw [sizeTexts_s (n := n + 1) hmost h22, l21, s21, l28, s28, l29, s29, l26, s26, l24, s24, l23, s23, rBin_add _ _ _ _ (by omega), rBin_add _ _ _ _ (by omega), rBin_add _ _ _ _ (by omega)]
  rw [sizeDealt_s (n := n) hmost h26, l21, s21, l28, s28, l29, s29, l24, s24, l23, s23, rBin_add _ _ _ _ (by omega)]
  rw [sizeDealt_s (n := n) hmost h29, l21, s21, l28, s28, l24, s24, l23, s23, rBin_add _ _ _ _ (by omega)]
  rw [sizeMsgs_s (n := n + 1) hmost h28, l21, s21, l24, s24, l23, s23, rBin_add _ _ _ _ (by omega)]
  rw [sizeMsgs_s (n := n + 1) hmost h21, l24, s24, l23, s23, rBin_add _ _ _ _ (by omega), X_most]
  refine dones_loop hs hmost (lenL (ats ds 27)) 0 most _ (by omega) (by omega) (by omega) fun σ' hx => ?_
  exact hK σ' ((Ext'.new σ _).trans hx)
end Go.Am

namespace Go.Am
open Go.RowKit Go.MapKept Go.Proofs Go.Proofs.Rdr
def costsA : List It → List D → Nat → Nat
  | [], _, _ => 0
  | it :: its, ds, j => cost it (ats ds j) + costsA its ds (j + 1)
theorem costs_drop : ∀ (its : List It) (ds : List D) (j : Nat), j + its.length = ds.length → costs its (ds.drop j) = costsA its ds j := by
  intro its
  induction its with
  | nil => intro ds j _; rfl
  | cons it its ih =>
    intro ds j h
    have hlt : j < ds.length := by rw [List.length_cons] at h; omega
    rw [List.drop_eq_getElem_cons hlt]
    simp only [costs, costsA]
    rw [ih ds (j + 1) (by rw [List.length_cons] at h; omega)]
    congr 2
    unfold ats
    rw [List.getElem?_eq_getElem hlt]
    rfl
theorem costs_eq {its : List It} {ds : List D} (h : ds.length = its.length) : costs its ds = costsA its ds 0 := by
  have := costs_drop its ds 0 (by omega)
  rwa [List.drop_zero] at this
theorem cost_num (d : D) : cost .num d = 8 := by cases d <;> rfl
theorem cost_kind (d : D) : cost .kind d = 1 := by cases d <;> rfl
theorem cost_int (d : D) : cost .int d = 8 := by cases d <;> rfl
theorem cost_is (d : D) : cost .is d = 8 := by cases d <;> rfl
theorem cost_text (d : D) : cost .text d = 2050 := by cases d <;> rfl
theorem cost_nums (d : D) : cost .nums d = 8194 := by cases d <;> rfl
theorem cost_list (its : List It) (d : D) : cost (.list its) d = 8 + (esOf d).foldl (fun c x => c + costs its x) 0 := by
  rw [← foldl_cost]
  cases d <;> simp [cost, esOf]
theorem list_cost (f : Nat → List D → Nat) (its : List It) (M : Nat) : ∀ (es : List (List D)), (∀ ds ∈ es, ∀ n, n ≤ f n ds ∧ (f n ds < 9000 → M * n + costs its ds ≤ M * f n ds)) →
    ∀ n, n ≤ loopF f es n ∧ (loopF f es n < 9000 → M * n + es.foldl (fun c x => c + costs its x) 0 ≤ M * loopF f es n) := by
  intro es
  induction es with
  | nil => intro _ n; exact ⟨Nat.le_refl _, fun _ => Nat.le_refl _⟩
  | cons ds es ih =>
    intro h n
    obtain ⟨h1, h2⟩ := h ds (.head _) n
    obtain ⟨i1, i2⟩ := ih (fun d hd => h d (.tail _ hd)) (f n ds)
    by_cases h9 : n < 9000
    · rw [loopF_lt h9]
      refine ⟨Nat.le_trans h1 i1, fun hl => ?_⟩
      have a := i2 hl
      have b := h2 (by omega)
      rw [List.foldl_cons, foldl_cost]
      omega
    · rw [loopF_ge h9]
      exact ⟨Nat.le_refl _, fun hl => absurd hl h9⟩
section
variable {σ : St} {C : Nat → Prop} {v : Value} {es : List (List D)}
theorem texts_cost (h : Rd σ C (.list itsText) v (.l es)) (n : Nat) : n ≤ loopF fTexts es n ∧ (loopF fTexts es n < 9000 → 10400 * n + es.foldl (fun c x => c + costs itsText x) 0 ≤ 10400 * loopF fTexts es n) := by
  refine list_cost fTexts itsText 10400 es (fun ds hd n => ?_) n
  obtain ⟨b, o, hst⟩ := h.mem hd
  refine ⟨by unfold fTexts; omega, fun _ => ?_⟩
  rw [costs_eq hst.len]
  simp only [itsText, costsA, cost_text, fTexts]
  omega
theorem coms_cost (h : Rd σ C (.list itsNums) v (.l es)) (n : Nat) : n ≤ loopF fComs es n ∧ (loopF fComs es n < 9000 → 10400 * n + es.foldl (fun c x => c + costs itsNums x) 0 ≤ 10400 * loopF fComs es n) := by
  refine list_cost fComs itsNums 10400 es (fun ds hd n => ?_) n
  obtain ⟨b, o, hst⟩ := h.mem hd
  refine ⟨by unfold fComs; omega, fun _ => ?_⟩
  rw [costs_eq hst.len]
  simp only [itsNums, costsA, cost_nums, fComs]
  omega
theorem told_cost (h : Rd σ C (.list itsTold) v (.l es)) (n : Nat) : n ≤ loopF fTold es n ∧ (loopF fTold es n < 9000 → 10400 * n + es.foldl (fun c x => c + costs itsTold x) 0 ≤ 10400 * loopF fTold es n) := by
  refine list_cost fTold itsTold 10400 es (fun ds hd n => ?_) n
  obtain ⟨b, o, hst⟩ := h.mem hd
  refine ⟨by unfold fTold; omega, fun _ => ?_⟩
  rw [costs_eq hst.len]
  simp only [itsTold, costsA, cost_int, cost_nums, fTold]
  omega
theorem said_cost (h : Rd σ C (.list itsSaid) v (.l es)) (n : Nat) : n ≤ loopF fSaid es n ∧ (loopF fSaid es n < 9000 → 10400 * n + es.foldl (fun c x => c + costs itsSaid x) 0 ≤ 10400 * loopF fSaid es n) := by
  refine list_cost fSaid itsSaid 10400 es (fun ds hd n => ?_) n
  obtain ⟨b, o, hst⟩ := h.mem hd
  refine ⟨by unfold fSaid; omega, fun _ => ?_⟩
  rw [costs_eq hst.len]
  simp only [itsSaid, costsA, cost_int, cost_text, fSaid]
  omega
theorem votes_cost (h : Rd σ C (.list itsVote) v (.l es)) (n : Nat) : n ≤ loopF fVotes es n ∧ (loopF fVotes es n < 9000 → 10400 * n + es.foldl (fun c x => c + costs itsVote x) 0 ≤ 10400 * loopF fVotes es n) := by
  refine list_cost fVotes itsVote 10400 es (fun ds hd n => ?_) n
  obtain ⟨b, o, hst⟩ := h.mem hd
  refine ⟨by unfold fVotes; omega, fun _ => ?_⟩
  rw [costs_eq hst.len]
  simp only [itsVote, costsA, cost_kind, cost_int, cost_text, fVotes]
  omega
theorem dones_cost (h : Rd σ C (.list itsDone) v (.l es)) (n : Nat) : n ≤ loopF fDones es n ∧ (loopF fDones es n < 9000 → 10400 * n + es.foldl (fun c x => c + costs itsDone x) 0 ≤ 10400 * loopF fDones es n) := by
  refine list_cost fDones itsDone 10400 es (fun ds hd n => ?_) n
  obtain ⟨b, o, hst⟩ := h.mem hd
  refine ⟨by unfold fDones; omega, fun _ => ?_⟩
  rw [costs_eq hst.len]
  simp only [itsDone, costsA, cost_int, cost_nums, fDones]
  omega
theorem msgs_cost (h : Rd σ C (.list itsMsg) v (.l es)) (n : Nat) : n ≤ loopF fMsgs es n ∧ (loopF fMsgs es n < 9000 → 10400 * n + es.foldl (fun c x => c + costs itsMsg x) 0 ≤ 10400 * loopF fMsgs es n) := by
  refine list_cost fMsgs itsMsg 10400 es (fun ds hd n => ?_) n
  obtain ⟨b, o, hst⟩ := h.mem hd
  refine ⟨by unfold fMsgs; omega, fun _ => ?_⟩
  rw [costs_eq hst.len]
  simp only [itsMsg, costsA, cost_kind, cost_int, cost_text, cost_nums, fMsgs]
  omega
theorem dealt_cost (h : Rd σ C (.list itsDealing) v (.l es)) (n : Nat) : n ≤ loopF fDealt es n ∧ (loopF fDealt es n < 9000 → 10400 * n + es.foldl (fun c x => c + costs itsDealing x) 0 ≤ 10400 * loopF fDealt es n) := by
  refine list_cost fDealt itsDealing 10400 es (fun ds hd n => ?_) n
  obtain ⟨b, o, hst⟩ := h.mem hd
  obtain ⟨u2, h2, _⟩ := hst.at 2 (it := .list itsNums) rfl
  obtain ⟨u4, h4, _⟩ := hst.at 4 (it := .list itsTold) rfl
  obtain ⟨u5, h5, _⟩ := hst.at 5 (it := .list itsTold) rfl
  rw [esOf_eq h4] at h4
  rw [esOf_eq h5] at h5
  rw [esOf_eq h2] at h2
  obtain ⟨a4, b4⟩ := told_cost h4 0
  obtain ⟨a5, b5⟩ := told_cost h5 0
  obtain ⟨a2, b2⟩ := coms_cost h2 (n + 9 + lenL (ats ds 3) + lenL (ats ds 6) + loopF fTold (esOf (ats ds 4)) 0 + loopF fTold (esOf (ats ds 5)) 0)
  refine ⟨by unfold fDealt; omega, fun hl => ?_⟩
  unfold fDealt at hl ⊢
  have c2 := b2 hl
  have c4 := b4 (by omega)
  have c5 := b5 (by omega)
  rw [costs_eq hst.len]
  simp only [itsDealing, costsA, cost_list, cost_int, cost_is, cost_nums, Nat.zero_add, Nat.reduceAdd]
  omega
theorem pairs_cost (h : Rd σ C (.list itsPair) v (.l es)) : es.foldl (fun c x => c + costs itsPair x) 0 = 16 * es.length := by
  have : ∀ (es : List (List D)), (∀ ds ∈ es, ds.length = 2) → es.foldl (fun c x => c + costs itsPair x) 0 = 16 * es.length := by
    intro es
    induction es with
    | nil => intro _; rfl
    | cons ds es ih =>
      intro h
      rw [List.foldl_cons, foldl_cost, ih fun d hd => h d (.tail _ hd), costs_eq (its := itsPair) (h ds (.head _))]
      simp only [itsPair, costsA, cost_num, List.length_cons]
      omega
  exact this es fun ds hd => by obtain ⟨b, o, hst⟩ := h.mem hd; exact hst.len
end
theorem costs_all (ds : List D) : costsA itsAll ds 0 = 8 * 11 + 8 * 4 + 4 * 2050 + (cost (.list itsText) (ats ds 1) + cost (.list itsVote) (ats ds 19) + cost (.list itsSaid) (ats ds 20) + cost (.list itsMsg) (ats ds 21) + cost (.list itsText) (ats ds 22) + cost (.list itsPair) (ats ds 23) + cost (.list itsPair) (ats ds 24) + cost (.list itsDealing) (ats ds 26) + cost (.list itsDone) (ats ds 27) + cost (.list itsMsg) (ats ds 28) + cost (.list itsDealing) (ats ds 29)) := by
  simp only [itsAll, costsA, cost_is, cost_int, cost_text, Nat.zero_add, Nat.reduceAdd]
  omega
theorem small {σ : St} {C : Nat → Prop} {cs : List Value} {ds : List D} (h : RdA σ C itsAll cs ds) (hl : largeN ds < 9000) : costs itsAll ds ≤ LIM := by
  have hs := h.stc 34
  obtain ⟨u1, h1, _⟩ := hs.at 1 (it := .list itsText) rfl
  obtain ⟨u19, h19, _⟩ := hs.at 19 (it := .list itsVote) rfl
  obtain ⟨u20, h20, _⟩ := hs.at 20 (it := .list itsSaid) rfl
  obtain ⟨u21, h21, _⟩ := hs.at 21 (it := .list itsMsg) rfl
  obtain ⟨u22, h22, _⟩ := hs.at 22 (it := .list itsText) rfl
  obtain ⟨u23, h23, _⟩ := hs.at 23 (it := .list itsPair) rfl
  obtain ⟨u24, h24, _⟩ := hs.at 24 (it := .list itsPair) rfl
  obtain ⟨u26, h26, _⟩ := hs.at 26 (it := .list itsDealing) rfl
  obtain ⟨u27, h27, _⟩ := hs.at 27 (it := .list itsDone) rfl
  obtain ⟨u28, h28, _⟩ := hs.at 28 (it := .list itsMsg) rfl
  obtain ⟨u29, h29, _⟩ := hs.at 29 (it := .list itsDealing) rfl
  have e23 : lenL (ats ds 23) = (esOf (ats ds 23)).length := by
    conv => lhs; rw [esOf_eq h23]
    rfl
  have e24 : lenL (ats ds 24) = (esOf (ats ds 24)).length := by
    conv => lhs; rw [esOf_eq h24]
    rfl
  rw [esOf_eq h1] at h1
  rw [esOf_eq h19] at h19
  rw [esOf_eq h20] at h20
  rw [esOf_eq h21] at h21
  rw [esOf_eq h22] at h22
  rw [esOf_eq h23] at h23
  rw [esOf_eq h24] at h24
  rw [esOf_eq h26] at h26
  rw [esOf_eq h27] at h27
  rw [esOf_eq h28] at h28
  rw [esOf_eq h29] at h29
  unfold largeN at hl
  obtain ⟨a20, b20⟩ := said_cost h20 (loopF fVotes (esOf (ats ds 19)) (N3 ds (loopF fDones (esOf (ats ds 27)) (N1 ds))))
  obtain ⟨a19, b19⟩ := votes_cost h19 (N3 ds (loopF fDones (esOf (ats ds 27)) (N1 ds)))
  obtain ⟨a27, b27⟩ := dones_cost h27 (N1 ds)
  have fin : ∀ (n F L : Nat), (10400 * n + F ≤ 10400 * L) → L < 9000 → F ≤ 93600000 := fun n F L h1 h2 => by omega
  have l19 : loopF fVotes (esOf (ats ds 19)) (N3 ds (loopF fDones (esOf (ats ds 27)) (N1 ds))) < 9000 := Nat.lt_of_le_of_lt a20 hl
  have l3 : N3 ds (loopF fDones (esOf (ats ds 27)) (N1 ds)) < 9000 := Nat.lt_of_le_of_lt a19 l19
  have hN3 : loopF fDones (esOf (ats ds 27)) (N1 ds) ≤ N3 ds (loopF fDones (esOf (ats ds 27)) (N1 ds)) := by unfold N3; exact Nat.le_add_right _ _
  have l27 : loopF fDones (esOf (ats ds 27)) (N1 ds) < 9000 := Nat.lt_of_le_of_lt hN3 l3
  have hN1 : N1 ds < 9000 := Nat.lt_of_le_of_lt a27 l27
  have d20 := fin _ _ _ (b20 hl) hl
  have d19 := fin _ _ _ (b19 l19) l19
  have d27 := fin _ _ _ (b27 l27) l27
  unfold N1 at hN1
  obtain ⟨_, b1⟩ := texts_cost h1 0
  obtain ⟨_, b22⟩ := texts_cost h22 0
  obtain ⟨_, b26⟩ := dealt_cost h26 0
  obtain ⟨_, b29⟩ := dealt_cost h29 0
  obtain ⟨_, b28⟩ := msgs_cost h28 0
  obtain ⟨_, b21⟩ := msgs_cost h21 0
  have c23 := pairs_cost h23
  have c24 := pairs_cost h24
  have split : ∀ a b c d e f g i : Nat, a + b + c + d + e + f + g + i < 9000 → a < 9000 ∧ b < 9000 ∧ c < 9000 ∧ d < 9000 ∧ e < 9000 ∧ f < 9000 ∧ g < 9000 ∧ i < 9000 := fun a b c d e f g i h => by omega
  obtain ⟨q1, q2, q3, q4, q5, q6, q7, q8⟩ := split _ _ _ _ _ _ _ _ hN1
  have d1 := fin _ _ _ (b1 q1) q1
  have d22 := fin _ _ _ (b22 q2) q2
  have d26 := fin _ _ _ (b26 q5) q5
  have d29 := fin _ _ _ (b29 q6) q6
  have d28 := fin _ _ _ (b28 q7) q7
  have d21 := fin _ _ _ (b21 q8) q8
  have d23 : 16 * (esOf (ats ds 23)).length ≤ 93600000 := by rw [← e23]; omega
  have d24 : 16 * (esOf (ats ds 24)).length ≤ 93600000 := by rw [← e24]; omega
  rw [costs_eq h.dlen, costs_all]
  simp only [cost_list, c23, c24]
  have tot : ∀ a b c d e f g i j k l : Nat, a ≤ 93600000 → b ≤ 93600000 → c ≤ 93600000 → d ≤ 93600000 → e ≤ 93600000 → f ≤ 93600000 → g ≤ 93600000 → i ≤ 93600000 → j ≤ 93600000 → k ≤ 93600000 → l ≤ 93600000 →
      8 * 11 + 8 * 4 + 4 * 2050 + (8 + a + (8 + b) + (8 + c) + (8 + d) + (8 + e) + (8 + f) + (8 + g) + (8 + i) + (8 + j) + (8 + k) + (8 + l)) ≤ LIM := by
    intro a b c d e f g i j k l; unfold LIM; omega
  exact tot _ _ _ _ _ _ _ _ _ _ _ d1 d19 d20 d21 d22 d23 d24 d26 d27 d28 d29
end Go.Am

namespace Go.Am
open Go.RowKit Go.MapKept Go.Proofs Go.Proofs.Rdr
variable {most : Nat}
theorem rBuild_none (z : List Value) (K : Value → Bool) : rBuild z [] K = K (.agg ⟨z⟩) := rfl
end Go.Am

namespace Go.Am
open Go.RowKit Go.MapKept Go.Proofs Go.Proofs.Rdr
mutual
def eqD : D → D → Bool
  | .n a, .n b => decide (a = b)
  | .b a, .b b => decide (a = b)
  | .s a, .s b => decide (a = b)
  | .l a, .l b => eqLL a b
  | _, _ => false
def eqL : List D → List D → Bool
  | [], [] => true
  | a :: l, b :: m => eqD a b && eqL l m
  | _, _ => false
def eqLL : List (List D) → List (List D) → Bool
  | [], [] => true
  | a :: l, b :: m => eqL a b && eqLL l m
  | _, _ => false
end
mutual
theorem eqD_iff : ∀ a b : D, eqD a b = true ↔ a = b
  | .n a, .n b => by simp [eqD]
  | .b a, .b b => by simp [eqD]
  | .s a, .s b => by simp [eqD]
  | .l a, .l b => by simp only [eqD, D.l.injEq]; exact eqLL_iff a b
  | .n _, .b _ => by simp [eqD]
  | .n _, .s _ => by simp [eqD]
  | .n _, .l _ => by simp [eqD]
  | .b _, .n _ => by simp [eqD]
  | .b _, .s _ => by simp [eqD]
  | .b _, .l _ => by simp [eqD]
  | .s _, .n _ => by simp [eqD]
  | .s _, .b _ => by simp [eqD]
  | .s _, .l _ => by simp [eqD]
  | .l _, .n _ => by simp [eqD]
  | .l _, .b _ => by simp [eqD]
  | .l _, .s _ => by simp [eqD]
theorem eqL_iff : ∀ a b : List D, eqL a b = true ↔ a = b
  | [], [] => by simp [eqL]
  | [], _ :: _ => by simp [eqL]
  | _ :: _, [] => by simp [eqL]
  | a :: l, b :: m => by simp only [eqL, Bool.and_eq_true, List.cons.injEq]; rw [eqD_iff a b, eqL_iff l m]
theorem eqLL_iff : ∀ a b : List (List D), eqLL a b = true ↔ a = b
  | [], [] => by simp [eqLL]
  | [], _ :: _ => by simp [eqLL]
  | _ :: _, [] => by simp [eqLL]
  | a :: l, b :: m => by simp only [eqLL, Bool.and_eq_true, List.cons.injEq]; rw [eqL_iff a b, eqLL_iff l m]
end
end Go.Am

namespace Go.Am
open Go.RowKit Go.MapKept Go.Proofs Go.Proofs.Rdr
variable {most : Nat}
theorem awakeX_c {n : Nat} (σ : St) (K : VK) : (X most (n + 1)).C c_law25_awake [] σ K = K (.bool true) σ := (X_ov (by rfl) [] σ K).trans rfl
theorem rBin_eqlS {P : Program} (t : TypeId) (a b : List UInt8) (K : Value → Bool) : rBin P .eql t (.string ⟨⟨a⟩⟩) (.string ⟨⟨b⟩⟩) K = K (.bool (decide (a = b))) := by
  rw [rBin_eq]
  show boolK (eqL8 a b) K = _
  rw [boolK_eq, eqL8_eq]
  congr 2
  by_cases h : a = b
  · subst h; simp
  · rw [decide_eq_false h]; simpa using h
theorem rBin_neqS {P : Program} (t : TypeId) (a b : List UInt8) (K : Value → Bool) : rBin P .neq t (.string ⟨⟨a⟩⟩) (.string ⟨⟨b⟩⟩) K = K (.bool (!decide (a = b))) := by
  rw [rBin_eq]
  show boolK (!eqL8 a b) K = _
  rw [boolK_eq, eqL8_eq]
  congr 3
  by_cases h : a = b
  · subst h; simp
  · rw [decide_eq_false h]; simpa using h
end Go.Am

namespace Go.Am
open Go.RowKit Go.MapKept Go.Proofs Go.Proofs.Rdr
variable {most : Nat}
def flatI : It → Nat
  | .num => 0
  | .kind => 0
  | .int => 0
  | .text => 1
  | .is => 2
  | _ => 3
theorem rBin_eqlB (a b : Bool) (K : Value → Bool) : rBin PP .eql 4 (.bool a) (.bool b) K = K (.bool (a == b)) := by
  cases a <;> cases b <;> kernel_rfl
theorem rBin_neqB (a b : Bool) (K : Value → Bool) : rBin PP .neq 4 (.bool a) (.bool b) K = K (.bool (!(a == b))) := by
  cases a <;> cases b <;> kernel_rfl
theorem rBin_neqI {P : Program} (t : TypeId) (k : IntKind) (a b : Int) (K : Value → Bool) : rBin P .neq t (.int k a) (.int k b) K = K (.bool (!(a == b))) := by
  rw [rBin_i _ _ _ _ _ _ (by simp) (by simp)]; simp only [intBinK, boolK_eq, eqI_eq]
theorem beq_dec (a b : Int) : (a == b) = decide (a = b) := by
  by_cases h : a = b
  · subst h; simp
  · rw [decide_eq_false h]; simpa using h
theorem beq_decB (a b : Bool) : (a == b) = decide (a = b) := by cases a <;> cases b <;> rfl
section
variable {σ σ' : St} {C C' : Nat → Prop} {u v : Value} {d e : D}
theorem cmp_num (h : Rd σ C .num u d) (k : Rd σ' C' .num v e) (t : TypeId) (K : Value → Bool) : rBin PP .eql t u v K = K (.bool (eqD d e)) ∧ rBin PP .neq t u v K = K (.bool (!eqD d e)) := by
  obtain ⟨x, rfl, rfl, _⟩ := h.num_inv
  obtain ⟨y, rfl, rfl, _⟩ := k.num_inv
  rw [rBin_eql, rBin_neqI, beq_dec]; exact ⟨rfl, rfl⟩
theorem cmp_kind (h : Rd σ C .kind u d) (k : Rd σ' C' .kind v e) (t : TypeId) (K : Value → Bool) : rBin PP .eql t u v K = K (.bool (eqD d e)) ∧ rBin PP .neq t u v K = K (.bool (!eqD d e)) := by
  obtain ⟨x, rfl, rfl, _⟩ := h.kind_inv
  obtain ⟨y, rfl, rfl, _⟩ := k.kind_inv
  rw [rBin_eql, rBin_neqI, beq_dec]; exact ⟨rfl, rfl⟩
theorem cmp_int (h : Rd σ C .int u d) (k : Rd σ' C' .int v e) (t : TypeId) (K : Value → Bool) : rBin PP .eql t u v K = K (.bool (eqD d e)) ∧ rBin PP .neq t u v K = K (.bool (!eqD d e)) := by
  obtain ⟨x, rfl, rfl, _⟩ := h.int_inv
  obtain ⟨y, rfl, rfl, _⟩ := k.int_inv
  rw [rBin_eql, rBin_neqI, beq_dec]; exact ⟨rfl, rfl⟩
theorem cmp_text (h : Rd σ C .text u d) (k : Rd σ' C' .text v e) (t : TypeId) (K : Value → Bool) : rBin PP .eql t u v K = K (.bool (eqD d e)) ∧ rBin PP .neq t u v K = K (.bool (!eqD d e)) := by
  obtain ⟨x, rfl, rfl, _⟩ := h.text_inv
  obtain ⟨y, rfl, rfl, _⟩ := k.text_inv
  rw [rBin_eqlS, rBin_neqS]; exact ⟨rfl, rfl⟩
theorem cmp_is (h : Rd σ C .is u d) (k : Rd σ' C' .is v e) (K : Value → Bool) : rBin PP .eql 4 u v K = K (.bool (eqD d e)) ∧ rBin PP .neq 4 u v K = K (.bool (!eqD d e)) := by
  obtain ⟨x, rfl, rfl⟩ := h.is_inv
  obtain ⟨y, rfl, rfl⟩ := k.is_inv
  rw [rBin_eqlB, rBin_neqB, beq_decB]; exact ⟨rfl, rfl⟩
end
noncomputable def clsF (f : Field) : Nat := match PP.underlying f.type with
  | some (.int _) => 0
  | some .string => 1
  | some .bool => 2
  | _ => 3
theorem eqCellsK_cons (P : Program) (f : Field) (fs : List Field) (a b : Value) (va vb : List Value) (k : Bool → Bool) : eqCellsK P (f :: fs) (a :: va) (b :: vb) k = eqCellK P f.type a b (fun e => match e with | true => eqCellsK P fs va vb k | false => k false) := rfl
theorem eqCells_s : ∀ {its : List It} {fs : List Field} {va vb : List Value} {da db : List D} {σ σ' : St} {C C' : Nat → Prop} (k : Bool → Bool), fs.map clsF = its.map flatI → (∀ it ∈ its, flatI it < 3) → RdA σ C its va da → RdA σ' C' its vb db → eqCellsK PP fs va vb k = k (eqL da db) := by
  intro its
  induction its with
  | nil =>
    intro fs va vb da db σ σ' C C' k h _ ha hb
    have e1 : fs = [] := by simpa using h
    have e2 : va = [] := List.eq_nil_of_length_eq_zero ha.len
    have e4 : da = [] := List.eq_nil_of_length_eq_zero ha.dlen
    have e5 : db = [] := List.eq_nil_of_length_eq_zero hb.dlen
    subst e1 e2 e4 e5
    rfl
  | cons it its ih =>
    intro fs va vb da db σ σ' C C' k h h3 ha hb
    have l1 := congrArg List.length h
    have l2 := ha.len
    have l3 := hb.len
    have l4 := ha.dlen
    have l5 := hb.dlen
    simp only [List.length_map, List.length_cons] at l1 l2 l3 l4 l5
    cases fs with
    | nil => simp at l1
    | cons f fs =>
    cases va with
    | nil => simp at l2
    | cons a va =>
    cases vb with
    | nil => simp at l3
    | cons b vb =>
    cases da with
    | nil => simp at l4
    | cons d da =>
    cases db with
    | nil => simp at l5
    | cons e db =>
      simp only [List.map_cons, List.cons.injEq] at h
      obtain ⟨h0, h⟩ := h
      have ra := ha.rd 0 it a d rfl rfl rfl
      have rb := hb.rd 0 it b e rfl rfl rfl
      have ta : RdA σ C its va da := ⟨by simpa using ha.len, by simpa using ha.dlen, fun j it v d p q r => ha.rd (j + 1) it v d p q r⟩
      have tb : RdA σ' C' its vb db := ⟨by simpa using hb.len, by simpa using hb.dlen, fun j it v d p q r => hb.rd (j + 1) it v d p q r⟩
      have hi := ih (fs := fs) k h (fun it hit => h3 it (.tail _ hit)) ta tb
      have hf := h3 it (.head _)
      have step : ∀ b0 : Bool, (match b0 with | true => eqCellsK PP fs va vb k | false => k false) = k (b0 && eqL da db) := fun b0 => by cases b0 with | true => rw [hi]; simp | false => rfl
      rw [eqCellsK_cons]
      simp only [eqL]
      unfold clsF at h0
      unfold eqCellK
      cases it with
      | num =>
        obtain ⟨x, rfl, rfl, _⟩ := ra.num_inv
        obtain ⟨y, rfl, rfl, _⟩ := rb.num_inv
        split at h0 <;> first | (rename_i hu; rw [hu]; simp only [show kindEq .u64 .u64 = true from rfl, forceB_eq, eqI_eq, beq_dec]; exact step _) | cases h0
      | kind =>
        obtain ⟨x, rfl, rfl, _⟩ := ra.kind_inv
        obtain ⟨y, rfl, rfl, _⟩ := rb.kind_inv
        split at h0 <;> first | (rename_i hu; rw [hu]; simp only [show kindEq .u8 .u8 = true from rfl, forceB_eq, eqI_eq, beq_dec]; exact step _) | cases h0
      | int =>
        obtain ⟨x, rfl, rfl, _⟩ := ra.int_inv
        obtain ⟨y, rfl, rfl, _⟩ := rb.int_inv
        split at h0 <;> first | (rename_i hu; rw [hu]; simp only [show kindEq .i64 .i64 = true from rfl, forceB_eq, eqI_eq, beq_dec]; exact step _) | cases h0
      | is =>
        obtain ⟨x, rfl, rfl⟩ := ra.is_inv
        obtain ⟨y, rfl, rfl⟩ := rb.is_inv
        split at h0 <;> first | (rename_i hu; rw [hu]; simp only [forceB_eq, beq_decB]; exact step _) | cases h0
      | text =>
        obtain ⟨x, rfl, rfl, _⟩ := ra.text_inv
        obtain ⟨y, rfl, rfl, _⟩ := rb.text_inv
        have e8 : eqL8 x y = decide (x = y) := by
          rw [eqL8_eq]
          by_cases h : x = y
          · subst h; simp
          · rw [decide_eq_false h]; simpa using h
        split at h0 <;> first | (rename_i hu; rw [hu]; simp only [forceB_eq, e8]; exact step _) | cases h0
      | nums => exact absurd hf (by decide)
      | list l => exact absurd hf (by simp [flatI])
theorem cmp_agg {its : List It} {t : TypeId} (h : (plainS PP t).map (fun l => l.map clsF) = some (its.map flatI)) (h3 : ∀ it ∈ its, flatI it < 3) {σ σ' : St} {C C' : Nat → Prop} {va vb : List Value} {da db : List D} (ha : RdA σ C its va da) (hb : RdA σ' C' its vb db) (K : Value → Bool) :
    rBin PP .eql t (.agg ⟨va⟩) (.agg ⟨vb⟩) K = K (.bool (eqL da db)) ∧ rBin PP .neq t (.agg ⟨va⟩) (.agg ⟨vb⟩) K = K (.bool (!eqL da db)) := by
  cases hp : plainS PP t with
  | none => rw [hp] at h; cases h
  | some fs =>
    rw [hp] at h
    simp only [Option.map_some, Option.some.injEq] at h
    rw [rBin_eq, rBin_eq]
    refine ⟨?_, ?_⟩
    · show equalK PP t (.agg ⟨va⟩) (.agg ⟨vb⟩) (fun e => boolK e K) = _
      unfold equalK
      rw [hp]
      show eqCellsK PP fs va vb _ = _
      rw [eqCells_s _ h h3 ha hb, boolK_eq]
    · show equalK PP t (.agg ⟨va⟩) (.agg ⟨vb⟩) (fun e => boolK (!e) K) = _
      unfold equalK
      rw [hp]
      show eqCellsK PP fs va vb _ = _
      rw [eqCells_s _ h h3 ha hb, boolK_eq]
theorem Stc.lda {σ : St} {C : Nat → Prop} {its : List It} {b o : Nat} {ds : List D} (h : Stc σ C its b o ds) (n : Nat) (hn : n = its.length) : ∃ cs, RdA σ C its cs ds ∧ ∀ σ', Ext' σ σ' → ∀ K, rLdN n (pt b o) σ' K = K (.agg ⟨cs⟩) σ' := by
  obtain ⟨vs, e, ck, h1, h2, h3, h4⟩ := h.row
  subst hn
  refine ⟨(vs.drop o).take its.length, ⟨by rw [List.length_take, List.length_drop]; omega, h.len, fun j it v d a b c => ?_⟩, fun σ' hx K => rLdN_h (by rw [hx.same b h.lt]; exact h1) h3 K⟩
  have hj := (List.getElem?_eq_some_iff.1 a).1
  rw [List.getElem?_take, if_pos hj, List.getElem?_drop] at b
  exact h4 j it v d a b c
theorem Stc.val' {σ : St} {C : Nat → Prop} {its : List It} {b o : Nat} {ds : List D} (h : Stc σ C its b o ds) (j : Nat) {it : It} (hj : its[j]? = some it) : ∃ v, Rd σ C it v (ats ds j) ∧ ∀ σ', Ext' σ σ' → ∀ K, rLd (pt b (o + j)) σ' K = K v σ' := by
  obtain ⟨d, hd, hc⟩ := h.cell j hj
  obtain ⟨vs, e, ck, v, g1, g2, g3, g4⟩ := hc.row
  have : ats ds j = d := by unfold ats; rw [hd]; rfl
  exact ⟨v, by rw [this]; exact g4, fun σ' hx K => rLd_h (by rw [hx.same b h.lt]; exact g1) g3 K⟩
def CmpS (most : Nat) (f : FuncId) (its : List It) (dp : Nat) : Prop := ∀ (n : Nat) {σ : St} {C C' : Nat → Prop} {va vb : List Value} {da db : List D} {K : VK}, RdA σ C its va da → RdA σ C' its vb db → (∀ σ', Ext' σ σ' → K (.bool (eqL da db)) σ' = true) → (X most (n + dp)).C f [.agg ⟨va⟩, .agg ⟨vb⟩] σ K = true
def CmpL (most : Nat) (f : FuncId) (its : List It) (dp : Nat) : Prop := ∀ (n : Nat) {σ : St} {C C' : Nat → Prop} {a b : Value} {es fs : List (List D)} {K : VK}, Rd σ C (.list its) a (.l es) → Rd σ C' (.list its) b (.l fs) → (∀ σ', Ext' σ σ' → K (.bool (eqLL es fs)) σ' = true) → (X most (n + dp)).C f [a, b] σ K = true
theorem eqLL_len {es fs : List (List D)} (h : es.length ≠ fs.length) : eqLL es fs = false := by
  cases hq : eqLL es fs with
  | false => rfl
  | true => exact absurd (congrArg List.length ((eqLL_iff es fs).1 hq)) h
theorem eqLL_drop {es fs : List (List D)} {i : Nat} (h1 : i < es.length) (h2 : i < fs.length) : eqLL (es.drop i) (fs.drop i) = (eqL es[i] fs[i] && eqLL (es.drop (i + 1)) (fs.drop (i + 1))) := by
  rw [List.drop_eq_getElem_cons h1, List.drop_eq_getElem_cons h2]; simp only [eqLL]
theorem eqLL_end {es fs : List (List D)} {i : Nat} (h1 : es.length ≤ i) (h2 : fs.length ≤ i) : eqLL (es.drop i) (fs.drop i) = true := by
  rw [List.drop_of_length_le h1, List.drop_of_length_le h2]; rfl
theorem ats_of {ds : List D} {j : Nat} {d : D} (h : ds[j]? = some d) : ats ds j = d := by unfold ats; rw [h]; rfl
theorem eqL_one {ds es : List D} (h1 : ds.length = 1) (h2 : es.length = 1) : eqL ds es = eqD (ats ds 0) (ats es 0) := by
  match ds, es, h1, h2 with
  | [d], [e], _, _ => simp [eqL, ats]
end Go.Am

namespace Go.Am
open Go.RowKit Go.MapKept Go.Proofs Go.Proofs.Rdr
variable {most : Nat}
def Acc (σ : St) (C : Nat → Prop) (n0 : Nat) (its : List It) (e : TypeId) (v : Value) (es : List (List D)) : Prop :=
  (v = .slice none 0 0 ∧ es = []) ∨ ∃ j vs olds, n0 ≤ j ∧ j < σ.n ∧ v = .slice (some ⟨j, 0, some 0⟩) es.length es.length ∧ σ.obj j = some (.cells vs e (.grown olds)) ∧ vs.length = es.length * its.length ∧ (∀ ds ∈ es, ds.length = its.length) ∧
    ∀ (k : Nat) (ds : List D) (q : Nat) (it : It) (u : Value) (d : D), es[k]? = some ds → its[q]? = some it → vs[k * its.length + q]? = some u → ds[q]? = some d → Rd σ (fun i => i = j ∨ C i) it u d
theorem Rd.less {σ : St} {C C' : Nat → Prop} (hC : ∀ i, C' i → C i) {it : It} {v : Value} {d : D} (h : Rd σ C it v d) : Rd σ C' it v d :=
  h.fr ⟨Nat.le_refl _, fun _ _ _ => rfl, fun i hi => .inl (hC i hi)⟩
theorem Acc.rd {σ : St} {C : Nat → Prop} {n0 : Nat} {its : List It} {e : TypeId} {v : Value} {es : List (List D)} (h : Acc σ C n0 its e v es) (hC : ∀ i, C i → i < n0) (hle : es.length ≤ 140737488355328) : Rd σ C (.list its) v (.l es) := by
  rcases h with ⟨rfl, rfl⟩ | ⟨j, vs, olds, h1, h2, rfl, h3, h4, h5, h6⟩
  · exact .empty
  · refine .row rfl h2 (fun hc => by have := hC j hc; omega) h3 (.inr (.inr ⟨olds, rfl⟩)) rfl (by omega) h5 hle fun k ds q it u d a b c g => ?_
    rw [Nat.zero_add] at c
    exact (h6 k ds q it u d a b c g).less fun i hi => .inr hi
theorem Acc.app {σ σ1 : St} {C : Nat → Prop} {n0 : Nat} {its : List It} {e bytes : Nat} {v x : Value} {es : List (List D)} {ds : List D} {new : List Value} (h : Acc σ C n0 its e v es) (hx1 : Ext' σ σ1) (hn0 : n0 ≤ σ.n) (hx : Src σ1 its.length x 1 new)
    (hnew : ∀ C' : Nat → Prop, (∀ i, C' i → C i ∨ (n0 ≤ i ∧ i < σ.n)) → RdA σ1 C' its new ds) (hs : sizeT PP e = some its.length) (hb : (es.length + 1) * (bytes + 1) ≤ 1099511627776) {K : VK}
    (hK : ∀ σ' v', (∀ i, i < n0 → σ'.obj i = σ1.obj i) → σ1.n ≤ σ'.n → Acc σ' C n0 its e v' (es ++ [ds]) → K v' σ' = true) : rApp PP e its.length bytes v x σ1 K = true := by
  have hn := hx1.n
  rcases h with ⟨rfl, rfl⟩ | ⟨j, vs, olds, h1, h2, rfl, h3, h4, h5, h6⟩
  · rw [rApp_nil hx (by omega) (by simpa using hb)]
    have hr := hnew C fun i hi => .inl hi
    refine hK _ _ (fun i hi => obj_new_old (by omega)) (Nat.le_succ _) (.inr ⟨σ1.n, new, [], by omega, Nat.lt_succ_self _, rfl, obj_new_same, by simp [hr.len], fun x hx => ?_, fun k d q it u d' a b c g => ?_⟩)
    · simp at hx; subst hx; exact hr.dlen
    · have hk : k = 0 := by
        have := (List.getElem?_eq_some_iff.1 a).1
        simp at this; exact this
      subst hk
      simp at a c
      subst a
      exact (hr.rd q it u d' b c g).fr ⟨Nat.le_succ _, fun i hi _ => obj_new_old (by omega), fun i hi => by
        rcases hi with hi | hi
        · exact .inr (by omega)
        · exact .inl hi⟩
  · have hj1 : σ1.obj j = some (.cells vs e (.grown olds)) := by rw [hx1.same j h2]; exact h3
    rw [rApp_row hx (by omega) hb hj1 h4 hs]
    have hr := hnew (fun i => i = j ∨ C i) fun i hi => by
      rcases hi with hi | hi
      · subst hi; exact .inr ⟨h1, h2⟩
      · exact .inl hi
    have f : Fr' (fun i => i = j ∨ C i) σ1 ((σ1.set j (.cells vs e .stale)).new (.cells (vs ++ new) e (.grown (j :: olds)))) (fun i => i = σ1.n ∨ C i) := by
      refine ⟨by rw [new_n, set_n]; omega, fun i hi hb => ?_, fun i hi => ?_⟩
      · rw [obj_new_old (by rw [set_n]; omega), obj_set_other fun e => hb (.inl e)]
      · rcases hi with hi | hi
        · exact .inr (by omega)
        · exact .inl (.inr hi)
    refine hK _ _ (fun i hi => ?_) (by rw [new_n, set_n]; omega) (.inr ⟨σ1.n, vs ++ new, j :: olds, by omega, by rw [new_n, set_n]; omega, by simp, ?_, ?_, fun x hx => ?_, fun k d q it u d' a b c g => ?_⟩)
    · rw [obj_new_old (by rw [set_n]; omega), obj_set_other (by omega)]
    · have : σ1.n = (σ1.set j (.cells vs e .stale)).n := rfl
      rw [this, obj_new_same]
    · simp [h4, hr.len, Nat.add_mul]
    · rcases List.mem_append.1 hx with hx | hx
      · exact h5 x hx
      · simp at hx; subst hx; exact hr.dlen
    · have hq := (List.getElem?_eq_some_iff.1 b).1
      rcases Nat.lt_or_ge k es.length with hk | hk
      · rw [List.getElem?_append_left hk] at a
        have hlt : k * its.length + its.length ≤ es.length * its.length := by
          have : (k + 1) * its.length ≤ es.length * its.length := Nat.mul_le_mul_right _ hk
          rwa [Nat.add_mul, Nat.one_mul] at this
        rw [List.getElem?_append_left (by omega)] at c
        exact ((h6 k d q it u d' a b c g).fr (hx1.fr _)).fr f
      · have hk' : k = es.length := by
          have := (List.getElem?_eq_some_iff.1 a).1
          simp at this; omega
        subst hk'
        simp at a
        subst a
        rw [List.getElem?_append_right (by omega), h4, Nat.add_sub_cancel_left] at c
        exact (hr.rd q it u d' b c g).fr f
theorem rBuildS_1 (el : TypeId) {k : Nat} {zero cs : List Value} (hz : zero.length = k) (hc : cs.length = k) (h1 : cs.all oneCell = true) (σ : St) (K : VK) : rBuildS el 1 zero [(0, k, .agg ⟨cs⟩)] σ K = K (.slice (some ⟨σ.n, 0, none⟩) 1 1) (σ.new (.cells cs el .exact)) := by
  show repK zero 1 (fun c0 => (match allB oneCell cs with | true => (lenK cs fun m => match Nat.beq m k with | true => spliceK 0 cs c0 (fun cs => newK σ (.cells cs el .exact) fun i σ => K (.slice (some ⟨i, 0, none⟩) 1 1) σ) | false => false) | false => false)) = _
  rw [repK_eq, allB_eq, h1, lenK_eq]
  simp only [hc, show Nat.beq k k = true from Nat.beq_refl _]
  rw [spliceK_eq, if_pos (by simp; omega), newK_eq]
  congr 3
  simp [splice]
  omega
theorem sameV_text {σ : St} {C : Nat → Prop} {v : Value} {d : D} (h : Rd σ C .text v d) : sameV v v = true := by
  obtain ⟨l, rfl, _, _⟩ := h.text_inv
  show eqL8 l l = true
  rw [eqL8_eq]
  simp
variable {σ σ' : St} {ds : List D}
theorem RdA.at {C : Nat → Prop} {its : List It} {cs : List Value} (h : RdA σ C its cs ds) {j : Nat} {it : It} (hj : its[j]? = some it) : ∃ u, cs[j]? = some u ∧ Rd σ C it u (ats ds j) := by
  have hlt := (List.getElem?_eq_some_iff.1 hj).1
  have hc : cs[j]? = some (cs[j]'(by rw [h.len]; exact hlt)) := List.getElem?_eq_getElem _
  have hd : ds[j]? = some (ds[j]'(by rw [h.dlen]; exact hlt)) := List.getElem?_eq_getElem _
  refine ⟨_, hc, ?_⟩
  have : ats ds j = ds[j]'(by rw [h.dlen]; exact hlt) := by unfold ats; rw [hd]; rfl
  rw [this]
  exact h.rd j it _ _ hj hc hd
theorem loopF_up {f : Nat → List D → Nat} (hf : ∀ n ds, n ≤ f n ds) : ∀ (es : List (List D)) (n : Nat), n ≤ loopF f es n := by
  intro es
  induction es with
  | nil => intro n; exact Nat.le_refl _
  | cons ds es ih =>
    intro n
    by_cases h : n < 9000
    · rw [loopF_lt h]; exact Nat.le_trans (hf n ds) (ih _)
    · rw [loopF_ge h]; exact Nat.le_refl _
theorem loopF_bd {f : Nat → List D → Nat} (g : List D → Nat) (hf : ∀ n ds, n + 1 + g ds ≤ f n ds) : ∀ (es : List (List D)) (n : Nat), loopF f es n < 9000 → n + es.length ≤ loopF f es n ∧ ∀ ds ∈ es, g ds ≤ 9000 := by
  intro es
  induction es with
  | nil => intro n _; exact ⟨Nat.le_refl _, fun _ h => by cases h⟩
  | cons ds es ih =>
    intro n hl
    by_cases h : n < 9000
    · rw [loopF_lt h] at hl ⊢
      obtain ⟨h1, h2⟩ := ih _ hl
      have := hf n ds
      refine ⟨by rw [List.length_cons]; omega, fun x hx => ?_⟩
      rcases List.mem_cons.1 hx with e | hx
      · subst e; omega
      · exact h2 x hx
    · rw [loopF_ge h] at hl; exact absurd hl h
end Go.Am

namespace Go.Am
open Go.RowKit Go.MapKept Go.Proofs Go.Proofs.Rdr
variable {most : Nat}
abbrev Row1 (b : Nat) : Nat → Prop := fun i => i = b
theorem Rd.same0 {σ : St} {C : Nat → Prop} {it : It} {v : Value} {d : D} (h : Rd σ C it v d) : Am.same0 v v = true := by
  cases h with
  | @num z _ => exact sameV_int .u64 (.ofNat z)
  | @kind z _ => exact sameV_int .u8 (.ofNat z)
  | @int z _ _ => exact sameV_int .i64 z
  | @is b => cases b <;> rfl
  | text h => exact sameV_text (.text (σ := σ) (C := C) h)
  | nums h =>
    have := sameV_list h
    cases h <;> exact this
  | empty => rfl
  | emptyR => exact sameV_list (.emptyR (σ := σ) (C := C) (its := []))
  | row a b c d e f g h i j =>
    exact sameV_list (.row a b c d e f g h i j)
theorem RdA.sameV {σ : St} {C : Nat → Prop} : ∀ {its : List It} {cs : List Value} {ds : List D}, RdA σ C its cs ds → Am.sameV (.agg ⟨cs⟩) (.agg ⟨cs⟩) = true := by
  intro its cs ds h
  show sameL cs cs = true
  have h0 : ∀ v ∈ cs, Am.same0 v v = true := by
    intro v hv
    obtain ⟨j, hj⟩ := List.getElem?_of_mem hv
    have hlt := (List.getElem?_eq_some_iff.1 hj).1
    exact (h.rd j _ v _ (List.getElem?_eq_getElem (by rw [← h.len]; exact hlt)) hj (List.getElem?_eq_getElem (by rw [h.dlen, ← h.len]; exact hlt))).same0
  clear h
  induction cs with
  | nil => rfl
  | cons v cs ih =>
    show (Am.same0 v v && sameL cs cs) = true
    rw [h0 v (.head _), ih fun x hx => h0 x (.tail _ hx)]
    rfl
theorem Stc.ldf {σ : St} {C : Nat → Prop} {its : List It} {b o : Nat} {ds : List D} (h : Stc σ C its b o ds) (n : Nat) (hn : n = its.length) : ∃ cs, RdA σ C its cs ds ∧ ∀ σ', Fr' C σ σ' C → ∀ K, rLdN n (pt b o) σ' K = K (.agg ⟨cs⟩) σ' := by
  obtain ⟨vs, e, ck, h1, h2, h3, h4⟩ := h.row
  subst hn
  refine ⟨(vs.drop o).take its.length, ⟨by rw [List.length_take, List.length_drop]; omega, h.len, fun j it v d a b c => ?_⟩, fun σ' f K => rLdN_h (by rw [f.same b h.lt h.nC]; exact h1) h3 K⟩
  have hj := (List.getElem?_eq_some_iff.1 a).1
  rw [List.getElem?_take, if_pos hj, List.getElem?_drop] at b
  exact h4 j it v d a b c
theorem Stc.valf {σ : St} {C : Nat → Prop} {its : List It} {b o : Nat} {ds : List D} (h : Stc σ C its b o ds) (j : Nat) {it : It} (hj : its[j]? = some it) : ∃ v, Rd σ C it v (ats ds j) ∧ ∀ σ', Fr' C σ σ' C → ∀ K, rLd (pt b (o + j)) σ' K = K v σ' := by
  obtain ⟨d, hd, hc⟩ := h.cell j hj
  obtain ⟨vs, e, ck, v, g1, g2, g3, g4⟩ := hc.row
  have : ats ds j = d := by unfold ats; rw [hd]; rfl
  exact ⟨v, by rw [this]; exact g4, fun σ' f K => rLd_h (by rw [f.same b h.lt h.nC]; exact g1) g3 K⟩
theorem Acc.fr {σ σ1 : St} {C : Nat → Prop} {n0 : Nat} {its : List It} {e : TypeId} {v : Value} {es : List (List D)} (h : Acc σ C n0 its e v es) (f : Fr' C σ σ1 C) (hC : ∀ i, C i → i < n0) : Acc σ1 C n0 its e v es := by
  rcases h with ⟨rfl, rfl⟩ | ⟨j, vs, olds, h1, h2, rfl, h3, h4, h5, h6⟩
  · exact .inl ⟨rfl, rfl⟩
  · refine .inr ⟨j, vs, olds, h1, Nat.lt_of_lt_of_le h2 f.n, rfl, by rw [f.same j h2 (fun hc => by have := hC j hc; omega)]; exact h3, h4, h5, fun k ds q it u d a b c g => (h6 k ds q it u d a b c g).fr ⟨f.n, fun i hi hn => f.same i hi fun hc => hn (.inr hc), fun i hi => ?_⟩⟩
    rcases hi with hi | hi
    · exact .inl (.inl hi)
    · exact .inl (.inr hi)
theorem Src.single {σ : St} {i size : Nat} {cs : List Value} {e : TypeId} {ck : CK} (h : σ.obj i = some (.cells cs e ck)) (hn : cs.length = size) (h1 : ∀ v ∈ cs, oneCell v = true) : Src σ size (.slice (some ⟨i, 0, none⟩) 1 1) 1 cs := by
  have := Src.row (n := 1) (o := 0) (c := 1) (size := size) h (by omega) (fun v hv => h1 v (by rw [List.drop_zero] at hv; exact List.mem_of_mem_take hv))
  rwa [List.drop_zero, List.take_of_length_le (by omega)] at this
theorem Acc.more {σ0 σ σ1 : St} {C : Nat → Prop} {n0 : Nat} {its : List It} {e bytes sz : Nat} {v : Value} {es : List (List D)} {ds : List D} {cs : List Value} (hsz : its.length = sz) (h : Acc σ C n0 its e v es) (f : Fr' C σ0 σ C) (hn0 : n0 = σ0.n) (hx : Ext' σ σ1)
    (hr : RdA σ0 C its cs ds) (hs : sizeT PP e = some sz) (hb : (es.length + 1) * (bytes + 1) ≤ 1099511627776) {K : VK}
    (hK : ∀ σ' v', σ1.n ≤ σ'.n → (∀ i, i < n0 → σ'.obj i = σ1.obj i) → Acc σ' C n0 its e v' (es ++ [ds]) → K v' σ' = true) :
    rApp PP e sz bytes v (.slice (some ⟨σ1.n, 0, none⟩) 1 1) (σ1.new (.cells cs e .exact)) K = true := by
  subst hsz
  have hx' : Ext' σ (σ1.new (.cells cs e .exact)) := hx.trans (.new σ1 _)
  have q := f.n
  have q1 := hx.n
  refine Acc.app (its := its) h hx' (by omega) (Src.single obj_new_same hr.len hr.one) (fun C' hC' => hr.fr ⟨by rw [new_n]; omega, fun i hi hb => ?_, fun i hi => ?_⟩) hs hb fun σ' v' h1 h2 h3 => ?_
  · rw [obj_new_old (by omega), hx.same i (by omega)]; exact f.same i hi hb
  · rcases hC' i hi with h | h
    · exact .inl h
    · exact .inr (by omega)
  · exact hK σ' v' (by rw [new_n] at h2; omega) (fun i hi => by rw [h1 i hi, obj_new_old (by omega)]) h3
end Go.Am

set_option linter.unusedVariables false
set_option maxRecDepth 100000
namespace Go.Am

/-! consistory/consistorylaw25.back -/
noncomputable def l_law25_back_rrlrd (x : EV) (m : Nat) (t1 t2 t3 t4 : Value) (σ : St) (K : VK) : Bool := jmpL PP tbS c_law25_back (x.E PP) [.r, .r, .l, .r, .d] m [] [t1, t2, t3, t4] σ K
noncomputable def r_law25_back (x : EV) (a0 : Value) (σ : St) (K : VK) : Bool :=
  boxK 34 a0 σ fun v0 σ =>
  rAlloc [zI, zL, zI, zS, zF, zI, zI, zI, zI, zI, zI, zI, zS, zS, zI, zI, zF, zF, zS, zL, zL, zL, zL, zL, zL, zF, zL, zL, zL, zL] 49 σ fun v1 σ =>
  rFld 0 v0 fun v2 =>
  rLd v2 σ fun v3 σ =>
  rFld 1 v0 fun v4 =>
  rLd v4 σ fun v5 σ =>
  rFld 2 v0 fun v6 =>
  rLdN 20 v6 σ fun v7 σ =>
  rFld 22 v0 fun v8 =>
  rLd v8 σ fun v9 σ =>
  rFld 23 v0 fun v10 =>
  rLd v10 σ fun v11 σ =>
  rFld 24 v0 fun v12 =>
  rLd v12 σ fun v13 σ =>
  rFld 25 v0 fun v14 =>
  rLd v14 σ fun v15 σ =>
  rFld 26 v0 fun v16 =>
  rLd v16 σ fun v17 σ =>
  rFld 28 v0 fun v18 =>
  rLd v18 σ fun v19 σ =>
  rFld 29 v0 fun v20 =>
  rLd v20 σ fun v21 σ =>
  rLd v20 σ fun v22 σ =>
  rSame v22 v21 (rLd v18 σ fun v23 σ =>
  rSame v23 v19 (rLd v16 σ fun v24 σ =>
  rSame v24 v17 (rLd v14 σ fun v25 σ =>
  rSame v25 v15 (rLd v12 σ fun v26 σ =>
  rSame v26 v13 (rLd v10 σ fun v27 σ =>
  rSame v27 v11 (rLd v8 σ fun v28 σ =>
  rSame v28 v9 (rLdN 20 v6 σ fun v29 σ =>
  rSame v29 v7 (rLd v4 σ fun v30 σ =>
  rSame v30 v5 (rLd v2 σ fun v31 σ =>
  rSame v31 v3 (bcase (rAlloc [zI, zL, zI, zS, zF, zI, zI, zI, zI, zI, zI, zI, zS, zS, zI, zI, zF, zF, zS, zL, zL, zL, zL, zL, zL, zF, zL, zL, zL, zL] 49 σ fun v32 σ =>
  true) (x.C c_law25_boarded [v7] σ fun v33 σ =>
  rLd v20 σ fun v34 σ =>
  rSame v34 v21 (rLd v18 σ fun v35 σ =>
  rSame v35 v19 (rLd v16 σ fun v36 σ =>
  rSame v36 v17 (rLd v14 σ fun v37 σ =>
  rSame v37 v15 (rLd v12 σ fun v38 σ =>
  rSame v38 v13 (rLd v10 σ fun v39 σ =>
  rSame v39 v11 (rLd v8 σ fun v40 σ =>
  rSame v40 v9 (rLd v4 σ fun v41 σ =>
  rSame v41 v5 (rLd v2 σ fun v42 σ =>
  rSame v42 v3 (rLd v20 σ fun v43 σ =>
  rSame v43 v21 (rLd v18 σ fun v44 σ =>
  rSame v44 v19 (rLd v16 σ fun v45 σ =>
  rSame v45 v17 (rLd v14 σ fun v46 σ =>
  rSame v46 v15 (rLd v12 σ fun v47 σ =>
  rSame v47 v13 (rLd v10 σ fun v48 σ =>
  rSame v48 v11 (rLd v8 σ fun v49 σ =>
  rSame v49 v9 (rLd v4 σ fun v50 σ =>
  rSame v50 v5 (rLd v2 σ fun v51 σ =>
  rSame v51 v3 (bcase (rAlloc [zI, zL, zI, zS, zF, zI, zI, zI, zI, zI, zI, zI, zS, zS, zI, zI, zF, zF, zS, zL, zL, zL, zL, zL, zL, zF, zL, zL, zL, zL] 49 σ fun v52 σ =>
  true) (x.C c_law25_dealings [v17] σ fun v53 σ =>
  rLd v20 σ fun v54 σ =>
  rSame v54 v21 (rLd v18 σ fun v55 σ =>
  rSame v55 v19 (rLd v14 σ fun v56 σ =>
  rSame v56 v15 (rLd v12 σ fun v57 σ =>
  rSame v57 v13 (rLd v10 σ fun v58 σ =>
  rSame v58 v11 (rLd v8 σ fun v59 σ =>
  rSame v59 v9 (rLd v4 σ fun v60 σ =>
  rSame v60 v5 (rLd v2 σ fun v61 σ =>
  rSame v61 v3 (rLd v20 σ fun v62 σ =>
  rSame v62 v21 (rLd v18 σ fun v63 σ =>
  rSame v63 v19 (rLd v14 σ fun v64 σ =>
  rSame v64 v15 (rLd v12 σ fun v65 σ =>
  rSame v65 v13 (rLd v10 σ fun v66 σ =>
  rSame v66 v11 (rLd v8 σ fun v67 σ =>
  rSame v67 v9 (rLd v4 σ fun v68 σ =>
  rSame v68 v5 (rLd v2 σ fun v69 σ =>
  rSame v69 v3 (bcase (rAlloc [zI, zL, zI, zS, zF, zI, zI, zI, zI, zI, zI, zI, zS, zS, zI, zI, zF, zF, zS, zL, zL, zL, zL, zL, zL, zF, zL, zL, zL, zL] 49 σ fun v70 σ =>
  true) (x.C c_law25_dealings [v21] σ fun v71 σ =>
  rLd v18 σ fun v72 σ =>
  rSame v72 v19 (rLd v14 σ fun v73 σ =>
  rSame v73 v15 (rLd v12 σ fun v74 σ =>
  rSame v74 v13 (rLd v10 σ fun v75 σ =>
  rSame v75 v11 (rLd v8 σ fun v76 σ =>
  rSame v76 v9 (rLd v4 σ fun v77 σ =>
  rSame v77 v5 (rLd v2 σ fun v78 σ =>
  rSame v78 v3 (rBuild [zI, zL, zI, zS, zF, zI, zI, zI, zI, zI, zI, zI, zS, zS, zI, zI, zF, zF, zS, zL, zL, zL, zL, zL, zL, zF, zL, zL, zL, zL] [(0, 1, v3), (1, 1, v5), (2, 20, v33), (22, 1, v9), (23, 1, v11), (24, 1, v13), (25, 1, v15), (26, 1, v53), (28, 1, v19), (29, 1, v71)] fun v79 =>
  rLd v18 σ fun v80 σ =>
  rSame v80 v19 (rLd v14 σ fun v81 σ =>
  rSame v81 v15 (rLd v12 σ fun v82 σ =>
  rSame v82 v13 (rLd v10 σ fun v83 σ =>
  rSame v83 v11 (rLd v8 σ fun v84 σ =>
  rSame v84 v9 (rLd v4 σ fun v85 σ =>
  rSame v85 v5 (rLd v2 σ fun v86 σ =>
  rSame v86 v3 (bcase (rAlloc [zI, zL, zI, zS, zF, zI, zI, zI, zI, zI, zI, zI, zS, zS, zI, zI, zF, zF, zS, zL, zL, zL, zL, zL, zL, zF, zL, zL, zL, zL] 49 σ fun v87 σ =>
  true) (rAlloc [zI, zL, zI, zS, zF, zI, zI, zI, zI, zI, zI, zI, zS, zS, zI, zI, zF, zF, zS, zL, zL, zL, zL, zL, zL, zF, zL, zL, zL, zL] 49 σ fun v88 σ =>
  rSt 30 v88 v79 σ fun σ =>
  l_law25_back_rrlrd x x.most v0 v1 v88 zI σ K) false))))))))))))))) false))))))))))))))))) false))))))))))))))))))) false))))))))))
theorem f_law25_back (x : EV) (a0 : Value) (σ : St) (K : VK) : fnX PP tbS c_law25_back (x.E PP) [a0] σ K = r_law25_back x a0 σ K := by kernel_rfl
noncomputable def l_law25_back_rrlrdB (x : EV) (m0 : Nat) (t1 t2 t3 t4 : Value) (σ : St) (K : VK) : Bool :=
  rFld 27 t1 fun v0 =>
  rLd v0 σ fun v1 σ =>
  rLenS v1 fun v2 =>
  rBin PP .lss 3 t4 v2 fun v3 =>
  rIf v3 (rFld 27 t3 fun v4 =>
  rLd v4 σ fun v5 σ =>
  rFld 27 t1 fun v6 =>
  rLd v6 σ fun v7 σ =>
  rIdx 3 v7 t4 fun v8 =>
  rLdN 3 v8 σ fun v9 σ =>
  rLdN 3 v8 σ fun v10 σ =>
  rSame v10 v9 (rLd v6 σ fun v11 σ =>
  rSame v11 v7 (rLd v4 σ fun v12 σ =>
  rSame v12 v5 (bcase (rBuildS 85 1 [zI, zI, zL] [(0, 3, v9)] σ fun v13 σ =>
  true) (rBuildS 85 1 [zI, zI, zL] [(0, 3, v9)] σ fun v14 σ =>
  rApp PP 85 3 40 v5 v14 σ fun v15 σ =>
  rLd v6 σ fun v16 σ =>
  rSame v16 v7 (rFld 27 t3 fun v17 =>
  rSt 1 v17 v15 σ fun σ =>
  rBin PP .add 3 t4 (.int .i64 (.ofNat 1)) fun v18 =>
  l_law25_back_rrlrd x m0 t1 t2 t3 v18 σ K)) false)))) (rLdN 30 t3 σ fun v19 σ =>
  rSt 30 t2 v19 σ fun σ =>
  rLdN 30 t2 σ fun v20 _ =>
  K v20 σ)
theorem l_law25_back_rrlrdE (x : EV) (m0 : Nat) (t1 t2 t3 t4 : Value) (σ : St) (K : VK) : l_law25_back_rrlrd x (m0 + 1) t1 t2 t3 t4 σ K = l_law25_back_rrlrdB x m0 t1 t2 t3 t4 σ K := by kernel_rfl

/-! consistory/consistorylaw25.boarded -/
noncomputable def l_law25_boarded_rrrrlrd (x : EV) (m : Nat) (t1 t2 t3 t4 t5 : Value) (σ : St) (K : VK) : Bool := jmpL PP tbS c_law25_boarded (x.E PP) [.r, .r, .r, .r, .l, .r, .d] m [] [t1, t2, t3, t4, t5] σ K
noncomputable def l_law25_boarded_rrrrrlrd (x : EV) (m : Nat) (t1 t2 t4 t6 : Value) (σ : St) (K : VK) : Bool := jmpL PP tbS c_law25_boarded (x.E PP) [.r, .r, .r, .r, .r, .l, .r, .d] m [] [t1, t2, t4, t6] σ K
noncomputable def r_law25_boarded (x : EV) (a0 : Value) (σ : St) (K : VK) : Bool :=
  boxK 29 a0 σ fun v0 σ =>
  rAlloc [zI, zS, zF, zI, zI, zI, zI, zI, zI, zI, zS, zS, zI, zI, zF, zF, zS, zL, zL, zL] 45 σ fun v1 σ =>
  rFld 3 v0 fun v2 =>
  rLdN 15 v2 σ fun v3 σ =>
  rAlloc [zI, zI, zI, zI, zI, zI, zI, zS, zS, zI, zI, zF, zF, zS, zL] 25 σ fun v4 σ =>
  rSt 15 v4 v3 σ fun σ =>
  rFld 0 v0 fun v5 =>
  rLd v5 σ fun v6 σ =>
  rFld 1 v0 fun v7 =>
  rLd v7 σ fun v8 σ =>
  rFld 2 v0 fun v9 =>
  rLd v9 σ fun v10 σ =>
  rFld 19 v0 fun v11 =>
  rLd v11 σ fun v12 σ =>
  rBuild [zI, zS, zF, zI, zI, zI, zI, zI, zI, zI, zS, zS, zI, zI, zF, zF, zS, zL, zL, zL] [(0, 1, v6), (1, 1, v8), (2, 1, v10), (19, 1, v12)] fun v13 =>
  rAlloc [zI, zS, zF, zI, zI, zI, zI, zI, zI, zI, zS, zS, zI, zI, zF, zF, zS, zL, zL, zL] 45 σ fun v14 σ =>
  rSt 20 v14 v13 σ fun σ =>
  rFld 0 v4 fun v15 =>
  rLd v15 σ fun v16 σ =>
  rFld 1 v4 fun v17 =>
  rLd v17 σ fun v18 σ =>
  rFld 2 v4 fun v19 =>
  rLd v19 σ fun v20 σ =>
  rFld 3 v4 fun v21 =>
  rLd v21 σ fun v22 σ =>
  rFld 4 v4 fun v23 =>
  rLd v23 σ fun v24 σ =>
  rFld 5 v4 fun v25 =>
  rLd v25 σ fun v26 σ =>
  rFld 6 v4 fun v27 =>
  rLd v27 σ fun v28 σ =>
  rFld 7 v4 fun v29 =>
  rLd v29 σ fun v30 σ =>
  rFld 8 v4 fun v31 =>
  rLd v31 σ fun v32 σ =>
  rFld 9 v4 fun v33 =>
  rLd v33 σ fun v34 σ =>
  rFld 10 v4 fun v35 =>
  rLd v35 σ fun v36 σ =>
  rFld 11 v4 fun v37 =>
  rLd v37 σ fun v38 σ =>
  rFld 12 v4 fun v39 =>
  rLd v39 σ fun v40 σ =>
  rFld 13 v4 fun v41 =>
  rLd v41 σ fun v42 σ =>
  rBuild [zI, zI, zI, zI, zI, zI, zI, zS, zS, zI, zI, zF, zF, zS, zL] [(0, 1, v16), (1, 1, v18), (2, 1, v20), (3, 1, v22), (4, 1, v24), (5, 1, v26), (6, 1, v28), (7, 1, v30), (8, 1, v32), (9, 1, v34), (10, 1, v36), (11, 1, v38), (12, 1, v40), (13, 1, v42)] fun v43 =>
  rFld 3 v14 fun v44 =>
  rSt 15 v44 v43 σ fun σ =>
  l_law25_boarded_rrrrlrd x x.most v0 v1 v4 v14 zI σ K
theorem f_law25_boarded (x : EV) (a0 : Value) (σ : St) (K : VK) : fnX PP tbS c_law25_boarded (x.E PP) [a0] σ K = r_law25_boarded x a0 σ K := by kernel_rfl
noncomputable def l_law25_boarded_rrrrlrdB (x : EV) (m0 : Nat) (t1 t2 t3 t4 t5 : Value) (σ : St) (K : VK) : Bool :=
  rFld 14 t3 fun v0 =>
  rLd v0 σ fun v1 σ =>
  rLenS v1 fun v2 =>
  rBin PP .lss 3 t5 v2 fun v3 =>
  rIf v3 (rFld 3 t4 fun v4 =>
  rFld 14 v4 fun v5 =>
  rLd v5 σ fun v6 σ =>
  rFld 14 t3 fun v7 =>
  rLd v7 σ fun v8 σ =>
  rIdx 5 v8 t5 fun v9 =>
  rLdN 5 v9 σ fun v10 σ =>
  rLdN 5 v9 σ fun v11 σ =>
  rSame v11 v10 (rLd v7 σ fun v12 σ =>
  rSame v12 v8 (rLd v5 σ fun v13 σ =>
  rSame v13 v6 (bcase (rBuildS 130 1 [zI, zI, (.int .u8 (.ofNat 0)), zI, zS] [(0, 5, v10)] σ fun v14 σ =>
  true) (rBuildS 130 1 [zI, zI, (.int .u8 (.ofNat 0)), zI, zS] [(0, 5, v10)] σ fun v15 σ =>
  rApp PP 130 5 48 v6 v15 σ fun v16 σ =>
  rLd v7 σ fun v17 σ =>
  rSame v17 v8 (rFld 3 t4 fun v18 =>
  rFld 14 v18 fun v19 =>
  rSt 1 v19 v16 σ fun σ =>
  rBin PP .add 3 t5 (.int .i64 (.ofNat 1)) fun v20 =>
  l_law25_boarded_rrrrlrd x m0 t1 t2 t3 t4 v20 σ K)) false)))) (l_law25_boarded_rrrrrlrd x x.most t1 t2 t4 zI σ K)
theorem l_law25_boarded_rrrrlrdE (x : EV) (m0 : Nat) (t1 t2 t3 t4 t5 : Value) (σ : St) (K : VK) : l_law25_boarded_rrrrlrd x (m0 + 1) t1 t2 t3 t4 t5 σ K = l_law25_boarded_rrrrlrdB x m0 t1 t2 t3 t4 t5 σ K := by kernel_rfl
noncomputable def l_law25_boarded_rrrrrlrdB (x : EV) (m0 : Nat) (t1 t2 t4 t6 : Value) (σ : St) (K : VK) : Bool :=
  rFld 18 t1 fun v0 =>
  rLd v0 σ fun v1 σ =>
  rLenS v1 fun v2 =>
  rBin PP .lss 3 t6 v2 fun v3 =>
  rIf v3 (rFld 18 t4 fun v4 =>
  rLd v4 σ fun v5 σ =>
  rFld 18 t1 fun v6 =>
  rLd v6 σ fun v7 σ =>
  rIdx 2 v7 t6 fun v8 =>
  rLdN 2 v8 σ fun v9 σ =>
  rLdN 2 v8 σ fun v10 σ =>
  rSame v10 v9 (rLd v6 σ fun v11 σ =>
  rSame v11 v7 (rLd v4 σ fun v12 σ =>
  rSame v12 v5 (bcase (rBuildS 132 1 [zI, zS] [(0, 2, v9)] σ fun v13 σ =>
  true) (rBuildS 132 1 [zI, zS] [(0, 2, v9)] σ fun v14 σ =>
  rApp PP 132 2 24 v5 v14 σ fun v15 σ =>
  rLd v6 σ fun v16 σ =>
  rSame v16 v7 (rFld 18 t4 fun v17 =>
  rSt 1 v17 v15 σ fun σ =>
  rBin PP .add 3 t6 (.int .i64 (.ofNat 1)) fun v18 =>
  l_law25_boarded_rrrrrlrd x m0 t1 t2 t4 v18 σ K)) false)))) (rLdN 20 t4 σ fun v19 σ =>
  rSt 20 t2 v19 σ fun σ =>
  rLdN 20 t2 σ fun v20 _ =>
  K v20 σ)
theorem l_law25_boarded_rrrrrlrdE (x : EV) (m0 : Nat) (t1 t2 t4 t6 : Value) (σ : St) (K : VK) : l_law25_boarded_rrrrrlrd x (m0 + 1) t1 t2 t4 t6 σ K = l_law25_boarded_rrrrrlrdB x m0 t1 t2 t4 t6 σ K := by kernel_rfl

/-! consistory/consistorylaw25.dealings -/
noncomputable def l_law25_dealings_rrlrd (x : EV) (m : Nat) (t0 t3 t4 : Value) (σ : St) (K : VK) : Bool := jmpL PP tbS c_law25_dealings (x.E PP) [.r, .r, .l, .r, .d] m [] [t0, t3, t4] σ K
noncomputable def l_law25_dealings_rrlrddrldrlrd (x : EV) (m : Nat) (m0 : Nat) (t0 t3 t4 t5 t6 : Value) (σ : St) (K : VK) : Bool := jmpL PP tbS c_law25_dealings (x.E PP) [.r, .r, .l, .r, .d, .d, .r, .l, .d, .r, .l, .r, .d] m [m0] [t0, t3, t4, t5, t6] σ K
noncomputable def l_law25_dealings_rrlrddrldrrlrd (x : EV) (m : Nat) (m0 : Nat) (t0 t3 t4 t5 t7 : Value) (σ : St) (K : VK) : Bool := jmpL PP tbS c_law25_dealings (x.E PP) [.r, .r, .l, .r, .d, .d, .r, .l, .d, .r, .r, .l, .r, .d] m [m0] [t0, t3, t4, t5, t7] σ K
noncomputable def r_law25_dealings (x : EV) (a0 : Value) (σ : St) (K : VK) : Bool :=
  l_law25_dealings_rrlrd x x.most a0 zL zI σ K
theorem f_law25_dealings (x : EV) (a0 : Value) (σ : St) (K : VK) : fnX PP tbS c_law25_dealings (x.E PP) [a0] σ K = r_law25_dealings x a0 σ K := by kernel_rfl
noncomputable def l_law25_dealings_rrlrdB (x : EV) (m0 : Nat) (t0 t3 t4 : Value) (σ : St) (K : VK) : Bool :=
  rLenS t0 fun v0 =>
  rBin PP .lss 3 t4 v0 fun v1 =>
  rIf v1 (rIdx 8 t0 t4 fun v2 =>
  rFld 0 v2 fun v3 =>
  rLd v3 σ fun v4 σ =>
  rIdx 8 t0 t4 fun v5 =>
  rFld 1 v5 fun v6 =>
  rLd v6 σ fun v7 σ =>
  rIdx 8 t0 t4 fun v8 =>
  rFld 2 v8 fun v9 =>
  rLd v9 σ fun v10 σ =>
  rIdx 8 t0 t4 fun v11 =>
  rFld 3 v11 fun v12 =>
  rLd v12 σ fun v13 σ =>
  rIdx 8 t0 t4 fun v14 =>
  rFld 6 v14 fun v15 =>
  rLd v15 σ fun v16 σ =>
  rIdx 8 t0 t4 fun v17 =>
  rFld 7 v17 fun v18 =>
  rLd v18 σ fun v19 σ =>
  rBuild [zI, zI, zL, zL, zL, zL, zL, zF] [(0, 1, v4), (1, 1, v7), (2, 1, v10), (3, 1, v13), (6, 1, v16), (7, 1, v19)] fun v20 =>
  rLd v18 σ fun v21 σ =>
  rSame v21 v19 (rLd v15 σ fun v22 σ =>
  rSame v22 v16 (rLd v12 σ fun v23 σ =>
  rSame v23 v13 (rLd v9 σ fun v24 σ =>
  rSame v24 v10 (rLd v6 σ fun v25 σ =>
  rSame v25 v7 (rLd v3 σ fun v26 σ =>
  rSame v26 v4 (bcase (rAlloc [zI, zI, zL, zL, zL, zL, zL, zF] 137 σ fun v27 σ =>
  true) (rAlloc [zI, zI, zL, zL, zL, zL, zL, zF] 137 σ fun v28 σ =>
  rSt 8 v28 v20 σ fun σ =>
  l_law25_dealings_rrlrddrldrlrd x x.most m0 t0 t3 t4 v28 zI σ K) false))))))) (K t3 σ)
theorem l_law25_dealings_rrlrdE (x : EV) (m0 : Nat) (t0 t3 t4 : Value) (σ : St) (K : VK) : l_law25_dealings_rrlrd x (m0 + 1) t0 t3 t4 σ K = l_law25_dealings_rrlrdB x m0 t0 t3 t4 σ K := by kernel_rfl
noncomputable def l_law25_dealings_rrlrddrldrlrdB (x : EV) (m1 : Nat) (m0 : Nat) (t0 t3 t4 t5 t6 : Value) (σ : St) (K : VK) : Bool :=
  rIdx 8 t0 t4 fun v0 =>
  rFld 4 v0 fun v1 =>
  rLd v1 σ fun v2 σ =>
  rLenS v2 fun v3 =>
  rBin PP .lss 3 t6 v3 fun v4 =>
  rIf v4 (rFld 4 t5 fun v5 =>
  rLd v5 σ fun v6 σ =>
  rIdx 8 t0 t4 fun v7 =>
  rFld 4 v7 fun v8 =>
  rLd v8 σ fun v9 σ =>
  rIdx 2 v9 t6 fun v10 =>
  rLdN 2 v10 σ fun v11 σ =>
  rLdN 2 v10 σ fun v12 σ =>
  rSame v12 v11 (rLd v8 σ fun v13 σ =>
  rSame v13 v9 (rLd v5 σ fun v14 σ =>
  rSame v14 v6 (bcase (rBuildS 141 1 [zI, zL] [(0, 2, v11)] σ fun v15 σ =>
  true) (rBuildS 141 1 [zI, zL] [(0, 2, v11)] σ fun v16 σ =>
  rApp PP 141 2 32 v6 v16 σ fun v17 σ =>
  rLd v8 σ fun v18 σ =>
  rSame v18 v9 (rFld 4 t5 fun v19 =>
  rSt 1 v19 v17 σ fun σ =>
  rBin PP .add 3 t6 (.int .i64 (.ofNat 1)) fun v20 =>
  l_law25_dealings_rrlrddrldrlrd x m1 m0 t0 t3 t4 t5 v20 σ K)) false)))) (l_law25_dealings_rrlrddrldrrlrd x x.most m0 t0 t3 t4 t5 zI σ K)
theorem l_law25_dealings_rrlrddrldrlrdE (x : EV) (m1 : Nat) (m0 : Nat) (t0 t3 t4 t5 t6 : Value) (σ : St) (K : VK) : l_law25_dealings_rrlrddrldrlrd x (m1 + 1) m0 t0 t3 t4 t5 t6 σ K = l_law25_dealings_rrlrddrldrlrdB x m1 m0 t0 t3 t4 t5 t6 σ K := by kernel_rfl
noncomputable def l_law25_dealings_rrlrddrldrrlrdB (x : EV) (m1 : Nat) (m0 : Nat) (t0 t3 t4 t5 t7 : Value) (σ : St) (K : VK) : Bool :=
  rIdx 8 t0 t4 fun v0 =>
  rFld 5 v0 fun v1 =>
  rLd v1 σ fun v2 σ =>
  rLenS v2 fun v3 =>
  rBin PP .lss 3 t7 v3 fun v4 =>
  rIf v4 (rFld 5 t5 fun v5 =>
  rLd v5 σ fun v6 σ =>
  rIdx 8 t0 t4 fun v7 =>
  rFld 5 v7 fun v8 =>
  rLd v8 σ fun v9 σ =>
  rIdx 2 v9 t7 fun v10 =>
  rLdN 2 v10 σ fun v11 σ =>
  rLdN 2 v10 σ fun v12 σ =>
  rSame v12 v11 (rLd v8 σ fun v13 σ =>
  rSame v13 v9 (rLd v5 σ fun v14 σ =>
  rSame v14 v6 (bcase (rBuildS 141 1 [zI, zL] [(0, 2, v11)] σ fun v15 σ =>
  true) (rBuildS 141 1 [zI, zL] [(0, 2, v11)] σ fun v16 σ =>
  rApp PP 141 2 32 v6 v16 σ fun v17 σ =>
  rLd v8 σ fun v18 σ =>
  rSame v18 v9 (rFld 5 t5 fun v19 =>
  rSt 1 v19 v17 σ fun σ =>
  rBin PP .add 3 t7 (.int .i64 (.ofNat 1)) fun v20 =>
  l_law25_dealings_rrlrddrldrrlrd x m1 m0 t0 t3 t4 t5 v20 σ K)) false)))) (rLdN 8 t5 σ fun v21 σ =>
  rBuildS 137 1 [zI, zI, zL, zL, zL, zL, zL, zF] [(0, 8, v21)] σ fun v22 σ =>
  rApp PP 137 8 144 t3 v22 σ fun v23 σ =>
  rBin PP .add 3 t4 (.int .i64 (.ofNat 1)) fun v24 =>
  l_law25_dealings_rrlrd x m0 t0 v23 v24 σ K)
theorem l_law25_dealings_rrlrddrldrrlrdE (x : EV) (m1 : Nat) (m0 : Nat) (t0 t3 t4 t5 t7 : Value) (σ : St) (K : VK) : l_law25_dealings_rrlrddrldrrlrd x (m1 + 1) m0 t0 t3 t4 t5 t7 σ K = l_law25_dealings_rrlrddrldrrlrdB x m1 m0 t0 t3 t4 t5 t7 σ K := by kernel_rfl

end Go.Am

namespace Go.Am
open Go.RowKit Go.MapKept Go.Proofs Go.Proofs.Rdr
variable {most : Nat}

theorem back_dones {n : Nat} {σ1 : St} {C : Nat → Prop} {p1 b : Nat} {t2 : Value} {cs ws : List Value} {tw : TypeId} {v : Value} {es : List (List D)} {K : VK} (hCb : C b) (hC : ∀ i, C i → i < σ1.n) (hv : Rd σ1 C (.list itsDone) v (.l es))
    (hp : ∀ σ', Fr' (Row1 b) σ1 σ' (Row1 b) → ∀ K, rLd (pt p1 27) σ' K = K v σ') (hcs : 27 < cs.length) (hle : es.length ≤ 2000000)
    (hK : ∀ σ' a, Fr' (Row1 b) σ1 σ' (Row1 b) → σ'.obj b = some (.cells (cs.set 27 a) 49 .exact) → Rd σ' C (.list itsDone) a (.l es) → (rLdN 30 (pt b 0) σ' fun v19 σ => rSt 30 t2 v19 σ fun σ => rLdN 30 t2 σ fun v20 _ => K v20 σ) = true) :
    ∀ (r i m : Nat) (σ : St) (a : Value), i + r = es.length → r < m → Fr' (Row1 b) σ1 σ (Row1 b) → σ.obj b = some (.cells (cs.set 27 a) 49 .exact) → Acc σ C σ1.n itsDone 85 a (es.take i) → l_law25_back_rrlrd (X most n) m (pt p1 0) t2 (pt b 0) (.int .i64 (.ofNat i)) σ K = true := by
  have hbn : b < σ1.n := hC b hCb
  have up : ∀ {σ σ' : St}, Fr' (Row1 b) σ σ' (Row1 b) → Fr' C σ σ' C := fun f => f.up fun i hi => by rw [show i = b from hi]; exact hCb
  intro r
  induction r with
  | zero =>
    intro i m σ a hi hm f hb ha
    obtain ⟨m, rfl⟩ := Nat.exists_eq_succ_of_ne_zero (show m ≠ 0 by omega)
    rw [l_law25_back_rrlrdE]
    unfold l_law25_back_rrlrdB
    rw [rFld_p, Nat.zero_add, hp σ f, hv.listL.2, rBin_lssN, show decide (i < lenL (.l es)) = false from decide_eq_false (show ¬ i < es.length by omega), rIf_f]
    rw [List.take_of_length_le (by omega)] at ha
    exact hK σ a f hb (ha.rd hC (by omega))
  | succ r ih =>
    intro i m σ a hi hm f hb ha
    obtain ⟨m, rfl⟩ := Nat.exists_eq_succ_of_ne_zero (show m ≠ 0 by omega)
    have hlt : i < es.length := by omega
    have q := f.n
    rw [l_law25_back_rrlrdE]
    unfold l_law25_back_rrlrdB
    obtain ⟨b2, o2, hst, hix⟩ := hv.at hlt 3 rfl
    obtain ⟨us, hra, hld⟩ := hst.ldf 3 rfl
    have ha0 : (cs.set 27 a)[27]? = some a := by simp [hcs]
    have hld := hld σ (up f)
    have ld2 : ∀ K, rLd (pt b 27) σ K = K a σ := fun K => rLd_h hb ha0 K
    have hsa : sameV a a = true := by
      rcases ha with ⟨rfl, _⟩ | ⟨j, vs, olds, h1, h2, rfl, h3⟩
      · rfl
      · show ((Nat.beq j j && Nat.beq 0 0) && (Nat.beq _ _ && Nat.beq _ _)) = true
        simp
    have hbs : ∀ K, rBuildS 85 1 [zI, zI, zL] [(0, 3, .agg ⟨us⟩)] σ K = K (.slice (some ⟨σ.n, 0, none⟩) 1 1) (σ.new (.cells us 85 .exact)) := fun K => rBuildS_1 85 (k := 3) rfl hra.len (List.all_eq_true.2 hra.one) σ K
    rw [rFld_p, Nat.zero_add, hp σ f, hv.listL.2, rBin_lssN, show decide (i < lenL (.l es)) = true from decide_eq_true (show i < es.length from hlt), rIf_t, rFld_p, Nat.zero_add, ld2, rFld_p, Nat.zero_add, hp σ f, hix, hld, hld, rSame_v hra.sameV, hp σ f, rSame_v (sameV_list hv), ld2, rSame_v hsa, hbs, hbs, bcase_t]
    refine Acc.more (σ0 := σ1) (its := itsDone) rfl ha (up f) rfl (.refl σ) hra (by kernel_rfl) (by rw [List.length_take]; omega) fun σ' a' h1 h2 h3 => ?_
    have f' : Fr' (Row1 b) σ1 σ' (Row1 b) := ⟨by omega, fun k hk hkb => by rw [h2 k hk]; exact f.same k hk hkb, fun k hk => .inl hk⟩
    have hb' : σ'.obj b = some (.cells (cs.set 27 a) 49 .exact) := by rw [h2 b hbn]; exact hb
    have h1c : oneCell a' = true := by
      rcases h3 with ⟨rfl, _⟩ | ⟨j, vs, olds, g1, g2, rfl, g3⟩ <;> rfl
    have fs : Fr' (Row1 b) σ' (σ'.set b (.cells (cs.set 27 a') 49 .exact)) (Row1 b) := ⟨Nat.le_refl _, fun k _ hkb => obj_set_other hkb, fun k hk => .inl hk⟩
    rw [hp σ' f', rSame_v (sameV_list hv), rFld_p, Nat.zero_add, rSt_exact hb' (by simp [hcs]) h1c, List.set_set, rBin_add _ _ _ _ (by omega)]
    refine ih (i + 1) m _ a' (by omega) (by omega) (f'.trans fs) obj_set_same ?_
    rw [List.take_succ_eq_append_getElem hlt]
    exact h3.fr (up fs) hC

theorem boarded_told {n : Nat} {σ1 : St} {C : Nat → Prop} {p1 b : Nat} {t2 : Value} {cs ws : List Value} {tw : TypeId} {v : Value} {es : List (List D)} {K : VK} (hCb : C b) (hC : ∀ i, C i → i < σ1.n) (hv : Rd σ1 C (.list itsSaid) v (.l es))
    (hp : ∀ σ', Fr' (Row1 b) σ1 σ' (Row1 b) → ∀ K, rLd (pt p1 18) σ' K = K v σ') (hcs : 18 < cs.length) (hle : es.length ≤ 2000000)
    (hK : ∀ σ' a, Fr' (Row1 b) σ1 σ' (Row1 b) → σ'.obj b = some (.cells (cs.set 18 a) 45 .exact) → Rd σ' C (.list itsSaid) a (.l es) → (rLdN 20 (pt b 0) σ' fun v19 σ => rSt 20 t2 v19 σ fun σ => rLdN 20 t2 σ fun v20 _ => K v20 σ) = true) :
    ∀ (r i m : Nat) (σ : St) (a : Value), i + r = es.length → r < m → Fr' (Row1 b) σ1 σ (Row1 b) → σ.obj b = some (.cells (cs.set 18 a) 45 .exact) → Acc σ C σ1.n itsSaid 132 a (es.take i) → l_law25_boarded_rrrrrlrd (X most n) m (pt p1 0) t2 (pt b 0) (.int .i64 (.ofNat i)) σ K = true := by
  have hbn : b < σ1.n := hC b hCb
  have up : ∀ {σ σ' : St}, Fr' (Row1 b) σ σ' (Row1 b) → Fr' C σ σ' C := fun f => f.up fun i hi => by rw [show i = b from hi]; exact hCb
  intro r
  induction r with
  | zero =>
    intro i m σ a hi hm f hb ha
    obtain ⟨m, rfl⟩ := Nat.exists_eq_succ_of_ne_zero (show m ≠ 0 by omega)
    rw [l_law25_boarded_rrrrrlrdE]
    unfold l_law25_boarded_rrrrrlrdB
    rw [rFld_p, Nat.zero_add, hp σ f, hv.listL.2, rBin_lssN, show decide (i < lenL (.l es)) = false from decide_eq_false (show ¬ i < es.length by omega), rIf_f]
    rw [List.take_of_length_le (by omega)] at ha
    exact hK σ a f hb (ha.rd hC (by omega))
  | succ r ih =>
    intro i m σ a hi hm f hb ha
    obtain ⟨m, rfl⟩ := Nat.exists_eq_succ_of_ne_zero (show m ≠ 0 by omega)
    have hlt : i < es.length := by omega
    have q := f.n
    rw [l_law25_boarded_rrrrrlrdE]
    unfold l_law25_boarded_rrrrrlrdB
    obtain ⟨b2, o2, hst, hix⟩ := hv.at hlt 2 rfl
    obtain ⟨us, hra, hld⟩ := hst.ldf 2 rfl
    have ha0 : (cs.set 18 a)[18]? = some a := by simp [hcs]
    have hld := hld σ (up f)
    have ld2 : ∀ K, rLd (pt b 18) σ K = K a σ := fun K => rLd_h hb ha0 K
    have hsa : sameV a a = true := by
      rcases ha with ⟨rfl, _⟩ | ⟨j, vs, olds, h1, h2, rfl, h3⟩
      · rfl
      · show ((Nat.beq j j && Nat.beq 0 0) && (Nat.beq _ _ && Nat.beq _ _)) = true
        simp
    have hbs : ∀ K, rBuildS 132 1 [zI, zS] [(0, 2, .agg ⟨us⟩)] σ K = K (.slice (some ⟨σ.n, 0, none⟩) 1 1) (σ.new (.cells us 132 .exact)) := fun K => rBuildS_1 132 (k := 2) rfl hra.len (List.all_eq_true.2 hra.one) σ K
    rw [rFld_p, Nat.zero_add, hp σ f, hv.listL.2, rBin_lssN, show decide (i < lenL (.l es)) = true from decide_eq_true (show i < es.length from hlt), rIf_t, rFld_p, Nat.zero_add, ld2, rFld_p, Nat.zero_add, hp σ f, hix, hld, hld, rSame_v hra.sameV, hp σ f, rSame_v (sameV_list hv), ld2, rSame_v hsa, hbs, hbs, bcase_t]
    refine Acc.more (σ0 := σ1) (its := itsSaid) rfl ha (up f) rfl (.refl σ) hra (by kernel_rfl) (by rw [List.length_take]; omega) fun σ' a' h1 h2 h3 => ?_
    have f' : Fr' (Row1 b) σ1 σ' (Row1 b) := ⟨by omega, fun k hk hkb => by rw [h2 k hk]; exact f.same k hk hkb, fun k hk => .inl hk⟩
    have hb' : σ'.obj b = some (.cells (cs.set 18 a) 45 .exact) := by rw [h2 b hbn]; exact hb
    have h1c : oneCell a' = true := by
      rcases h3 with ⟨rfl, _⟩ | ⟨j, vs, olds, g1, g2, rfl, g3⟩ <;> rfl
    have fs : Fr' (Row1 b) σ' (σ'.set b (.cells (cs.set 18 a') 45 .exact)) (Row1 b) := ⟨Nat.le_refl _, fun k _ hkb => obj_set_other hkb, fun k hk => .inl hk⟩
    rw [hp σ' f', rSame_v (sameV_list hv), rFld_p, Nat.zero_add, rSt_exact hb' (by simp [hcs]) h1c, List.set_set, rBin_add _ _ _ _ (by omega)]
    refine ih (i + 1) m _ a' (by omega) (by omega) (f'.trans fs) obj_set_same ?_
    rw [List.take_succ_eq_append_getElem hlt]
    exact h3.fr (up fs) hC

theorem boarded_votes {n : Nat} {σ1 : St} {C : Nat → Prop} {p1 b : Nat} {t1 t2 : Value} {cs ws : List Value} {tw : TypeId} {v : Value} {es : List (List D)} {K : VK} (hCb : C b) (hC : ∀ i, C i → i < σ1.n) (hv : Rd σ1 C (.list itsVote) v (.l es))
    (hp : ∀ σ', Fr' (Row1 b) σ1 σ' (Row1 b) → ∀ K, rLd (pt p1 14) σ' K = K v σ') (hcs : 17 < cs.length) (hle : es.length ≤ 2000000)
    (hK : ∀ σ' a, Fr' (Row1 b) σ1 σ' (Row1 b) → σ'.obj b = some (.cells (cs.set 17 a) 45 .exact) → Rd σ' C (.list itsVote) a (.l es) → (l_law25_boarded_rrrrrlrd (X most n) (X most n).most t1 t2 (pt b 0) zI σ' K) = true) :
    ∀ (r i m : Nat) (σ : St) (a : Value), i + r = es.length → r < m → Fr' (Row1 b) σ1 σ (Row1 b) → σ.obj b = some (.cells (cs.set 17 a) 45 .exact) → Acc σ C σ1.n itsVote 130 a (es.take i) → l_law25_boarded_rrrrlrd (X most n) m t1 t2 (pt p1 0) (pt b 0) (.int .i64 (.ofNat i)) σ K = true := by
  have hbn : b < σ1.n := hC b hCb
  have up : ∀ {σ σ' : St}, Fr' (Row1 b) σ σ' (Row1 b) → Fr' C σ σ' C := fun f => f.up fun i hi => by rw [show i = b from hi]; exact hCb
  intro r
  induction r with
  | zero =>
    intro i m σ a hi hm f hb ha
    obtain ⟨m, rfl⟩ := Nat.exists_eq_succ_of_ne_zero (show m ≠ 0 by omega)
    rw [l_law25_boarded_rrrrlrdE]
    unfold l_law25_boarded_rrrrlrdB
    rw [rFld_p, Nat.zero_add, hp σ f, hv.listL.2, rBin_lssN, show decide (i < lenL (.l es)) = false from decide_eq_false (show ¬ i < es.length by omega), rIf_f]
    rw [List.take_of_length_le (by omega)] at ha
    exact hK σ a f hb (ha.rd hC (by omega))
  | succ r ih =>
    intro i m σ a hi hm f hb ha
    obtain ⟨m, rfl⟩ := Nat.exists_eq_succ_of_ne_zero (show m ≠ 0 by omega)
    have hlt : i < es.length := by omega
    have q := f.n
    rw [l_law25_boarded_rrrrlrdE]
    unfold l_law25_boarded_rrrrlrdB
    obtain ⟨b2, o2, hst, hix⟩ := hv.at hlt 5 rfl
    obtain ⟨us, hra, hld⟩ := hst.ldf 5 rfl
    have ha0 : (cs.set 17 a)[17]? = some a := by simp [hcs]
    have hld := hld σ (up f)
    have ld2 : ∀ K, rLd (pt b 17) σ K = K a σ := fun K => rLd_h hb ha0 K
    have hsa : sameV a a = true := by
      rcases ha with ⟨rfl, _⟩ | ⟨j, vs, olds, h1, h2, rfl, h3⟩
      · rfl
      · show ((Nat.beq j j && Nat.beq 0 0) && (Nat.beq _ _ && Nat.beq _ _)) = true
        simp
    have hbs : ∀ K, rBuildS 130 1 [zI, zI, (.int .u8 (.ofNat 0)), zI, zS] [(0, 5, .agg ⟨us⟩)] σ K = K (.slice (some ⟨σ.n, 0, none⟩) 1 1) (σ.new (.cells us 130 .exact)) := fun K => rBuildS_1 130 (k := 5) rfl hra.len (List.all_eq_true.2 hra.one) σ K
    rw [rFld_p, Nat.zero_add, hp σ f, hv.listL.2, rBin_lssN, show decide (i < lenL (.l es)) = true from decide_eq_true (show i < es.length from hlt), rIf_t, rFld_p, Nat.zero_add, rFld_p, ld2, rFld_p, Nat.zero_add, hp σ f, hix, hld, hld, rSame_v hra.sameV, hp σ f, rSame_v (sameV_list hv), ld2, rSame_v hsa, hbs, hbs, bcase_t]
    refine Acc.more (σ0 := σ1) (its := itsVote) rfl ha (up f) rfl (.refl σ) hra (by kernel_rfl) (by rw [List.length_take]; omega) fun σ' a' h1 h2 h3 => ?_
    have f' : Fr' (Row1 b) σ1 σ' (Row1 b) := ⟨by omega, fun k hk hkb => by rw [h2 k hk]; exact f.same k hk hkb, fun k hk => .inl hk⟩
    have hb' : σ'.obj b = some (.cells (cs.set 17 a) 45 .exact) := by rw [h2 b hbn]; exact hb
    have h1c : oneCell a' = true := by
      rcases h3 with ⟨rfl, _⟩ | ⟨j, vs, olds, g1, g2, rfl, g3⟩ <;> rfl
    have fs : Fr' (Row1 b) σ' (σ'.set b (.cells (cs.set 17 a') 45 .exact)) (Row1 b) := ⟨Nat.le_refl _, fun k _ hkb => obj_set_other hkb, fun k hk => .inl hk⟩
    rw [hp σ' f', rSame_v (sameV_list hv), rFld_p, Nat.zero_add, rFld_p, rSt_exact hb' (by simp [hcs]) h1c, List.set_set, rBin_add _ _ _ _ (by omega)]
    refine ih (i + 1) m _ a' (by omega) (by omega) (f'.trans fs) obj_set_same ?_
    rw [List.take_succ_eq_append_getElem hlt]
    exact h3.fr (up fs) hC

theorem dealings_readies {n : Nat} {σ1 : St} {C : Nat → Prop} {p1 o1 b : Nat} {m0 p0 : Nat} {t0 t3 : Value} {cs ws : List Value} {tw : TypeId} {v : Value} {es : List (List D)} {K : VK} (hCb : C b) (hC : ∀ i, C i → i < σ1.n) (hv : Rd σ1 C (.list itsTold) v (.l es))
    (h0 : ∀ K, rIdx 8 t0 (.int .i64 (.ofNat p0)) K = K (pt p1 o1)) (hp : ∀ σ', Fr' (Row1 b) σ1 σ' (Row1 b) → ∀ K, rLd (pt p1 (o1 + 5)) σ' K = K v σ') (hcs : 5 < cs.length) (hle : es.length ≤ 2000000)
    (hK : ∀ σ' a, Fr' (Row1 b) σ1 σ' (Row1 b) → σ'.obj b = some (.cells (cs.set 5 a) 137 .exact) → Rd σ' C (.list itsTold) a (.l es) → (rLdN 8 (pt b 0) σ' fun v21 σ => rBuildS 137 1 [zI, zI, zL, zL, zL, zL, zL, zF] [(0, 8, v21)] σ fun v22 σ => rApp PP 137 8 144 t3 v22 σ fun v23 σ => rBin PP .add 3 (.int .i64 (.ofNat p0)) (.int .i64 (.ofNat 1)) fun v24 => l_law25_dealings_rrlrd (X most n) m0 t0 v23 v24 σ K) = true) :
    ∀ (r i m : Nat) (σ : St) (a : Value), i + r = es.length → r < m → Fr' (Row1 b) σ1 σ (Row1 b) → σ.obj b = some (.cells (cs.set 5 a) 137 .exact) → Acc σ C σ1.n itsTold 141 a (es.take i) → l_law25_dealings_rrlrddrldrrlrd (X most n) m m0 t0 t3 (.int .i64 (.ofNat p0)) (pt b 0) (.int .i64 (.ofNat i)) σ K = true := by
  have hbn : b < σ1.n := hC b hCb
  have up : ∀ {σ σ' : St}, Fr' (Row1 b) σ σ' (Row1 b) → Fr' C σ σ' C := fun f => f.up fun i hi => by rw [show i = b from hi]; exact hCb
  intro r
  induction r with
  | zero =>
    intro i m σ a hi hm f hb ha
    obtain ⟨m, rfl⟩ := Nat.exists_eq_succ_of_ne_zero (show m ≠ 0 by omega)
    rw [l_law25_dealings_rrlrddrldrrlrdE]
    unfold l_law25_dealings_rrlrddrldrrlrdB
    rw [h0, rFld_p, hp σ f, hv.listL.2, rBin_lssN, show decide (i < lenL (.l es)) = false from decide_eq_false (show ¬ i < es.length by omega), rIf_f]
    rw [List.take_of_length_le (by omega)] at ha
    exact hK σ a f hb (ha.rd hC (by omega))
  | succ r ih =>
    intro i m σ a hi hm f hb ha
    obtain ⟨m, rfl⟩ := Nat.exists_eq_succ_of_ne_zero (show m ≠ 0 by omega)
    have hlt : i < es.length := by omega
    have q := f.n
    rw [l_law25_dealings_rrlrddrldrrlrdE]
    unfold l_law25_dealings_rrlrddrldrrlrdB
    obtain ⟨b2, o2, hst, hix⟩ := hv.at hlt 2 rfl
    obtain ⟨us, hra, hld⟩ := hst.ldf 2 rfl
    have ha0 : (cs.set 5 a)[5]? = some a := by simp [hcs]
    have hld := hld σ (up f)
    have ld2 : ∀ K, rLd (pt b 5) σ K = K a σ := fun K => rLd_h hb ha0 K
    have hsa : sameV a a = true := by
      rcases ha with ⟨rfl, _⟩ | ⟨j, vs, olds, h1, h2, rfl, h3⟩
      · rfl
      · show ((Nat.beq j j && Nat.beq 0 0) && (Nat.beq _ _ && Nat.beq _ _)) = true
        simp
    have hbs : ∀ K, rBuildS 141 1 [zI, zL] [(0, 2, .agg ⟨us⟩)] σ K = K (.slice (some ⟨σ.n, 0, none⟩) 1 1) (σ.new (.cells us 141 .exact)) := fun K => rBuildS_1 141 (k := 2) rfl hra.len (List.all_eq_true.2 hra.one) σ K
    rw [h0, rFld_p, hp σ f, hv.listL.2, rBin_lssN, show decide (i < lenL (.l es)) = true from decide_eq_true (show i < es.length from hlt), rIf_t, rFld_p, Nat.zero_add, ld2, h0, rFld_p, hp σ f, hix, hld, hld, rSame_v hra.sameV, hp σ f, rSame_v (sameV_list hv), ld2, rSame_v hsa, hbs, hbs, bcase_t]
    refine Acc.more (σ0 := σ1) (its := itsTold) rfl ha (up f) rfl (.refl σ) hra (by kernel_rfl) (by rw [List.length_take]; omega) fun σ' a' h1 h2 h3 => ?_
    have f' : Fr' (Row1 b) σ1 σ' (Row1 b) := ⟨by omega, fun k hk hkb => by rw [h2 k hk]; exact f.same k hk hkb, fun k hk => .inl hk⟩
    have hb' : σ'.obj b = some (.cells (cs.set 5 a) 137 .exact) := by rw [h2 b hbn]; exact hb
    have h1c : oneCell a' = true := by
      rcases h3 with ⟨rfl, _⟩ | ⟨j, vs, olds, g1, g2, rfl, g3⟩ <;> rfl
    have fs : Fr' (Row1 b) σ' (σ'.set b (.cells (cs.set 5 a') 137 .exact)) (Row1 b) := ⟨Nat.le_refl _, fun k _ hkb => obj_set_other hkb, fun k hk => .inl hk⟩
    rw [hp σ' f', rSame_v (sameV_list hv), rFld_p, Nat.zero_add, rSt_exact hb' (by simp [hcs]) h1c, List.set_set, rBin_add _ _ _ _ (by omega)]
    refine ih (i + 1) m _ a' (by omega) (by omega) (f'.trans fs) obj_set_same ?_
    rw [List.take_succ_eq_append_getElem hlt]
    exact h3.fr (up fs) hC

theorem dealings_echos {n : Nat} {σ1 : St} {C : Nat → Prop} {p1 o1 b : Nat} {m0 p0 : Nat} {t0 t3 : Value} {cs ws : List Value} {tw : TypeId} {v : Value} {es : List (List D)} {K : VK} (hCb : C b) (hC : ∀ i, C i → i < σ1.n) (hv : Rd σ1 C (.list itsTold) v (.l es))
    (h0 : ∀ K, rIdx 8 t0 (.int .i64 (.ofNat p0)) K = K (pt p1 o1)) (hp : ∀ σ', Fr' (Row1 b) σ1 σ' (Row1 b) → ∀ K, rLd (pt p1 (o1 + 4)) σ' K = K v σ') (hcs : 4 < cs.length) (hle : es.length ≤ 2000000)
    (hK : ∀ σ' a, Fr' (Row1 b) σ1 σ' (Row1 b) → σ'.obj b = some (.cells (cs.set 4 a) 137 .exact) → Rd σ' C (.list itsTold) a (.l es) → (l_law25_dealings_rrlrddrldrrlrd (X most n) (X most n).most m0 t0 t3 (.int .i64 (.ofNat p0)) (pt b 0) zI σ' K) = true) :
    ∀ (r i m : Nat) (σ : St) (a : Value), i + r = es.length → r < m → Fr' (Row1 b) σ1 σ (Row1 b) → σ.obj b = some (.cells (cs.set 4 a) 137 .exact) → Acc σ C σ1.n itsTold 141 a (es.take i) → l_law25_dealings_rrlrddrldrlrd (X most n) m m0 t0 t3 (.int .i64 (.ofNat p0)) (pt b 0) (.int .i64 (.ofNat i)) σ K = true := by
  have hbn : b < σ1.n := hC b hCb
  have up : ∀ {σ σ' : St}, Fr' (Row1 b) σ σ' (Row1 b) → Fr' C σ σ' C := fun f => f.up fun i hi => by rw [show i = b from hi]; exact hCb
  intro r
  induction r with
  | zero =>
    intro i m σ a hi hm f hb ha
    obtain ⟨m, rfl⟩ := Nat.exists_eq_succ_of_ne_zero (show m ≠ 0 by omega)
    rw [l_law25_dealings_rrlrddrldrlrdE]
    unfold l_law25_dealings_rrlrddrldrlrdB
    rw [h0, rFld_p, hp σ f, hv.listL.2, rBin_lssN, show decide (i < lenL (.l es)) = false from decide_eq_false (show ¬ i < es.length by omega), rIf_f]
    rw [List.take_of_length_le (by omega)] at ha
    exact hK σ a f hb (ha.rd hC (by omega))
  | succ r ih =>
    intro i m σ a hi hm f hb ha
    obtain ⟨m, rfl⟩ := Nat.exists_eq_succ_of_ne_zero (show m ≠ 0 by omega)
    have hlt : i < es.length := by omega
    have q := f.n
    rw [l_law25_dealings_rrlrddrldrlrdE]
    unfold l_law25_dealings_rrlrddrldrlrdB
    obtain ⟨b2, o2, hst, hix⟩ := hv.at hlt 2 rfl
    obtain ⟨us, hra, hld⟩ := hst.ldf 2 rfl
    have ha0 : (cs.set 4 a)[4]? = some a := by simp [hcs]
    have hld := hld σ (up f)
    have ld2 : ∀ K, rLd (pt b 4) σ K = K a σ := fun K => rLd_h hb ha0 K
    have hsa : sameV a a = true := by
      rcases ha with ⟨rfl, _⟩ | ⟨j, vs, olds, h1, h2, rfl, h3⟩
      · rfl
      · show ((Nat.beq j j && Nat.beq 0 0) && (Nat.beq _ _ && Nat.beq _ _)) = true
        simp
    have hbs : ∀ K, rBuildS 141 1 [zI, zL] [(0, 2, .agg ⟨us⟩)] σ K = K (.slice (some ⟨σ.n, 0, none⟩) 1 1) (σ.new (.cells us 141 .exact)) := fun K => rBuildS_1 141 (k := 2) rfl hra.len (List.all_eq_true.2 hra.one) σ K
    rw [h0, rFld_p, hp σ f, hv.listL.2, rBin_lssN, show decide (i < lenL (.l es)) = true from decide_eq_true (show i < es.length from hlt), rIf_t, rFld_p, Nat.zero_add, ld2, h0, rFld_p, hp σ f, hix, hld, hld, rSame_v hra.sameV, hp σ f, rSame_v (sameV_list hv), ld2, rSame_v hsa, hbs, hbs, bcase_t]
    refine Acc.more (σ0 := σ1) (its := itsTold) rfl ha (up f) rfl (.refl σ) hra (by kernel_rfl) (by rw [List.length_take]; omega) fun σ' a' h1 h2 h3 => ?_
    have f' : Fr' (Row1 b) σ1 σ' (Row1 b) := ⟨by omega, fun k hk hkb => by rw [h2 k hk]; exact f.same k hk hkb, fun k hk => .inl hk⟩
    have hb' : σ'.obj b = some (.cells (cs.set 4 a) 137 .exact) := by rw [h2 b hbn]; exact hb
    have h1c : oneCell a' = true := by
      rcases h3 with ⟨rfl, _⟩ | ⟨j, vs, olds, g1, g2, rfl, g3⟩ <;> rfl
    have fs : Fr' (Row1 b) σ' (σ'.set b (.cells (cs.set 4 a') 137 .exact)) (Row1 b) := ⟨Nat.le_refl _, fun k _ hkb => obj_set_other hkb, fun k hk => .inl hk⟩
    rw [hp σ' f', rSame_v (sameV_list hv), rFld_p, Nat.zero_add, rSt_exact hb' (by simp [hcs]) h1c, List.set_set, rBin_add _ _ _ _ (by omega)]
    refine ih (i + 1) m _ a' (by omega) (by omega) (f'.trans fs) obj_set_same ?_
    rw [List.take_succ_eq_append_getElem hlt]
    exact h3.fr (up fs) hC
end Go.Am

namespace Go.Am
open Go.RowKit Go.MapKept Go.Proofs Go.Proofs.Rdr
variable {most : Nat}
theorem rBuild_one {z : List Value} {o : Nat} {v : Value} {ps : List (Nat × Nat × Value)} (h : oneCell v = true) (ho : o < z.length) (K : Value → Bool) : rBuild z ((o, 1, v) :: ps) K = rBuild (z.set o v) ps K := by
  show cellsOfK v (fun new => lenK new fun m => match Nat.beq m 1 with | true => spliceK o new z (fun cs => rFill ps cs fun cs => K (.agg ⟨cs⟩)) | false => false) = _
  rw [cellsOf_one h, lenK_eq]
  show spliceK o [v] z _ = _
  rw [spliceK_eq, if_pos (by simp; omega)]
  unfold splice
  rw [List.set_eq_take_append_cons_drop, if_pos ho]
  simp only [List.append_assoc, List.singleton_append, List.length_singleton]
  rfl
theorem rBuild_agg {z cs : List Value} {o n : Nat} {ps : List (Nat × Nat × Value)} (h : cs.all oneCell = true) (hn : cs.length = n) (ho : o + n ≤ z.length) (K : Value → Bool) : rBuild z ((o, n, .agg ⟨cs⟩) :: ps) K = rBuild (splice o cs z) ps K := by
  show (match allB oneCell cs with | true => (lenK cs fun m => match Nat.beq m n with | true => spliceK o cs z (fun cs => rFill ps cs fun cs => K (.agg ⟨cs⟩)) | false => false) | false => false) = _
  rw [allB_eq, h, lenK_eq, hn]
  simp only [show Nat.beq n n = true from Nat.beq_refl _]
  rw [spliceK_eq, if_pos (by omega)]
  rfl
theorem RdA.of {σ : St} {C : Nat → Prop} {its : List It} {cs : List Value} {ds : List D} (hl : cs.length = its.length) (hd : ds.length = its.length) (h : ∀ (j : Nat) (it : It) (u : Value), its[j]? = some it → cs[j]? = some u → Rd σ C it u (ats ds j)) : RdA σ C its cs ds :=
  ⟨hl, hd, fun j it v d a b c => by have := h j it v a b; rwa [ats_of c] at this⟩
theorem Rd.list_es {σ : St} {C : Nat → Prop} {its : List It} {v : Value} {d : D} (h : Rd σ C (.list its) v d) : Rd σ C (.list its) v (.l (esOf d)) ∧ d = .l (esOf d) := by
  obtain ⟨es, rfl⟩ := h.list_inv
  exact ⟨h, rfl⟩
theorem Rd.sameV' {σ : St} {C : Nat → Prop} {it : It} {v : Value} {d : D} (h : Rd σ C it v d) : Am.sameV v v = true := by
  have := h.same0
  cases v <;> first | exact this | (cases h; rename_i h; cases h)

theorem dealings_loop (hM : 2000000 < most) {n : Nat} {σ0 : St} {C : Nat → Prop} {v : Value} {es : List (List D)} {K : VK} (hC : ∀ i, C i → i < σ0.n) (hv : Rd σ0 C (.list itsDealing) v (.l es)) (hle : es.length ≤ 2000000)
    (hin : ∀ x ∈ es, (esOf (ats x 4)).length ≤ 2000000 ∧ (esOf (ats x 5)).length ≤ 2000000) (hK : ∀ σ' a, Ext' σ0 σ' → Rd σ' C (.list itsDealing) a (.l es) → K a σ' = true) :
    ∀ (r i m : Nat) (σ : St) (a : Value), i + r = es.length → r < m → Ext' σ0 σ → Acc σ C σ0.n itsDealing 137 a (es.take i) → l_law25_dealings_rrlrd (X most n) m v a (.int .i64 (.ofNat i)) σ K = true := by
  intro r
  induction r with
  | zero =>
    intro i m σ a hi hm hx ha
    obtain ⟨m, rfl⟩ := Nat.exists_eq_succ_of_ne_zero (show m ≠ 0 by omega)
    rw [l_law25_dealings_rrlrdE]
    unfold l_law25_dealings_rrlrdB
    rw [hv.listL.2, rBin_lssN, show decide (i < lenL (.l es)) = false from decide_eq_false (show ¬ i < es.length by omega), rIf_f]
    rw [List.take_of_length_le (by omega)] at ha
    exact hK σ a hx (ha.rd hC (by omega))
  | succ r ih =>
    intro i m σ a hi hm hx ha
    obtain ⟨m, rfl⟩ := Nat.exists_eq_succ_of_ne_zero (show m ≠ 0 by omega)
    have hlt : i < es.length := by omega
    have q := hx.n
    obtain ⟨hin4, hin5⟩ := hin _ (List.getElem_mem hlt)
    rw [l_law25_dealings_rrlrdE]
    unfold l_law25_dealings_rrlrdB
    obtain ⟨p1, o1, hst, hix⟩ := hv.at hlt 8 rfl
    have hdl : es[i].length = 8 := hst.len
    obtain ⟨u0, r0, l0⟩ := hst.valf 0 (it := .int) rfl
    obtain ⟨u1, r1, l1⟩ := hst.valf 1 (it := .int) rfl
    obtain ⟨u2, r2, l2⟩ := hst.valf 2 (it := .list itsNums) rfl
    obtain ⟨u3, r3, l3⟩ := hst.valf 3 (it := .nums) rfl
    obtain ⟨u4, r4, l4⟩ := hst.valf 4 (it := .list itsTold) rfl
    obtain ⟨u5, r5, l5⟩ := hst.valf 5 (it := .list itsTold) rfl
    obtain ⟨u6, r6, l6⟩ := hst.valf 6 (it := .nums) rfl
    obtain ⟨u7, r7, l7⟩ := hst.valf 7 (it := .is) rfl
    have fx : Fr' C σ0 σ C := hx.fr C
    have e4 := r4.list_es
    have e5 := r5.list_es
    have hb : ∀ K, rBuild [zI, zI, zL, zL, zL, zL, zL, zF] [(0, 1, u0), (1, 1, u1), (2, 1, u2), (3, 1, u3), (6, 1, u6), (7, 1, u7)] K = K (.agg ⟨[u0, u1, u2, u3, .slice none 0 0, .slice none 0 0, u6, u7]⟩) := fun K => by
      rw [rBuild_one r0.one (by simp), rBuild_one r1.one (by simp), rBuild_one r2.one (by simp), rBuild_one r3.one (by simp), rBuild_one r6.one (by simp), rBuild_one r7.one (by simp), rBuild_none]
      rfl
    rw [hv.listL.2, rBin_lssN, show decide (i < lenL (.l es)) = true from decide_eq_true (show i < es.length from hlt), rIf_t]
    rw [hix, rFld_p, l0 σ fx, hix, rFld_p, l1 σ fx, hix, rFld_p, l2 σ fx, hix, rFld_p, l3 σ fx, hix, rFld_p, l6 σ fx, hix, rFld_p, l7 σ fx, hb]
    rw [l7 σ fx, rSame_v r7.sameV', l6 σ fx, rSame_v r6.sameV', l3 σ fx, rSame_v r3.sameV', l2 σ fx, rSame_v r2.sameV', l1 σ fx, rSame_v r1.sameV', l0 σ fx, rSame_v r0.sameV', rAlloc_h, bcase_t, rAlloc_h]
    let cs8 : List Value := [u0, u1, u2, u3, .slice none 0 0, .slice none 0 0, u6, u7]
    have one8 : cs8.all oneCell = true := by simp [cs8, r0.one, r1.one, r2.one, r3.one, r6.one, r7.one]; rfl
    rw [rSt_all (vs := [zI, zI, zL, zL, zL, zL, zL, zF]) (cs := cs8) obj_new_same rfl one8 8 rfl]
    generalize hσ1 : (σ.new (.cells [zI, zI, zL, zL, zL, zL, zL, zF] 137 .exact)).set σ.n (.cells cs8 137 .exact) = σ1
    have n1 : σ1.n = σ.n + 1 := by rw [← hσ1]; rfl
    have o1b : σ1.obj σ.n = some (.cells (cs8.set 4 zL) 137 .exact) := by rw [← hσ1]; exact obj_set_same
    have x1 : Ext' σ σ1 := ⟨by omega, fun k hk => by rw [← hσ1, obj_set_other (by omega), obj_new_old (by omega)]⟩
    let C1 : Nat → Prop := fun k => k = σ.n ∨ C k ∨ (σ0.n ≤ k ∧ k < σ.n)
    have hC1 : ∀ k, C1 k → k < σ1.n := fun k hk => by
      rcases hk with h | h | h
      · omega
      · have := hC k h; omega
      · omega
    have hC1b : C1 σ.n := .inl rfl
    have fC1 : ∀ {σ' : St}, Ext' σ0 σ' → Fr' C σ0 σ' C1 := fun h => ⟨h.n, fun k hk _ => h.same k hk, fun k hk => by
      rcases hk with h | h | h
      · exact .inr (by omega)
      · exact .inl h
      · exact .inr h.1⟩
    have xb : ∀ {σ' : St}, Fr' (Row1 σ.n) σ1 σ' (Row1 σ.n) → Ext' σ σ' := fun f => f.ext x1 (fun k hk => by rw [show k = σ.n from hk]; exact Nat.le_refl _)
    have hst0 : ∀ {σ' : St}, Ext' σ σ' → Fr' C σ0 σ' C := fun h => (hx.trans h).fr C
    refine dealings_echos (n := n) (σ1 := σ1) (C := C1) (p1 := p1) (o1 := o1) (b := σ.n) (m0 := m) (p0 := i) (t0 := v) (t3 := a) (cs := cs8) (ws := []) (tw := 0) hC1b hC1 (e4.1.fr (fC1 (hx.trans x1))) hix (fun σ' f => l4 σ' (hst0 (xb f))) (by simp [cs8]) hin4 (fun σ2 a4 f2 hb2 h4 => ?_) _ 0 _ σ1 zL (Nat.zero_add _) (by rw [X_most]; omega) (.refl _ _) o1b (.inl ⟨rfl, by simp⟩)
    have x2 : Ext' σ σ2 := xb f2
    have q2 := f2.n
    have xb2 : ∀ {σ' : St}, Fr' (Row1 σ.n) σ2 σ' (Row1 σ.n) → Ext' σ σ' := fun f => f.ext x2 (fun k hk => by rw [show k = σ.n from hk]; exact Nat.le_refl _)
    refine dealings_readies (n := n) (σ1 := σ2) (C := C1) (p1 := p1) (o1 := o1) (b := σ.n) (m0 := m) (p0 := i) (t0 := v) (t3 := a) (cs := cs8.set 4 a4) (ws := []) (tw := 0) hC1b (fun k hk => by have := hC1 k hk; omega) (e5.1.fr (fC1 (hx.trans x2))) hix (fun σ' f => l5 σ' (hst0 (xb2 f))) (by simp [cs8]) hin5 (fun σ3 a5 f3 hb3 h5 => ?_) _ 0 _ σ2 zL (Nat.zero_add _) (by rw [X_most]; omega) (.refl _ _) hb2 (.inl ⟨rfl, by simp⟩)
    have x3 : Ext' σ σ3 := xb2 f3
    have q3 := f3.n
    have h4' : Rd σ3 C1 (.list itsTold) a4 (.l (esOf (ats es[i] 4))) := h4.fr (f3.up fun k hk => by rw [show k = σ.n from hk]; exact hC1b)
    let cs9 : List Value := [u0, u1, u2, u3, a4, a5, u6, u7]
    have hb3 : σ3.obj σ.n = some (.cells cs9 137 .exact) := hb3
    have r9 : ∀ C' : Nat → Prop, (∀ k, C' k → C k ∨ (σ0.n ≤ k ∧ k < σ.n)) → RdA (σ3.new (.cells cs9 137 .exact)) C' itsDealing cs9 es[i] := fun C' hC' => by
      have F : Fr' C σ0 (σ3.new (.cells cs9 137 .exact)) C' := ⟨by have := x3.n; rw [new_n]; omega, fun k hk _ => by rw [obj_new_old (by have := x3.n; omega)]; exact (hx.trans x3).same k hk, fun k hk => by
        rcases hC' k hk with h | h
        · exact .inl h
        · exact .inr h.1⟩
      have G : Fr' C1 σ3 (σ3.new (.cells cs9 137 .exact)) C' := ⟨Nat.le_succ _, fun k hk _ => obj_new_old (by omega), fun k hk => .inl (.inr (hC' k hk))⟩
      refine RdA.of rfl hdl fun j it u a b => ?_
      match j, a, b with
      | 0, a, b => injection a with a; injection b with b; subst a b; exact r0.fr F
      | 1, a, b => injection a with a; injection b with b; subst a b; exact r1.fr F
      | 2, a, b => injection a with a; injection b with b; subst a b; exact r2.fr F
      | 3, a, b => injection a with a; injection b with b; subst a b; exact r3.fr F
      | 4, a, b => injection a with a; injection b with b; subst a b; rw [e4.2]; exact h4'.fr G
      | 5, a, b => injection a with a; injection b with b; subst a b; rw [e5.2]; exact h5.fr G
      | 6, a, b => injection a with a; injection b with b; subst a b; exact r6.fr F
      | 7, a, b => injection a with a; injection b with b; subst a b; exact r7.fr F
      | j + 8, a, _ => cases a
    have one9 : ∀ w ∈ cs9, oneCell w = true := (r9 C fun k hk => .inl hk).one
    have hbs : ∀ K, rBuildS 137 1 [zI, zI, zL, zL, zL, zL, zL, zF] [(0, 8, .agg ⟨cs9⟩)] σ3 K = K (.slice (some ⟨σ3.n, 0, none⟩) 1 1) (σ3.new (.cells cs9 137 .exact)) := fun K => rBuildS_1 137 (k := 8) rfl rfl (List.all_eq_true.2 one9) σ3 K
    rw [rLdN_h hb3 (by simp [cs9])]
    show rBuildS 137 1 _ [(0, 8, .agg ⟨cs9⟩)] σ3 _ = true
    rw [hbs]
    refine Acc.app (its := itsDealing) (bytes := 144) ha (x3.trans (.new σ3 _)) q (Src.single obj_new_same rfl one9) r9 (by kernel_rfl) (by rw [List.length_take]; omega) fun σ4 a' h1 h2 h3 => ?_
    rw [rBin_add _ _ _ _ (by omega)]
    have q4 := x3.n
    refine ih (i + 1) m σ4 a' (by omega) (by omega) ⟨by rw [new_n] at h2; omega, fun k hk => by rw [h1 k hk, obj_new_old (by omega)]; exact (hx.trans x3).same k hk⟩ ?_
    rw [List.take_succ_eq_append_getElem hlt]
    exact h3
theorem dealings_s (hM : 2000000 < most) {n : Nat} {σ0 : St} {C : Nat → Prop} {v : Value} {es : List (List D)} {K : VK} (hC : ∀ i, C i → i < σ0.n) (hv : Rd σ0 C (.list itsDealing) v (.l es)) (hle : es.length ≤ 2000000)
    (hin : ∀ x ∈ es, (esOf (ats x 4)).length ≤ 2000000 ∧ (esOf (ats x 5)).length ≤ 2000000) (hK : ∀ σ' a, Ext' σ0 σ' → Rd σ' C (.list itsDealing) a (.l es) → K a σ' = true) : (X most (n + 1)).C c_law25_dealings [v] σ0 K = true := by
  rw [X_call (by rfl), f_law25_dealings]
  unfold r_law25_dealings
  exact dealings_loop hM hC hv hle hin hK es.length 0 _ σ0 _ (Nat.zero_add _) (by rw [X_most]; omega) (.refl σ0) (.inl ⟨rfl, by simp⟩)
end Go.Am

namespace Go.Am
open Go.RowKit Go.MapKept Go.Proofs Go.Proofs.Rdr
variable {most : Nat}
theorem rSt_part {σ : St} {i o n : Nat} {vs cs : List Value} {e : TypeId} (h : σ.obj i = some (.cells vs e .exact)) (ho : o + n ≤ vs.length) (hn : cs.length = n) (h1 : cs.all oneCell = true) (k : St → Bool) :
    rSt n (pt i o) (.agg ⟨cs⟩) σ k = k (σ.set i (.cells (splice o cs vs) e .exact)) := by
  show (match allB oneCell cs with | true => (lenK cs fun m => match Nat.beq m n with | true => writeK σ i o cs k | false => false) | false => false) = _
  rw [allB_eq, h1, lenK_eq, hn]
  simp only [show Nat.beq n n = true from Nat.beq_refl _]
  unfold writeK
  rw [cellsK_h h]
  show spliceK o cs vs (fun vs => setK σ i (.cells vs e .exact) k) = _
  rw [spliceK_eq, if_pos (by omega), setK_eq]
theorem list20 {α : Type} {l : List α} (h : l.length = 20) : ∃ c0 c1 c2 c3 c4 c5 c6 c7 c8 c9 c10 c11 c12 c13 c14 c15 c16 c17 c18 c19 : α, l = [c0, c1, c2, c3, c4, c5, c6, c7, c8, c9, c10, c11, c12, c13, c14, c15, c16, c17, c18, c19] := by
  match l, h with
  | [c0, c1, c2, c3, c4, c5, c6, c7, c8, c9, c10, c11, c12, c13, c14, c15, c16, c17, c18, c19], _ => exact ⟨_, _, _, _, _, _, _, _, _, _, _, _, _, _, _, _, _, _, _, _, rfl⟩
theorem list30 {α : Type} {l : List α} (h : l.length = 30) : ∃ c0 c1 c2 c3 c4 c5 c6 c7 c8 c9 c10 c11 c12 c13 c14 c15 c16 c17 c18 c19 c20 c21 c22 c23 c24 c25 c26 c27 c28 c29 : α, l = [c0, c1, c2, c3, c4, c5, c6, c7, c8, c9, c10, c11, c12, c13, c14, c15, c16, c17, c18, c19, c20, c21, c22, c23, c24, c25, c26, c27, c28, c29] := by
  match l, h with
  | [c0, c1, c2, c3, c4, c5, c6, c7, c8, c9, c10, c11, c12, c13, c14, c15, c16, c17, c18, c19, c20, c21, c22, c23, c24, c25, c26, c27, c28, c29], _ => exact ⟨_, _, _, _, _, _, _, _, _, _, _, _, _, _, _, _, _, _, _, _, _, _, _, _, _, _, _, _, _, _, rfl⟩

set_option maxRecDepth 100000 in
theorem boarded_s (hM : 2000000 < most) {n : Nat} {σ : St} {C : Nat → Prop} {cs : List Value} {ds : List D} {K : VK} (hC : ∀ i, C i → i < σ.n) (h : RdA σ C itsRows cs ds) (hl1 : (esOf (ats ds 17)).length ≤ 2000000) (hl2 : (esOf (ats ds 18)).length ≤ 2000000)
    (hK : ∀ σ' cs', Ext' σ σ' → RdA σ' C itsRows cs' ds → K (.agg ⟨cs'⟩) σ' = true) : (X most (n + 1)).C c_law25_boarded [.agg ⟨cs⟩] σ K = true := by
  rw [X_call (by rfl), f_law25_boarded]
  unfold r_law25_boarded
  have hdl : ds.length = 20 := h.dlen
  have hone := List.all_eq_true.2 h.one
  obtain ⟨c0, c1, c2, c3, c4, c5, c6, c7, c8, c9, c10, c11, c12, c13, c14, c15, c16, c17, c18, c19, rfl⟩ := list20 (show cs.length = 20 from h.len)
  have r0 : Rd σ C (.int) c0 (ats ds 0) := by obtain ⟨u, hu, hr⟩ := h.at (j := 0) (it := .int) rfl; injection hu with hu; subst hu; exact hr
  have r1 : Rd σ C (.text) c1 (ats ds 1) := by obtain ⟨u, hu, hr⟩ := h.at (j := 1) (it := .text) rfl; injection hu with hu; subst hu; exact hr
  have r2 : Rd σ C (.is) c2 (ats ds 2) := by obtain ⟨u, hu, hr⟩ := h.at (j := 2) (it := .is) rfl; injection hu with hu; subst hu; exact hr
  have r3 : Rd σ C (.int) c3 (ats ds 3) := by obtain ⟨u, hu, hr⟩ := h.at (j := 3) (it := .int) rfl; injection hu with hu; subst hu; exact hr
  have r4 : Rd σ C (.int) c4 (ats ds 4) := by obtain ⟨u, hu, hr⟩ := h.at (j := 4) (it := .int) rfl; injection hu with hu; subst hu; exact hr
  have r5 : Rd σ C (.int) c5 (ats ds 5) := by obtain ⟨u, hu, hr⟩ := h.at (j := 5) (it := .int) rfl; injection hu with hu; subst hu; exact hr
  have r6 : Rd σ C (.int) c6 (ats ds 6) := by obtain ⟨u, hu, hr⟩ := h.at (j := 6) (it := .int) rfl; injection hu with hu; subst hu; exact hr
  have r7 : Rd σ C (.int) c7 (ats ds 7) := by obtain ⟨u, hu, hr⟩ := h.at (j := 7) (it := .int) rfl; injection hu with hu; subst hu; exact hr
  have r8 : Rd σ C (.int) c8 (ats ds 8) := by obtain ⟨u, hu, hr⟩ := h.at (j := 8) (it := .int) rfl; injection hu with hu; subst hu; exact hr
  have r9 : Rd σ C (.int) c9 (ats ds 9) := by obtain ⟨u, hu, hr⟩ := h.at (j := 9) (it := .int) rfl; injection hu with hu; subst hu; exact hr
  have r10 : Rd σ C (.text) c10 (ats ds 10) := by obtain ⟨u, hu, hr⟩ := h.at (j := 10) (it := .text) rfl; injection hu with hu; subst hu; exact hr
  have r11 : Rd σ C (.text) c11 (ats ds 11) := by obtain ⟨u, hu, hr⟩ := h.at (j := 11) (it := .text) rfl; injection hu with hu; subst hu; exact hr
  have r12 : Rd σ C (.int) c12 (ats ds 12) := by obtain ⟨u, hu, hr⟩ := h.at (j := 12) (it := .int) rfl; injection hu with hu; subst hu; exact hr
  have r13 : Rd σ C (.int) c13 (ats ds 13) := by obtain ⟨u, hu, hr⟩ := h.at (j := 13) (it := .int) rfl; injection hu with hu; subst hu; exact hr
  have r14 : Rd σ C (.is) c14 (ats ds 14) := by obtain ⟨u, hu, hr⟩ := h.at (j := 14) (it := .is) rfl; injection hu with hu; subst hu; exact hr
  have r15 : Rd σ C (.is) c15 (ats ds 15) := by obtain ⟨u, hu, hr⟩ := h.at (j := 15) (it := .is) rfl; injection hu with hu; subst hu; exact hr
  have r16 : Rd σ C (.text) c16 (ats ds 16) := by obtain ⟨u, hu, hr⟩ := h.at (j := 16) (it := .text) rfl; injection hu with hu; subst hu; exact hr
  have r17 : Rd σ C (.list itsVote) c17 (ats ds 17) := by obtain ⟨u, hu, hr⟩ := h.at (j := 17) (it := .list itsVote) rfl; injection hu with hu; subst hu; exact hr
  have r18 : Rd σ C (.list itsSaid) c18 (ats ds 18) := by obtain ⟨u, hu, hr⟩ := h.at (j := 18) (it := .list itsSaid) rfl; injection hu with hu; subst hu; exact hr
  have r19 : Rd σ C (.list itsMsg) c19 (ats ds 19) := by obtain ⟨u, hu, hr⟩ := h.at (j := 19) (it := .list itsMsg) rfl; injection hu with hu; subst hu; exact hr
  rw [boxK_agg hone, rAlloc_h]
  let σb := (σ.new (.cells [c0, c1, c2, c3, c4, c5, c6, c7, c8, c9, c10, c11, c12, c13, c14, c15, c16, c17, c18, c19] 29 .exact)).new (.cells [zI, zS, zF, zI, zI, zI, zI, zI, zI, zI, zS, zS, zI, zI, zF, zF, zS, zL, zL, zL] 45 .exact)
  have nb : σb.n = σ.n + 2 := rfl
  have ob0 : σb.obj σ.n = some (.cells [c0, c1, c2, c3, c4, c5, c6, c7, c8, c9, c10, c11, c12, c13, c14, c15, c16, c17, c18, c19] 29 .exact) := by show ((σ.new _).new _).obj σ.n = _; rw [obj_new_old (by rw [new_n]; omega), obj_new_same]
  have ob1 : σb.obj (σ.n + 1) = some (.cells [zI, zS, zF, zI, zI, zI, zI, zI, zI, zI, zS, zS, zI, zI, zF, zF, zS, zL, zL, zL] 45 .exact) := obj_new_same
  have xb : Ext' σ σb := (Ext'.new σ _).trans (.new _ _)
  show (rFld 3 (pt σ.n 0) fun v2 => rLdN 15 v2 σb _) = true
  rw [rFld_p, Nat.zero_add, rLdN_h ob0 (by simp)]
  have one15 : [c3, c4, c5, c6, c7, c8, c9, c10, c11, c12, c13, c14, c15, c16, c17].all oneCell = true := by simp [r3.one, r4.one, r5.one, r6.one, r7.one, r8.one, r9.one, r10.one, r11.one, r12.one, r13.one, r14.one, r15.one, r16.one, r17.one]
  revert nb ob0 ob1 xb
  show _ → _ → _ → _ → (rAlloc [zI, zI, zI, zI, zI, zI, zI, zS, zS, zI, zI, zF, zF, zS, zL] 25 σb _) = true
  generalize σb = σb
  intro nb ob0 ob1 xb
  rw [rAlloc_h]
  show rSt 15 (pt σb.n 0) (.agg ⟨[c3, c4, c5, c6, c7, c8, c9, c10, c11, c12, c13, c14, c15, c16, c17]⟩) _ _ = true
  rw [rSt_all (vs := [zI, zI, zI, zI, zI, zI, zI, zS, zS, zI, zI, zF, zF, zS, zL]) (cs := [c3, c4, c5, c6, c7, c8, c9, c10, c11, c12, c13, c14, c15, c16, c17]) obj_new_same rfl one15 15 rfl]
  generalize hσc : (σb.new (.cells [zI, zI, zI, zI, zI, zI, zI, zS, zS, zI, zI, zF, zF, zS, zL] 25 .exact)).set σb.n (.cells [c3, c4, c5, c6, c7, c8, c9, c10, c11, c12, c13, c14, c15, c16, c17] 25 .exact) = σc
  have nc : σc.n = σ.n + 3 := by rw [← hσc]; show σb.n + 1 = _; omega
  have xc : Ext' σb σc := ⟨by omega, fun k hk => by rw [← hσc, obj_set_other (by omega), obj_new_old (by omega)]⟩
  have oc0 := (xc.same σ.n (by omega)).trans ob0
  have oc1 := (xc.same (σ.n + 1) (by omega)).trans ob1
  have oc2 : σc.obj σb.n = some (.cells [c3, c4, c5, c6, c7, c8, c9, c10, c11, c12, c13, c14, c15, c16, c17] 25 .exact) := by rw [← hσc]; exact obj_set_same
  rw [nb] at oc2
  have hb1 : ∀ K, rBuild [zI, zS, zF, zI, zI, zI, zI, zI, zI, zI, zS, zS, zI, zI, zF, zF, zS, zL, zL, zL] [(0, 1, c0), (1, 1, c1), (2, 1, c2), (19, 1, c19)] K = K (.agg ⟨[c0, c1, c2, zI, zI, zI, zI, zI, zI, zI, zS, zS, zI, zI, zF, zF, zS, zL, zL, c19]⟩) := fun K => by
    rw [rBuild_one r0.one (by simp), rBuild_one r1.one (by simp), rBuild_one r2.one (by simp), rBuild_one r19.one (by simp), rBuild_none]; rfl
  have hb2 : ∀ K, rBuild [zI, zI, zI, zI, zI, zI, zI, zS, zS, zI, zI, zF, zF, zS, zL] [(0, 1, c3), (1, 1, c4), (2, 1, c5), (3, 1, c6), (4, 1, c7), (5, 1, c8), (6, 1, c9), (7, 1, c10), (8, 1, c11), (9, 1, c12), (10, 1, c13), (11, 1, c14), (12, 1, c15), (13, 1, c16)] K = K (.agg ⟨[c3, c4, c5, c6, c7, c8, c9, c10, c11, c12, c13, c14, c15, c16, zL]⟩) := fun K => by
    rw [rBuild_one r3.one (by simp), rBuild_one r4.one (by simp), rBuild_one r5.one (by simp), rBuild_one r6.one (by simp), rBuild_one r7.one (by simp), rBuild_one r8.one (by simp), rBuild_one r9.one (by simp), rBuild_one r10.one (by simp), rBuild_one r11.one (by simp), rBuild_one r12.one (by simp), rBuild_one r13.one (by simp), rBuild_one r14.one (by simp), rBuild_one r15.one (by simp), rBuild_one r16.one (by simp), rBuild_none]; rfl
  simp only [rFld_p, Nat.zero_add, nb]
  rw [rLd_h oc0 (v := c0) rfl, rLd_h oc0 (v := c1) rfl, rLd_h oc0 (v := c2) rfl, rLd_h oc0 (v := c19) rfl, hb1, rAlloc_h]
  have oneb : [c0, c1, c2, zI, zI, zI, zI, zI, zI, zI, zS, zS, zI, zI, zF, zF, zS, zL, zL, c19].all oneCell = true := by simp [r0.one, r1.one, r2.one, r19.one]; decide
  rw [rSt_all (vs := [zI, zS, zF, zI, zI, zI, zI, zI, zI, zI, zS, zS, zI, zI, zF, zF, zS, zL, zL, zL]) (cs := [c0, c1, c2, zI, zI, zI, zI, zI, zI, zI, zS, zS, zI, zI, zF, zF, zS, zL, zL, c19]) obj_new_same rfl oneb 20 rfl]
  generalize hσd : (σc.new (.cells [zI, zS, zF, zI, zI, zI, zI, zI, zI, zI, zS, zS, zI, zI, zF, zF, zS, zL, zL, zL] 45 .exact)).set σc.n (.cells [c0, c1, c2, zI, zI, zI, zI, zI, zI, zI, zS, zS, zI, zI, zF, zF, zS, zL, zL, c19] 45 .exact) = σd
  have nd : σd.n = σ.n + 4 := by rw [← hσd]; show σc.n + 1 = _; omega
  have xd : Ext' σc σd := ⟨by omega, fun k hk => by rw [← hσd, obj_set_other (by omega), obj_new_old (by omega)]⟩
  have od0 := (xd.same σ.n (by omega)).trans oc0
  have od1 := (xd.same (σ.n + 1) (by omega)).trans oc1
  have od2 := (xd.same (σ.n + 2) (by omega)).trans oc2
  have od3 : σd.obj σc.n = some (.cells [c0, c1, c2, zI, zI, zI, zI, zI, zI, zI, zS, zS, zI, zI, zF, zF, zS, zL, zL, c19] 45 .exact) := by rw [← hσd]; exact obj_set_same
  rw [nc] at od3
  simp only [nc]
  rw [rLd_h od2 (v := c3) rfl, rLd_h od2 (v := c4) rfl, rLd_h od2 (v := c5) rfl, rLd_h od2 (v := c6) rfl, rLd_h od2 (v := c7) rfl, rLd_h od2 (v := c8) rfl, rLd_h od2 (v := c9) rfl, rLd_h od2 (v := c10) rfl, rLd_h od2 (v := c11) rfl, rLd_h od2 (v := c12) rfl, rLd_h od2 (v := c13) rfl, rLd_h od2 (v := c14) rfl, rLd_h od2 (v := c15) rfl, rLd_h od2 (v := c16) rfl, hb2, rFld_p, Nat.zero_add]
  have one14 : [c3, c4, c5, c6, c7, c8, c9, c10, c11, c12, c13, c14, c15, c16, zL].all oneCell = true := by simp [r3.one, r4.one, r5.one, r6.one, r7.one, r8.one, r9.one, r10.one, r11.one, r12.one, r13.one, r14.one, r15.one, r16.one]; decide
  rw [rSt_part (o := 3) (n := 15) od3 (by simp) rfl one14]
  generalize hσe : σd.set (σ.n + 3) (.cells (splice 3 [c3, c4, c5, c6, c7, c8, c9, c10, c11, c12, c13, c14, c15, c16, zL] [c0, c1, c2, zI, zI, zI, zI, zI, zI, zI, zS, zS, zI, zI, zF, zF, zS, zL, zL, c19]) 45 .exact) = σe
  have ne : σe.n = σ.n + 4 := by rw [← hσe]; exact nd
  have oe0 : σe.obj σ.n = some (.cells [c0, c1, c2, c3, c4, c5, c6, c7, c8, c9, c10, c11, c12, c13, c14, c15, c16, c17, c18, c19] 29 .exact) := by rw [← hσe, obj_set_other (by omega)]; exact od0
  have oe1 : σe.obj (σ.n + 1) = some (.cells [zI, zS, zF, zI, zI, zI, zI, zI, zI, zI, zS, zS, zI, zI, zF, zF, zS, zL, zL, zL] 45 .exact) := by rw [← hσe, obj_set_other (by omega)]; exact od1
  have oe2 : σe.obj (σ.n + 2) = some (.cells [c3, c4, c5, c6, c7, c8, c9, c10, c11, c12, c13, c14, c15, c16, c17] 25 .exact) := by rw [← hσe, obj_set_other (by omega)]; exact od2
  have oe3 : σe.obj (σ.n + 3) = some (.cells ([c0, c1, c2, c3, c4, c5, c6, c7, c8, c9, c10, c11, c12, c13, c14, c15, c16, zL, zL, c19].set 17 zL) 45 .exact) := by rw [← hσe, obj_set_same]; rfl
  have xe : Ext' σ σe := ⟨by omega, fun k hk => by rw [← hσe, obj_set_other (by omega), xd.same k (by omega), xc.same k (by omega)]; exact xb.same k hk⟩
  let C1 : Nat → Prop := fun k => k = σ.n + 3 ∨ k = σ.n + 1 ∨ C k
  have hCb : C1 (σ.n + 3) := .inl rfl
  have hC1 : ∀ k, C1 k → k < σe.n := fun k hk => by
    rcases hk with h | h | h
    · omega
    · omega
    · have := hC k h; omega
  have F1 : ∀ {σ' : St}, Ext' σ σ' → Fr' C σ σ' C1 := fun hx => ⟨hx.n, fun k hk _ => hx.same k hk, fun k hk => by
    rcases hk with h | h | h
    · exact .inr (by omega)
    · exact .inr (by omega)
    · exact .inl h⟩
  have e17 := r17.list_es
  have e18 := r18.list_es
  refine boarded_votes (n := n) (σ1 := σe) (C := C1) (p1 := σ.n + 2) (b := σ.n + 3) (cs := [c0, c1, c2, c3, c4, c5, c6, c7, c8, c9, c10, c11, c12, c13, c14, c15, c16, zL, zL, c19]) (ws := []) (tw := 0) hCb hC1 (e17.1.fr (F1 xe)) (fun σ' f K => rLd_h (by rw [f.same (σ.n + 2) (by omega) (by show ¬ (σ.n + 2 = σ.n + 3); omega)]; exact oe2) rfl K) (by simp) hl1 (fun σ2 a2 f2 hb2 h2 => ?_) _ 0 _ σe zL (Nat.zero_add _) (by rw [X_most]; omega) (.refl _ _) oe3 (.inl ⟨rfl, by simp⟩)
  have q2 := f2.n
  have x2 : Ext' σ σ2 := f2.ext xe fun k hk => by rw [show k = σ.n + 3 from hk]; omega
  refine boarded_told (n := n) (σ1 := σ2) (C := C1) (p1 := σ.n) (b := σ.n + 3) (cs := [c0, c1, c2, c3, c4, c5, c6, c7, c8, c9, c10, c11, c12, c13, c14, c15, c16, zL, zL, c19].set 17 a2) (ws := []) (tw := 0) hCb (fun k hk => by have := hC1 k hk; omega) (e18.1.fr (F1 x2)) (fun σ' f K => rLd_h (by rw [f.same σ.n (by omega) (by show ¬ (σ.n = σ.n + 3); omega), f2.same σ.n (by omega) (by show ¬ (σ.n = σ.n + 3); omega)]; exact oe0) rfl K) (by simp) hl2 (fun σ3 a3 f3 hb3 h3 => ?_) _ 0 _ σ2 zL (Nat.zero_add _) (by rw [X_most]; omega) (.refl _ _) hb2 (.inl ⟨rfl, by simp⟩)
  have q3 := f3.n
  have x3 : Ext' σ σ3 := f3.ext x2 fun k hk => by rw [show k = σ.n + 3 from hk]; omega
  have h2' : Rd σ3 C1 (.list itsVote) a2 (.l (esOf (ats ds 17))) := h2.fr (f3.up fun k hk => by rw [show k = σ.n + 3 from hk]; exact hCb)
  have hb3 : σ3.obj (σ.n + 3) = some (.cells [c0, c1, c2, c3, c4, c5, c6, c7, c8, c9, c10, c11, c12, c13, c14, c15, c16, a2, a3, c19] 45 .exact) := hb3
  have o31 : σ3.obj (σ.n + 1) = some (.cells [zI, zS, zF, zI, zI, zI, zI, zI, zI, zI, zS, zS, zI, zI, zF, zF, zS, zL, zL, zL] 45 .exact) := by rw [f3.same _ (by omega) (by show ¬ (σ.n + 1 = σ.n + 3); omega), f2.same _ (by omega) (by show ¬ (σ.n + 1 = σ.n + 3); omega)]; exact oe1
  rw [rLdN_h hb3 (by simp)]
  show rSt 20 (pt (σ.n + 1) 0) (.agg ⟨[c0, c1, c2, c3, c4, c5, c6, c7, c8, c9, c10, c11, c12, c13, c14, c15, c16, a2, a3, c19]⟩) σ3 _ = true
  have onef : [c0, c1, c2, c3, c4, c5, c6, c7, c8, c9, c10, c11, c12, c13, c14, c15, c16, a2, a3, c19].all oneCell = true := by simp [r0.one, r1.one, r2.one, r3.one, r4.one, r5.one, r6.one, r7.one, r8.one, r9.one, r10.one, r11.one, r12.one, r13.one, r14.one, r15.one, r16.one, r19.one, h2.one, h3.one]
  rw [rSt_all (vs := [zI, zS, zF, zI, zI, zI, zI, zI, zI, zI, zS, zS, zI, zI, zF, zF, zS, zL, zL, zL]) (cs := [c0, c1, c2, c3, c4, c5, c6, c7, c8, c9, c10, c11, c12, c13, c14, c15, c16, a2, a3, c19]) o31 rfl onef 20 rfl]
  show rLdN 20 (pt (σ.n + 1) 0) _ _ = true
  rw [rLdN_h obj_set_same (by simp)]
  have x4 : Ext' σ (σ3.set (σ.n + 1) (.cells [c0, c1, c2, c3, c4, c5, c6, c7, c8, c9, c10, c11, c12, c13, c14, c15, c16, a2, a3, c19] 45 .exact)) := ⟨x3.n, fun k hk => by rw [obj_set_other (by omega)]; exact x3.same k hk⟩
  have F4 : Fr' C σ (σ3.set (σ.n + 1) (.cells [c0, c1, c2, c3, c4, c5, c6, c7, c8, c9, c10, c11, c12, c13, c14, c15, c16, a2, a3, c19] 45 .exact)) C := x4.fr C
  have G4 : Fr' C1 σ3 (σ3.set (σ.n + 1) (.cells [c0, c1, c2, c3, c4, c5, c6, c7, c8, c9, c10, c11, c12, c13, c14, c15, c16, a2, a3, c19] 45 .exact)) C := ⟨Nat.le_refl _, fun k hk hc => obj_set_other fun e => hc (.inr (.inl e)), fun k hk => .inl (.inr (.inr hk))⟩
  refine hK _ [c0, c1, c2, c3, c4, c5, c6, c7, c8, c9, c10, c11, c12, c13, c14, c15, c16, a2, a3, c19] x4 (RdA.of rfl hdl fun j it u a b => ?_)
  match j, a, b with
  | 0, a, b => injection a with a; injection b with b; subst a b; exact r0.fr F4
  | 1, a, b => injection a with a; injection b with b; subst a b; exact r1.fr F4
  | 2, a, b => injection a with a; injection b with b; subst a b; exact r2.fr F4
  | 3, a, b => injection a with a; injection b with b; subst a b; exact r3.fr F4
  | 4, a, b => injection a with a; injection b with b; subst a b; exact r4.fr F4
  | 5, a, b => injection a with a; injection b with b; subst a b; exact r5.fr F4
  | 6, a, b => injection a with a; injection b with b; subst a b; exact r6.fr F4
  | 7, a, b => injection a with a; injection b with b; subst a b; exact r7.fr F4
  | 8, a, b => injection a with a; injection b with b; subst a b; exact r8.fr F4
  | 9, a, b => injection a with a; injection b with b; subst a b; exact r9.fr F4
  | 10, a, b => injection a with a; injection b with b; subst a b; exact r10.fr F4
  | 11, a, b => injection a with a; injection b with b; subst a b; exact r11.fr F4
  | 12, a, b => injection a with a; injection b with b; subst a b; exact r12.fr F4
  | 13, a, b => injection a with a; injection b with b; subst a b; exact r13.fr F4
  | 14, a, b => injection a with a; injection b with b; subst a b; exact r14.fr F4
  | 15, a, b => injection a with a; injection b with b; subst a b; exact r15.fr F4
  | 16, a, b => injection a with a; injection b with b; subst a b; exact r16.fr F4
  | 17, a, b => injection a with a; injection b with b; subst a b; exact by rw [e17.2]; exact h2'.fr G4
  | 18, a, b => injection a with a; injection b with b; subst a b; exact by rw [e18.2]; exact h3.fr G4
  | 19, a, b => injection a with a; injection b with b; subst a b; exact r19.fr F4
  | j + 20, a, _ => cases a

structure BackB (ds : List D) : Prop where
  l19 : (esOf (ats ds 19)).length ≤ 2000000
  l20 : (esOf (ats ds 20)).length ≤ 2000000
  l26 : (esOf (ats ds 26)).length ≤ 2000000
  i26 : ∀ x ∈ esOf (ats ds 26), (esOf (ats x 4)).length ≤ 2000000 ∧ (esOf (ats x 5)).length ≤ 2000000
  l27 : (esOf (ats ds 27)).length ≤ 2000000
  l29 : (esOf (ats ds 29)).length ≤ 2000000
  i29 : ∀ x ∈ esOf (ats ds 29), (esOf (ats x 4)).length ≤ 2000000 ∧ (esOf (ats x 5)).length ≤ 2000000
set_option maxRecDepth 100000 in
theorem back_s (hM : 2000000 < most) {n : Nat} {σ : St} {C : Nat → Prop} {cs : List Value} {ds : List D} {K : VK} (hC : ∀ i, C i → i < σ.n) (h : RdA σ C itsAll cs ds) (hB : BackB ds)
    (hK : ∀ σ' cs', Ext' σ σ' → RdA σ' C itsAll cs' ds → K (.agg ⟨cs'⟩) σ' = true) : (X most (n + 2)).C c_law25_back [.agg ⟨cs⟩] σ K = true := by
  rw [X_call (by rfl), f_law25_back]
  unfold r_law25_back
  have hdl : ds.length = 30 := h.dlen
  have hone := List.all_eq_true.2 h.one
  obtain ⟨c0, c1, c2, c3, c4, c5, c6, c7, c8, c9, c10, c11, c12, c13, c14, c15, c16, c17, c18, c19, c20, c21, c22, c23, c24, c25, c26, c27, c28, c29, rfl⟩ := list30 (show cs.length = 30 from h.len)
  have r0 : Rd σ C (.int) c0 (ats ds 0) := by obtain ⟨u, hu, hr⟩ := h.at (j := 0) (it := .int) rfl; injection hu with hu; subst hu; exact hr
  have r1 : Rd σ C (.list itsText) c1 (ats ds 1) := by obtain ⟨u, hu, hr⟩ := h.at (j := 1) (it := .list itsText) rfl; injection hu with hu; subst hu; exact hr
  have r2 : Rd σ C (.int) c2 (ats ds 2) := by obtain ⟨u, hu, hr⟩ := h.at (j := 2) (it := .int) rfl; injection hu with hu; subst hu; exact hr
  have r3 : Rd σ C (.text) c3 (ats ds 3) := by obtain ⟨u, hu, hr⟩ := h.at (j := 3) (it := .text) rfl; injection hu with hu; subst hu; exact hr
  have r4 : Rd σ C (.is) c4 (ats ds 4) := by obtain ⟨u, hu, hr⟩ := h.at (j := 4) (it := .is) rfl; injection hu with hu; subst hu; exact hr
  have r5 : Rd σ C (.int) c5 (ats ds 5) := by obtain ⟨u, hu, hr⟩ := h.at (j := 5) (it := .int) rfl; injection hu with hu; subst hu; exact hr
  have r6 : Rd σ C (.int) c6 (ats ds 6) := by obtain ⟨u, hu, hr⟩ := h.at (j := 6) (it := .int) rfl; injection hu with hu; subst hu; exact hr
  have r7 : Rd σ C (.int) c7 (ats ds 7) := by obtain ⟨u, hu, hr⟩ := h.at (j := 7) (it := .int) rfl; injection hu with hu; subst hu; exact hr
  have r8 : Rd σ C (.int) c8 (ats ds 8) := by obtain ⟨u, hu, hr⟩ := h.at (j := 8) (it := .int) rfl; injection hu with hu; subst hu; exact hr
  have r9 : Rd σ C (.int) c9 (ats ds 9) := by obtain ⟨u, hu, hr⟩ := h.at (j := 9) (it := .int) rfl; injection hu with hu; subst hu; exact hr
  have r10 : Rd σ C (.int) c10 (ats ds 10) := by obtain ⟨u, hu, hr⟩ := h.at (j := 10) (it := .int) rfl; injection hu with hu; subst hu; exact hr
  have r11 : Rd σ C (.int) c11 (ats ds 11) := by obtain ⟨u, hu, hr⟩ := h.at (j := 11) (it := .int) rfl; injection hu with hu; subst hu; exact hr
  have r12 : Rd σ C (.text) c12 (ats ds 12) := by obtain ⟨u, hu, hr⟩ := h.at (j := 12) (it := .text) rfl; injection hu with hu; subst hu; exact hr
  have r13 : Rd σ C (.text) c13 (ats ds 13) := by obtain ⟨u, hu, hr⟩ := h.at (j := 13) (it := .text) rfl; injection hu with hu; subst hu; exact hr
  have r14 : Rd σ C (.int) c14 (ats ds 14) := by obtain ⟨u, hu, hr⟩ := h.at (j := 14) (it := .int) rfl; injection hu with hu; subst hu; exact hr
  have r15 : Rd σ C (.int) c15 (ats ds 15) := by obtain ⟨u, hu, hr⟩ := h.at (j := 15) (it := .int) rfl; injection hu with hu; subst hu; exact hr
  have r16 : Rd σ C (.is) c16 (ats ds 16) := by obtain ⟨u, hu, hr⟩ := h.at (j := 16) (it := .is) rfl; injection hu with hu; subst hu; exact hr
  have r17 : Rd σ C (.is) c17 (ats ds 17) := by obtain ⟨u, hu, hr⟩ := h.at (j := 17) (it := .is) rfl; injection hu with hu; subst hu; exact hr
  have r18 : Rd σ C (.text) c18 (ats ds 18) := by obtain ⟨u, hu, hr⟩ := h.at (j := 18) (it := .text) rfl; injection hu with hu; subst hu; exact hr
  have r19 : Rd σ C (.list itsVote) c19 (ats ds 19) := by obtain ⟨u, hu, hr⟩ := h.at (j := 19) (it := .list itsVote) rfl; injection hu with hu; subst hu; exact hr
  have r20 : Rd σ C (.list itsSaid) c20 (ats ds 20) := by obtain ⟨u, hu, hr⟩ := h.at (j := 20) (it := .list itsSaid) rfl; injection hu with hu; subst hu; exact hr
  have r21 : Rd σ C (.list itsMsg) c21 (ats ds 21) := by obtain ⟨u, hu, hr⟩ := h.at (j := 21) (it := .list itsMsg) rfl; injection hu with hu; subst hu; exact hr
  have r22 : Rd σ C (.list itsText) c22 (ats ds 22) := by obtain ⟨u, hu, hr⟩ := h.at (j := 22) (it := .list itsText) rfl; injection hu with hu; subst hu; exact hr
  have r23 : Rd σ C (.list itsPair) c23 (ats ds 23) := by obtain ⟨u, hu, hr⟩ := h.at (j := 23) (it := .list itsPair) rfl; injection hu with hu; subst hu; exact hr
  have r24 : Rd σ C (.list itsPair) c24 (ats ds 24) := by obtain ⟨u, hu, hr⟩ := h.at (j := 24) (it := .list itsPair) rfl; injection hu with hu; subst hu; exact hr
  have r25 : Rd σ C (.is) c25 (ats ds 25) := by obtain ⟨u, hu, hr⟩ := h.at (j := 25) (it := .is) rfl; injection hu with hu; subst hu; exact hr
  have r26 : Rd σ C (.list itsDealing) c26 (ats ds 26) := by obtain ⟨u, hu, hr⟩ := h.at (j := 26) (it := .list itsDealing) rfl; injection hu with hu; subst hu; exact hr
  have r27 : Rd σ C (.list itsDone) c27 (ats ds 27) := by obtain ⟨u, hu, hr⟩ := h.at (j := 27) (it := .list itsDone) rfl; injection hu with hu; subst hu; exact hr
  have r28 : Rd σ C (.list itsMsg) c28 (ats ds 28) := by obtain ⟨u, hu, hr⟩ := h.at (j := 28) (it := .list itsMsg) rfl; injection hu with hu; subst hu; exact hr
  have r29 : Rd σ C (.list itsDealing) c29 (ats ds 29) := by obtain ⟨u, hu, hr⟩ := h.at (j := 29) (it := .list itsDealing) rfl; injection hu with hu; subst hu; exact hr
  have hm : RdA σ C itsRows [c2, c3, c4, c5, c6, c7, c8, c9, c10, c11, c12, c13, c14, c15, c16, c17, c18, c19, c20, c21] ((ds.drop 2).take 20) := by
    refine RdA.of rfl (by rw [List.length_take, List.length_drop]; show min 20 (ds.length - 2) = 20; omega) fun j it u a b => ?_
    match j, a, b with
    | 0, a, b => injection a with a; injection b with b; subst a b; rw [ats_part _ _ _ _ (by omega)]; exact r2
    | 1, a, b => injection a with a; injection b with b; subst a b; rw [ats_part _ _ _ _ (by omega)]; exact r3
    | 2, a, b => injection a with a; injection b with b; subst a b; rw [ats_part _ _ _ _ (by omega)]; exact r4
    | 3, a, b => injection a with a; injection b with b; subst a b; rw [ats_part _ _ _ _ (by omega)]; exact r5
    | 4, a, b => injection a with a; injection b with b; subst a b; rw [ats_part _ _ _ _ (by omega)]; exact r6
    | 5, a, b => injection a with a; injection b with b; subst a b; rw [ats_part _ _ _ _ (by omega)]; exact r7
    | 6, a, b => injection a with a; injection b with b; subst a b; rw [ats_part _ _ _ _ (by omega)]; exact r8
    | 7, a, b => injection a with a; injection b with b; subst a b; rw [ats_part _ _ _ _ (by omega)]; exact r9
    | 8, a, b => injection a with a; injection b with b; subst a b; rw [ats_part _ _ _ _ (by omega)]; exact r10
    | 9, a, b => injection a with a; injection b with b; subst a b; rw [ats_part _ _ _ _ (by omega)]; exact r11
    | 10, a, b => injection a with a; injection b with b; subst a b; rw [ats_part _ _ _ _ (by omega)]; exact r12
    | 11, a, b => injection a with a; injection b with b; subst a b; rw [ats_part _ _ _ _ (by omega)]; exact r13
    | 12, a, b => injection a with a; injection b with b; subst a b; rw [ats_part _ _ _ _ (by omega)]; exact r14
    | 13, a, b => injection a with a; injection b with b; subst a b; rw [ats_part _ _ _ _ (by omega)]; exact r15
    | 14, a, b => injection a with a; injection b with b; subst a b; rw [ats_part _ _ _ _ (by omega)]; exact r16
    | 15, a, b => injection a with a; injection b with b; subst a b; rw [ats_part _ _ _ _ (by omega)]; exact r17
    | 16, a, b => injection a with a; injection b with b; subst a b; rw [ats_part _ _ _ _ (by omega)]; exact r18
    | 17, a, b => injection a with a; injection b with b; subst a b; rw [ats_part _ _ _ _ (by omega)]; exact r19
    | 18, a, b => injection a with a; injection b with b; subst a b; rw [ats_part _ _ _ _ (by omega)]; exact r20
    | 19, a, b => injection a with a; injection b with b; subst a b; rw [ats_part _ _ _ _ (by omega)]; exact r21
    | j + 20, a, _ => cases a
  have sm := hm.sameV
  have s0 := r0.sameV'
  have s1 := r1.sameV'
  have s22 := r22.sameV'
  have s23 := r23.sameV'
  have s24 := r24.sameV'
  have s25 := r25.sameV'
  have s26 := r26.sameV'
  have s28 := r28.sameV'
  have s29 := r29.sameV'
  rw [boxK_agg hone, rAlloc_h]
  let σb := (σ.new (.cells [c0, c1, c2, c3, c4, c5, c6, c7, c8, c9, c10, c11, c12, c13, c14, c15, c16, c17, c18, c19, c20, c21, c22, c23, c24, c25, c26, c27, c28, c29] 34 .exact)).new (.cells [zI, zL, zI, zS, zF, zI, zI, zI, zI, zI, zI, zI, zS, zS, zI, zI, zF, zF, zS, zL, zL, zL, zL, zL, zL, zF, zL, zL, zL, zL] 49 .exact)
  have nb : σb.n = σ.n + 2 := rfl
  have ob0 : σb.obj σ.n = some (.cells [c0, c1, c2, c3, c4, c5, c6, c7, c8, c9, c10, c11, c12, c13, c14, c15, c16, c17, c18, c19, c20, c21, c22, c23, c24, c25, c26, c27, c28, c29] 34 .exact) := by show ((σ.new _).new _).obj σ.n = _; rw [obj_new_old (by rw [new_n]; omega), obj_new_same]
  have ob1 : σb.obj (σ.n + 1) = some (.cells [zI, zL, zI, zS, zF, zI, zI, zI, zI, zI, zI, zI, zS, zS, zI, zI, zF, zF, zS, zL, zL, zL, zL, zL, zL, zF, zL, zL, zL, zL] 49 .exact) := obj_new_same
  have xb : Ext' σ σb := (Ext'.new σ _).trans (.new _ _)
  have ld : ∀ σ' : St, σ'.obj σ.n = some (.cells [c0, c1, c2, c3, c4, c5, c6, c7, c8, c9, c10, c11, c12, c13, c14, c15, c16, c17, c18, c19, c20, c21, c22, c23, c24, c25, c26, c27, c28, c29] 34 .exact) → ∀ K, rLd (pt σ.n 0) σ' K = K c0 σ' ∧ rLd (pt σ.n 1) σ' K = K c1 σ' ∧ rLd (pt σ.n 22) σ' K = K c22 σ' ∧ rLd (pt σ.n 23) σ' K = K c23 σ' ∧ rLd (pt σ.n 24) σ' K = K c24 σ' ∧ rLd (pt σ.n 25) σ' K = K c25 σ' ∧ rLd (pt σ.n 26) σ' K = K c26 σ' ∧ rLd (pt σ.n 28) σ' K = K c28 σ' ∧ rLd (pt σ.n 29) σ' K = K c29 σ' ∧ rLdN 20 (pt σ.n 2) σ' K = K (.agg ⟨[c2, c3, c4, c5, c6, c7, c8, c9, c10, c11, c12, c13, c14, c15, c16, c17, c18, c19, c20, c21]⟩) σ' := fun σ' o K =>
    ⟨rLd_h o rfl K, rLd_h o rfl K, rLd_h o rfl K, rLd_h o rfl K, rLd_h o rfl K, rLd_h o rfl K, rLd_h o rfl K, rLd_h o rfl K, rLd_h o rfl K, rLdN_h o (by simp) K⟩
  show (rFld 0 (pt σ.n 0) fun v2 => rLd v2 σb _) = true
  have L1 := ld σb ob0
  simp only [rFld_p, Nat.zero_add, L1, rSame_v s0, rSame_v s1, rSame_v s22, rSame_v s23, rSame_v s24, rSame_v s25, rSame_v s26, rSame_v s28, rSame_v s29, rSame_v sm]
  show (bcase (rAlloc [zI, zL, zI, zS, zF, zI, zI, zI, zI, zI, zI, zI, zS, zS, zI, zI, zF, zF, zS, zL, zL, zL, zL, zL, zL, zF, zL, zL, zL, zL] 49 σb _) (_) false) = true
  rw [rAlloc_h, bcase_t]
  revert nb ob0 ob1 xb
  show _ → _ → _ → _ → ((X most (n + 1)).C c_law25_boarded [.agg ⟨[c2, c3, c4, c5, c6, c7, c8, c9, c10, c11, c12, c13, c14, c15, c16, c17, c18, c19, c20, c21]⟩] σb _) = true
  clear L1
  generalize σb = σb
  intro nb ob0 ob1 xb
  let C0 : Nat → Prop := fun k => k = σ.n + 1 ∨ C k
  have hC1 : ∀ k, C0 k → k < σ.n + 2 := fun k hk => by
    rcases hk with h | h
    · omega
    · have := hC k h; omega
  have F0 : ∀ {σ' : St}, Ext' σ σ' → Fr' C σ σ' C0 := fun hx => ⟨hx.n, fun k hk _ => hx.same k hk, fun k hk => by
    rcases hk with h | h
    · exact .inr (by omega)
    · exact .inl h⟩
  refine boarded_s (n := n) (C := C0) hM (fun k hk => by have := hC1 k hk; omega) (hm.fr (F0 xb)) (by rw [ats_part _ _ _ _ (by omega)]; exact hB.l19) (by rw [ats_part _ _ _ _ (by omega)]; exact hB.l20) fun σ2 ws x2 hw => ?_
  have q2 := x2.n
  have o20 := (x2.same σ.n (by omega)).trans ob0
  have L2 := ld σ2 o20
  simp only [L2, rSame_v s0, rSame_v s1, rSame_v s22, rSame_v s23, rSame_v s24, rSame_v s25, rSame_v s26, rSame_v s28, rSame_v s29]
  show (bcase (rAlloc [zI, zL, zI, zS, zF, zI, zI, zI, zI, zI, zI, zI, zS, zS, zI, zI, zF, zF, zS, zL, zL, zL, zL, zL, zL, zF, zL, zL, zL, zL] 49 σ2 _) (_) false) = true
  rw [rAlloc_h, bcase_t]
  have e26 := r26.list_es
  have e27 := r27.list_es
  have e29 := r29.list_es
  refine dealings_s (n := n) (C := C0) hM (fun k hk => by have := hC1 k hk; omega) (e26.1.fr (F0 (xb.trans x2))) hB.l26 hB.i26 fun σ3 a26 x3 h26 => ?_
  have q3 := x3.n
  have o30 := (x3.same σ.n (by omega)).trans o20
  have L3 := ld σ3 o30
  simp only [L3, rSame_v s0, rSame_v s1, rSame_v s22, rSame_v s23, rSame_v s24, rSame_v s25, rSame_v s28, rSame_v s29]
  show (bcase (rAlloc [zI, zL, zI, zS, zF, zI, zI, zI, zI, zI, zI, zI, zS, zS, zI, zI, zF, zF, zS, zL, zL, zL, zL, zL, zL, zF, zL, zL, zL, zL] 49 σ3 _) (_) false) = true
  rw [rAlloc_h, bcase_t]
  refine dealings_s (n := n) (C := C0) hM (fun k hk => by have := hC1 k hk; omega) (e29.1.fr (F0 ((xb.trans x2).trans x3))) hB.l29 hB.i29 fun σ4 a29 x4 h29 => ?_
  have q4 := x4.n
  have o40 := (x4.same σ.n (by omega)).trans o30
  have o41 : σ4.obj (σ.n + 1) = some (.cells [zI, zL, zI, zS, zF, zI, zI, zI, zI, zI, zI, zI, zS, zS, zI, zI, zF, zF, zS, zL, zL, zL, zL, zL, zL, zF, zL, zL, zL, zL] 49 .exact) := by rw [x4.same _ (by omega), x3.same _ (by omega), x2.same _ (by omega)]; exact ob1
  have xt : Ext' σ σ4 := ((xb.trans x2).trans x3).trans x4
  have hwone := List.all_eq_true.2 hw.one
  obtain ⟨w0, w1, w2, w3, w4, w5, w6, w7, w8, w9, w10, w11, w12, w13, w14, w15, w16, w17, w18, w19, rfl⟩ := list20 (show ws.length = 20 from hw.len)
  have hbd : ∀ K, rBuild [zI, zL, zI, zS, zF, zI, zI, zI, zI, zI, zI, zI, zS, zS, zI, zI, zF, zF, zS, zL, zL, zL, zL, zL, zL, zF, zL, zL, zL, zL] [(0, 1, c0), (1, 1, c1), (2, 20, .agg ⟨[w0, w1, w2, w3, w4, w5, w6, w7, w8, w9, w10, w11, w12, w13, w14, w15, w16, w17, w18, w19]⟩), (22, 1, c22), (23, 1, c23), (24, 1, c24), (25, 1, c25), (26, 1, a26), (28, 1, c28), (29, 1, a29)] K = K (.agg ⟨[c0, c1, w0, w1, w2, w3, w4, w5, w6, w7, w8, w9, w10, w11, w12, w13, w14, w15, w16, w17, w18, w19, c22, c23, c24, c25, a26, zL, c28, a29]⟩) := fun K => by
    rw [rBuild_one r0.one (by simp), rBuild_one r1.one (by simp), rBuild_agg (n := 20) hwone rfl (by simp)]
    rw [show splice 2 [w0, w1, w2, w3, w4, w5, w6, w7, w8, w9, w10, w11, w12, w13, w14, w15, w16, w17, w18, w19] (([zI, zL, zI, zS, zF, zI, zI, zI, zI, zI, zI, zI, zS, zS, zI, zI, zF, zF, zS, zL, zL, zL, zL, zL, zL, zF, zL, zL, zL, zL].set 0 c0).set 1 c1) = [c0, c1, w0, w1, w2, w3, w4, w5, w6, w7, w8, w9, w10, w11, w12, w13, w14, w15, w16, w17, w18, w19, zL, zL, zL, zF, zL, zL, zL, zL] from rfl]
    rw [rBuild_one r22.one (by simp), rBuild_one r23.one (by simp), rBuild_one r24.one (by simp), rBuild_one r25.one (by simp), rBuild_one h26.one (by simp), rBuild_one r28.one (by simp), rBuild_one h29.one (by simp), rBuild_none]
    rfl
  have L4 := ld σ4 o40
  simp only [L4, rSame_v s0, rSame_v s1, rSame_v s22, rSame_v s23, rSame_v s24, rSame_v s25, rSame_v s28, hbd]
  show (bcase (rAlloc [zI, zL, zI, zS, zF, zI, zI, zI, zI, zI, zI, zI, zS, zS, zI, zI, zF, zF, zS, zL, zL, zL, zL, zL, zL, zF, zL, zL, zL, zL] 49 σ4 _) (_) false) = true
  rw [rAlloc_h, bcase_t]
  rw [rAlloc_h]
  have wone : ∀ v ∈ [w0, w1, w2, w3, w4, w5, w6, w7, w8, w9, w10, w11, w12, w13, w14, w15, w16, w17, w18, w19], oneCell v = true := hw.one
  have onef : [c0, c1, w0, w1, w2, w3, w4, w5, w6, w7, w8, w9, w10, w11, w12, w13, w14, w15, w16, w17, w18, w19, c22, c23, c24, c25, a26, zL, c28, a29].all oneCell = true := by
    refine List.all_eq_true.2 fun v hv => ?_
    have : v ∈ [c0, c1] ∨ v ∈ [w0, w1, w2, w3, w4, w5, w6, w7, w8, w9, w10, w11, w12, w13, w14, w15, w16, w17, w18, w19] ∨ v ∈ [c22, c23, c24, c25, a26, .slice none 0 0, c28, a29] := by
      rw [show [c0, c1, w0, w1, w2, w3, w4, w5, w6, w7, w8, w9, w10, w11, w12, w13, w14, w15, w16, w17, w18, w19, c22, c23, c24, c25, a26, zL, c28, a29] = [c0, c1] ++ ([w0, w1, w2, w3, w4, w5, w6, w7, w8, w9, w10, w11, w12, w13, w14, w15, w16, w17, w18, w19] ++ [c22, c23, c24, c25, a26, .slice none 0 0, c28, a29]) from rfl] at hv
      rcases List.mem_append.1 hv with hv | hv
      · exact .inl hv
      · exact .inr (List.mem_append.1 hv)
    rcases this with hv | hv | hv
    · have : [c0, c1].all oneCell = true := by simp [r0.one, r1.one]
      exact List.all_eq_true.1 this v hv
    · exact wone v hv
    · have : [c22, c23, c24, c25, a26, .slice none 0 0, c28, a29].all oneCell = true := by simp [r22.one, r23.one, r24.one, r25.one, h26.one, r28.one, h29.one]; rfl
      exact List.all_eq_true.1 this v hv
  rw [rSt_all (vs := [zI, zL, zI, zS, zF, zI, zI, zI, zI, zI, zI, zI, zS, zS, zI, zI, zF, zF, zS, zL, zL, zL, zL, zL, zL, zF, zL, zL, zL, zL]) (cs := [c0, c1, w0, w1, w2, w3, w4, w5, w6, w7, w8, w9, w10, w11, w12, w13, w14, w15, w16, w17, w18, w19, c22, c23, c24, c25, a26, zL, c28, a29]) obj_new_same rfl onef 30 rfl]
  generalize hσ5 : (σ4.new (.cells [zI, zL, zI, zS, zF, zI, zI, zI, zI, zI, zI, zI, zS, zS, zI, zI, zF, zF, zS, zL, zL, zL, zL, zL, zL, zF, zL, zL, zL, zL] 49 .exact)).set σ4.n (.cells [c0, c1, w0, w1, w2, w3, w4, w5, w6, w7, w8, w9, w10, w11, w12, w13, w14, w15, w16, w17, w18, w19, c22, c23, c24, c25, a26, zL, c28, a29] 49 .exact) = σ5
  have n5 : σ5.n = σ4.n + 1 := by rw [← hσ5]; rfl
  have x5 : Ext' σ4 σ5 := ⟨by omega, fun k hk => by rw [← hσ5, obj_set_other (by omega), obj_new_old (by omega)]⟩
  have o5 : σ5.obj σ4.n = some (.cells ([c0, c1, w0, w1, w2, w3, w4, w5, w6, w7, w8, w9, w10, w11, w12, w13, w14, w15, w16, w17, w18, w19, c22, c23, c24, c25, a26, zL, c28, a29].set 27 zL) 49 .exact) := by rw [← hσ5]; exact obj_set_same
  have x5t : Ext' σ σ5 := xt.trans x5
  let C1 : Nat → Prop := fun k => k = σ4.n ∨ k = σ.n + 1 ∨ C k
  have hCb : C1 σ4.n := .inl rfl
  have hC5 : ∀ k, C1 k → k < σ5.n := fun k hk => by
    rcases hk with h | h | h
    · omega
    · omega
    · have := hC k h; omega
  have F1 : ∀ {σ' : St}, Ext' σ σ' → Fr' C σ σ' C1 := fun hx => ⟨hx.n, fun k hk _ => hx.same k hk, fun k hk => by
    rcases hk with h | h | h
    · exact .inr (by omega)
    · exact .inr (by omega)
    · exact .inl h⟩
  refine back_dones (n := n + 1) (σ1 := σ5) (C := C1) (p1 := σ.n) (b := σ4.n) (cs := [c0, c1, w0, w1, w2, w3, w4, w5, w6, w7, w8, w9, w10, w11, w12, w13, w14, w15, w16, w17, w18, w19, c22, c23, c24, c25, a26, zL, c28, a29]) (ws := []) (tw := 0) hCb hC5 (e27.1.fr (F1 x5t)) (fun σ' f K => rLd_h (by rw [f.same σ.n (by omega) (by show ¬ (σ.n = σ4.n); omega), x5.same σ.n (by omega)]; exact o40) rfl K) (by simp) hB.l27 (fun σ6 a27 f6 hb6 h27 => ?_) _ 0 _ σ5 zL (Nat.zero_add _) (by have := hB.l27; rw [X_most]; omega) (.refl _ _) o5 (.inl ⟨rfl, by simp⟩)
  have q6 := f6.n
  have hb6 : σ6.obj σ4.n = some (.cells [c0, c1, w0, w1, w2, w3, w4, w5, w6, w7, w8, w9, w10, w11, w12, w13, w14, w15, w16, w17, w18, w19, c22, c23, c24, c25, a26, a27, c28, a29] 49 .exact) := hb6
  have o61 : σ6.obj (σ.n + 1) = some (.cells [zI, zL, zI, zS, zF, zI, zI, zI, zI, zI, zI, zI, zS, zS, zI, zI, zF, zF, zS, zL, zL, zL, zL, zL, zL, zF, zL, zL, zL, zL] 49 .exact) := by rw [f6.same _ (by omega) (by show ¬ (σ.n + 1 = σ4.n); omega), x5.same _ (by omega)]; exact o41
  have onef2 : [c0, c1, w0, w1, w2, w3, w4, w5, w6, w7, w8, w9, w10, w11, w12, w13, w14, w15, w16, w17, w18, w19, c22, c23, c24, c25, a26, a27, c28, a29].all oneCell = true := by
    refine List.all_eq_true.2 fun v hv => ?_
    have hv : v ∈ [c0, c1, w0, w1, w2, w3, w4, w5, w6, w7, w8, w9, w10, w11, w12, w13, w14, w15, w16, w17, w18, w19, c22, c23, c24, c25, a26, zL, c28, a29].set 27 a27 := hv
    rcases List.mem_or_eq_of_mem_set hv with hv | hv
    · exact List.all_eq_true.1 onef v hv
    · rw [hv]; exact h27.one
  have x6 : Ext' σ4 σ6 := f6.ext x5 fun k hk => by rw [show k = σ4.n from hk]; exact Nat.le_refl _
  have x6t : Ext' σ σ6 := xt.trans x6
  rw [rLdN_h hb6 (by simp)]
  show rSt 30 (pt (σ.n + 1) 0) (.agg ⟨[c0, c1, w0, w1, w2, w3, w4, w5, w6, w7, w8, w9, w10, w11, w12, w13, w14, w15, w16, w17, w18, w19, c22, c23, c24, c25, a26, a27, c28, a29]⟩) σ6 _ = true
  rw [rSt_all (vs := [zI, zL, zI, zS, zF, zI, zI, zI, zI, zI, zI, zI, zS, zS, zI, zI, zF, zF, zS, zL, zL, zL, zL, zL, zL, zF, zL, zL, zL, zL]) (cs := [c0, c1, w0, w1, w2, w3, w4, w5, w6, w7, w8, w9, w10, w11, w12, w13, w14, w15, w16, w17, w18, w19, c22, c23, c24, c25, a26, a27, c28, a29]) o61 rfl onef2 30 rfl]
  show rLdN 30 (pt (σ.n + 1) 0) _ _ = true
  rw [rLdN_h obj_set_same (by simp)]
  have H7 : ∀ {σ' : St}, σ.n + 2 ≤ σ'.n → Ext' σ' σ6 → Fr' C0 σ' (σ6.set (σ.n + 1) (.cells [c0, c1, w0, w1, w2, w3, w4, w5, w6, w7, w8, w9, w10, w11, w12, w13, w14, w15, w16, w17, w18, w19, c22, c23, c24, c25, a26, a27, c28, a29] 49 .exact)) C := fun h1 h2 => ⟨h2.n, fun k hk hc => by rw [obj_set_other fun e => hc (.inl e)]; exact h2.same k hk, fun k hk => .inl (.inr hk)⟩
  have hw7 := hw.fr (H7 (by omega) ((x3.trans x4).trans x6))
  have h26' := h26.fr (H7 (by omega) (x4.trans x6))
  have h29' := h29.fr (H7 (by omega) x6)
  have x7 : Ext' σ (σ6.set (σ.n + 1) (.cells [c0, c1, w0, w1, w2, w3, w4, w5, w6, w7, w8, w9, w10, w11, w12, w13, w14, w15, w16, w17, w18, w19, c22, c23, c24, c25, a26, a27, c28, a29] 49 .exact)) := ⟨x6t.n, fun k hk => by rw [obj_set_other (by omega)]; exact x6t.same k hk⟩
  have F7 : Fr' C σ (σ6.set (σ.n + 1) (.cells [c0, c1, w0, w1, w2, w3, w4, w5, w6, w7, w8, w9, w10, w11, w12, w13, w14, w15, w16, w17, w18, w19, c22, c23, c24, c25, a26, a27, c28, a29] 49 .exact)) C := x7.fr C
  have G7 : Fr' C1 σ6 (σ6.set (σ.n + 1) (.cells [c0, c1, w0, w1, w2, w3, w4, w5, w6, w7, w8, w9, w10, w11, w12, w13, w14, w15, w16, w17, w18, w19, c22, c23, c24, c25, a26, a27, c28, a29] 49 .exact)) C := ⟨Nat.le_refl _, fun k hk hc => obj_set_other fun e => hc (.inr (.inl e)), fun k hk => .inl (.inr (.inr hk))⟩
  refine hK _ [c0, c1, w0, w1, w2, w3, w4, w5, w6, w7, w8, w9, w10, w11, w12, w13, w14, w15, w16, w17, w18, w19, c22, c23, c24, c25, a26, a27, c28, a29] x7 (RdA.of rfl hdl fun j it u a b => ?_)
  match j, a, b with
  | 0, a, b => injection a with a; injection b with b; subst a b; exact r0.fr F7
  | 1, a, b => injection a with a; injection b with b; subst a b; exact r1.fr F7
  | 2, a, b => injection a with a; injection b with b; subst a b; exact by rw [← ats_part ds 2 20 0 (by omega)]; obtain ⟨u, hu, hr⟩ := hw7.at (j := 0) (it := .int) rfl; injection hu with hu; subst hu; exact hr
  | 3, a, b => injection a with a; injection b with b; subst a b; exact by rw [← ats_part ds 2 20 1 (by omega)]; obtain ⟨u, hu, hr⟩ := hw7.at (j := 1) (it := .text) rfl; injection hu with hu; subst hu; exact hr
  | 4, a, b => injection a with a; injection b with b; subst a b; exact by rw [← ats_part ds 2 20 2 (by omega)]; obtain ⟨u, hu, hr⟩ := hw7.at (j := 2) (it := .is) rfl; injection hu with hu; subst hu; exact hr
  | 5, a, b => injection a with a; injection b with b; subst a b; exact by rw [← ats_part ds 2 20 3 (by omega)]; obtain ⟨u, hu, hr⟩ := hw7.at (j := 3) (it := .int) rfl; injection hu with hu; subst hu; exact hr
  | 6, a, b => injection a with a; injection b with b; subst a b; exact by rw [← ats_part ds 2 20 4 (by omega)]; obtain ⟨u, hu, hr⟩ := hw7.at (j := 4) (it := .int) rfl; injection hu with hu; subst hu; exact hr
  | 7, a, b => injection a with a; injection b with b; subst a b; exact by rw [← ats_part ds 2 20 5 (by omega)]; obtain ⟨u, hu, hr⟩ := hw7.at (j := 5) (it := .int) rfl; injection hu with hu; subst hu; exact hr
  | 8, a, b => injection a with a; injection b with b; subst a b; exact by rw [← ats_part ds 2 20 6 (by omega)]; obtain ⟨u, hu, hr⟩ := hw7.at (j := 6) (it := .int) rfl; injection hu with hu; subst hu; exact hr
  | 9, a, b => injection a with a; injection b with b; subst a b; exact by rw [← ats_part ds 2 20 7 (by omega)]; obtain ⟨u, hu, hr⟩ := hw7.at (j := 7) (it := .int) rfl; injection hu with hu; subst hu; exact hr
  | 10, a, b => injection a with a; injection b with b; subst a b; exact by rw [← ats_part ds 2 20 8 (by omega)]; obtain ⟨u, hu, hr⟩ := hw7.at (j := 8) (it := .int) rfl; injection hu with hu; subst hu; exact hr
  | 11, a, b => injection a with a; injection b with b; subst a b; exact by rw [← ats_part ds 2 20 9 (by omega)]; obtain ⟨u, hu, hr⟩ := hw7.at (j := 9) (it := .int) rfl; injection hu with hu; subst hu; exact hr
  | 12, a, b => injection a with a; injection b with b; subst a b; exact by rw [← ats_part ds 2 20 10 (by omega)]; obtain ⟨u, hu, hr⟩ := hw7.at (j := 10) (it := .text) rfl; injection hu with hu; subst hu; exact hr
  | 13, a, b => injection a with a; injection b with b; subst a b; exact by rw [← ats_part ds 2 20 11 (by omega)]; obtain ⟨u, hu, hr⟩ := hw7.at (j := 11) (it := .text) rfl; injection hu with hu; subst hu; exact hr
  | 14, a, b => injection a with a; injection b with b; subst a b; exact by rw [← ats_part ds 2 20 12 (by omega)]; obtain ⟨u, hu, hr⟩ := hw7.at (j := 12) (it := .int) rfl; injection hu with hu; subst hu; exact hr
  | 15, a, b => injection a with a; injection b with b; subst a b; exact by rw [← ats_part ds 2 20 13 (by omega)]; obtain ⟨u, hu, hr⟩ := hw7.at (j := 13) (it := .int) rfl; injection hu with hu; subst hu; exact hr
  | 16, a, b => injection a with a; injection b with b; subst a b; exact by rw [← ats_part ds 2 20 14 (by omega)]; obtain ⟨u, hu, hr⟩ := hw7.at (j := 14) (it := .is) rfl; injection hu with hu; subst hu; exact hr
  | 17, a, b => injection a with a; injection b with b; subst a b; exact by rw [← ats_part ds 2 20 15 (by omega)]; obtain ⟨u, hu, hr⟩ := hw7.at (j := 15) (it := .is) rfl; injection hu with hu; subst hu; exact hr
  | 18, a, b => injection a with a; injection b with b; subst a b; exact by rw [← ats_part ds 2 20 16 (by omega)]; obtain ⟨u, hu, hr⟩ := hw7.at (j := 16) (it := .text) rfl; injection hu with hu; subst hu; exact hr
  | 19, a, b => injection a with a; injection b with b; subst a b; exact by rw [← ats_part ds 2 20 17 (by omega)]; obtain ⟨u, hu, hr⟩ := hw7.at (j := 17) (it := .list itsVote) rfl; injection hu with hu; subst hu; exact hr
  | 20, a, b => injection a with a; injection b with b; subst a b; exact by rw [← ats_part ds 2 20 18 (by omega)]; obtain ⟨u, hu, hr⟩ := hw7.at (j := 18) (it := .list itsSaid) rfl; injection hu with hu; subst hu; exact hr
  | 21, a, b => injection a with a; injection b with b; subst a b; exact by rw [← ats_part ds 2 20 19 (by omega)]; obtain ⟨u, hu, hr⟩ := hw7.at (j := 19) (it := .list itsMsg) rfl; injection hu with hu; subst hu; exact hr
  | 22, a, b => injection a with a; injection b with b; subst a b; exact r22.fr F7
  | 23, a, b => injection a with a; injection b with b; subst a b; exact r23.fr F7
  | 24, a, b => injection a with a; injection b with b; subst a b; exact r24.fr F7
  | 25, a, b => injection a with a; injection b with b; subst a b; exact r25.fr F7
  | 26, a, b => injection a with a; injection b with b; subst a b; exact by rw [e26.2]; exact h26'
  | 27, a, b => injection a with a; injection b with b; subst a b; exact by rw [e27.2]; exact h27.fr G7
  | 28, a, b => injection a with a; injection b with b; subst a b; exact r28.fr F7
  | 29, a, b => injection a with a; injection b with b; subst a b; exact by rw [e29.2]; exact h29'
  | j + 30, a, _ => cases a
end Go.Am
