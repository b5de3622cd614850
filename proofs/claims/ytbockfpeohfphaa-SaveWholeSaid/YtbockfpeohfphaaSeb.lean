/- save: an eye goes over structs and lists (written by a program). -/
import Derived.Test.YtbockfpeohfphaaSea

namespace Go.Am
open Go.RowKit Go.MapKept Go.Proofs Go.Proofs.Rdr
variable {most : Nat}
theorem eye_text' (hM : 1048576 < most) : EyeOk most c_save_text itsText 5 := by
  intro n σ W C rr st b o e gr vs K g
  have hm : 1024 < most := by omega
  rw [X_call (by rfl), f_save_text]
  unfold r_save_text
  rw [rInv_i emeth_text]
  refine estep_text (n := n + 1) (its := []) g fun v σ st vs ds g => ?_
  exact g.fin _

theorem eye_nums' (hM : 1048576 < most) : EyeOk most c_save_nums itsNums 5 := by
  intro n σ W C rr st b o e gr vs K g
  have hm : 1024 < most := by omega
  rw [X_call (by rfl), f_save_nums]
  unfold r_save_nums
  rw [rInv_i emeth_nums]
  refine estep_nums (n := n + 1) (its := []) g fun v σ st vs ds g => ?_
  exact g.fin _

theorem eye_pair' (hM : 1048576 < most) : EyeOk most c_save_pair itsPair 5 := by
  intro n σ W C rr st b o e gr vs K g
  have hm : 1024 < most := by omega
  rw [X_call (by rfl), f_save_pair]
  unfold r_save_pair
  rw [rNil_p, rFld_p, rNil_m emeth_number, rInv_i emeth_number]
  refine estep_number (n := n + 1) (its := [.num]) g fun v σ st vs ds g => ?_
  rw [rNil_p, rFld_p, rNil_m emeth_number, rInv_i emeth_number]
  refine estep_number (n := n + 1) (its := []) g fun v σ st vs ds g => ?_
  exact g.fin _

theorem eye_message' (hM : 1048576 < most) : EyeOk most c_save_message itsMsg 5 := by
  intro n σ W C rr st b o e gr vs K g
  have hm : 1024 < most := by omega
  rw [X_call (by rfl), f_save_message]
  unfold r_save_message
  rw [rNil_p, rFld_p, rNil_m emeth_kind, rInv_i emeth_kind]
  refine estep_kind (n := n + 1) (its := [.int, .int, .int, .int, .int, .int, .int, .int, .text, .nums]) g fun v σ st vs ds g => ?_
  rw [rNil_p, rFld_p, rNil_p, rFld_p, rNil_p, rFld_p, rNil_p, rFld_p, rNil_p, rFld_p, rNil_p, rFld_p, rNil_p, rFld_p, rNil_p, rFld_p]
  rw [rB8, bcase_t, rB8]
  refine estep_whole (n := n + 0) (its := [.text, .nums]) hm 8 (by omega) g fun v σ st vs ds g => ?_
  rw [rNil_p, rFld_p, rNil_m emeth_text, rInv_i emeth_text]
  refine estep_text (n := n + 1) (its := [.nums]) g fun v σ st vs ds g => ?_
  rw [rNil_p, rFld_p, rNil_m emeth_nums, rInv_i emeth_nums]
  refine estep_nums (n := n + 1) (its := []) g fun v σ st vs ds g => ?_
  exact g.fin _

theorem eye_vote' (hM : 1048576 < most) : EyeOk most c_save_vote itsVote 5 := by
  intro n σ W C rr st b o e gr vs K g
  have hm : 1024 < most := by omega
  rw [X_call (by rfl), f_save_vote]
  unfold r_save_vote
  rw [rNil_p, rFld_p, rNil_p, rFld_p]
  rw [rB2, bcase_t, rB2]
  refine estep_whole (n := n + 0) (its := [.kind, .int, .text]) hm 2 (by omega) g fun v σ st vs ds g => ?_
  rw [rNil_p, rFld_p, rNil_m emeth_kind, rInv_i emeth_kind]
  refine estep_kind (n := n + 1) (its := [.int, .text]) g fun v σ st vs ds g => ?_
  rw [rNil_p, rFld_p]
  rw [rB1]
  refine estep_whole (n := n + 0) (its := [.text]) hm 1 (by omega) g fun v σ st vs ds g => ?_
  rw [rNil_p, rFld_p, rNil_m emeth_text, rInv_i emeth_text]
  refine estep_text (n := n + 1) (its := []) g fun v σ st vs ds g => ?_
  exact g.fin _

theorem eye_said' (hM : 1048576 < most) : EyeOk most c_save_said itsSaid 5 := by
  intro n σ W C rr st b o e gr vs K g
  have hm : 1024 < most := by omega
  rw [X_call (by rfl), f_save_said]
  unfold r_save_said
  rw [rNil_p, rFld_p]
  rw [rB1]
  refine estep_whole (n := n + 0) (its := [.text]) hm 1 (by omega) g fun v σ st vs ds g => ?_
  rw [rNil_p, rFld_p, rNil_m emeth_text, rInv_i emeth_text]
  refine estep_text (n := n + 1) (its := []) g fun v σ st vs ds g => ?_
  exact g.fin _

theorem eye_told' (hM : 1048576 < most) : EyeOk most c_save_told itsTold 5 := by
  intro n σ W C rr st b o e gr vs K g
  have hm : 1024 < most := by omega
  rw [X_call (by rfl), f_save_told]
  unfold r_save_told
  rw [rNil_p, rFld_p]
  rw [rB1]
  refine estep_whole (n := n + 0) (its := [.nums]) hm 1 (by omega) g fun v σ st vs ds g => ?_
  rw [rNil_p, rFld_p, rNil_m emeth_nums, rInv_i emeth_nums]
  refine estep_nums (n := n + 1) (its := []) g fun v σ st vs ds g => ?_
  exact g.fin _

theorem eye_done' (hM : 1048576 < most) : EyeOk most c_save_done itsDone 5 := by
  intro n σ W C rr st b o e gr vs K g
  have hm : 1024 < most := by omega
  rw [X_call (by rfl), f_save_done]
  unfold r_save_done
  rw [rNil_p, rFld_p, rNil_p, rFld_p]
  rw [rB2, bcase_t, rB2]
  refine estep_whole (n := n + 0) (its := [.nums]) hm 2 (by omega) g fun v σ st vs ds g => ?_
  rw [rNil_p, rFld_p, rNil_m emeth_nums, rInv_i emeth_nums]
  refine estep_nums (n := n + 1) (its := []) g fun v σ st vs ds g => ?_
  exact g.fin _

theorem rdC_max (m : Nat) (st : RS) : (rdC m st).1 ≤ m := by
  unfold rdC
  split
  · simp
  · split
    · split
      · rename_i h; exact h
      · simp
    · simp
theorem decL_len (f : RS → List D × RS) : ∀ (n : Nat) (st : RS), (decL f n st).1.length ≤ n := by
  intro n
  induction n with
  | zero => intro st; simp [decL]
  | succ n ih =>
    intro st
    simp only [decL]
    split
    · simp
    · have := ih (f st).2
      simp only [List.length_cons]
      omega

theorem eeach_string_loop (hM : 1048576 < most) (hone : EyeOk most c_save_text itsText 5) {n N : Nat} {W C : Nat → Prop} {n0 rr b q : Nat} {e0 : TypeId} {gr : Bool} {vs : List Value} (hN : N ≤ 1048576) {K : VK} :
    ∀ (r m i : Nat) (σ : St) (st : RS) (v : Value) (es : List (List D)), r < m → es.length = i → i + r = N → LB σ W C n0 rr b q e0 gr vs v st → Lst σ C n0 itsText 9 v es →
      (∀ u σ' v', LB σ' W C n0 rr b q e0 gr vs v' (decL (decs itsText) r st).2 → Lst σ' C n0 itsText 9 v' (es ++ (decL (decs itsText) r st).1) → Fn n0 W σ σ' → K u σ' = true) →
      l_save_each_string_rrd (X most (n + 5)) m (eye rr) (pt b q) (.func (.func c_save_text) #[] #[]) (.int .i64 (.ofNat N)) (.int .i64 (.ofNat i)) σ K = true := by
  intro r
  induction r with
  | zero =>
    intro m i σ st v es hm hi hr hb hl hK
    obtain ⟨m, rfl⟩ := Nat.exists_eq_succ_of_ne_zero (show m ≠ 0 by omega)
    rw [l_save_each_string_rrdE]
    unfold l_save_each_string_rrdB
    rw [rBin_lssN, show decide (i < N) = false from by simp; omega]
    simp only [rGuard_tf, rPick_f, rIf_f]
    exact hK _ σ v hb (by simpa [decL] using hl) ⟨Nat.le_refl _, fun _ _ _ => rfl⟩
  | succ r ih =>
    intro m i σ st v es hm hi hr hb hl hK
    obtain ⟨m, rfl⟩ := Nat.exists_eq_succ_of_ne_zero (show m ≠ 0 by omega)
    rw [l_save_each_string_rrdE]
    unfold l_save_each_string_rrdB
    rw [rBin_lssN, show decide (i < N) = true from by simp; omega]
    simp only [rGuard_tt, rInv_i emeth_wrong]
    refine eye_wrong (n := n + 3) hb.eye.self fun σ1 e1 f1 => ?_
    obtain ⟨hb1, f2⟩ := hb.read e1 f1
    have hl1 := hl.fr f2 hb.sub hb.lt
    rw [rBin_eqlN, rPick_t, rIf_b]
    by_cases he : st.2 = 0
    · rw [if_pos (by simpa using he), rNil_p, hb1.ld]
      obtain ⟨⟨a, ea⟩, hsame⟩ := hl1.val
      have hlen : ∀ K, rLenS v K = K (.int .i64 (.ofNat es.length)) := fun K => by rw [ea, rLenS_s]
      subst hi
      rw [hlen, rBin_eqlN, decide_eq_true rfl, rIf_t]
      have hbs : ∀ (σ : St) (K : VK), rBuildS 9 1 [(.string ⟨⟨[]⟩⟩)] [(0, 1, (.string ⟨⟨[]⟩⟩))] σ K = K (.slice (some ⟨σ.n, 0, none⟩) 1 1) (σ.new (.cells [(.string ⟨⟨[]⟩⟩)] 9 .exact)) := fun σ K => rBuildS_ones 9 (.string ⟨⟨[]⟩⟩) [(.string ⟨⟨[]⟩⟩)] (by simp [oneCell]) σ K
      rw [rNil_p, hb1.ld, hbs]
      have hb3 := hb1.new (.cells [(.string ⟨⟨[]⟩⟩)] 9 .exact)
      have hx3 : Ext' σ1 (σ1.new (.cells [(.string ⟨⟨[]⟩⟩)] 9 .exact)) := .new σ1 _
      refine LB.grow (its := itsText) hb1 hl1 hb3 hx3 (Src.row (n := 1) (o := 0) (size := 1) (vs := [(.string ⟨⟨[]⟩⟩)]) obj_new_same (by decide) (by decide)) (by kernel_rfl) (by omega) fun σ3 jn hb4 hm4 f3 => ?_
      obtain ⟨σ4, k4, hb5, f4⟩ := hb4.put (.slice (some ⟨jn, 0, some 0⟩) (es.length + 1) (es.length + 1)) rfl
      rw [rNil_p, k4, j_save_each_string_rrddrldrE _ (by rw [X_most]; omega)]
      unfold j_save_each_string_rrddrldrB
      rw [rNil_p, hb5.ld, rIdx_z 1 jn 0 es.length _ _ (by omega), rCallV_0]
      refine (hm4.fr f4 hb4.sub hb4.lt).child (n := n) hone hb5 fun u σ5 hb6 hl6 f5 => ?_
      rw [rBin_add _ _ _ _ (by omega)]
      have hF : Fn n0 W σ σ5 := ((Fn.of f2 hb.n0).trans (⟨hx3.n, fun i hi _ => hx3.same i (Nat.lt_of_lt_of_le hi hb1.n0)⟩ : Fn n0 W σ1 _)).trans ((f3.trans (.of f4 hb4.n0)).trans f5)
      have hd : decL (decs itsText) (r + 1) st = ((decs itsText st).1 :: (decL (decs itsText) r (decs itsText st).2).1, (decL (decs itsText) r (decs itsText st).2).2) := by simp only [decL]; rw [if_neg (by simp [he])]
      refine ih m (es.length + 1) σ5 _ _ _ (by omega) (by simp) (by omega) hb6 hl6 fun u2 σ6 v6 hb7 hl7 f6 => ?_
      refine hK u2 σ6 v6 (by rw [hd]; exact hb7) ?_ (hF.trans f6)
      rw [hd]
      simpa using hl7
    · rw [if_neg (by simpa using he)]
      have hd : decL (decs itsText) (r + 1) st = ([], st) := decL_err _ _ _ he
      refine hK _ σ1 v (by rw [hd]; exact hb1) (by rw [hd, List.append_nil]; exact hl1) (.of f2 hb.n0)
theorem eeach_string (hM : 1048576 < most) (hone : EyeOk most c_save_text itsText 5) {n : Nat} {σ : St} {W C : Nat → Prop} {rr : Nat} {st : RS} {b o : Nat} {e : TypeId} {gr : Bool} {vs : List Value} {all : List It} {ds : List D} {j : Nat} {its : List It} {K K0 : VK}
    (g : GE σ W C rr st b o e gr vs all ds j (.list itsText :: its) K) (next : ∀ v σ' st' vs' ds', GE σ' W C rr st' b o e gr vs' all ds' (j + 1) its K → K0 v σ' = true) :
    (X most (n + 6)).C c_save_each_string [eye rr, pt b (o + j), .func (.func c_save_text) #[] #[]] σ K0 = true := by
  rw [X_call (by rfl), f_save_each_string]
  unfold r_save_each_string
  obtain ⟨h1, _, hj⟩ := g.at
  have hz := g.zero j _ (Nat.le_refl _) h1
  have hle := g.le
  rw [rNil_p, g.own.ld hz]
  show rLenS (.slice none 0 0) _ = true
  rw [rLenS_s, rNil_m emeth_many, rInv_i emeth_many]
  refine eye_many (n := n + 2) g.eye.self _ fun σ1 e1 f1 => ?_
  obtain ⟨o1, e2, f2⟩ := g.read e1 f1
  rw [o1.ld hz, rSame_v (show sameV (zeroI (.list itsText)) (zeroI (.list itsText)) = true from rfl), X_most]
  have hcm := rdC_max 1048576 st
  refine eeach_string_loop hM hone (n := n) (n0 := σ1.n) (C := C) (vs := vs) hcm (rdC 1048576 st).1 most 0 σ1 _ (.slice none 0 0) [] (by omega) rfl (by omega) ⟨e2, by rw [set_self (by exact hz)]; exact o1, by omega, g.sub, fun i hi => Nat.lt_of_lt_of_le (g.lt i hi) f2.n, Nat.le_refl _⟩ (.inl ⟨rfl, rfl⟩) fun u σ' v' hb hl f => next u σ' _ _ _ (g.next (v' := v') hb.own ?_ hb.eye (f2.trans f.fr))
  have hlen := decL_len (decs itsText) (rdC 1048576 st).1 (rdC 1048576 st).2
  rw [List.nil_append] at hl
  exact hl.rd hb.lt (by omega)

theorem eeach_list_uint64_loop (hM : 1048576 < most) (hone : EyeOk most c_save_nums itsNums 5) {n N : Nat} {W C : Nat → Prop} {n0 rr b q : Nat} {e0 : TypeId} {gr : Bool} {vs : List Value} (hN : N ≤ 1048576) {K : VK} :
    ∀ (r m i : Nat) (σ : St) (st : RS) (v : Value) (es : List (List D)), r < m → es.length = i → i + r = N → LB σ W C n0 rr b q e0 gr vs v st → Lst σ C n0 itsNums 49 v es →
      (∀ u σ' v', LB σ' W C n0 rr b q e0 gr vs v' (decL (decs itsNums) r st).2 → Lst σ' C n0 itsNums 49 v' (es ++ (decL (decs itsNums) r st).1) → Fn n0 W σ σ' → K u σ' = true) →
      l_save_each_list_uint64_rrd (X most (n + 5)) m (eye rr) (pt b q) (.func (.func c_save_nums) #[] #[]) (.int .i64 (.ofNat N)) (.int .i64 (.ofNat i)) σ K = true := by
  intro r
  induction r with
  | zero =>
    intro m i σ st v es hm hi hr hb hl hK
    obtain ⟨m, rfl⟩ := Nat.exists_eq_succ_of_ne_zero (show m ≠ 0 by omega)
    rw [l_save_each_list_uint64_rrdE]
    unfold l_save_each_list_uint64_rrdB
    rw [rBin_lssN, show decide (i < N) = false from by simp; omega]
    simp only [rGuard_tf, rPick_f, rIf_f]
    exact hK _ σ v hb (by simpa [decL] using hl) ⟨Nat.le_refl _, fun _ _ _ => rfl⟩
  | succ r ih =>
    intro m i σ st v es hm hi hr hb hl hK
    obtain ⟨m, rfl⟩ := Nat.exists_eq_succ_of_ne_zero (show m ≠ 0 by omega)
    rw [l_save_each_list_uint64_rrdE]
    unfold l_save_each_list_uint64_rrdB
    rw [rBin_lssN, show decide (i < N) = true from by simp; omega]
    simp only [rGuard_tt, rInv_i emeth_wrong]
    refine eye_wrong (n := n + 3) hb.eye.self fun σ1 e1 f1 => ?_
    obtain ⟨hb1, f2⟩ := hb.read e1 f1
    have hl1 := hl.fr f2 hb.sub hb.lt
    rw [rBin_eqlN, rPick_t, rIf_b]
    by_cases he : st.2 = 0
    · rw [if_pos (by simpa using he), rNil_p, hb1.ld]
      obtain ⟨⟨a, ea⟩, hsame⟩ := hl1.val
      have hlen : ∀ K, rLenS v K = K (.int .i64 (.ofNat es.length)) := fun K => by rw [ea, rLenS_s]
      subst hi
      rw [hlen, rBin_eqlN, decide_eq_true rfl, rIf_t]
      have hbs : ∀ (σ : St) (K : VK), rBuildS 49 1 [(.slice none 0 0)] [(0, 1, (.slice none 0 0))] σ K = K (.slice (some ⟨σ.n, 0, none⟩) 1 1) (σ.new (.cells [(.slice none 0 0)] 49 .exact)) := fun σ K => rBuildS_ones 49 (.slice none 0 0) [(.slice none 0 0)] (by simp [oneCell]) σ K
      rw [rNil_p, hb1.ld, hbs]
      have hb3 := hb1.new (.cells [(.slice none 0 0)] 49 .exact)
      have hx3 : Ext' σ1 (σ1.new (.cells [(.slice none 0 0)] 49 .exact)) := .new σ1 _
      refine LB.grow (its := itsNums) hb1 hl1 hb3 hx3 (Src.row (n := 1) (o := 0) (size := 1) (vs := [(.slice none 0 0)]) obj_new_same (by decide) (by decide)) (by kernel_rfl) (by omega) fun σ3 jn hb4 hm4 f3 => ?_
      obtain ⟨σ4, k4, hb5, f4⟩ := hb4.put (.slice (some ⟨jn, 0, some 0⟩) (es.length + 1) (es.length + 1)) rfl
      rw [rNil_p, k4, j_save_each_list_uint64_rrddrldrE _ (by rw [X_most]; omega)]
      unfold j_save_each_list_uint64_rrddrldrB
      rw [rNil_p, hb5.ld, rIdx_z 1 jn 0 es.length _ _ (by omega), rCallV_0]
      refine (hm4.fr f4 hb4.sub hb4.lt).child (n := n) hone hb5 fun u σ5 hb6 hl6 f5 => ?_
      rw [rBin_add _ _ _ _ (by omega)]
      have hF : Fn n0 W σ σ5 := ((Fn.of f2 hb.n0).trans (⟨hx3.n, fun i hi _ => hx3.same i (Nat.lt_of_lt_of_le hi hb1.n0)⟩ : Fn n0 W σ1 _)).trans ((f3.trans (.of f4 hb4.n0)).trans f5)
      have hd : decL (decs itsNums) (r + 1) st = ((decs itsNums st).1 :: (decL (decs itsNums) r (decs itsNums st).2).1, (decL (decs itsNums) r (decs itsNums st).2).2) := by simp only [decL]; rw [if_neg (by simp [he])]
      refine ih m (es.length + 1) σ5 _ _ _ (by omega) (by simp) (by omega) hb6 hl6 fun u2 σ6 v6 hb7 hl7 f6 => ?_
      refine hK u2 σ6 v6 (by rw [hd]; exact hb7) ?_ (hF.trans f6)
      rw [hd]
      simpa using hl7
    · rw [if_neg (by simpa using he)]
      have hd : decL (decs itsNums) (r + 1) st = ([], st) := decL_err _ _ _ he
      refine hK _ σ1 v (by rw [hd]; exact hb1) (by rw [hd, List.append_nil]; exact hl1) (.of f2 hb.n0)
theorem eeach_list_uint64 (hM : 1048576 < most) (hone : EyeOk most c_save_nums itsNums 5) {n : Nat} {σ : St} {W C : Nat → Prop} {rr : Nat} {st : RS} {b o : Nat} {e : TypeId} {gr : Bool} {vs : List Value} {all : List It} {ds : List D} {j : Nat} {its : List It} {K K0 : VK}
    (g : GE σ W C rr st b o e gr vs all ds j (.list itsNums :: its) K) (next : ∀ v σ' st' vs' ds', GE σ' W C rr st' b o e gr vs' all ds' (j + 1) its K → K0 v σ' = true) :
    (X most (n + 6)).C c_save_each_list_uint64 [eye rr, pt b (o + j), .func (.func c_save_nums) #[] #[]] σ K0 = true := by
  rw [X_call (by rfl), f_save_each_list_uint64]
  unfold r_save_each_list_uint64
  obtain ⟨h1, _, hj⟩ := g.at
  have hz := g.zero j _ (Nat.le_refl _) h1
  have hle := g.le
  rw [rNil_p, g.own.ld hz]
  show rLenS (.slice none 0 0) _ = true
  rw [rLenS_s, rNil_m emeth_many, rInv_i emeth_many]
  refine eye_many (n := n + 2) g.eye.self _ fun σ1 e1 f1 => ?_
  obtain ⟨o1, e2, f2⟩ := g.read e1 f1
  rw [o1.ld hz, rSame_v (show sameV (zeroI (.list itsNums)) (zeroI (.list itsNums)) = true from rfl), X_most]
  have hcm := rdC_max 1048576 st
  refine eeach_list_uint64_loop hM hone (n := n) (n0 := σ1.n) (C := C) (vs := vs) hcm (rdC 1048576 st).1 most 0 σ1 _ (.slice none 0 0) [] (by omega) rfl (by omega) ⟨e2, by rw [set_self (by exact hz)]; exact o1, by omega, g.sub, fun i hi => Nat.lt_of_lt_of_le (g.lt i hi) f2.n, Nat.le_refl _⟩ (.inl ⟨rfl, rfl⟩) fun u σ' v' hb hl f => next u σ' _ _ _ (g.next (v' := v') hb.own ?_ hb.eye (f2.trans f.fr))
  have hlen := decL_len (decs itsNums) (rdC 1048576 st).1 (rdC 1048576 st).2
  rw [List.nil_append] at hl
  exact hl.rd hb.lt (by omega)

theorem eeach_api_Pair_loop (hM : 1048576 < most) (hone : EyeOk most c_save_pair itsPair 5) {n N : Nat} {W C : Nat → Prop} {n0 rr b q : Nat} {e0 : TypeId} {gr : Bool} {vs : List Value} (hN : N ≤ 1048576) {K : VK} :
    ∀ (r m i : Nat) (σ : St) (st : RS) (v : Value) (es : List (List D)), r < m → es.length = i → i + r = N → LB σ W C n0 rr b q e0 gr vs v st → Lst σ C n0 itsPair 58 v es →
      (∀ u σ' v', LB σ' W C n0 rr b q e0 gr vs v' (decL (decs itsPair) r st).2 → Lst σ' C n0 itsPair 58 v' (es ++ (decL (decs itsPair) r st).1) → Fn n0 W σ σ' → K u σ' = true) →
      l_save_each_api_Pair_rrd (X most (n + 5)) m (eye rr) (pt b q) (.func (.func c_save_pair) #[] #[]) (.int .i64 (.ofNat N)) (.int .i64 (.ofNat i)) σ K = true := by
  intro r
  induction r with
  | zero =>
    intro m i σ st v es hm hi hr hb hl hK
    obtain ⟨m, rfl⟩ := Nat.exists_eq_succ_of_ne_zero (show m ≠ 0 by omega)
    rw [l_save_each_api_Pair_rrdE]
    unfold l_save_each_api_Pair_rrdB
    rw [rBin_lssN, show decide (i < N) = false from by simp; omega]
    simp only [rGuard_tf, rPick_f, rIf_f]
    exact hK _ σ v hb (by simpa [decL] using hl) ⟨Nat.le_refl _, fun _ _ _ => rfl⟩
  | succ r ih =>
    intro m i σ st v es hm hi hr hb hl hK
    obtain ⟨m, rfl⟩ := Nat.exists_eq_succ_of_ne_zero (show m ≠ 0 by omega)
    rw [l_save_each_api_Pair_rrdE]
    unfold l_save_each_api_Pair_rrdB
    rw [rBin_lssN, show decide (i < N) = true from by simp; omega]
    simp only [rGuard_tt, rInv_i emeth_wrong]
    refine eye_wrong (n := n + 3) hb.eye.self fun σ1 e1 f1 => ?_
    obtain ⟨hb1, f2⟩ := hb.read e1 f1
    have hl1 := hl.fr f2 hb.sub hb.lt
    rw [rBin_eqlN, rPick_t, rIf_b]
    by_cases he : st.2 = 0
    · rw [if_pos (by simpa using he), rNil_p, hb1.ld]
      obtain ⟨⟨a, ea⟩, hsame⟩ := hl1.val
      have hlen : ∀ K, rLenS v K = K (.int .i64 (.ofNat es.length)) := fun K => by rw [ea, rLenS_s]
      subst hi
      rw [hlen, rBin_eqlN, decide_eq_true rfl, rIf_t]
      have hb2 := hb1.new (.cells [(.int .u64 (.ofNat 0)), (.int .u64 (.ofNat 0))] 58 .exact)
      have hx2 : Ext' σ1 (σ1.new (.cells [(.int .u64 (.ofNat 0)), (.int .u64 (.ofNat 0))] 58 .exact)) := .new σ1 _
      rw [rAlloc_h, rNil_p, hb2.ld, rLdN_h obj_new_same (by decide), rLdN_h obj_new_same (by decide), rSame_v (by rfl), hb2.ld, rSame_v hsame]
      have hbs : ∀ (σ : St) (K : VK), rBuildS 58 1 [(.int .u64 (.ofNat 0)), (.int .u64 (.ofNat 0))] [(0, 2, .agg ⟨(([(.int .u64 (.ofNat 0)), (.int .u64 (.ofNat 0))] : List Value).drop 0).take 2⟩)] σ K = K (.slice (some ⟨σ.n, 0, none⟩) 1 1) (σ.new (.cells [(.int .u64 (.ofNat 0)), (.int .u64 (.ofNat 0))] 58 .exact)) := fun σ K => rBuildS_agg1 58 (k := 2) (zero := [(.int .u64 (.ofNat 0)), (.int .u64 (.ofNat 0))]) (cs := [(.int .u64 (.ofNat 0)), (.int .u64 (.ofNat 0))]) rfl rfl rfl σ K
      rw [hbs, bcase_t, hbs]
      have hb3 := hb2.new (.cells [(.int .u64 (.ofNat 0)), (.int .u64 (.ofNat 0))] 58 .exact)
      have hx3 := hx2.trans (Ext'.new (σ1.new (.cells [(.int .u64 (.ofNat 0)), (.int .u64 (.ofNat 0))] 58 .exact)) (.cells [(.int .u64 (.ofNat 0)), (.int .u64 (.ofNat 0))] 58 .exact))
      refine LB.grow (its := itsPair) hb1 hl1 hb3 hx3 (Src.row (n := 1) (o := 0) (size := 2) (vs := [(.int .u64 (.ofNat 0)), (.int .u64 (.ofNat 0))]) obj_new_same (by decide) (by decide)) (by kernel_rfl) (by omega) fun σ3 jn hb4 hm4 f3 => ?_
      obtain ⟨σ4, k4, hb5, f4⟩ := hb4.put (.slice (some ⟨jn, 0, some 0⟩) (es.length + 1) (es.length + 1)) rfl
      rw [rNil_p, k4, j_save_each_api_Pair_rrddrldrE _ (by rw [X_most]; omega)]
      unfold j_save_each_api_Pair_rrddrldrB
      rw [rNil_p, hb5.ld, rIdx_z 2 jn 0 es.length _ _ (by omega), rCallV_0]
      refine (hm4.fr f4 hb4.sub hb4.lt).child (n := n) hone hb5 fun u σ5 hb6 hl6 f5 => ?_
      rw [rBin_add _ _ _ _ (by omega)]
      have hF : Fn n0 W σ σ5 := ((Fn.of f2 hb.n0).trans (⟨hx3.n, fun i hi _ => hx3.same i (Nat.lt_of_lt_of_le hi hb1.n0)⟩ : Fn n0 W σ1 _)).trans ((f3.trans (.of f4 hb4.n0)).trans f5)
      have hd : decL (decs itsPair) (r + 1) st = ((decs itsPair st).1 :: (decL (decs itsPair) r (decs itsPair st).2).1, (decL (decs itsPair) r (decs itsPair st).2).2) := by simp only [decL]; rw [if_neg (by simp [he])]
      refine ih m (es.length + 1) σ5 _ _ _ (by omega) (by simp) (by omega) hb6 hl6 fun u2 σ6 v6 hb7 hl7 f6 => ?_
      refine hK u2 σ6 v6 (by rw [hd]; exact hb7) ?_ (hF.trans f6)
      rw [hd]
      simpa using hl7
    · rw [if_neg (by simpa using he)]
      have hd : decL (decs itsPair) (r + 1) st = ([], st) := decL_err _ _ _ he
      refine hK _ σ1 v (by rw [hd]; exact hb1) (by rw [hd, List.append_nil]; exact hl1) (.of f2 hb.n0)
theorem eeach_api_Pair (hM : 1048576 < most) (hone : EyeOk most c_save_pair itsPair 5) {n : Nat} {σ : St} {W C : Nat → Prop} {rr : Nat} {st : RS} {b o : Nat} {e : TypeId} {gr : Bool} {vs : List Value} {all : List It} {ds : List D} {j : Nat} {its : List It} {K K0 : VK}
    (g : GE σ W C rr st b o e gr vs all ds j (.list itsPair :: its) K) (next : ∀ v σ' st' vs' ds', GE σ' W C rr st' b o e gr vs' all ds' (j + 1) its K → K0 v σ' = true) :
    (X most (n + 6)).C c_save_each_api_Pair [eye rr, pt b (o + j), .func (.func c_save_pair) #[] #[]] σ K0 = true := by
  rw [X_call (by rfl), f_save_each_api_Pair]
  unfold r_save_each_api_Pair
  obtain ⟨h1, _, hj⟩ := g.at
  have hz := g.zero j _ (Nat.le_refl _) h1
  have hle := g.le
  rw [rNil_p, g.own.ld hz]
  show rLenS (.slice none 0 0) _ = true
  rw [rLenS_s, rNil_m emeth_many, rInv_i emeth_many]
  refine eye_many (n := n + 2) g.eye.self _ fun σ1 e1 f1 => ?_
  obtain ⟨o1, e2, f2⟩ := g.read e1 f1
  rw [o1.ld hz, rSame_v (show sameV (zeroI (.list itsPair)) (zeroI (.list itsPair)) = true from rfl), X_most]
  have hcm := rdC_max 1048576 st
  refine eeach_api_Pair_loop hM hone (n := n) (n0 := σ1.n) (C := C) (vs := vs) hcm (rdC 1048576 st).1 most 0 σ1 _ (.slice none 0 0) [] (by omega) rfl (by omega) ⟨e2, by rw [set_self (by exact hz)]; exact o1, by omega, g.sub, fun i hi => Nat.lt_of_lt_of_le (g.lt i hi) f2.n, Nat.le_refl _⟩ (.inl ⟨rfl, rfl⟩) fun u σ' v' hb hl f => next u σ' _ _ _ (g.next (v' := v') hb.own ?_ hb.eye (f2.trans f.fr))
  have hlen := decL_len (decs itsPair) (rdC 1048576 st).1 (rdC 1048576 st).2
  rw [List.nil_append] at hl
  exact hl.rd hb.lt (by omega)

theorem eeach_api_Msg_loop (hM : 1048576 < most) (hone : EyeOk most c_save_message itsMsg 5) {n N : Nat} {W C : Nat → Prop} {n0 rr b q : Nat} {e0 : TypeId} {gr : Bool} {vs : List Value} (hN : N ≤ 1048576) {K : VK} :
    ∀ (r m i : Nat) (σ : St) (st : RS) (v : Value) (es : List (List D)), r < m → es.length = i → i + r = N → LB σ W C n0 rr b q e0 gr vs v st → Lst σ C n0 itsMsg 78 v es →
      (∀ u σ' v', LB σ' W C n0 rr b q e0 gr vs v' (decL (decs itsMsg) r st).2 → Lst σ' C n0 itsMsg 78 v' (es ++ (decL (decs itsMsg) r st).1) → Fn n0 W σ σ' → K u σ' = true) →
      l_save_each_api_Msg_rrd (X most (n + 5)) m (eye rr) (pt b q) (.func (.func c_save_message) #[] #[]) (.int .i64 (.ofNat N)) (.int .i64 (.ofNat i)) σ K = true := by
  intro r
  induction r with
  | zero =>
    intro m i σ st v es hm hi hr hb hl hK
    obtain ⟨m, rfl⟩ := Nat.exists_eq_succ_of_ne_zero (show m ≠ 0 by omega)
    rw [l_save_each_api_Msg_rrdE]
    unfold l_save_each_api_Msg_rrdB
    rw [rBin_lssN, show decide (i < N) = false from by simp; omega]
    simp only [rGuard_tf, rPick_f, rIf_f]
    exact hK _ σ v hb (by simpa [decL] using hl) ⟨Nat.le_refl _, fun _ _ _ => rfl⟩
  | succ r ih =>
    intro m i σ st v es hm hi hr hb hl hK
    obtain ⟨m, rfl⟩ := Nat.exists_eq_succ_of_ne_zero (show m ≠ 0 by omega)
    rw [l_save_each_api_Msg_rrdE]
    unfold l_save_each_api_Msg_rrdB
    rw [rBin_lssN, show decide (i < N) = true from by simp; omega]
    simp only [rGuard_tt, rInv_i emeth_wrong]
    refine eye_wrong (n := n + 3) hb.eye.self fun σ1 e1 f1 => ?_
    obtain ⟨hb1, f2⟩ := hb.read e1 f1
    have hl1 := hl.fr f2 hb.sub hb.lt
    rw [rBin_eqlN, rPick_t, rIf_b]
    by_cases he : st.2 = 0
    · rw [if_pos (by simpa using he), rNil_p, hb1.ld]
      obtain ⟨⟨a, ea⟩, hsame⟩ := hl1.val
      have hlen : ∀ K, rLenS v K = K (.int .i64 (.ofNat es.length)) := fun K => by rw [ea, rLenS_s]
      subst hi
      rw [hlen, rBin_eqlN, decide_eq_true rfl, rIf_t]
      have hb2 := hb1.new (.cells [(.int .u8 (.ofNat 0)), (.int .i64 (.ofNat 0)), (.int .i64 (.ofNat 0)), (.int .i64 (.ofNat 0)), (.int .i64 (.ofNat 0)), (.int .i64 (.ofNat 0)), (.int .i64 (.ofNat 0)), (.int .i64 (.ofNat 0)), (.int .i64 (.ofNat 0)), (.string ⟨⟨[]⟩⟩), (.slice none 0 0)] 78 .exact)
      have hx2 : Ext' σ1 (σ1.new (.cells [(.int .u8 (.ofNat 0)), (.int .i64 (.ofNat 0)), (.int .i64 (.ofNat 0)), (.int .i64 (.ofNat 0)), (.int .i64 (.ofNat 0)), (.int .i64 (.ofNat 0)), (.int .i64 (.ofNat 0)), (.int .i64 (.ofNat 0)), (.int .i64 (.ofNat 0)), (.string ⟨⟨[]⟩⟩), (.slice none 0 0)] 78 .exact)) := .new σ1 _
      rw [rAlloc_h, rNil_p, hb2.ld, rLdN_h obj_new_same (by decide), rLdN_h obj_new_same (by decide), rSame_v (by rfl), hb2.ld, rSame_v hsame]
      have hbs : ∀ (σ : St) (K : VK), rBuildS 78 1 [(.int .u8 (.ofNat 0)), (.int .i64 (.ofNat 0)), (.int .i64 (.ofNat 0)), (.int .i64 (.ofNat 0)), (.int .i64 (.ofNat 0)), (.int .i64 (.ofNat 0)), (.int .i64 (.ofNat 0)), (.int .i64 (.ofNat 0)), (.int .i64 (.ofNat 0)), (.string ⟨⟨[]⟩⟩), (.slice none 0 0)] [(0, 11, .agg ⟨(([(.int .u8 (.ofNat 0)), (.int .i64 (.ofNat 0)), (.int .i64 (.ofNat 0)), (.int .i64 (.ofNat 0)), (.int .i64 (.ofNat 0)), (.int .i64 (.ofNat 0)), (.int .i64 (.ofNat 0)), (.int .i64 (.ofNat 0)), (.int .i64 (.ofNat 0)), (.string ⟨⟨[]⟩⟩), (.slice none 0 0)] : List Value).drop 0).take 11⟩)] σ K = K (.slice (some ⟨σ.n, 0, none⟩) 1 1) (σ.new (.cells [(.int .u8 (.ofNat 0)), (.int .i64 (.ofNat 0)), (.int .i64 (.ofNat 0)), (.int .i64 (.ofNat 0)), (.int .i64 (.ofNat 0)), (.int .i64 (.ofNat 0)), (.int .i64 (.ofNat 0)), (.int .i64 (.ofNat 0)), (.int .i64 (.ofNat 0)), (.string ⟨⟨[]⟩⟩), (.slice none 0 0)] 78 .exact)) := fun σ K => rBuildS_agg1 78 (k := 11) (zero := [(.int .u8 (.ofNat 0)), (.int .i64 (.ofNat 0)), (.int .i64 (.ofNat 0)), (.int .i64 (.ofNat 0)), (.int .i64 (.ofNat 0)), (.int .i64 (.ofNat 0)), (.int .i64 (.ofNat 0)), (.int .i64 (.ofNat 0)), (.int .i64 (.ofNat 0)), (.string ⟨⟨[]⟩⟩), (.slice none 0 0)]) (cs := [(.int .u8 (.ofNat 0)), (.int .i64 (.ofNat 0)), (.int .i64 (.ofNat 0)), (.int .i64 (.ofNat 0)), (.int .i64 (.ofNat 0)), (.int .i64 (.ofNat 0)), (.int .i64 (.ofNat 0)), (.int .i64 (.ofNat 0)), (.int .i64 (.ofNat 0)), (.string ⟨⟨[]⟩⟩), (.slice none 0 0)]) rfl rfl rfl σ K
      rw [hbs, bcase_t, hbs]
      have hb3 := hb2.new (.cells [(.int .u8 (.ofNat 0)), (.int .i64 (.ofNat 0)), (.int .i64 (.ofNat 0)), (.int .i64 (.ofNat 0)), (.int .i64 (.ofNat 0)), (.int .i64 (.ofNat 0)), (.int .i64 (.ofNat 0)), (.int .i64 (.ofNat 0)), (.int .i64 (.ofNat 0)), (.string ⟨⟨[]⟩⟩), (.slice none 0 0)] 78 .exact)
      have hx3 := hx2.trans (Ext'.new (σ1.new (.cells [(.int .u8 (.ofNat 0)), (.int .i64 (.ofNat 0)), (.int .i64 (.ofNat 0)), (.int .i64 (.ofNat 0)), (.int .i64 (.ofNat 0)), (.int .i64 (.ofNat 0)), (.int .i64 (.ofNat 0)), (.int .i64 (.ofNat 0)), (.int .i64 (.ofNat 0)), (.string ⟨⟨[]⟩⟩), (.slice none 0 0)] 78 .exact)) (.cells [(.int .u8 (.ofNat 0)), (.int .i64 (.ofNat 0)), (.int .i64 (.ofNat 0)), (.int .i64 (.ofNat 0)), (.int .i64 (.ofNat 0)), (.int .i64 (.ofNat 0)), (.int .i64 (.ofNat 0)), (.int .i64 (.ofNat 0)), (.int .i64 (.ofNat 0)), (.string ⟨⟨[]⟩⟩), (.slice none 0 0)] 78 .exact))
      refine LB.grow (its := itsMsg) hb1 hl1 hb3 hx3 (Src.row (n := 1) (o := 0) (size := 11) (vs := [(.int .u8 (.ofNat 0)), (.int .i64 (.ofNat 0)), (.int .i64 (.ofNat 0)), (.int .i64 (.ofNat 0)), (.int .i64 (.ofNat 0)), (.int .i64 (.ofNat 0)), (.int .i64 (.ofNat 0)), (.int .i64 (.ofNat 0)), (.int .i64 (.ofNat 0)), (.string ⟨⟨[]⟩⟩), (.slice none 0 0)]) obj_new_same (by decide) (by decide)) (by kernel_rfl) (by omega) fun σ3 jn hb4 hm4 f3 => ?_
      obtain ⟨σ4, k4, hb5, f4⟩ := hb4.put (.slice (some ⟨jn, 0, some 0⟩) (es.length + 1) (es.length + 1)) rfl
      rw [rNil_p, k4, j_save_each_api_Msg_rrddrldrE _ (by rw [X_most]; omega)]
      unfold j_save_each_api_Msg_rrddrldrB
      rw [rNil_p, hb5.ld, rIdx_z 11 jn 0 es.length _ _ (by omega), rCallV_0]
      refine (hm4.fr f4 hb4.sub hb4.lt).child (n := n) hone hb5 fun u σ5 hb6 hl6 f5 => ?_
      rw [rBin_add _ _ _ _ (by omega)]
      have hF : Fn n0 W σ σ5 := ((Fn.of f2 hb.n0).trans (⟨hx3.n, fun i hi _ => hx3.same i (Nat.lt_of_lt_of_le hi hb1.n0)⟩ : Fn n0 W σ1 _)).trans ((f3.trans (.of f4 hb4.n0)).trans f5)
      have hd : decL (decs itsMsg) (r + 1) st = ((decs itsMsg st).1 :: (decL (decs itsMsg) r (decs itsMsg st).2).1, (decL (decs itsMsg) r (decs itsMsg st).2).2) := by simp only [decL]; rw [if_neg (by simp [he])]
      refine ih m (es.length + 1) σ5 _ _ _ (by omega) (by simp) (by omega) hb6 hl6 fun u2 σ6 v6 hb7 hl7 f6 => ?_
      refine hK u2 σ6 v6 (by rw [hd]; exact hb7) ?_ (hF.trans f6)
      rw [hd]
      simpa using hl7
    · rw [if_neg (by simpa using he)]
      have hd : decL (decs itsMsg) (r + 1) st = ([], st) := decL_err _ _ _ he
      refine hK _ σ1 v (by rw [hd]; exact hb1) (by rw [hd, List.append_nil]; exact hl1) (.of f2 hb.n0)
theorem eeach_api_Msg (hM : 1048576 < most) (hone : EyeOk most c_save_message itsMsg 5) {n : Nat} {σ : St} {W C : Nat → Prop} {rr : Nat} {st : RS} {b o : Nat} {e : TypeId} {gr : Bool} {vs : List Value} {all : List It} {ds : List D} {j : Nat} {its : List It} {K K0 : VK}
    (g : GE σ W C rr st b o e gr vs all ds j (.list itsMsg :: its) K) (next : ∀ v σ' st' vs' ds', GE σ' W C rr st' b o e gr vs' all ds' (j + 1) its K → K0 v σ' = true) :
    (X most (n + 6)).C c_save_each_api_Msg [eye rr, pt b (o + j), .func (.func c_save_message) #[] #[]] σ K0 = true := by
  rw [X_call (by rfl), f_save_each_api_Msg]
  unfold r_save_each_api_Msg
  obtain ⟨h1, _, hj⟩ := g.at
  have hz := g.zero j _ (Nat.le_refl _) h1
  have hle := g.le
  rw [rNil_p, g.own.ld hz]
  show rLenS (.slice none 0 0) _ = true
  rw [rLenS_s, rNil_m emeth_many, rInv_i emeth_many]
  refine eye_many (n := n + 2) g.eye.self _ fun σ1 e1 f1 => ?_
  obtain ⟨o1, e2, f2⟩ := g.read e1 f1
  rw [o1.ld hz, rSame_v (show sameV (zeroI (.list itsMsg)) (zeroI (.list itsMsg)) = true from rfl), X_most]
  have hcm := rdC_max 1048576 st
  refine eeach_api_Msg_loop hM hone (n := n) (n0 := σ1.n) (C := C) (vs := vs) hcm (rdC 1048576 st).1 most 0 σ1 _ (.slice none 0 0) [] (by omega) rfl (by omega) ⟨e2, by rw [set_self (by exact hz)]; exact o1, by omega, g.sub, fun i hi => Nat.lt_of_lt_of_le (g.lt i hi) f2.n, Nat.le_refl _⟩ (.inl ⟨rfl, rfl⟩) fun u σ' v' hb hl f => next u σ' _ _ _ (g.next (v' := v') hb.own ?_ hb.eye (f2.trans f.fr))
  have hlen := decL_len (decs itsMsg) (rdC 1048576 st).1 (rdC 1048576 st).2
  rw [List.nil_append] at hl
  exact hl.rd hb.lt (by omega)

theorem eeach_tally_Vote_loop (hM : 1048576 < most) (hone : EyeOk most c_save_vote itsVote 5) {n N : Nat} {W C : Nat → Prop} {n0 rr b q : Nat} {e0 : TypeId} {gr : Bool} {vs : List Value} (hN : N ≤ 1048576) {K : VK} :
    ∀ (r m i : Nat) (σ : St) (st : RS) (v : Value) (es : List (List D)), r < m → es.length = i → i + r = N → LB σ W C n0 rr b q e0 gr vs v st → Lst σ C n0 itsVote 53 v es →
      (∀ u σ' v', LB σ' W C n0 rr b q e0 gr vs v' (decL (decs itsVote) r st).2 → Lst σ' C n0 itsVote 53 v' (es ++ (decL (decs itsVote) r st).1) → Fn n0 W σ σ' → K u σ' = true) →
      l_save_each_tally_Vote_rrd (X most (n + 5)) m (eye rr) (pt b q) (.func (.func c_save_vote) #[] #[]) (.int .i64 (.ofNat N)) (.int .i64 (.ofNat i)) σ K = true := by
  intro r
  induction r with
  | zero =>
    intro m i σ st v es hm hi hr hb hl hK
    obtain ⟨m, rfl⟩ := Nat.exists_eq_succ_of_ne_zero (show m ≠ 0 by omega)
    rw [l_save_each_tally_Vote_rrdE]
    unfold l_save_each_tally_Vote_rrdB
    rw [rBin_lssN, show decide (i < N) = false from by simp; omega]
    simp only [rGuard_tf, rPick_f, rIf_f]
    exact hK _ σ v hb (by simpa [decL] using hl) ⟨Nat.le_refl _, fun _ _ _ => rfl⟩
  | succ r ih =>
    intro m i σ st v es hm hi hr hb hl hK
    obtain ⟨m, rfl⟩ := Nat.exists_eq_succ_of_ne_zero (show m ≠ 0 by omega)
    rw [l_save_each_tally_Vote_rrdE]
    unfold l_save_each_tally_Vote_rrdB
    rw [rBin_lssN, show decide (i < N) = true from by simp; omega]
    simp only [rGuard_tt, rInv_i emeth_wrong]
    refine eye_wrong (n := n + 3) hb.eye.self fun σ1 e1 f1 => ?_
    obtain ⟨hb1, f2⟩ := hb.read e1 f1
    have hl1 := hl.fr f2 hb.sub hb.lt
    rw [rBin_eqlN, rPick_t, rIf_b]
    by_cases he : st.2 = 0
    · rw [if_pos (by simpa using he), rNil_p, hb1.ld]
      obtain ⟨⟨a, ea⟩, hsame⟩ := hl1.val
      have hlen : ∀ K, rLenS v K = K (.int .i64 (.ofNat es.length)) := fun K => by rw [ea, rLenS_s]
      subst hi
      rw [hlen, rBin_eqlN, decide_eq_true rfl, rIf_t]
      have hb2 := hb1.new (.cells [(.int .i64 (.ofNat 0)), (.int .i64 (.ofNat 0)), (.int .u8 (.ofNat 0)), (.int .i64 (.ofNat 0)), (.string ⟨⟨[]⟩⟩)] 53 .exact)
      have hx2 : Ext' σ1 (σ1.new (.cells [(.int .i64 (.ofNat 0)), (.int .i64 (.ofNat 0)), (.int .u8 (.ofNat 0)), (.int .i64 (.ofNat 0)), (.string ⟨⟨[]⟩⟩)] 53 .exact)) := .new σ1 _
      rw [rAlloc_h, rNil_p, hb2.ld, rLdN_h obj_new_same (by decide), rLdN_h obj_new_same (by decide), rSame_v (by rfl), hb2.ld, rSame_v hsame]
      have hbs : ∀ (σ : St) (K : VK), rBuildS 53 1 [(.int .i64 (.ofNat 0)), (.int .i64 (.ofNat 0)), (.int .u8 (.ofNat 0)), (.int .i64 (.ofNat 0)), (.string ⟨⟨[]⟩⟩)] [(0, 5, .agg ⟨(([(.int .i64 (.ofNat 0)), (.int .i64 (.ofNat 0)), (.int .u8 (.ofNat 0)), (.int .i64 (.ofNat 0)), (.string ⟨⟨[]⟩⟩)] : List Value).drop 0).take 5⟩)] σ K = K (.slice (some ⟨σ.n, 0, none⟩) 1 1) (σ.new (.cells [(.int .i64 (.ofNat 0)), (.int .i64 (.ofNat 0)), (.int .u8 (.ofNat 0)), (.int .i64 (.ofNat 0)), (.string ⟨⟨[]⟩⟩)] 53 .exact)) := fun σ K => rBuildS_agg1 53 (k := 5) (zero := [(.int .i64 (.ofNat 0)), (.int .i64 (.ofNat 0)), (.int .u8 (.ofNat 0)), (.int .i64 (.ofNat 0)), (.string ⟨⟨[]⟩⟩)]) (cs := [(.int .i64 (.ofNat 0)), (.int .i64 (.ofNat 0)), (.int .u8 (.ofNat 0)), (.int .i64 (.ofNat 0)), (.string ⟨⟨[]⟩⟩)]) rfl rfl rfl σ K
      rw [hbs, bcase_t, hbs]
      have hb3 := hb2.new (.cells [(.int .i64 (.ofNat 0)), (.int .i64 (.ofNat 0)), (.int .u8 (.ofNat 0)), (.int .i64 (.ofNat 0)), (.string ⟨⟨[]⟩⟩)] 53 .exact)
      have hx3 := hx2.trans (Ext'.new (σ1.new (.cells [(.int .i64 (.ofNat 0)), (.int .i64 (.ofNat 0)), (.int .u8 (.ofNat 0)), (.int .i64 (.ofNat 0)), (.string ⟨⟨[]⟩⟩)] 53 .exact)) (.cells [(.int .i64 (.ofNat 0)), (.int .i64 (.ofNat 0)), (.int .u8 (.ofNat 0)), (.int .i64 (.ofNat 0)), (.string ⟨⟨[]⟩⟩)] 53 .exact))
      refine LB.grow (its := itsVote) hb1 hl1 hb3 hx3 (Src.row (n := 1) (o := 0) (size := 5) (vs := [(.int .i64 (.ofNat 0)), (.int .i64 (.ofNat 0)), (.int .u8 (.ofNat 0)), (.int .i64 (.ofNat 0)), (.string ⟨⟨[]⟩⟩)]) obj_new_same (by decide) (by decide)) (by kernel_rfl) (by omega) fun σ3 jn hb4 hm4 f3 => ?_
      obtain ⟨σ4, k4, hb5, f4⟩ := hb4.put (.slice (some ⟨jn, 0, some 0⟩) (es.length + 1) (es.length + 1)) rfl
      rw [rNil_p, k4, j_save_each_tally_Vote_rrddrldrE _ (by rw [X_most]; omega)]
      unfold j_save_each_tally_Vote_rrddrldrB
      rw [rNil_p, hb5.ld, rIdx_z 5 jn 0 es.length _ _ (by omega), rCallV_0]
      refine (hm4.fr f4 hb4.sub hb4.lt).child (n := n) hone hb5 fun u σ5 hb6 hl6 f5 => ?_
      rw [rBin_add _ _ _ _ (by omega)]
      have hF : Fn n0 W σ σ5 := ((Fn.of f2 hb.n0).trans (⟨hx3.n, fun i hi _ => hx3.same i (Nat.lt_of_lt_of_le hi hb1.n0)⟩ : Fn n0 W σ1 _)).trans ((f3.trans (.of f4 hb4.n0)).trans f5)
      have hd : decL (decs itsVote) (r + 1) st = ((decs itsVote st).1 :: (decL (decs itsVote) r (decs itsVote st).2).1, (decL (decs itsVote) r (decs itsVote st).2).2) := by simp only [decL]; rw [if_neg (by simp [he])]
      refine ih m (es.length + 1) σ5 _ _ _ (by omega) (by simp) (by omega) hb6 hl6 fun u2 σ6 v6 hb7 hl7 f6 => ?_
      refine hK u2 σ6 v6 (by rw [hd]; exact hb7) ?_ (hF.trans f6)
      rw [hd]
      simpa using hl7
    · rw [if_neg (by simpa using he)]
      have hd : decL (decs itsVote) (r + 1) st = ([], st) := decL_err _ _ _ he
      refine hK _ σ1 v (by rw [hd]; exact hb1) (by rw [hd, List.append_nil]; exact hl1) (.of f2 hb.n0)
theorem eeach_tally_Vote (hM : 1048576 < most) (hone : EyeOk most c_save_vote itsVote 5) {n : Nat} {σ : St} {W C : Nat → Prop} {rr : Nat} {st : RS} {b o : Nat} {e : TypeId} {gr : Bool} {vs : List Value} {all : List It} {ds : List D} {j : Nat} {its : List It} {K K0 : VK}
    (g : GE σ W C rr st b o e gr vs all ds j (.list itsVote :: its) K) (next : ∀ v σ' st' vs' ds', GE σ' W C rr st' b o e gr vs' all ds' (j + 1) its K → K0 v σ' = true) :
    (X most (n + 6)).C c_save_each_tally_Vote [eye rr, pt b (o + j), .func (.func c_save_vote) #[] #[]] σ K0 = true := by
  rw [X_call (by rfl), f_save_each_tally_Vote]
  unfold r_save_each_tally_Vote
  obtain ⟨h1, _, hj⟩ := g.at
  have hz := g.zero j _ (Nat.le_refl _) h1
  have hle := g.le
  rw [rNil_p, g.own.ld hz]
  show rLenS (.slice none 0 0) _ = true
  rw [rLenS_s, rNil_m emeth_many, rInv_i emeth_many]
  refine eye_many (n := n + 2) g.eye.self _ fun σ1 e1 f1 => ?_
  obtain ⟨o1, e2, f2⟩ := g.read e1 f1
  rw [o1.ld hz, rSame_v (show sameV (zeroI (.list itsVote)) (zeroI (.list itsVote)) = true from rfl), X_most]
  have hcm := rdC_max 1048576 st
  refine eeach_tally_Vote_loop hM hone (n := n) (n0 := σ1.n) (C := C) (vs := vs) hcm (rdC 1048576 st).1 most 0 σ1 _ (.slice none 0 0) [] (by omega) rfl (by omega) ⟨e2, by rw [set_self (by exact hz)]; exact o1, by omega, g.sub, fun i hi => Nat.lt_of_lt_of_le (g.lt i hi) f2.n, Nat.le_refl _⟩ (.inl ⟨rfl, rfl⟩) fun u σ' v' hb hl f => next u σ' _ _ _ (g.next (v' := v') hb.own ?_ hb.eye (f2.trans f.fr))
  have hlen := decL_len (decs itsVote) (rdC 1048576 st).1 (rdC 1048576 st).2
  rw [List.nil_append] at hl
  exact hl.rd hb.lt (by omega)

theorem eeach_board_Told_loop (hM : 1048576 < most) (hone : EyeOk most c_save_said itsSaid 5) {n N : Nat} {W C : Nat → Prop} {n0 rr b q : Nat} {e0 : TypeId} {gr : Bool} {vs : List Value} (hN : N ≤ 1048576) {K : VK} :
    ∀ (r m i : Nat) (σ : St) (st : RS) (v : Value) (es : List (List D)), r < m → es.length = i → i + r = N → LB σ W C n0 rr b q e0 gr vs v st → Lst σ C n0 itsSaid 55 v es →
      (∀ u σ' v', LB σ' W C n0 rr b q e0 gr vs v' (decL (decs itsSaid) r st).2 → Lst σ' C n0 itsSaid 55 v' (es ++ (decL (decs itsSaid) r st).1) → Fn n0 W σ σ' → K u σ' = true) →
      l_save_each_board_Told_rrd (X most (n + 5)) m (eye rr) (pt b q) (.func (.func c_save_said) #[] #[]) (.int .i64 (.ofNat N)) (.int .i64 (.ofNat i)) σ K = true := by
  intro r
  induction r with
  | zero =>
    intro m i σ st v es hm hi hr hb hl hK
    obtain ⟨m, rfl⟩ := Nat.exists_eq_succ_of_ne_zero (show m ≠ 0 by omega)
    rw [l_save_each_board_Told_rrdE]
    unfold l_save_each_board_Told_rrdB
    rw [rBin_lssN, show decide (i < N) = false from by simp; omega]
    simp only [rGuard_tf, rPick_f, rIf_f]
    exact hK _ σ v hb (by simpa [decL] using hl) ⟨Nat.le_refl _, fun _ _ _ => rfl⟩
  | succ r ih =>
    intro m i σ st v es hm hi hr hb hl hK
    obtain ⟨m, rfl⟩ := Nat.exists_eq_succ_of_ne_zero (show m ≠ 0 by omega)
    rw [l_save_each_board_Told_rrdE]
    unfold l_save_each_board_Told_rrdB
    rw [rBin_lssN, show decide (i < N) = true from by simp; omega]
    simp only [rGuard_tt, rInv_i emeth_wrong]
    refine eye_wrong (n := n + 3) hb.eye.self fun σ1 e1 f1 => ?_
    obtain ⟨hb1, f2⟩ := hb.read e1 f1
    have hl1 := hl.fr f2 hb.sub hb.lt
    rw [rBin_eqlN, rPick_t, rIf_b]
    by_cases he : st.2 = 0
    · rw [if_pos (by simpa using he), rNil_p, hb1.ld]
      obtain ⟨⟨a, ea⟩, hsame⟩ := hl1.val
      have hlen : ∀ K, rLenS v K = K (.int .i64 (.ofNat es.length)) := fun K => by rw [ea, rLenS_s]
      subst hi
      rw [hlen, rBin_eqlN, decide_eq_true rfl, rIf_t]
      have hb2 := hb1.new (.cells [(.int .i64 (.ofNat 0)), (.string ⟨⟨[]⟩⟩)] 55 .exact)
      have hx2 : Ext' σ1 (σ1.new (.cells [(.int .i64 (.ofNat 0)), (.string ⟨⟨[]⟩⟩)] 55 .exact)) := .new σ1 _
      rw [rAlloc_h, rNil_p, hb2.ld, rLdN_h obj_new_same (by decide), rLdN_h obj_new_same (by decide), rSame_v (by rfl), hb2.ld, rSame_v hsame]
      have hbs : ∀ (σ : St) (K : VK), rBuildS 55 1 [(.int .i64 (.ofNat 0)), (.string ⟨⟨[]⟩⟩)] [(0, 2, .agg ⟨(([(.int .i64 (.ofNat 0)), (.string ⟨⟨[]⟩⟩)] : List Value).drop 0).take 2⟩)] σ K = K (.slice (some ⟨σ.n, 0, none⟩) 1 1) (σ.new (.cells [(.int .i64 (.ofNat 0)), (.string ⟨⟨[]⟩⟩)] 55 .exact)) := fun σ K => rBuildS_agg1 55 (k := 2) (zero := [(.int .i64 (.ofNat 0)), (.string ⟨⟨[]⟩⟩)]) (cs := [(.int .i64 (.ofNat 0)), (.string ⟨⟨[]⟩⟩)]) rfl rfl rfl σ K
      rw [hbs, bcase_t, hbs]
      have hb3 := hb2.new (.cells [(.int .i64 (.ofNat 0)), (.string ⟨⟨[]⟩⟩)] 55 .exact)
      have hx3 := hx2.trans (Ext'.new (σ1.new (.cells [(.int .i64 (.ofNat 0)), (.string ⟨⟨[]⟩⟩)] 55 .exact)) (.cells [(.int .i64 (.ofNat 0)), (.string ⟨⟨[]⟩⟩)] 55 .exact))
      refine LB.grow (its := itsSaid) hb1 hl1 hb3 hx3 (Src.row (n := 1) (o := 0) (size := 2) (vs := [(.int .i64 (.ofNat 0)), (.string ⟨⟨[]⟩⟩)]) obj_new_same (by decide) (by decide)) (by kernel_rfl) (by omega) fun σ3 jn hb4 hm4 f3 => ?_
      obtain ⟨σ4, k4, hb5, f4⟩ := hb4.put (.slice (some ⟨jn, 0, some 0⟩) (es.length + 1) (es.length + 1)) rfl
      rw [rNil_p, k4, j_save_each_board_Told_rrddrldrE _ (by rw [X_most]; omega)]
      unfold j_save_each_board_Told_rrddrldrB
      rw [rNil_p, hb5.ld, rIdx_z 2 jn 0 es.length _ _ (by omega), rCallV_0]
      refine (hm4.fr f4 hb4.sub hb4.lt).child (n := n) hone hb5 fun u σ5 hb6 hl6 f5 => ?_
      rw [rBin_add _ _ _ _ (by omega)]
      have hF : Fn n0 W σ σ5 := ((Fn.of f2 hb.n0).trans (⟨hx3.n, fun i hi _ => hx3.same i (Nat.lt_of_lt_of_le hi hb1.n0)⟩ : Fn n0 W σ1 _)).trans ((f3.trans (.of f4 hb4.n0)).trans f5)
      have hd : decL (decs itsSaid) (r + 1) st = ((decs itsSaid st).1 :: (decL (decs itsSaid) r (decs itsSaid st).2).1, (decL (decs itsSaid) r (decs itsSaid st).2).2) := by simp only [decL]; rw [if_neg (by simp [he])]
      refine ih m (es.length + 1) σ5 _ _ _ (by omega) (by simp) (by omega) hb6 hl6 fun u2 σ6 v6 hb7 hl7 f6 => ?_
      refine hK u2 σ6 v6 (by rw [hd]; exact hb7) ?_ (hF.trans f6)
      rw [hd]
      simpa using hl7
    · rw [if_neg (by simpa using he)]
      have hd : decL (decs itsSaid) (r + 1) st = ([], st) := decL_err _ _ _ he
      refine hK _ σ1 v (by rw [hd]; exact hb1) (by rw [hd, List.append_nil]; exact hl1) (.of f2 hb.n0)
theorem eeach_board_Told (hM : 1048576 < most) (hone : EyeOk most c_save_said itsSaid 5) {n : Nat} {σ : St} {W C : Nat → Prop} {rr : Nat} {st : RS} {b o : Nat} {e : TypeId} {gr : Bool} {vs : List Value} {all : List It} {ds : List D} {j : Nat} {its : List It} {K K0 : VK}
    (g : GE σ W C rr st b o e gr vs all ds j (.list itsSaid :: its) K) (next : ∀ v σ' st' vs' ds', GE σ' W C rr st' b o e gr vs' all ds' (j + 1) its K → K0 v σ' = true) :
    (X most (n + 6)).C c_save_each_board_Told [eye rr, pt b (o + j), .func (.func c_save_said) #[] #[]] σ K0 = true := by
  rw [X_call (by rfl), f_save_each_board_Told]
  unfold r_save_each_board_Told
  obtain ⟨h1, _, hj⟩ := g.at
  have hz := g.zero j _ (Nat.le_refl _) h1
  have hle := g.le
  rw [rNil_p, g.own.ld hz]
  show rLenS (.slice none 0 0) _ = true
  rw [rLenS_s, rNil_m emeth_many, rInv_i emeth_many]
  refine eye_many (n := n + 2) g.eye.self _ fun σ1 e1 f1 => ?_
  obtain ⟨o1, e2, f2⟩ := g.read e1 f1
  rw [o1.ld hz, rSame_v (show sameV (zeroI (.list itsSaid)) (zeroI (.list itsSaid)) = true from rfl), X_most]
  have hcm := rdC_max 1048576 st
  refine eeach_board_Told_loop hM hone (n := n) (n0 := σ1.n) (C := C) (vs := vs) hcm (rdC 1048576 st).1 most 0 σ1 _ (.slice none 0 0) [] (by omega) rfl (by omega) ⟨e2, by rw [set_self (by exact hz)]; exact o1, by omega, g.sub, fun i hi => Nat.lt_of_lt_of_le (g.lt i hi) f2.n, Nat.le_refl _⟩ (.inl ⟨rfl, rfl⟩) fun u σ' v' hb hl f => next u σ' _ _ _ (g.next (v' := v') hb.own ?_ hb.eye (f2.trans f.fr))
  have hlen := decL_len (decs itsSaid) (rdC 1048576 st).1 (rdC 1048576 st).2
  rw [List.nil_append] at hl
  exact hl.rd hb.lt (by omega)

theorem eeach_avss_Told_loop (hM : 1048576 < most) (hone : EyeOk most c_save_told itsTold 5) {n N : Nat} {W C : Nat → Prop} {n0 rr b q : Nat} {e0 : TypeId} {gr : Bool} {vs : List Value} (hN : N ≤ 1048576) {K : VK} :
    ∀ (r m i : Nat) (σ : St) (st : RS) (v : Value) (es : List (List D)), r < m → es.length = i → i + r = N → LB σ W C n0 rr b q e0 gr vs v st → Lst σ C n0 itsTold 118 v es →
      (∀ u σ' v', LB σ' W C n0 rr b q e0 gr vs v' (decL (decs itsTold) r st).2 → Lst σ' C n0 itsTold 118 v' (es ++ (decL (decs itsTold) r st).1) → Fn n0 W σ σ' → K u σ' = true) →
      l_save_each_avss_Told_rrd (X most (n + 5)) m (eye rr) (pt b q) (.func (.func c_save_told) #[] #[]) (.int .i64 (.ofNat N)) (.int .i64 (.ofNat i)) σ K = true := by
  intro r
  induction r with
  | zero =>
    intro m i σ st v es hm hi hr hb hl hK
    obtain ⟨m, rfl⟩ := Nat.exists_eq_succ_of_ne_zero (show m ≠ 0 by omega)
    rw [l_save_each_avss_Told_rrdE]
    unfold l_save_each_avss_Told_rrdB
    rw [rBin_lssN, show decide (i < N) = false from by simp; omega]
    simp only [rGuard_tf, rPick_f, rIf_f]
    exact hK _ σ v hb (by simpa [decL] using hl) ⟨Nat.le_refl _, fun _ _ _ => rfl⟩
  | succ r ih =>
    intro m i σ st v es hm hi hr hb hl hK
    obtain ⟨m, rfl⟩ := Nat.exists_eq_succ_of_ne_zero (show m ≠ 0 by omega)
    rw [l_save_each_avss_Told_rrdE]
    unfold l_save_each_avss_Told_rrdB
    rw [rBin_lssN, show decide (i < N) = true from by simp; omega]
    simp only [rGuard_tt, rInv_i emeth_wrong]
    refine eye_wrong (n := n + 3) hb.eye.self fun σ1 e1 f1 => ?_
    obtain ⟨hb1, f2⟩ := hb.read e1 f1
    have hl1 := hl.fr f2 hb.sub hb.lt
    rw [rBin_eqlN, rPick_t, rIf_b]
    by_cases he : st.2 = 0
    · rw [if_pos (by simpa using he), rNil_p, hb1.ld]
      obtain ⟨⟨a, ea⟩, hsame⟩ := hl1.val
      have hlen : ∀ K, rLenS v K = K (.int .i64 (.ofNat es.length)) := fun K => by rw [ea, rLenS_s]
      subst hi
      rw [hlen, rBin_eqlN, decide_eq_true rfl, rIf_t]
      have hb2 := hb1.new (.cells [(.int .i64 (.ofNat 0)), (.slice none 0 0)] 118 .exact)
      have hx2 : Ext' σ1 (σ1.new (.cells [(.int .i64 (.ofNat 0)), (.slice none 0 0)] 118 .exact)) := .new σ1 _
      rw [rAlloc_h, rNil_p, hb2.ld, rLdN_h obj_new_same (by decide), rLdN_h obj_new_same (by decide), rSame_v (by rfl), hb2.ld, rSame_v hsame]
      have hbs : ∀ (σ : St) (K : VK), rBuildS 118 1 [(.int .i64 (.ofNat 0)), (.slice none 0 0)] [(0, 2, .agg ⟨(([(.int .i64 (.ofNat 0)), (.slice none 0 0)] : List Value).drop 0).take 2⟩)] σ K = K (.slice (some ⟨σ.n, 0, none⟩) 1 1) (σ.new (.cells [(.int .i64 (.ofNat 0)), (.slice none 0 0)] 118 .exact)) := fun σ K => rBuildS_agg1 118 (k := 2) (zero := [(.int .i64 (.ofNat 0)), (.slice none 0 0)]) (cs := [(.int .i64 (.ofNat 0)), (.slice none 0 0)]) rfl rfl rfl σ K
      rw [hbs, bcase_t, hbs]
      have hb3 := hb2.new (.cells [(.int .i64 (.ofNat 0)), (.slice none 0 0)] 118 .exact)
      have hx3 := hx2.trans (Ext'.new (σ1.new (.cells [(.int .i64 (.ofNat 0)), (.slice none 0 0)] 118 .exact)) (.cells [(.int .i64 (.ofNat 0)), (.slice none 0 0)] 118 .exact))
      refine LB.grow (its := itsTold) hb1 hl1 hb3 hx3 (Src.row (n := 1) (o := 0) (size := 2) (vs := [(.int .i64 (.ofNat 0)), (.slice none 0 0)]) obj_new_same (by decide) (by decide)) (by kernel_rfl) (by omega) fun σ3 jn hb4 hm4 f3 => ?_
      obtain ⟨σ4, k4, hb5, f4⟩ := hb4.put (.slice (some ⟨jn, 0, some 0⟩) (es.length + 1) (es.length + 1)) rfl
      rw [rNil_p, k4, j_save_each_avss_Told_rrddrldrE _ (by rw [X_most]; omega)]
      unfold j_save_each_avss_Told_rrddrldrB
      rw [rNil_p, hb5.ld, rIdx_z 2 jn 0 es.length _ _ (by omega), rCallV_0]
      refine (hm4.fr f4 hb4.sub hb4.lt).child (n := n) hone hb5 fun u σ5 hb6 hl6 f5 => ?_
      rw [rBin_add _ _ _ _ (by omega)]
      have hF : Fn n0 W σ σ5 := ((Fn.of f2 hb.n0).trans (⟨hx3.n, fun i hi _ => hx3.same i (Nat.lt_of_lt_of_le hi hb1.n0)⟩ : Fn n0 W σ1 _)).trans ((f3.trans (.of f4 hb4.n0)).trans f5)
      have hd : decL (decs itsTold) (r + 1) st = ((decs itsTold st).1 :: (decL (decs itsTold) r (decs itsTold st).2).1, (decL (decs itsTold) r (decs itsTold st).2).2) := by simp only [decL]; rw [if_neg (by simp [he])]
      refine ih m (es.length + 1) σ5 _ _ _ (by omega) (by simp) (by omega) hb6 hl6 fun u2 σ6 v6 hb7 hl7 f6 => ?_
      refine hK u2 σ6 v6 (by rw [hd]; exact hb7) ?_ (hF.trans f6)
      rw [hd]
      simpa using hl7
    · rw [if_neg (by simpa using he)]
      have hd : decL (decs itsTold) (r + 1) st = ([], st) := decL_err _ _ _ he
      refine hK _ σ1 v (by rw [hd]; exact hb1) (by rw [hd, List.append_nil]; exact hl1) (.of f2 hb.n0)
theorem eeach_avss_Told (hM : 1048576 < most) (hone : EyeOk most c_save_told itsTold 5) {n : Nat} {σ : St} {W C : Nat → Prop} {rr : Nat} {st : RS} {b o : Nat} {e : TypeId} {gr : Bool} {vs : List Value} {all : List It} {ds : List D} {j : Nat} {its : List It} {K K0 : VK}
    (g : GE σ W C rr st b o e gr vs all ds j (.list itsTold :: its) K) (next : ∀ v σ' st' vs' ds', GE σ' W C rr st' b o e gr vs' all ds' (j + 1) its K → K0 v σ' = true) :
    (X most (n + 6)).C c_save_each_avss_Told [eye rr, pt b (o + j), .func (.func c_save_told) #[] #[]] σ K0 = true := by
  rw [X_call (by rfl), f_save_each_avss_Told]
  unfold r_save_each_avss_Told
  obtain ⟨h1, _, hj⟩ := g.at
  have hz := g.zero j _ (Nat.le_refl _) h1
  have hle := g.le
  rw [rNil_p, g.own.ld hz]
  show rLenS (.slice none 0 0) _ = true
  rw [rLenS_s, rNil_m emeth_many, rInv_i emeth_many]
  refine eye_many (n := n + 2) g.eye.self _ fun σ1 e1 f1 => ?_
  obtain ⟨o1, e2, f2⟩ := g.read e1 f1
  rw [o1.ld hz, rSame_v (show sameV (zeroI (.list itsTold)) (zeroI (.list itsTold)) = true from rfl), X_most]
  have hcm := rdC_max 1048576 st
  refine eeach_avss_Told_loop hM hone (n := n) (n0 := σ1.n) (C := C) (vs := vs) hcm (rdC 1048576 st).1 most 0 σ1 _ (.slice none 0 0) [] (by omega) rfl (by omega) ⟨e2, by rw [set_self (by exact hz)]; exact o1, by omega, g.sub, fun i hi => Nat.lt_of_lt_of_le (g.lt i hi) f2.n, Nat.le_refl _⟩ (.inl ⟨rfl, rfl⟩) fun u σ' v' hb hl f => next u σ' _ _ _ (g.next (v' := v') hb.own ?_ hb.eye (f2.trans f.fr))
  have hlen := decL_len (decs itsTold) (rdC 1048576 st).1 (rdC 1048576 st).2
  rw [List.nil_append] at hl
  exact hl.rd hb.lt (by omega)

theorem eeach_node_Done_loop (hM : 1048576 < most) (hone : EyeOk most c_save_done itsDone 5) {n N : Nat} {W C : Nat → Prop} {n0 rr b q : Nat} {e0 : TypeId} {gr : Bool} {vs : List Value} (hN : N ≤ 1048576) {K : VK} :
    ∀ (r m i : Nat) (σ : St) (st : RS) (v : Value) (es : List (List D)), r < m → es.length = i → i + r = N → LB σ W C n0 rr b q e0 gr vs v st → Lst σ C n0 itsDone 51 v es →
      (∀ u σ' v', LB σ' W C n0 rr b q e0 gr vs v' (decL (decs itsDone) r st).2 → Lst σ' C n0 itsDone 51 v' (es ++ (decL (decs itsDone) r st).1) → Fn n0 W σ σ' → K u σ' = true) →
      l_save_each_node_Done_rrd (X most (n + 5)) m (eye rr) (pt b q) (.func (.func c_save_done) #[] #[]) (.int .i64 (.ofNat N)) (.int .i64 (.ofNat i)) σ K = true := by
  intro r
  induction r with
  | zero =>
    intro m i σ st v es hm hi hr hb hl hK
    obtain ⟨m, rfl⟩ := Nat.exists_eq_succ_of_ne_zero (show m ≠ 0 by omega)
    rw [l_save_each_node_Done_rrdE]
    unfold l_save_each_node_Done_rrdB
    rw [rBin_lssN, show decide (i < N) = false from by simp; omega]
    simp only [rGuard_tf, rPick_f, rIf_f]
    exact hK _ σ v hb (by simpa [decL] using hl) ⟨Nat.le_refl _, fun _ _ _ => rfl⟩
  | succ r ih =>
    intro m i σ st v es hm hi hr hb hl hK
    obtain ⟨m, rfl⟩ := Nat.exists_eq_succ_of_ne_zero (show m ≠ 0 by omega)
    rw [l_save_each_node_Done_rrdE]
    unfold l_save_each_node_Done_rrdB
    rw [rBin_lssN, show decide (i < N) = true from by simp; omega]
    simp only [rGuard_tt, rInv_i emeth_wrong]
    refine eye_wrong (n := n + 3) hb.eye.self fun σ1 e1 f1 => ?_
    obtain ⟨hb1, f2⟩ := hb.read e1 f1
    have hl1 := hl.fr f2 hb.sub hb.lt
    rw [rBin_eqlN, rPick_t, rIf_b]
    by_cases he : st.2 = 0
    · rw [if_pos (by simpa using he), rNil_p, hb1.ld]
      obtain ⟨⟨a, ea⟩, hsame⟩ := hl1.val
      have hlen : ∀ K, rLenS v K = K (.int .i64 (.ofNat es.length)) := fun K => by rw [ea, rLenS_s]
      subst hi
      rw [hlen, rBin_eqlN, decide_eq_true rfl, rIf_t]
      have hb2 := hb1.new (.cells [(.int .i64 (.ofNat 0)), (.int .i64 (.ofNat 0)), (.slice none 0 0)] 51 .exact)
      have hx2 : Ext' σ1 (σ1.new (.cells [(.int .i64 (.ofNat 0)), (.int .i64 (.ofNat 0)), (.slice none 0 0)] 51 .exact)) := .new σ1 _
      rw [rAlloc_h, rNil_p, hb2.ld, rLdN_h obj_new_same (by decide), rLdN_h obj_new_same (by decide), rSame_v (by rfl), hb2.ld, rSame_v hsame]
      have hbs : ∀ (σ : St) (K : VK), rBuildS 51 1 [(.int .i64 (.ofNat 0)), (.int .i64 (.ofNat 0)), (.slice none 0 0)] [(0, 3, .agg ⟨(([(.int .i64 (.ofNat 0)), (.int .i64 (.ofNat 0)), (.slice none 0 0)] : List Value).drop 0).take 3⟩)] σ K = K (.slice (some ⟨σ.n, 0, none⟩) 1 1) (σ.new (.cells [(.int .i64 (.ofNat 0)), (.int .i64 (.ofNat 0)), (.slice none 0 0)] 51 .exact)) := fun σ K => rBuildS_agg1 51 (k := 3) (zero := [(.int .i64 (.ofNat 0)), (.int .i64 (.ofNat 0)), (.slice none 0 0)]) (cs := [(.int .i64 (.ofNat 0)), (.int .i64 (.ofNat 0)), (.slice none 0 0)]) rfl rfl rfl σ K
      rw [hbs, bcase_t, hbs]
      have hb3 := hb2.new (.cells [(.int .i64 (.ofNat 0)), (.int .i64 (.ofNat 0)), (.slice none 0 0)] 51 .exact)
      have hx3 := hx2.trans (Ext'.new (σ1.new (.cells [(.int .i64 (.ofNat 0)), (.int .i64 (.ofNat 0)), (.slice none 0 0)] 51 .exact)) (.cells [(.int .i64 (.ofNat 0)), (.int .i64 (.ofNat 0)), (.slice none 0 0)] 51 .exact))
      refine LB.grow (its := itsDone) hb1 hl1 hb3 hx3 (Src.row (n := 1) (o := 0) (size := 3) (vs := [(.int .i64 (.ofNat 0)), (.int .i64 (.ofNat 0)), (.slice none 0 0)]) obj_new_same (by decide) (by decide)) (by kernel_rfl) (by omega) fun σ3 jn hb4 hm4 f3 => ?_
      obtain ⟨σ4, k4, hb5, f4⟩ := hb4.put (.slice (some ⟨jn, 0, some 0⟩) (es.length + 1) (es.length + 1)) rfl
      rw [rNil_p, k4, j_save_each_node_Done_rrddrldrE _ (by rw [X_most]; omega)]
      unfold j_save_each_node_Done_rrddrldrB
      rw [rNil_p, hb5.ld, rIdx_z 3 jn 0 es.length _ _ (by omega), rCallV_0]
      refine (hm4.fr f4 hb4.sub hb4.lt).child (n := n) hone hb5 fun u σ5 hb6 hl6 f5 => ?_
      rw [rBin_add _ _ _ _ (by omega)]
      have hF : Fn n0 W σ σ5 := ((Fn.of f2 hb.n0).trans (⟨hx3.n, fun i hi _ => hx3.same i (Nat.lt_of_lt_of_le hi hb1.n0)⟩ : Fn n0 W σ1 _)).trans ((f3.trans (.of f4 hb4.n0)).trans f5)
      have hd : decL (decs itsDone) (r + 1) st = ((decs itsDone st).1 :: (decL (decs itsDone) r (decs itsDone st).2).1, (decL (decs itsDone) r (decs itsDone st).2).2) := by simp only [decL]; rw [if_neg (by simp [he])]
      refine ih m (es.length + 1) σ5 _ _ _ (by omega) (by simp) (by omega) hb6 hl6 fun u2 σ6 v6 hb7 hl7 f6 => ?_
      refine hK u2 σ6 v6 (by rw [hd]; exact hb7) ?_ (hF.trans f6)
      rw [hd]
      simpa using hl7
    · rw [if_neg (by simpa using he)]
      have hd : decL (decs itsDone) (r + 1) st = ([], st) := decL_err _ _ _ he
      refine hK _ σ1 v (by rw [hd]; exact hb1) (by rw [hd, List.append_nil]; exact hl1) (.of f2 hb.n0)
theorem eeach_node_Done (hM : 1048576 < most) (hone : EyeOk most c_save_done itsDone 5) {n : Nat} {σ : St} {W C : Nat → Prop} {rr : Nat} {st : RS} {b o : Nat} {e : TypeId} {gr : Bool} {vs : List Value} {all : List It} {ds : List D} {j : Nat} {its : List It} {K K0 : VK}
    (g : GE σ W C rr st b o e gr vs all ds j (.list itsDone :: its) K) (next : ∀ v σ' st' vs' ds', GE σ' W C rr st' b o e gr vs' all ds' (j + 1) its K → K0 v σ' = true) :
    (X most (n + 6)).C c_save_each_node_Done [eye rr, pt b (o + j), .func (.func c_save_done) #[] #[]] σ K0 = true := by
  rw [X_call (by rfl), f_save_each_node_Done]
  unfold r_save_each_node_Done
  obtain ⟨h1, _, hj⟩ := g.at
  have hz := g.zero j _ (Nat.le_refl _) h1
  have hle := g.le
  rw [rNil_p, g.own.ld hz]
  show rLenS (.slice none 0 0) _ = true
  rw [rLenS_s, rNil_m emeth_many, rInv_i emeth_many]
  refine eye_many (n := n + 2) g.eye.self _ fun σ1 e1 f1 => ?_
  obtain ⟨o1, e2, f2⟩ := g.read e1 f1
  rw [o1.ld hz, rSame_v (show sameV (zeroI (.list itsDone)) (zeroI (.list itsDone)) = true from rfl), X_most]
  have hcm := rdC_max 1048576 st
  refine eeach_node_Done_loop hM hone (n := n) (n0 := σ1.n) (C := C) (vs := vs) hcm (rdC 1048576 st).1 most 0 σ1 _ (.slice none 0 0) [] (by omega) rfl (by omega) ⟨e2, by rw [set_self (by exact hz)]; exact o1, by omega, g.sub, fun i hi => Nat.lt_of_lt_of_le (g.lt i hi) f2.n, Nat.le_refl _⟩ (.inl ⟨rfl, rfl⟩) fun u σ' v' hb hl f => next u σ' _ _ _ (g.next (v' := v') hb.own ?_ hb.eye (f2.trans f.fr))
  have hlen := decL_len (decs itsDone) (rdC 1048576 st).1 (rdC 1048576 st).2
  rw [List.nil_append] at hl
  exact hl.rd hb.lt (by omega)

theorem eye_dealing' (hM : 1048576 < most) : EyeOk most c_save_dealing itsDealing 7 := by
  intro n σ W C rr st b o e gr vs K g
  have hm : 1024 < most := by omega
  rw [X_call (by rfl), f_save_dealing]
  unfold r_save_dealing
  rw [rNil_p, rFld_p, rNil_p, rFld_p]
  rw [rB2, bcase_t, rB2]
  refine estep_whole (n := n + 2) (its := [.list itsNums, .nums, .list itsTold, .list itsTold, .nums, .is]) hm 2 (by omega) g fun v σ st vs ds g => ?_
  rw [rNil_p, rFld_p]
  refine eeach_list_uint64 (n := n + 0) (its := [.nums, .list itsTold, .list itsTold, .nums, .is]) hM (eye_nums' hM) g fun v σ st vs ds g => ?_
  rw [rNil_p, rFld_p, rNil_m emeth_nums, rInv_i emeth_nums]
  refine estep_nums (n := n + 3) (its := [.list itsTold, .list itsTold, .nums, .is]) g fun v σ st vs ds g => ?_
  rw [rNil_p, rFld_p]
  refine eeach_avss_Told (n := n + 0) (its := [.list itsTold, .nums, .is]) hM (eye_told' hM) g fun v σ st vs ds g => ?_
  rw [rNil_p, rFld_p]
  refine eeach_avss_Told (n := n + 0) (its := [.nums, .is]) hM (eye_told' hM) g fun v σ st vs ds g => ?_
  rw [rNil_p, rFld_p, rNil_m emeth_nums, rInv_i emeth_nums]
  refine estep_nums (n := n + 3) (its := [.is]) g fun v σ st vs ds g => ?_
  rw [rNil_p, rFld_p, rNil_m emeth_is, rInv_i emeth_is]
  refine estep_is (n := n + 3) (its := []) g fun v σ st vs ds g => ?_
  exact g.fin _

theorem eye_voting' (hM : 1048576 < most) : EyeOk most c_save_voting itsVoting 7 := by
  intro n σ W C rr st b o e gr vs K g
  have hm : 1024 < most := by omega
  rw [X_call (by rfl), f_save_voting]
  unfold r_save_voting
  rw [rNil_p, rFld_p, rNil_p, rFld_p, rNil_p, rFld_p, rNil_p, rFld_p, rNil_p, rFld_p, rNil_p, rFld_p, rNil_p, rFld_p]
  rw [rB7, bcase_t, rB7]
  refine estep_whole (n := n + 2) (its := [.text, .text, .int, .int, .is, .is, .text, .list itsVote]) hm 7 (by omega) g fun v σ st vs ds g => ?_
  rw [rNil_p, rFld_p, rNil_m emeth_text, rInv_i emeth_text]
  refine estep_text (n := n + 3) (its := [.text, .int, .int, .is, .is, .text, .list itsVote]) g fun v σ st vs ds g => ?_
  rw [rNil_p, rFld_p, rNil_m emeth_text, rInv_i emeth_text]
  refine estep_text (n := n + 3) (its := [.int, .int, .is, .is, .text, .list itsVote]) g fun v σ st vs ds g => ?_
  rw [rNil_p, rFld_p, rNil_p, rFld_p]
  rw [rB2, bcase_t, rB2]
  refine estep_whole (n := n + 2) (its := [.is, .is, .text, .list itsVote]) hm 2 (by omega) g fun v σ st vs ds g => ?_
  rw [rNil_p, rFld_p, rNil_m emeth_is, rInv_i emeth_is]
  refine estep_is (n := n + 3) (its := [.is, .text, .list itsVote]) g fun v σ st vs ds g => ?_
  rw [rNil_p, rFld_p, rNil_m emeth_is, rInv_i emeth_is]
  refine estep_is (n := n + 3) (its := [.text, .list itsVote]) g fun v σ st vs ds g => ?_
  rw [rNil_p, rFld_p, rNil_m emeth_text, rInv_i emeth_text]
  refine estep_text (n := n + 3) (its := [.list itsVote]) g fun v σ st vs ds g => ?_
  rw [rNil_p, rFld_p]
  refine eeach_tally_Vote (n := n + 0) (its := []) hM (eye_vote' hM) g fun v σ st vs ds g => ?_
  exact g.fin _

theorem eye_rows' (hM : 1048576 < most) : EyeOk most c_save_rows itsRows 8 := by
  intro n σ W C rr st b o e gr vs K g
  have hm : 1024 < most := by omega
  rw [X_call (by rfl), f_save_rows]
  unfold r_save_rows
  rw [rNil_p, rFld_p]
  rw [rB1]
  refine estep_whole (n := n + 3) (its := [.text, .is, .int, .int, .int, .int, .int, .int, .int, .text, .text, .int, .int, .is, .is, .text, .list itsVote, .list itsSaid, .list itsMsg]) hm 1 (by omega) g fun v σ st vs ds g => ?_
  rw [rNil_p, rFld_p, rNil_m emeth_text, rInv_i emeth_text]
  refine estep_text (n := n + 4) (its := [.is, .int, .int, .int, .int, .int, .int, .int, .text, .text, .int, .int, .is, .is, .text, .list itsVote, .list itsSaid, .list itsMsg]) g fun v σ st vs ds g => ?_
  rw [rNil_p, rFld_p, rNil_m emeth_is, rInv_i emeth_is]
  refine estep_is (n := n + 4) (its := [.int, .int, .int, .int, .int, .int, .int, .text, .text, .int, .int, .is, .is, .text, .list itsVote, .list itsSaid, .list itsMsg]) g fun v σ st vs ds g => ?_
  rw [rNil_p, rFld_p]
  refine estep_sub (n := n + 0) (its' := itsVoting) (its := [.list itsSaid, .list itsMsg]) (eye_voting' hM) g fun v σ st vs ds g => ?_
  rw [rNil_p, rFld_p]
  refine eeach_board_Told (n := n + 1) (its := [.list itsMsg]) hM (eye_said' hM) g fun v σ st vs ds g => ?_
  rw [rNil_p, rFld_p]
  refine eeach_api_Msg (n := n + 1) (its := []) hM (eye_message' hM) g fun v σ st vs ds g => ?_
  exact g.fin _

theorem eeach_avss_State_loop (hM : 1048576 < most) (hone : EyeOk most c_save_dealing itsDealing 7) {n N : Nat} {W C : Nat → Prop} {n0 rr b q : Nat} {e0 : TypeId} {gr : Bool} {vs : List Value} (hN : N ≤ 1048576) {K : VK} :
    ∀ (r m i : Nat) (σ : St) (st : RS) (v : Value) (es : List (List D)), r < m → es.length = i → i + r = N → LB σ W C n0 rr b q e0 gr vs v st → Lst σ C n0 itsDealing 82 v es →
      (∀ u σ' v', LB σ' W C n0 rr b q e0 gr vs v' (decL (decs itsDealing) r st).2 → Lst σ' C n0 itsDealing 82 v' (es ++ (decL (decs itsDealing) r st).1) → Fn n0 W σ σ' → K u σ' = true) →
      l_save_each_avss_State_rrd (X most (n + 7)) m (eye rr) (pt b q) (.func (.func c_save_dealing) #[] #[]) (.int .i64 (.ofNat N)) (.int .i64 (.ofNat i)) σ K = true := by
  intro r
  induction r with
  | zero =>
    intro m i σ st v es hm hi hr hb hl hK
    obtain ⟨m, rfl⟩ := Nat.exists_eq_succ_of_ne_zero (show m ≠ 0 by omega)
    rw [l_save_each_avss_State_rrdE]
    unfold l_save_each_avss_State_rrdB
    rw [rBin_lssN, show decide (i < N) = false from by simp; omega]
    simp only [rGuard_tf, rPick_f, rIf_f]
    exact hK _ σ v hb (by simpa [decL] using hl) ⟨Nat.le_refl _, fun _ _ _ => rfl⟩
  | succ r ih =>
    intro m i σ st v es hm hi hr hb hl hK
    obtain ⟨m, rfl⟩ := Nat.exists_eq_succ_of_ne_zero (show m ≠ 0 by omega)
    rw [l_save_each_avss_State_rrdE]
    unfold l_save_each_avss_State_rrdB
    rw [rBin_lssN, show decide (i < N) = true from by simp; omega]
    simp only [rGuard_tt, rInv_i emeth_wrong]
    refine eye_wrong (n := n + 5) hb.eye.self fun σ1 e1 f1 => ?_
    obtain ⟨hb1, f2⟩ := hb.read e1 f1
    have hl1 := hl.fr f2 hb.sub hb.lt
    rw [rBin_eqlN, rPick_t, rIf_b]
    by_cases he : st.2 = 0
    · rw [if_pos (by simpa using he), rNil_p, hb1.ld]
      obtain ⟨⟨a, ea⟩, hsame⟩ := hl1.val
      have hlen : ∀ K, rLenS v K = K (.int .i64 (.ofNat es.length)) := fun K => by rw [ea, rLenS_s]
      subst hi
      rw [hlen, rBin_eqlN, decide_eq_true rfl, rIf_t]
      have hb2 := hb1.new (.cells [(.int .i64 (.ofNat 0)), (.int .i64 (.ofNat 0)), (.slice none 0 0), (.slice none 0 0), (.slice none 0 0), (.slice none 0 0), (.slice none 0 0), (.bool false)] 82 .exact)
      have hx2 : Ext' σ1 (σ1.new (.cells [(.int .i64 (.ofNat 0)), (.int .i64 (.ofNat 0)), (.slice none 0 0), (.slice none 0 0), (.slice none 0 0), (.slice none 0 0), (.slice none 0 0), (.bool false)] 82 .exact)) := .new σ1 _
      rw [rAlloc_h, rNil_p, hb2.ld, rLdN_h obj_new_same (by decide), rLdN_h obj_new_same (by decide), rSame_v (by rfl), hb2.ld, rSame_v hsame]
      have hbs : ∀ (σ : St) (K : VK), rBuildS 82 1 [(.int .i64 (.ofNat 0)), (.int .i64 (.ofNat 0)), (.slice none 0 0), (.slice none 0 0), (.slice none 0 0), (.slice none 0 0), (.slice none 0 0), (.bool false)] [(0, 8, .agg ⟨(([(.int .i64 (.ofNat 0)), (.int .i64 (.ofNat 0)), (.slice none 0 0), (.slice none 0 0), (.slice none 0 0), (.slice none 0 0), (.slice none 0 0), (.bool false)] : List Value).drop 0).take 8⟩)] σ K = K (.slice (some ⟨σ.n, 0, none⟩) 1 1) (σ.new (.cells [(.int .i64 (.ofNat 0)), (.int .i64 (.ofNat 0)), (.slice none 0 0), (.slice none 0 0), (.slice none 0 0), (.slice none 0 0), (.slice none 0 0), (.bool false)] 82 .exact)) := fun σ K => rBuildS_agg1 82 (k := 8) (zero := [(.int .i64 (.ofNat 0)), (.int .i64 (.ofNat 0)), (.slice none 0 0), (.slice none 0 0), (.slice none 0 0), (.slice none 0 0), (.slice none 0 0), (.bool false)]) (cs := [(.int .i64 (.ofNat 0)), (.int .i64 (.ofNat 0)), (.slice none 0 0), (.slice none 0 0), (.slice none 0 0), (.slice none 0 0), (.slice none 0 0), (.bool false)]) rfl rfl rfl σ K
      rw [hbs, bcase_t, hbs]
      have hb3 := hb2.new (.cells [(.int .i64 (.ofNat 0)), (.int .i64 (.ofNat 0)), (.slice none 0 0), (.slice none 0 0), (.slice none 0 0), (.slice none 0 0), (.slice none 0 0), (.bool false)] 82 .exact)
      have hx3 := hx2.trans (Ext'.new (σ1.new (.cells [(.int .i64 (.ofNat 0)), (.int .i64 (.ofNat 0)), (.slice none 0 0), (.slice none 0 0), (.slice none 0 0), (.slice none 0 0), (.slice none 0 0), (.bool false)] 82 .exact)) (.cells [(.int .i64 (.ofNat 0)), (.int .i64 (.ofNat 0)), (.slice none 0 0), (.slice none 0 0), (.slice none 0 0), (.slice none 0 0), (.slice none 0 0), (.bool false)] 82 .exact))
      refine LB.grow (its := itsDealing) hb1 hl1 hb3 hx3 (Src.row (n := 1) (o := 0) (size := 8) (vs := [(.int .i64 (.ofNat 0)), (.int .i64 (.ofNat 0)), (.slice none 0 0), (.slice none 0 0), (.slice none 0 0), (.slice none 0 0), (.slice none 0 0), (.bool false)]) obj_new_same (by decide) (by decide)) (by kernel_rfl) (by omega) fun σ3 jn hb4 hm4 f3 => ?_
      obtain ⟨σ4, k4, hb5, f4⟩ := hb4.put (.slice (some ⟨jn, 0, some 0⟩) (es.length + 1) (es.length + 1)) rfl
      rw [rNil_p, k4, j_save_each_avss_State_rrddrldrE _ (by rw [X_most]; omega)]
      unfold j_save_each_avss_State_rrddrldrB
      rw [rNil_p, hb5.ld, rIdx_z 8 jn 0 es.length _ _ (by omega), rCallV_0]
      refine (hm4.fr f4 hb4.sub hb4.lt).child (n := n) hone hb5 fun u σ5 hb6 hl6 f5 => ?_
      rw [rBin_add _ _ _ _ (by omega)]
      have hF : Fn n0 W σ σ5 := ((Fn.of f2 hb.n0).trans (⟨hx3.n, fun i hi _ => hx3.same i (Nat.lt_of_lt_of_le hi hb1.n0)⟩ : Fn n0 W σ1 _)).trans ((f3.trans (.of f4 hb4.n0)).trans f5)
      have hd : decL (decs itsDealing) (r + 1) st = ((decs itsDealing st).1 :: (decL (decs itsDealing) r (decs itsDealing st).2).1, (decL (decs itsDealing) r (decs itsDealing st).2).2) := by simp only [decL]; rw [if_neg (by simp [he])]
      refine ih m (es.length + 1) σ5 _ _ _ (by omega) (by simp) (by omega) hb6 hl6 fun u2 σ6 v6 hb7 hl7 f6 => ?_
      refine hK u2 σ6 v6 (by rw [hd]; exact hb7) ?_ (hF.trans f6)
      rw [hd]
      simpa using hl7
    · rw [if_neg (by simpa using he)]
      have hd : decL (decs itsDealing) (r + 1) st = ([], st) := decL_err _ _ _ he
      refine hK _ σ1 v (by rw [hd]; exact hb1) (by rw [hd, List.append_nil]; exact hl1) (.of f2 hb.n0)
theorem eeach_avss_State (hM : 1048576 < most) (hone : EyeOk most c_save_dealing itsDealing 7) {n : Nat} {σ : St} {W C : Nat → Prop} {rr : Nat} {st : RS} {b o : Nat} {e : TypeId} {gr : Bool} {vs : List Value} {all : List It} {ds : List D} {j : Nat} {its : List It} {K K0 : VK}
    (g : GE σ W C rr st b o e gr vs all ds j (.list itsDealing :: its) K) (next : ∀ v σ' st' vs' ds', GE σ' W C rr st' b o e gr vs' all ds' (j + 1) its K → K0 v σ' = true) :
    (X most (n + 8)).C c_save_each_avss_State [eye rr, pt b (o + j), .func (.func c_save_dealing) #[] #[]] σ K0 = true := by
  rw [X_call (by rfl), f_save_each_avss_State]
  unfold r_save_each_avss_State
  obtain ⟨h1, _, hj⟩ := g.at
  have hz := g.zero j _ (Nat.le_refl _) h1
  have hle := g.le
  rw [rNil_p, g.own.ld hz]
  show rLenS (.slice none 0 0) _ = true
  rw [rLenS_s, rNil_m emeth_many, rInv_i emeth_many]
  refine eye_many (n := n + 4) g.eye.self _ fun σ1 e1 f1 => ?_
  obtain ⟨o1, e2, f2⟩ := g.read e1 f1
  rw [o1.ld hz, rSame_v (show sameV (zeroI (.list itsDealing)) (zeroI (.list itsDealing)) = true from rfl), X_most]
  have hcm := rdC_max 1048576 st
  refine eeach_avss_State_loop hM hone (n := n) (n0 := σ1.n) (C := C) (vs := vs) hcm (rdC 1048576 st).1 most 0 σ1 _ (.slice none 0 0) [] (by omega) rfl (by omega) ⟨e2, by rw [set_self (by exact hz)]; exact o1, by omega, g.sub, fun i hi => Nat.lt_of_lt_of_le (g.lt i hi) f2.n, Nat.le_refl _⟩ (.inl ⟨rfl, rfl⟩) fun u σ' v' hb hl f => next u σ' _ _ _ (g.next (v' := v') hb.own ?_ hb.eye (f2.trans f.fr))
  have hlen := decL_len (decs itsDealing) (rdC 1048576 st).1 (rdC 1048576 st).2
  rw [List.nil_append] at hl
  exact hl.rd hb.lt (by omega)

theorem eye_all' (hM : 1048576 < most) : EyeOk most c_save_all itsAll 9 := by
  intro n σ W C rr st b o e gr vs K g
  have hm : 1024 < most := by omega
  rw [X_call (by rfl), f_save_all]
  unfold r_save_all
  rw [rNil_p, rFld_p]
  rw [rB1]
  refine estep_whole (n := n + 4) (its := [.list itsText, .int, .text, .is, .int, .int, .int, .int, .int, .int, .int, .text, .text, .int, .int, .is, .is, .text, .list itsVote, .list itsSaid, .list itsMsg, .list itsText, .list itsPair, .list itsPair, .is, .list itsDealing, .list itsDone, .list itsMsg, .list itsDealing]) hm 1 (by omega) g fun v σ st vs ds g => ?_
  rw [rNil_p, rFld_p]
  refine eeach_string (n := n + 2) (its := [.int, .text, .is, .int, .int, .int, .int, .int, .int, .int, .text, .text, .int, .int, .is, .is, .text, .list itsVote, .list itsSaid, .list itsMsg, .list itsText, .list itsPair, .list itsPair, .is, .list itsDealing, .list itsDone, .list itsMsg, .list itsDealing]) hM (eye_text' hM) g fun v σ st vs ds g => ?_
  rw [rNil_p, rFld_p]
  refine estep_sub (n := n + 0) (its' := itsRows) (its := [.list itsText, .list itsPair, .list itsPair, .is, .list itsDealing, .list itsDone, .list itsMsg, .list itsDealing]) (eye_rows' hM) g fun v σ st vs ds g => ?_
  rw [rNil_p, rFld_p]
  refine eeach_string (n := n + 2) (its := [.list itsPair, .list itsPair, .is, .list itsDealing, .list itsDone, .list itsMsg, .list itsDealing]) hM (eye_text' hM) g fun v σ st vs ds g => ?_
  rw [rNil_p, rFld_p]
  refine eeach_api_Pair (n := n + 2) (its := [.list itsPair, .is, .list itsDealing, .list itsDone, .list itsMsg, .list itsDealing]) hM (eye_pair' hM) g fun v σ st vs ds g => ?_
  rw [rNil_p, rFld_p]
  refine eeach_api_Pair (n := n + 2) (its := [.is, .list itsDealing, .list itsDone, .list itsMsg, .list itsDealing]) hM (eye_pair' hM) g fun v σ st vs ds g => ?_
  rw [rNil_p, rFld_p, rNil_m emeth_is, rInv_i emeth_is]
  refine estep_is (n := n + 5) (its := [.list itsDealing, .list itsDone, .list itsMsg, .list itsDealing]) g fun v σ st vs ds g => ?_
  rw [rNil_p, rFld_p]
  refine eeach_avss_State (n := n + 0) (its := [.list itsDone, .list itsMsg, .list itsDealing]) hM (eye_dealing' hM) g fun v σ st vs ds g => ?_
  rw [rNil_p, rFld_p]
  refine eeach_node_Done (n := n + 2) (its := [.list itsMsg, .list itsDealing]) hM (eye_done' hM) g fun v σ st vs ds g => ?_
  rw [rNil_p, rFld_p]
  refine eeach_api_Msg (n := n + 2) (its := [.list itsDealing]) hM (eye_message' hM) g fun v σ st vs ds g => ?_
  rw [rNil_p, rFld_p]
  refine eeach_avss_State (n := n + 0) (its := []) hM (eye_dealing' hM) g fun v σ st vs ds g => ?_
  exact g.fin _

end Go.Am
