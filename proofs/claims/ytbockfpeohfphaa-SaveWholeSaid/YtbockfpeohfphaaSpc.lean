/- save: Encode, at open values. -/
import Derived.Test.YtbockfpeohfphaaSpb

namespace Go.Am
open Go.RowKit Go.MapKept Go.Proofs Go.Proofs.Rdr
variable {most : Nat}
def encode (ds : List D) : List UInt8 × Nat := let st := encs itsAll ds ([], 0); if st.2 = 0 then (st.1, 0) else ([], st.2)
theorem rBin_neqN {P : Program} (t : TypeId) (k : IntKind) (a b : Nat) (K : Value → Bool) : rBin P .neq t (.int k (.ofNat a)) (.int k (.ofNat b)) K = K (.bool (!decide (a = b))) := by
  rw [rBin_i _ _ _ _ _ _ (by simp) (by simp)]; simp only [intBinK, boolK_eq, eqI_eq]
  congr 3
  by_cases h : a = b
  · subst h; simp
  · rw [decide_eq_false h]
    have : ¬ (Int.ofNat a = Int.ofNat b) := fun e => h (Int.ofNat.inj e)
    simpa using this
theorem Encode_s (hM : 1048576 < most) {n : Nat} {σ : St} {C : Nat → Prop} {cs : List Value} {ds : List D} (h : RdA σ C itsAll cs ds) (hl : costs itsAll ds ≤ LIM) {K : VK}
    (hK : ∀ σ', Ext' σ σ' → K (.tuple ⟨[.string ⟨⟨(encode ds).1⟩⟩, .int .i64 (.ofNat (encode ds).2)]⟩) σ' = true) : (X most (n + 10)).C c_save_Encode [.agg ⟨cs⟩] σ K = true := by
  rw [X_call (by rfl), f_save_Encode]
  unfold r_save_Encode
  rw [boxK_agg (List.all_eq_true.2 h.one)]
  have hbd : ∀ K : Value → Bool, rBuild [(.pointer none), (.slice none 0 0), (.int .i64 (.ofNat 0))] [] K = K (.agg ⟨[.pointer none, .slice none 0 0, .int .i64 (.ofNat 0)]⟩) := fun K => rfl
  rw [hbd, boxK_agg rfl]
  have hs := h.stc 34
  let σ1 := σ.new (.cells cs 34 .exact)
  let σ2 := σ1.new (.cells [.pointer none, .slice none 0 0, .int .i64 (.ofNat 0)] 66 .exact)
  have hx2 : Ext' σ σ2 := (Ext'.new σ _).trans (Ext'.new σ1 _)
  have hp : Pen σ2 σ1.n (fun i => i = σ1.n) ([], 0) := ⟨rfl, fun i hi => by subst hi; exact Nat.lt_succ_self _, _, _, obj_new_same, .inl rfl, .inl ⟨rfl, rfl⟩⟩
  have hs2 : Stc σ2 (fun i => i = σ1.n) itsAll σ.n 0 ds := hs.fr ⟨Nat.le_succ _, fun i hi _ => obj_new_old (Nat.ne_of_lt hi), fun i hi => .inr (by subst hi; exact Nat.le_refl _)⟩
  have hlast : ∀ (v : Value) (σ' : St) (B' : Nat → Prop), Pen σ' σ1.n B' (encs itsAll ds ([], 0)) → Fr' (fun i => i = σ1.n) σ2 σ' B' →
      (rNil PP (pt σ1.n 0) fun v4 => rFld 2 v4 fun v5 => rLd v5 σ' fun v6 σ => rBin PP .neq 37 v6 (.int .i64 (.ofNat 0)) fun v7 =>
        rIf v7 (rNil PP (pt σ1.n 0) fun v8 => rFld 2 v8 fun v9 => rLd v9 σ fun v10 σ => K (.tuple ⟨[(.string ⟨⟨[]⟩⟩), v10]⟩) σ)
          (rNil PP (pt σ1.n 0) fun v11 => rFld 0 v11 fun v12 => (X most (n + 9)).C c_strings_Builder_String [v12] σ fun v13 σ => K (.tuple ⟨[v13, (.int .i64 (.ofNat 0))]⟩) σ)) = true := by
    intro _ σ' B' hp' f
    have hx : Ext' σ σ' := f.ext hx2 fun i hi => by subst hi; exact Nat.le_succ _
    rw [rNil_p, rFld_p, Nat.zero_add, pen_err hp', rBin_neqN, rIf_b]
    have hK' := hK
    unfold encode at hK'
    simp only at hK'
    by_cases he : (encs itsAll ds ([], 0)).2 = 0
    · rw [if_neg (by simp [he]), rNil_p, rFld_p]
      rw [if_pos he] at hK'
      have hlen := encs_len itsAll ds ([], 0)
      refine String_s (n := n + 8) hp' (by simp at hlen; unfold LIM at hl; omega) fun σ3 f3 => hK' σ3 (f3.ext hx fun i hi => ?_)
      rcases f.sub i hi with h1 | h1
      · subst h1; exact Nat.le_succ _
      · exact Nat.le_trans hx2.n h1
    · rw [if_pos (by simp [he]), rNil_p, rFld_p, Nat.zero_add, pen_err hp']
      rw [if_neg he] at hK'
      exact hK' σ' hx
  exact pen_all' hM n ⟨hp, hs2, by rw [List.drop_zero]; simpa using hl, fun v σ' B' hp' f => hlast v σ' B' (by simpa using hp') f⟩
end Go.Am

namespace Go.Am
open Go.RowKit Go.MapKept Go.Proofs Go.Proofs.Rdr
variable {most : Nat}
def loopF (f : Nat → List D → Nat) : List (List D) → Nat → Nat
  | [], n => n
  | ds :: es, n => if n < 9000 then loopF f es (f n ds) else n
def lenS : D → Nat
  | .s l => l.length
  | _ => 0
def lenL : D → Nat
  | .l es => es.length
  | _ => 0
def ats (ds : List D) (j : Nat) : D := (ds[j]?).getD (.b false)
def fTexts (n : Nat) (ds : List D) : Nat := n + 1 + lenS (ats ds 0) / 8
def fTold (n : Nat) (ds : List D) : Nat := n + 3 + lenL (ats ds 1)
def fMsgs (n : Nat) (ds : List D) : Nat := n + 10 + lenL (ats ds 10) + lenS (ats ds 9) / 8
theorem Stc.at {σ : St} {C : Nat → Prop} {its : List It} {b o : Nat} {ds : List D} (h : Stc σ C its b o ds) (j : Nat) {it : It} (hj : its[j]? = some it) : ∃ v, Rd σ C it v (ats ds j) ∧ ∀ K, rLd (pt b (o + j)) σ K = K v σ := by
  obtain ⟨d, hd, hc⟩ := h.cell j hj
  obtain ⟨v, hv, hld⟩ := hc.ld
  have : ats ds j = d := by unfold ats; rw [hd]; rfl
  exact ⟨v, by rw [this]; exact hv, hld⟩
theorem Rd.textL {σ : St} {C : Nat → Prop} {v : Value} {d : D} (h : Rd σ C .text v d) : lenS d ≤ 140737488355328 ∧ ∀ K, rLenT v K = K (.int .i64 (.ofNat (lenS d))) := by
  obtain ⟨l, rfl, rfl, hl⟩ := h.text_inv
  exact ⟨hl, fun K => rLenT_s l K⟩
theorem Rd.listL {σ : St} {C : Nat → Prop} {its : List It} {v : Value} {d : D} (h : Rd σ C (.list its) v d) : lenL d ≤ 140737488355328 ∧ ∀ K, rLenS v K = K (.int .i64 (.ofNat (lenL d))) := by
  obtain ⟨es, rfl⟩ := h.list_inv
  obtain ⟨⟨b, c, rfl⟩, hN⟩ := h.len
  exact ⟨hN, fun K => rfl⟩
theorem Rd.numsL {σ : St} {C : Nat → Prop} {v : Value} {d : D} (h : Rd σ C .nums v d) : lenL d ≤ 140737488355328 ∧ ∀ K, rLenS v K = K (.int .i64 (.ofNat (lenL d))) := by
  cases h with | nums h => exact h.listL
theorem Rd.at {σ : St} {C : Nat → Prop} {its : List It} {v : Value} {es : List (List D)} (h : Rd σ C (.list its) v (.l es)) {i : Nat} (hi : i < es.length) (sz : Nat) (hsz : its.length = sz) :
    ∃ b o, Stc σ C its b o es[i] ∧ ∀ K, rIdx sz v (.int .i64 (.ofNat i)) K = K (pt b o) := by
  obtain ⟨b, o, sp, c, rfl, hsp, hst⟩ := h.elem (k := i) (List.getElem?_eq_getElem hi)
  subst hsz
  exact ⟨b, o + i * its.length, hst, fun K => rIdx_sp _ b o i _ c sp hsp hi K⟩
theorem sizeTexts_loop {n : Nat} {σ : St} {C : Nat → Prop} {v : Value} {es : List (List D)} (hv : Rd σ C (.list itsText) v (.l es)) (K : VK) :
    ∀ (r i m N : Nat), i + r = es.length → r < m → l_law25_sizeTexts_rrlrd (X most n) m v (.int .i64 (.ofNat N)) (.int .i64 (.ofNat i)) σ K = K (.int .i64 (.ofNat (loopF fTexts (es.drop i) N))) σ := by
  obtain ⟨hN, hlen⟩ := hv.listL
  intro r
  induction r with
  | zero =>
    intro i m N hi hm
    obtain ⟨m, rfl⟩ := Nat.exists_eq_succ_of_ne_zero (show m ≠ 0 by omega)
    rw [l_law25_sizeTexts_rrlrdE]
    unfold l_law25_sizeTexts_rrlrdB
    rw [hlen, rBin_lssN, show decide (i < lenL (.l es)) = false from decide_eq_false (show ¬ i < es.length by omega)]
    simp only [rGuard_tf, rPick_f, rIf_f]
    rw [List.drop_of_length_le (by omega)]
    rfl
  | succ r ih =>
    intro i m N hi hm
    obtain ⟨m, rfl⟩ := Nat.exists_eq_succ_of_ne_zero (show m ≠ 0 by omega)
    have hlt : i < es.length := by omega
    rw [l_law25_sizeTexts_rrlrdE]
    unfold l_law25_sizeTexts_rrlrdB
    rw [hlen, rBin_lssN, show decide (i < lenL (.l es)) = true from decide_eq_true (show i < es.length from hlt)]
    simp only [rGuard_tt, rPick_t, rBin_lssN, rIf_b]
    rw [List.drop_eq_getElem_cons hlt]
    unfold loopF
    by_cases h9 : N < 9000
    · rw [if_pos h9, if_pos (by simpa using h9)]
      obtain ⟨b, o, hst, hix⟩ := hv.at hlt 1 rfl
      obtain ⟨u, hu, hld⟩ := hst.at 0 (it := .text) rfl
      obtain ⟨hL, hlt'⟩ := hu.textL
      have hlen2 : lenL (.l es) = es.length := rfl
      rw [Nat.add_zero] at hld
      rw [rBin_add _ _ _ _ (by omega), hix, hld, hlt', rBin_quo _ _ _ _ (by omega) (by omega), rBin_add _ _ _ _ (by omega), rBin_add _ _ _ _ (by omega)]
      exact ih (i + 1) m _ (by omega) (by omega)
    · rw [if_neg h9, if_neg (by simpa using h9)]
theorem sizeTexts_s {n : Nat} (hm : 140737488355328 < most) {σ : St} {C : Nat → Prop} {v : Value} {es : List (List D)} (hv : Rd σ C (.list itsText) v (.l es)) (K : VK) :
    (X most (n + 1)).C c_law25_sizeTexts [v] σ K = K (.int .i64 (.ofNat (loopF fTexts es 0))) σ := by
  rw [X_call (by rfl), f_law25_sizeTexts]
  unfold r_law25_sizeTexts
  obtain ⟨hN, hlen⟩ := hv.listL
  have hlen2 : lenL (.l es) = es.length := rfl
  rw [X_most]
  exact sizeTexts_loop hv K es.length 0 most 0 (by omega) (by omega)
theorem sizeTold_loop {n : Nat} {σ : St} {C : Nat → Prop} {v : Value} {es : List (List D)} (hv : Rd σ C (.list itsTold) v (.l es)) (K : VK) :
    ∀ (r i m N : Nat), i + r = es.length → r < m → l_law25_sizeTold_rrlrd (X most n) m v (.int .i64 (.ofNat N)) (.int .i64 (.ofNat i)) σ K = K (.int .i64 (.ofNat (loopF fTold (es.drop i) N))) σ := by
  obtain ⟨hN, hlen⟩ := hv.listL
  intro r
  induction r with
  | zero =>
    intro i m N hi hm
    obtain ⟨m, rfl⟩ := Nat.exists_eq_succ_of_ne_zero (show m ≠ 0 by omega)
    rw [l_law25_sizeTold_rrlrdE]
    unfold l_law25_sizeTold_rrlrdB
    rw [hlen, rBin_lssN, show decide (i < lenL (.l es)) = false from decide_eq_false (show ¬ i < es.length by omega)]
    simp only [rGuard_tf, rPick_f, rIf_f]
    rw [List.drop_of_length_le (by omega)]
    rfl
  | succ r ih =>
    intro i m N hi hm
    obtain ⟨m, rfl⟩ := Nat.exists_eq_succ_of_ne_zero (show m ≠ 0 by omega)
    have hlt : i < es.length := by omega
    rw [l_law25_sizeTold_rrlrdE]
    unfold l_law25_sizeTold_rrlrdB
    rw [hlen, rBin_lssN, show decide (i < lenL (.l es)) = true from decide_eq_true (show i < es.length from hlt)]
    simp only [rGuard_tt, rPick_t, rBin_lssN, rIf_b]
    rw [List.drop_eq_getElem_cons hlt]
    unfold loopF
    by_cases h9 : N < 9000
    · rw [if_pos h9, if_pos (by simpa using h9)]
      obtain ⟨b, o, hst, hix⟩ := hv.at hlt 2 rfl
      obtain ⟨u, hu, hld⟩ := hst.at 1 (it := .nums) rfl
      obtain ⟨hL, hlt'⟩ := hu.numsL
      have hlen2 : lenL (.l es) = es.length := rfl
      rw [rBin_add _ _ _ _ (by omega), hix, rFld_p, hld, hlt', rBin_add _ _ _ _ (by omega), rBin_add _ _ _ _ (by omega)]
      exact ih (i + 1) m _ (by omega) (by omega)
    · rw [if_neg h9, if_neg (by simpa using h9)]
theorem sizeTold_s {n : Nat} (hm : 140737488355328 < most) {σ : St} {C : Nat → Prop} {v : Value} {es : List (List D)} (hv : Rd σ C (.list itsTold) v (.l es)) (K : VK) :
    (X most (n + 1)).C c_law25_sizeTold [v] σ K = K (.int .i64 (.ofNat (loopF fTold es 0))) σ := by
  rw [X_call (by rfl), f_law25_sizeTold]
  unfold r_law25_sizeTold
  obtain ⟨hN, hlen⟩ := hv.listL
  have hlen2 : lenL (.l es) = es.length := rfl
  rw [X_most]
  exact sizeTold_loop hv K es.length 0 most 0 (by omega) (by omega)
theorem sizeMsgs_loop {n : Nat} {σ : St} {C : Nat → Prop} {v : Value} {es : List (List D)} (hv : Rd σ C (.list itsMsg) v (.l es)) (K : VK) :
    ∀ (r i m N : Nat), i + r = es.length → r < m → l_law25_sizeMsgs_rrlrd (X most n) m v (.int .i64 (.ofNat N)) (.int .i64 (.ofNat i)) σ K = K (.int .i64 (.ofNat (loopF fMsgs (es.drop i) N))) σ := by
  obtain ⟨hN, hlen⟩ := hv.listL
  intro r
  induction r with
  | zero =>
    intro i m N hi hm
    obtain ⟨m, rfl⟩ := Nat.exists_eq_succ_of_ne_zero (show m ≠ 0 by omega)
    rw [l_law25_sizeMsgs_rrlrdE]
    unfold l_law25_sizeMsgs_rrlrdB
    rw [hlen, rBin_lssN, show decide (i < lenL (.l es)) = false from decide_eq_false (show ¬ i < es.length by omega)]
    simp only [rGuard_tf, rPick_f, rIf_f]
    rw [List.drop_of_length_le (by omega)]
    rfl
  | succ r ih =>
    intro i m N hi hm
    obtain ⟨m, rfl⟩ := Nat.exists_eq_succ_of_ne_zero (show m ≠ 0 by omega)
    have hlt : i < es.length := by omega
    rw [l_law25_sizeMsgs_rrlrdE]
    unfold l_law25_sizeMsgs_rrlrdB
    rw [hlen, rBin_lssN, show decide (i < lenL (.l es)) = true from decide_eq_true (show i < es.length from hlt)]
    simp only [rGuard_tt, rPick_t, rBin_lssN, rIf_b]
    rw [List.drop_eq_getElem_cons hlt]
    unfold loopF
    by_cases h9 : N < 9000
    · rw [if_pos h9, if_pos (by simpa using h9)]
      obtain ⟨b, o, hst, hix⟩ := hv.at hlt 11 rfl
      obtain ⟨u, hu, hld⟩ := hst.at 10 (it := .nums) rfl
      obtain ⟨hL, hlt'⟩ := hu.numsL
      obtain ⟨u2, hu2, hld2⟩ := hst.at 9 (it := .text) rfl
      obtain ⟨hL2, hlt2⟩ := hu2.textL
      have hlen2 : lenL (.l es) = es.length := rfl
      rw [rBin_add _ _ _ _ (by omega), hix, rFld_p, hld, hlt', rBin_add _ _ _ _ (by omega), hix, rFld_p, hld2, hlt2, rBin_quo _ _ _ _ (by omega) (by omega), rBin_add _ _ _ _ (by omega), rBin_add _ _ _ _ (by omega)]
      exact ih (i + 1) m _ (by omega) (by omega)
    · rw [if_neg h9, if_neg (by simpa using h9)]
theorem sizeMsgs_s {n : Nat} (hm : 140737488355328 < most) {σ : St} {C : Nat → Prop} {v : Value} {es : List (List D)} (hv : Rd σ C (.list itsMsg) v (.l es)) (K : VK) :
    (X most (n + 1)).C c_law25_sizeMsgs [v] σ K = K (.int .i64 (.ofNat (loopF fMsgs es 0))) σ := by
  rw [X_call (by rfl), f_law25_sizeMsgs]
  unfold r_law25_sizeMsgs
  obtain ⟨hN, hlen⟩ := hv.listL
  have hlen2 : lenL (.l es) = es.length := rfl
  rw [X_most]
  exact sizeMsgs_loop hv K es.length 0 most 0 (by omega) (by omega)
end Go.Am

namespace Go.Am
open Go.RowKit Go.MapKept Go.Proofs Go.Proofs.Rdr
variable {most : Nat}
def esOf : D → List (List D)
  | .l es => es
  | _ => []
def fComs (n : Nat) (ds : List D) : Nat := n + 1 + lenL (ats ds 0)
def fDealt (n : Nat) (ds : List D) : Nat := loopF fComs (esOf (ats ds 2)) (n + 9 + lenL (ats ds 3) + lenL (ats ds 6) + loopF fTold (esOf (ats ds 4)) 0 + loopF fTold (esOf (ats ds 5)) 0)
theorem loopF_le (f : Nat → List D → Nat) (M : Nat) : ∀ (es : List (List D)) (n : Nat), (∀ ds ∈ es, ∀ n, n < 9000 → f n ds ≤ 9000 + M) → n ≤ 9000 + M → loopF f es n ≤ 9000 + M := by
  intro es
  induction es with
  | nil => intro n _ h; exact h
  | cons ds es ih =>
    intro n h hn
    unfold loopF
    split
    · rename_i h9
      exact ih _ (fun d hd => h d (.tail _ hd)) (h ds (.head _) n h9)
    · exact hn
theorem Rd.mem {σ : St} {C : Nat → Prop} {its : List It} {v : Value} {es : List (List D)} (h : Rd σ C (.list its) v (.l es)) {ds : List D} (hd : ds ∈ es) : ∃ b o, Stc σ C its b o ds := by
  obtain ⟨i, hi⟩ := List.getElem?_of_mem hd
  obtain ⟨b, o, sp, c, _, _, hst⟩ := h.elem hi
  exact ⟨b, _, hst⟩
theorem told_le {σ : St} {C : Nat → Prop} {v : Value} {es : List (List D)} (h : Rd σ C (.list itsTold) v (.l es)) : loopF fTold es 0 ≤ 9000 + 140737488355332 := by
  refine loopF_le _ _ es 0 (fun ds hd n hn => ?_) (by omega)
  obtain ⟨b, o, hst⟩ := h.mem hd
  obtain ⟨u, hu, _⟩ := hst.at 1 (it := .nums) rfl
  have := hu.numsL.1
  unfold fTold; omega
theorem texts_le {σ : St} {C : Nat → Prop} {v : Value} {es : List (List D)} (h : Rd σ C (.list itsText) v (.l es)) : loopF fTexts es 0 ≤ 9000 + 140737488355332 := by
  refine loopF_le _ _ es 0 (fun ds hd n hn => ?_) (by omega)
  obtain ⟨b, o, hst⟩ := h.mem hd
  obtain ⟨u, hu, _⟩ := hst.at 0 (it := .text) rfl
  have := hu.textL.1
  unfold fTexts; omega
theorem msgs_le {σ : St} {C : Nat → Prop} {v : Value} {es : List (List D)} (h : Rd σ C (.list itsMsg) v (.l es)) : loopF fMsgs es 0 ≤ 9000 + 422212465065990 := by
  refine loopF_le _ _ es 0 (fun ds hd n hn => ?_) (by omega)
  obtain ⟨b, o, hst⟩ := h.mem hd
  obtain ⟨u, hu, _⟩ := hst.at 10 (it := .nums) rfl
  obtain ⟨u2, hu2, _⟩ := hst.at 9 (it := .text) rfl
  have := hu.numsL.1
  have := hu2.textL.1
  unfold fMsgs; omega
theorem coms_le {σ : St} {C : Nat → Prop} {v : Value} {es : List (List D)} (h : Rd σ C (.list itsNums) v (.l es)) (N : Nat) (hN : N ≤ 9000 + 1125899906842624) : loopF fComs es N ≤ 9000 + 1125899906842624 := by
  refine loopF_le _ _ es N (fun ds hd n hn => ?_) hN
  obtain ⟨b, o, hst⟩ := h.mem hd
  obtain ⟨u, hu, _⟩ := hst.at 0 (it := .nums) rfl
  have := hu.numsL.1
  unfold fComs; omega
theorem esOf_eq {σ : St} {C : Nat → Prop} {its : List It} {v : Value} {d : D} (h : Rd σ C (.list its) v d) : d = .l (esOf d) := by
  obtain ⟨es, rfl⟩ := h.list_inv; rfl
theorem dealt_le {σ : St} {C : Nat → Prop} {v : Value} {es : List (List D)} (h : Rd σ C (.list itsDealing) v (.l es)) : loopF fDealt es 0 ≤ 9000 + 1125899906842624 := by
  refine loopF_le _ _ es 0 (fun ds hd n hn => ?_) (by omega)
  obtain ⟨b, o, hst⟩ := h.mem hd
  obtain ⟨u2, h2, _⟩ := hst.at 2 (it := .list itsNums) rfl
  obtain ⟨u3, h3, _⟩ := hst.at 3 (it := .nums) rfl
  obtain ⟨u4, h4, _⟩ := hst.at 4 (it := .list itsTold) rfl
  obtain ⟨u5, h5, _⟩ := hst.at 5 (it := .list itsTold) rfl
  obtain ⟨u6, h6, _⟩ := hst.at 6 (it := .nums) rfl
  have a3 := h3.numsL.1
  have a6 := h6.numsL.1
  rw [esOf_eq h4] at h4
  rw [esOf_eq h5] at h5
  rw [esOf_eq h2] at h2
  have a4 := told_le h4
  have a5 := told_le h5
  unfold fDealt
  exact coms_le h2 _ (by omega)
theorem sameV_nums {σ : St} {C : Nat → Prop} {v : Value} {d : D} (h : Rd σ C .nums v d) : sameV v v = true := by
  cases h with | nums h => exact sameV_list h
/-- the lists of one dealing's commitments -/
theorem coms_loop {n : Nat} {σ : St} {C : Nat → Prop} {v : Value} {es : List (List D)} (hv : Rd σ C (.list itsDealing) v (.l es)) {i : Nat} (hi : i < es.length) (m0 : Nat) (K : VK) :
    ∀ (r k m N : Nat), k + r = lenL (ats es[i] 2) → r < m → l_law25_sizeDealt_rrlrddrldrrd (X most n) m m0 v (.int .i64 (.ofNat N)) (.int .i64 (.ofNat i)) (.int .i64 (.ofNat k)) σ K =
      l_law25_sizeDealt_rrlrd (X most n) m0 v (.int .i64 (.ofNat (loopF fComs ((esOf (ats es[i] 2)).drop k) N))) (.int .i64 (.ofNat (i + 1))) σ K := by
  obtain ⟨hN, _⟩ := hv.listL
  obtain ⟨b, o, hst, hix⟩ := hv.at hi 8 rfl
  obtain ⟨u, hu, hld⟩ := hst.at 2 (it := .list itsNums) rfl
  have hes : lenL (.l es) = es.length := rfl
  have hu' := hu
  rw [esOf_eq hu] at hu'
  obtain ⟨hL, hlen⟩ := hu.listL
  have hLe : lenL (ats es[i] 2) = (esOf (ats es[i] 2)).length := by conv => lhs; rw [esOf_eq hu]
                                                                    rfl
  intro r
  induction r with
  | zero =>
    intro k m N hk hm
    obtain ⟨m, rfl⟩ := Nat.exists_eq_succ_of_ne_zero (show m ≠ 0 by omega)
    rw [l_law25_sizeDealt_rrlrddrldrrdE]
    unfold l_law25_sizeDealt_rrlrddrldrrdB
    rw [hix, rFld_p, hld, hlen, rBin_lssN, show decide (k < lenL (ats es[i] 2)) = false from decide_eq_false (by omega)]
    simp only [rGuard_tf, rPick_f, rIf_f]
    rw [List.drop_of_length_le (by omega), rBin_add _ _ _ _ (by omega)]
    rfl
  | succ r ih =>
    intro k m N hk hm
    obtain ⟨m, rfl⟩ := Nat.exists_eq_succ_of_ne_zero (show m ≠ 0 by omega)
    have hlt : k < (esOf (ats es[i] 2)).length := by omega
    rw [l_law25_sizeDealt_rrlrddrldrrdE]
    unfold l_law25_sizeDealt_rrlrddrldrrdB
    rw [hix, rFld_p, hld, hlen, rBin_lssN, show decide (k < lenL (ats es[i] 2)) = true from decide_eq_true (by omega)]
    simp only [rGuard_tt, rPick_t, rBin_lssN, rIf_b]
    rw [List.drop_eq_getElem_cons hlt]
    unfold loopF
    by_cases h9 : N < 9000
    · rw [if_pos h9, if_pos (by simpa using h9)]
      obtain ⟨b2, o2, hst2, hix2⟩ := hu'.at hlt 1 rfl
      obtain ⟨u2, hu2, hld2⟩ := hst2.at 0 (it := .nums) rfl
      obtain ⟨hL2, hlt2⟩ := hu2.numsL
      rw [Nat.add_zero] at hld2
      rw [rBin_add _ _ _ _ (by omega), hix, rFld_p, hld, hix2, hld2, hlt2, rBin_add _ _ _ _ (by omega), rBin_add _ _ _ _ (by omega)]
      exact ih (k + 1) m _ (by omega) (by omega)
    · rw [if_neg h9, if_neg (by simpa using h9), rBin_add _ _ _ _ (by omega)]
theorem sizeDealt_loop {n : Nat} (hmost : 140737488355328 < most) {σ : St} {C : Nat → Prop} {v : Value} {es : List (List D)} (hv : Rd σ C (.list itsDealing) v (.l es)) (K : VK) :
    ∀ (r i m N : Nat), i + r = es.length → r < m → l_law25_sizeDealt_rrlrd (X most (n + 1)) m v (.int .i64 (.ofNat N)) (.int .i64 (.ofNat i)) σ K = K (.int .i64 (.ofNat (loopF fDealt (es.drop i) N))) σ := by
  obtain ⟨hN, hlen⟩ := hv.listL
  intro r
  induction r with
  | zero =>
    intro i m N hi hm
    obtain ⟨m, rfl⟩ := Nat.exists_eq_succ_of_ne_zero (show m ≠ 0 by omega)
    rw [l_law25_sizeDealt_rrlrdE]
    unfold l_law25_sizeDealt_rrlrdB
    rw [hlen, rBin_lssN, show decide (i < lenL (.l es)) = false from decide_eq_false (show ¬ i < es.length by omega)]
    simp only [rGuard_tf, rPick_f, rIf_f]
    rw [List.drop_of_length_le (by omega)]
    rfl
  | succ r ih =>
    intro i m N hi hm
    obtain ⟨m, rfl⟩ := Nat.exists_eq_succ_of_ne_zero (show m ≠ 0 by omega)
    have hlt : i < es.length := by omega
    rw [l_law25_sizeDealt_rrlrdE]
    unfold l_law25_sizeDealt_rrlrdB
    rw [hlen, rBin_lssN, show decide (i < lenL (.l es)) = true from decide_eq_true (show i < es.length from hlt)]
    simp only [rGuard_tt, rPick_t, rBin_lssN, rIf_b]
    rw [List.drop_eq_getElem_cons hlt]
    unfold loopF
    by_cases h9 : N < 9000
    · rw [if_pos h9, if_pos (by simpa using h9)]
      obtain ⟨b, o, hst, hix⟩ := hv.at hlt 8 rfl
      obtain ⟨u2, h2, l2⟩ := hst.at 2 (it := .list itsNums) rfl
      obtain ⟨u3, h3, l3⟩ := hst.at 3 (it := .nums) rfl
      obtain ⟨u4, h4, l4⟩ := hst.at 4 (it := .list itsTold) rfl
      obtain ⟨u5, h5, l5⟩ := hst.at 5 (it := .list itsTold) rfl
      obtain ⟨u6, h6, l6⟩ := hst.at 6 (it := .nums) rfl
      obtain ⟨a3, b3⟩ := h3.numsL
      obtain ⟨a6, b6⟩ := h6.numsL
      have h4' := h4
      have h5' := h5
      rw [esOf_eq h4] at h4'
      rw [esOf_eq h5] at h5'
      have a4 := told_le h4'
      have a5 := told_le h5'
      have hlen2 : lenL (.l es) = es.length := rfl
      have a2 := h2.listL.1
      rw [rBin_add _ _ _ _ (by omega), hix, rFld_p, l3, b3, rBin_add _ _ _ _ (by omega), hix, rFld_p, l6, b6, rBin_add _ _ _ _ (by omega), hix, rFld_p, l4, hix, rFld_p, l5]
      rw [sizeTold_s (n := n) hmost h4', l5, rSame_v (sameV_list h5), l6, rSame_v (sameV_nums h6), l3, rSame_v (sameV_nums h3), rBin_add _ _ _ _ (by omega)]
      rw [sizeTold_s (n := n) hmost h5', l6, rSame_v (sameV_nums h6), l3, rSame_v (sameV_nums h3), rBin_add _ _ _ _ (by omega), X_most]
      rw [coms_loop hv hlt m K (lenL (ats es[i] 2)) 0 most _ (by omega) (by omega), List.drop_zero]
      exact ih (i + 1) m _ (by omega) (by omega)
    · rw [if_neg h9, if_neg (by simpa using h9)]
theorem sizeDealt_s {n : Nat} (hm : 140737488355328 < most) {σ : St} {C : Nat → Prop} {v : Value} {es : List (List D)} (hv : Rd σ C (.list itsDealing) v (.l es)) (K : VK) :
    (X most (n + 2)).C c_law25_sizeDealt [v] σ K = K (.int .i64 (.ofNat (loopF fDealt es 0))) σ := by
  rw [X_call (by rfl), f_law25_sizeDealt]
  unfold r_law25_sizeDealt
  obtain ⟨hN, hlen⟩ := hv.listL
  have hlen2 : lenL (.l es) = es.length := rfl
  rw [X_most]
  exact sizeDealt_loop hm hv K es.length 0 most 0 (by omega) (by omega)
end Go.Am

namespace Go.Am
open Go.RowKit Go.MapKept Go.Proofs Go.Proofs.Rdr
variable {most : Nat}
def fDones (n : Nat) (ds : List D) : Nat := n + 3 + lenL (ats ds 2)
def fVotes (n : Nat) (ds : List D) : Nat := n + 4 + lenS (ats ds 4) / 8
def fSaid (n : Nat) (ds : List D) : Nat := n + 2 + lenS (ats ds 1) / 8
def N1 (ds : List D) : Nat := loopF fTexts (esOf (ats ds 1)) 0 + loopF fTexts (esOf (ats ds 22)) 0 + 2 * lenL (ats ds 23) + 2 * lenL (ats ds 24) + loopF fDealt (esOf (ats ds 26)) 0 + loopF fDealt (esOf (ats ds 29)) 0 + loopF fMsgs (esOf (ats ds 28)) 0 + loopF fMsgs (esOf (ats ds 21)) 0
def N3 (ds : List D) (n : Nat) : Nat := n + (lenS (ats ds 3) + lenS (ats ds 12) + lenS (ats ds 13) + lenS (ats ds 18)) / 8
def largeN (ds : List D) : Nat := loopF fSaid (esOf (ats ds 20)) (loopF fVotes (esOf (ats ds 19)) (N3 ds (loopF fDones (esOf (ats ds 27)) (N1 ds))))
theorem loopF_lt {f : Nat → List D → Nat} {ds : List D} {es : List (List D)} {n : Nat} (h : n < 9000) : loopF f (ds :: es) n = loopF f es (f n ds) := if_pos h
theorem loopF_ge {f : Nat → List D → Nat} {ds : List D} {es : List (List D)} {n : Nat} (h : ¬ n < 9000) : loopF f (ds :: es) n = n := if_neg h
theorem rSt_all {σ : St} {i : Nat} {vs cs : List Value} {e : TypeId} (h : σ.obj i = some (.cells vs e .exact)) (hl : cs.length = vs.length) (h1 : cs.all oneCell = true) (n : Nat) (hn : n = cs.length) (k : St → Bool) :
    rSt n (pt i 0) (.agg ⟨cs⟩) σ k = k (σ.set i (.cells cs e .exact)) := by
  show (match allB oneCell cs with | true => (lenK cs fun m => match Nat.beq m n with | true => writeK σ i 0 cs k | false => false) | false => false) = _
  rw [allB_eq, h1, lenK_eq, hn]
  simp only [show Nat.beq cs.length cs.length = true from Nat.beq_refl _]
  unfold writeK
  rw [cellsK_h h]
  show spliceK 0 cs vs (fun vs => setK σ i (.cells vs e .exact) k) = _
  rw [spliceK_eq, if_pos (by omega), setK_eq]
  have : splice 0 cs vs = cs := by
    unfold splice
    rw [List.take_zero, List.nil_append, List.drop_of_length_le (by omega), List.append_nil]
  rw [this]
theorem said_loop {n : Nat} {σ : St} {C : Nat → Prop} {b : Nat} {ds : List D} (hs : Stc σ C itsAll b 0 ds) (K : VK) :
    ∀ (r i m N : Nat), i + r = lenL (ats ds 20) → r < m → N ≤ 72057594037927936 → l_law25_large_rrrrrrlrd (X most n) m (pt b 0) (.int .i64 (.ofNat N)) (.int .i64 (.ofNat i)) σ K = K (.bool (decide (9000 ≤ loopF fSaid ((esOf (ats ds 20)).drop i) N))) σ := by
  obtain ⟨u, hu, hld⟩ := hs.at 20 (it := .list itsSaid) rfl
  have hu' := hu
  rw [esOf_eq hu] at hu'
  obtain ⟨hL, hlen⟩ := hu.listL
  have hLe : lenL (ats ds 20) = (esOf (ats ds 20)).length := by
    conv => lhs; rw [esOf_eq hu]
    rfl
  have hld : ∀ K, rLd (pt b (0 + 2 + 18)) σ K = K u σ := hld
  intro r
  induction r with
  | zero =>
    intro i m N hi hm _
    obtain ⟨m, rfl⟩ := Nat.exists_eq_succ_of_ne_zero (show m ≠ 0 by omega)
    rw [l_law25_large_rrrrrrlrdE]
    unfold l_law25_large_rrrrrrlrdB
    rw [rFld_p, rFld_p, hld, hlen, rBin_lssN, show decide (i < lenL (ats ds 20)) = false from decide_eq_false (by omega)]
    simp only [rGuard_tf, rPick_f, rIf_f]
    rw [List.drop_of_length_le (by omega), rBin_geqN]
    rfl
  | succ r ih =>
    intro i m N hi hm hNb
    obtain ⟨m, rfl⟩ := Nat.exists_eq_succ_of_ne_zero (show m ≠ 0 by omega)
    have hlt : i < (esOf (ats ds 20)).length := by omega
    rw [l_law25_large_rrrrrrlrdE]
    unfold l_law25_large_rrrrrrlrdB
    rw [rFld_p, rFld_p, hld, hlen, rBin_lssN, show decide (i < lenL (ats ds 20)) = true from decide_eq_true (by omega)]
    simp only [rGuard_tt, rPick_t, rBin_lssN, rIf_b]
    rw [List.drop_eq_getElem_cons hlt]
    unfold loopF
    by_cases h9 : N < 9000
    · rw [if_pos h9, if_pos (by simpa using h9)]
      obtain ⟨b2, o2, hst2, hix2⟩ := hu'.at hlt 2 rfl
      obtain ⟨u2, hu2, hld2⟩ := hst2.at 1 (it := .text) rfl
      obtain ⟨hL2, hlt2⟩ := hu2.textL
      rw [rBin_add _ _ _ _ (by omega), rFld_p, rFld_p, hld, hix2, rFld_p, hld2, hlt2, rBin_quo _ _ _ _ (by omega) (by omega), rBin_add _ _ _ _ (by omega), rBin_add _ _ _ _ (by omega)]
      exact ih (i + 1) m _ (by omega) (by omega) (by omega)
    · rw [if_neg h9, if_neg (by simpa using h9), rBin_geqN]
theorem votes_loop {n : Nat} {σ : St} {C : Nat → Prop} {b b2 : Nat} {ds vs : List D} (hs : Stc σ C itsAll b 0 ds) (hv : Stc σ C itsVoting b2 0 vs) (hmost : 140737488355328 < most) (K : VK) :
    ∀ (r i m N : Nat), i + r = lenL (ats vs 14) → r < m → N ≤ 72057594037927936 → l_law25_large_rrrrrlrd (X most n) m (pt b 0) (.int .i64 (.ofNat N)) (pt b2 0) (.int .i64 (.ofNat i)) σ K = K (.bool (decide (9000 ≤ loopF fSaid (esOf (ats ds 20)) (loopF fVotes ((esOf (ats vs 14)).drop i) N)))) σ := by
  obtain ⟨u, hu, hld⟩ := hv.at 14 (it := .list itsVote) rfl
  obtain ⟨us, hus, _⟩ := hs.at 20 (it := .list itsSaid) rfl
  have hu' := hu
  rw [esOf_eq hu] at hu'
  obtain ⟨hL, hlen⟩ := hu.listL
  have hLe : lenL (ats vs 14) = (esOf (ats vs 14)).length := by
    conv => lhs; rw [esOf_eq hu]
    rfl
  have hLs := hus.listL.1
  intro r
  induction r with
  | zero =>
    intro i m N hi hm hNb
    obtain ⟨m, rfl⟩ := Nat.exists_eq_succ_of_ne_zero (show m ≠ 0 by omega)
    rw [l_law25_large_rrrrrlrdE]
    unfold l_law25_large_rrrrrlrdB
    rw [rFld_p, hld, hlen, rBin_lssN, show decide (i < lenL (ats vs 14)) = false from decide_eq_false (by omega)]
    simp only [rGuard_tf, rPick_f, rIf_f]
    rw [List.drop_of_length_le (by omega), X_most, said_loop hs K (lenL (ats ds 20)) 0 most N (by omega) (by omega) hNb, List.drop_zero]
    rfl
  | succ r ih =>
    intro i m N hi hm hNb
    obtain ⟨m, rfl⟩ := Nat.exists_eq_succ_of_ne_zero (show m ≠ 0 by omega)
    have hlt : i < (esOf (ats vs 14)).length := by omega
    rw [l_law25_large_rrrrrlrdE]
    unfold l_law25_large_rrrrrlrdB
    rw [rFld_p, hld, hlen, rBin_lssN, show decide (i < lenL (ats vs 14)) = true from decide_eq_true (by omega)]
    simp only [rGuard_tt, rPick_t, rBin_lssN, rIf_b]
    rw [List.drop_eq_getElem_cons hlt]
    by_cases h9 : N < 9000
    · rw [if_pos (by simpa using h9), loopF_lt h9]
      obtain ⟨b3, o3, hst3, hix3⟩ := hu'.at hlt 5 rfl
      obtain ⟨u3, hu3, hld3⟩ := hst3.at 4 (it := .text) rfl
      obtain ⟨hL3, hlt3⟩ := hu3.textL
      rw [rBin_add _ _ _ _ (by omega), rFld_p, hld, hix3, rFld_p, hld3, hlt3, rBin_quo _ _ _ _ (by omega) (by omega), rBin_add _ _ _ _ (by omega), rBin_add _ _ _ _ (by omega)]
      exact ih (i + 1) m _ (by omega) (by omega) (by omega)
    · rw [if_neg (by simpa using h9), loopF_ge h9, X_most, said_loop hs K (lenL (ats ds 20)) 0 most N (by omega) (by omega) hNb, List.drop_zero]
theorem ats_part (ds : List D) (k m j : Nat) (h : j < m) : ats ((ds.drop k).take m) j = ats ds (k + j) := by
  unfold ats
  rw [List.getElem?_take, if_pos h, List.getElem?_drop]
theorem dones_loop {n : Nat} {σ : St} {C : Nat → Prop} {b : Nat} {ds : List D} (hs : Stc σ C itsAll b 0 ds) (hmost : 140737488355328 < most) {K : VK} :
    ∀ (r i m N : Nat), i + r = lenL (ats ds 27) → r < m → N ≤ 36028797018963968 → (∀ σ', Ext' σ σ' → K (.bool (decide (9000 ≤ loopF fSaid (esOf (ats ds 20)) (loopF fVotes (esOf (ats ds 19)) (N3 ds (loopF fDones ((esOf (ats ds 27)).drop i) N)))))) σ' = true) →
      l_law25_large_rrlrd (X most n) m (pt b 0) (.int .i64 (.ofNat N)) (.int .i64 (.ofNat i)) σ K = true := by
  obtain ⟨u, hu, hld⟩ := hs.at 27 (it := .list itsDone) rfl
  obtain ⟨v3, h3, l3⟩ := hs.at 3 (it := .text) rfl
  obtain ⟨v12, h12, l12⟩ := hs.at 12 (it := .text) rfl
  obtain ⟨v13, h13, l13⟩ := hs.at 13 (it := .text) rfl
  obtain ⟨v18, h18, l18⟩ := hs.at 18 (it := .text) rfl
  obtain ⟨v19, h19, l19⟩ := hs.at 19 (it := .list itsVote) rfl
  have a3 := h3.textL.1
  have a12 := h12.textL.1
  have a13 := h13.textL.1
  have a18 := h18.textL.1
  have a19 := h19.listL.1
  have hu' := hu
  rw [esOf_eq hu] at hu'
  obtain ⟨hL, hlen⟩ := hu.listL
  have hLe : lenL (ats ds 27) = (esOf (ats ds 27)).length := by
    conv => lhs; rw [esOf_eq hu]
    rfl
  -- behind the loop
  have behind : ∀ N, N ≤ 36028797018963968 → (∀ σ', Ext' σ σ' → K (.bool (decide (9000 ≤ loopF fSaid (esOf (ats ds 20)) (loopF fVotes (esOf (ats ds 19)) (N3 ds N))))) σ' = true) →
      (rFld 2 (pt b 0) fun v17 => rFld 3 v17 fun v18 => rLdN 15 v18 σ fun v19 σ =>
        rAlloc [(.int .i64 (.ofNat 0)), (.int .i64 (.ofNat 0)), (.int .i64 (.ofNat 0)), (.int .i64 (.ofNat 0)), (.int .i64 (.ofNat 0)), (.int .i64 (.ofNat 0)), (.int .i64 (.ofNat 0)), (.string ⟨⟨[]⟩⟩), (.string ⟨⟨[]⟩⟩), (.int .i64 (.ofNat 0)), (.int .i64 (.ofNat 0)), (.bool false), (.bool false), (.string ⟨⟨[]⟩⟩), (.slice none 0 0)] 25 σ fun v20 σ =>
        rSt 15 v20 v19 σ fun σ => rFld 2 (pt b 0) fun v21 => rFld 1 v21 fun v22 => rLd v22 σ fun v23 σ => rLenT v23 fun v24 => rFld 7 v20 fun v25 => rLd v25 σ fun v26 σ => rLenT v26 fun v27 => rBin PP .add 3 v24 v27 fun v28 =>
        rFld 8 v20 fun v29 => rLd v29 σ fun v30 σ => rLenT v30 fun v31 => rBin PP .add 3 v28 v31 fun v32 => rFld 13 v20 fun v33 => rLd v33 σ fun v34 σ => rLenT v34 fun v35 => rBin PP .add 3 v32 v35 fun v36 =>
        rBin PP .quo 3 v36 (.int .i64 (.ofNat 8)) fun v37 => rBin PP .add 3 (.int .i64 (.ofNat N)) v37 fun v38 => l_law25_large_rrrrrlrd (X most n) (X most n).most (pt b 0) v38 v20 (.int .i64 (.ofNat 0)) σ K) = true := by
    intro N hN hKN
    obtain ⟨vs, e, ck, g1, g2, g3, g4⟩ := hs.row
    have g3 : 0 + 30 ≤ vs.length := g3
    have hone : ((vs.drop 5).take 15).all oneCell = true := by
      refine List.all_eq_true.2 fun v hv => ?_
      obtain ⟨j, hj⟩ := List.getElem?_of_mem hv
      rw [List.getElem?_take] at hj
      split at hj
      · rename_i hj15
        rw [List.getElem?_drop] at hj
        have hlt : 5 + j < itsAll.length := by show 5 + j < 30; omega
        exact (g4 (5 + j) _ v _ (List.getElem?_eq_getElem hlt) (by rw [Nat.zero_add]; exact hj) (List.getElem?_eq_getElem (by rw [hs.len]; exact hlt))).one
      · cases hj
    rw [rFld_p, rFld_p, rLdN_h (n := 15) (o := 0 + 2 + 3) g1 (by omega), rAlloc_h, rSt_all obj_new_same (by simp; omega) hone 15 (by simp; omega)]
    let σ2 := (σ.new (.cells [(.int .i64 (.ofNat 0)), (.int .i64 (.ofNat 0)), (.int .i64 (.ofNat 0)), (.int .i64 (.ofNat 0)), (.int .i64 (.ofNat 0)), (.int .i64 (.ofNat 0)), (.int .i64 (.ofNat 0)), (.string ⟨⟨[]⟩⟩), (.string ⟨⟨[]⟩⟩), (.int .i64 (.ofNat 0)), (.int .i64 (.ofNat 0)), (.bool false), (.bool false), (.string ⟨⟨[]⟩⟩), (.slice none 0 0)] 25 .exact)).set σ.n (.cells ((vs.drop (0 + 2 + 3)).take 15) 25 .exact)
    have hx : Ext' σ σ2 := ⟨Nat.le_succ _, fun i hi => by rw [obj_set_other (show i ≠ σ.n by omega), obj_new_old (by omega)]⟩
    have f : Fr' C σ σ2 (fun _ => False) := ⟨hx.n, fun i hi _ => hx.same i hi, fun _ h => h.elim⟩
    have hs2 := hs.fr f
    have hv2 : Stc σ2 (fun _ => False) itsVoting σ.n 0 ((ds.drop 5).take 15) := by
      refine ⟨⟨_, 25, .exact, obj_set_same, .inr (.inl rfl), by show 0 + 15 ≤ _; rw [List.length_take, List.length_drop]; omega, fun j it v d a1 a2 a3 => ?_⟩, by show σ.n < σ.n + 1; omega, fun h => h, by rw [List.length_take, List.length_drop, hs.len]; rfl⟩
      have hj : j < 15 := (List.getElem?_eq_some_iff.1 a1).1
      have a1' : itsAll[5 + j]? = some it := by
        have : itsVoting = (itsAll.drop 5).take 15 := rfl
        rw [this, List.getElem?_take, if_pos hj, List.getElem?_drop] at a1
        exact a1
      have a2 : ((vs.drop 5).take 15)[0 + j]? = some v := a2
      rw [Nat.zero_add, List.getElem?_take, if_pos hj, List.getElem?_drop] at a2
      rw [List.getElem?_take, if_pos hj, List.getElem?_drop] at a3
      exact (g4 (5 + j) it v d a1' (by rw [Nat.zero_add]; exact a2) a3).fr f
    obtain ⟨w3, k3, m3⟩ := hs2.at 3 (it := .text) rfl
    obtain ⟨w7, k7, m7⟩ := hv2.at 7 (it := .text) rfl
    obtain ⟨w8, k8, m8⟩ := hv2.at 8 (it := .text) rfl
    obtain ⟨w13, k13, m13⟩ := hv2.at 13 (it := .text) rfl
    have e14 : ats ((ds.drop 5).take 15) 14 = ats ds 19 := ats_part ds 5 15 14 (by omega)
    rw [ats_part ds 5 15 7 (by omega)] at k7
    rw [ats_part ds 5 15 8 (by omega)] at k8
    rw [ats_part ds 5 15 13 (by omega)] at k13
    obtain ⟨p3, q3⟩ := k3.textL
    obtain ⟨p7, q7⟩ := k7.textL
    obtain ⟨p8, q8⟩ := k8.textL
    obtain ⟨p13, q13⟩ := k13.textL
    have m3 : ∀ K, rLd (pt b (0 + 2 + 1)) σ2 K = K w3 σ2 := m3
    rw [rFld_p, rFld_p, m3, q3, rFld_p, m7, q7, rBin_add _ _ _ _ (by omega), rFld_p, m8, q8, rBin_add _ _ _ _ (by omega), rFld_p, m13, q13, rBin_add _ _ _ _ (by omega), rBin_quo _ _ _ _ (by omega) (by omega), rBin_add _ _ _ _ (by omega), X_most]
    rw [votes_loop hs2 hv2 hmost K (lenL (ats ds 19)) 0 most _ (by rw [e14]; omega) (by omega) (by omega), List.drop_zero, e14]
    exact hKN σ2 hx
  intro r
  induction r with
  | zero =>
    intro i m N hi hm hNb hKN
    obtain ⟨m, rfl⟩ := Nat.exists_eq_succ_of_ne_zero (show m ≠ 0 by omega)
    rw [l_law25_large_rrlrdE]
    unfold l_law25_large_rrlrdB
    rw [rFld_p, hld, hlen, rBin_lssN, show decide (i < lenL (ats ds 27)) = false from decide_eq_false (by omega)]
    simp only [rGuard_tf, rPick_f, rIf_f]
    rw [List.drop_of_length_le (by omega)] at hKN
    exact behind N hNb hKN
  | succ r ih =>
    intro i m N hi hm hNb hKN
    obtain ⟨m, rfl⟩ := Nat.exists_eq_succ_of_ne_zero (show m ≠ 0 by omega)
    have hlt : i < (esOf (ats ds 27)).length := by omega
    rw [l_law25_large_rrlrdE]
    unfold l_law25_large_rrlrdB
    rw [rFld_p, hld, hlen, rBin_lssN, show decide (i < lenL (ats ds 27)) = true from decide_eq_true (by omega)]
    simp only [rGuard_tt, rPick_t, rBin_lssN, rIf_b]
    rw [List.drop_eq_getElem_cons hlt] at hKN
    by_cases h9 : N < 9000
    · rw [if_pos (by simpa using h9)]
      rw [loopF_lt h9] at hKN
      obtain ⟨b3, o3, hst3, hix3⟩ := hu'.at hlt 3 rfl
      obtain ⟨u3, hu3, hld3⟩ := hst3.at 2 (it := .nums) rfl
      obtain ⟨hL3, hlt3⟩ := hu3.numsL
      rw [rBin_add _ _ _ _ (by omega), rFld_p, hld, hix3, rFld_p, hld3, hlt3, rBin_add _ _ _ _ (by omega), rBin_add _ _ _ _ (by omega)]
      exact ih (i + 1) m _ (by omega) (by omega) (by omega) hKN
    · rw [if_neg (by simpa using h9)]
      rw [loopF_ge h9] at hKN
      exact behind N hNb hKN
theorem large_s {n : Nat} (hmost : 140737488355328 < most) {σ : St} {C : Nat → Prop} {cs : List Value} {ds : List D} (h : RdA σ C itsAll cs ds) {K : VK}
    (hK : ∀ σ', Ext' σ σ' → K (.bool (decide (9000 ≤ largeN ds))) σ' = true) : (X most (n + 3)).C c_law25_large [.agg ⟨cs⟩] σ K = true := by
  rw [X_call (by rfl), f_law25_large]
  unfold r_law25_large
  rw [boxK_agg (List.all_eq_true.2 h.one)]
  have hs := h.stc 34
  obtain ⟨u1, h1, l1⟩ := hs.at 1 (it := .list itsText) rfl
  obtain ⟨u21, h21, l21⟩ := hs.at 21 (it := .list itsMsg) rfl
  obtain ⟨u22, h22, l22⟩ := hs.at 22 (it := .list itsText) rfl
  obtain ⟨u23, h23, l23⟩ := hs.at 23 (it := .list itsPair) rfl
  obtain ⟨u24, h24, l24⟩ := hs.at 24 (it := .list itsPair) rfl
  obtain ⟨u26, h26, l26⟩ := hs.at 26 (it := .list itsDealing) rfl
  obtain ⟨u27, h27, l27⟩ := hs.at 27 (it := .list itsDone) rfl
  obtain ⟨u28, h28, l28⟩ := hs.at 28 (it := .list itsMsg) rfl
  obtain ⟨u29, h29, l29⟩ := hs.at 29 (it := .list itsDealing) rfl
  have l21 : ∀ K, rLd (pt σ.n (0 + 2 + 19)) (σ.new (.cells cs 34 .exact)) K = K u21 (σ.new (.cells cs 34 .exact)) := l21
  obtain ⟨a23, b23⟩ := h23.listL
  obtain ⟨a24, b24⟩ := h24.listL
  have a27 := h27.listL.1
  have s1 := sameV_list h1
  have s21 := rSame_v (sameV_list h21)
  have s22 := rSame_v (sameV_list h22)
  have s23 := rSame_v (sameV_list h23)
  have s24 := rSame_v (sameV_list h24)
  have s26 := rSame_v (sameV_list h26)
  have s28 := rSame_v (sameV_list h28)
  have s29 := rSame_v (sameV_list h29)
  rw [esOf_eq h1] at h1
  rw [esOf_eq h21] at h21
  rw [esOf_eq h22] at h22
  rw [esOf_eq h26] at h26
  rw [esOf_eq h28] at h28
  rw [esOf_eq h29] at h29
  have e1 := texts_le h1
  have e22 := texts_le h22
  have e21 := msgs_le h21
  have e28 := msgs_le h28
  have e26 := dealt_le h26
  have e29 := dealt_le h29
  rw [rFld_p, l1, rFld_p, l22, rFld_p, l23, b23, rBin_mul _ _ _ _ (by omega), rFld_p, l24, b24, rBin_mul _ _ _ _ (by omega), rFld_p, l26, rFld_p, l29, rFld_p, l28, rFld_p, rFld_p, l21]
  rw [sizeTexts_s (n := n + 1) hmost h1, l21, s21, l28, s28, l29, s29, l26, s26, l24, s24, l23, s23, l22, s22]
  rw [sizeTexts_s (n := n + 1) hmost h22, l21, s21, l28, s28, l29, s29, l26, s26, l24, s24, l23, s23, rBin_add _ _ _ _ (by omega), rBin_add _ _ _ _ (by omega), rBin_add _ _ _ _ (by omega)]
  rw [sizeDealt_s (n := n) hmost h26, l21, s21, l28, s28, l29, s29, l24, s24, l23, s23, rBin_add _ _ _ _ (by omega)]
  rw [sizeDealt_s (n := n) hmost h29, l21, s21, l28, s28, l24, s24, l23, s23, rBin_add _ _ _ _ (by omega)]
  rw [sizeMsgs_s (n := n + 1) hmost h28, l21, s21, l24, s24, l23, s23, rBin_add _ _ _ _ (by omega)]
  rw [sizeMsgs_s (n := n + 1) hmost h21, l24, s24, l23, s23, rBin_add _ _ _ _ (by omega), X_most]
  refine dones_loop hs hmost (lenL (ats ds 27)) 0 most _ (by omega) (by omega) (by omega) fun σ' hx => ?_
  exact hK σ' ((Ext'.new σ _).trans hx)
end Go.Am

namespace Go.Am
open Go.RowKit Go.MapKept Go.Proofs Go.Proofs.Rdr
def costsA : List It → List D → Nat → Nat
  | [], _, _ => 0
  | it :: its, ds, j => cost it (ats ds j) + costsA its ds (j + 1)
theorem costs_drop : ∀ (its : List It) (ds : List D) (j : Nat), j + its.length = ds.length → costs its (ds.drop j) = costsA its ds j := by
  intro its
  induction its with
  | nil => intro ds j _; rfl
  | cons it its ih =>
    intro ds j h
    have hlt : j < ds.length := by rw [List.length_cons] at h; omega
    rw [List.drop_eq_getElem_cons hlt]
    simp only [costs, costsA]
    rw [ih ds (j + 1) (by rw [List.length_cons] at h; omega)]
    congr 2
    unfold ats
    rw [List.getElem?_eq_getElem hlt]
    rfl
theorem costs_eq {its : List It} {ds : List D} (h : ds.length = its.length) : costs its ds = costsA its ds 0 := by
  have := costs_drop its ds 0 (by omega)
  rwa [List.drop_zero] at this
theorem cost_num (d : D) : cost .num d = 8 := by cases d <;> rfl
theorem cost_kind (d : D) : cost .kind d = 1 := by cases d <;> rfl
theorem cost_int (d : D) : cost .int d = 8 := by cases d <;> rfl
theorem cost_is (d : D) : cost .is d = 8 := by cases d <;> rfl
theorem cost_text (d : D) : cost .text d = 2050 := by cases d <;> rfl
theorem cost_nums (d : D) : cost .nums d = 8194 := by cases d <;> rfl
theorem cost_list (its : List It) (d : D) : cost (.list its) d = 8 + (esOf d).foldl (fun c x => c + costs its x) 0 := by
  rw [← foldl_cost]
  cases d <;> simp [cost, esOf]
theorem list_cost (f : Nat → List D → Nat) (its : List It) (M : Nat) : ∀ (es : List (List D)), (∀ ds ∈ es, ∀ n, n ≤ f n ds ∧ (f n ds < 9000 → M * n + costs its ds ≤ M * f n ds)) →
    ∀ n, n ≤ loopF f es n ∧ (loopF f es n < 9000 → M * n + es.foldl (fun c x => c + costs its x) 0 ≤ M * loopF f es n) := by
  intro es
  induction es with
  | nil => intro _ n; exact ⟨Nat.le_refl _, fun _ => Nat.le_refl _⟩
  | cons ds es ih =>
    intro h n
    obtain ⟨h1, h2⟩ := h ds (.head _) n
    obtain ⟨i1, i2⟩ := ih (fun d hd => h d (.tail _ hd)) (f n ds)
    by_cases h9 : n < 9000
    · rw [loopF_lt h9]
      refine ⟨Nat.le_trans h1 i1, fun hl => ?_⟩
      have a := i2 hl
      have b := h2 (by omega)
      rw [List.foldl_cons, foldl_cost]
      omega
    · rw [loopF_ge h9]
      exact ⟨Nat.le_refl _, fun hl => absurd hl h9⟩
section
variable {σ : St} {C : Nat → Prop} {v : Value} {es : List (List D)}
theorem texts_cost (h : Rd σ C (.list itsText) v (.l es)) (n : Nat) : n ≤ loopF fTexts es n ∧ (loopF fTexts es n < 9000 → 10400 * n + es.foldl (fun c x => c + costs itsText x) 0 ≤ 10400 * loopF fTexts es n) := by
  refine list_cost fTexts itsText 10400 es (fun ds hd n => ?_) n
  obtain ⟨b, o, hst⟩ := h.mem hd
  refine ⟨by unfold fTexts; omega, fun _ => ?_⟩
  rw [costs_eq hst.len]
  simp only [itsText, costsA, cost_text, fTexts]
  omega
theorem coms_cost (h : Rd σ C (.list itsNums) v (.l es)) (n : Nat) : n ≤ loopF fComs es n ∧ (loopF fComs es n < 9000 → 10400 * n + es.foldl (fun c x => c + costs itsNums x) 0 ≤ 10400 * loopF fComs es n) := by
  refine list_cost fComs itsNums 10400 es (fun ds hd n => ?_) n
  obtain ⟨b, o, hst⟩ := h.mem hd
  refine ⟨by unfold fComs; omega, fun _ => ?_⟩
  rw [costs_eq hst.len]
  simp only [itsNums, costsA, cost_nums, fComs]
  omega
theorem told_cost (h : Rd σ C (.list itsTold) v (.l es)) (n : Nat) : n ≤ loopF fTold es n ∧ (loopF fTold es n < 9000 → 10400 * n + es.foldl (fun c x => c + costs itsTold x) 0 ≤ 10400 * loopF fTold es n) := by
  refine list_cost fTold itsTold 10400 es (fun ds hd n => ?_) n
  obtain ⟨b, o, hst⟩ := h.mem hd
  refine ⟨by unfold fTold; omega, fun _ => ?_⟩
  rw [costs_eq hst.len]
  simp only [itsTold, costsA, cost_int, cost_nums, fTold]
  omega
theorem said_cost (h : Rd σ C (.list itsSaid) v (.l es)) (n : Nat) : n ≤ loopF fSaid es n ∧ (loopF fSaid es n < 9000 → 10400 * n + es.foldl (fun c x => c + costs itsSaid x) 0 ≤ 10400 * loopF fSaid es n) := by
  refine list_cost fSaid itsSaid 10400 es (fun ds hd n => ?_) n
  obtain ⟨b, o, hst⟩ := h.mem hd
  refine ⟨by unfold fSaid; omega, fun _ => ?_⟩
  rw [costs_eq hst.len]
  simp only [itsSaid, costsA, cost_int, cost_text, fSaid]
  omega
theorem votes_cost (h : Rd σ C (.list itsVote) v (.l es)) (n : Nat) : n ≤ loopF fVotes es n ∧ (loopF fVotes es n < 9000 → 10400 * n + es.foldl (fun c x => c + costs itsVote x) 0 ≤ 10400 * loopF fVotes es n) := by
  refine list_cost fVotes itsVote 10400 es (fun ds hd n => ?_) n
  obtain ⟨b, o, hst⟩ := h.mem hd
  refine ⟨by unfold fVotes; omega, fun _ => ?_⟩
  rw [costs_eq hst.len]
  simp only [itsVote, costsA, cost_kind, cost_int, cost_text, fVotes]
  omega
theorem dones_cost (h : Rd σ C (.list itsDone) v (.l es)) (n : Nat) : n ≤ loopF fDones es n ∧ (loopF fDones es n < 9000 → 10400 * n + es.foldl (fun c x => c + costs itsDone x) 0 ≤ 10400 * loopF fDones es n) := by
  refine list_cost fDones itsDone 10400 es (fun ds hd n => ?_) n
  obtain ⟨b, o, hst⟩ := h.mem hd
  refine ⟨by unfold fDones; omega, fun _ => ?_⟩
  rw [costs_eq hst.len]
  simp only [itsDone, costsA, cost_int, cost_nums, fDones]
  omega
theorem msgs_cost (h : Rd σ C (.list itsMsg) v (.l es)) (n : Nat) : n ≤ loopF fMsgs es n ∧ (loopF fMsgs es n < 9000 → 10400 * n + es.foldl (fun c x => c + costs itsMsg x) 0 ≤ 10400 * loopF fMsgs es n) := by
  refine list_cost fMsgs itsMsg 10400 es (fun ds hd n => ?_) n
  obtain ⟨b, o, hst⟩ := h.mem hd
  refine ⟨by unfold fMsgs; omega, fun _ => ?_⟩
  rw [costs_eq hst.len]
  simp only [itsMsg, costsA, cost_kind, cost_int, cost_text, cost_nums, fMsgs]
  omega
theorem dealt_cost (h : Rd σ C (.list itsDealing) v (.l es)) (n : Nat) : n ≤ loopF fDealt es n ∧ (loopF fDealt es n < 9000 → 10400 * n + es.foldl (fun c x => c + costs itsDealing x) 0 ≤ 10400 * loopF fDealt es n) := by
  refine list_cost fDealt itsDealing 10400 es (fun ds hd n => ?_) n
  obtain ⟨b, o, hst⟩ := h.mem hd
  obtain ⟨u2, h2, _⟩ := hst.at 2 (it := .list itsNums) rfl
  obtain ⟨u4, h4, _⟩ := hst.at 4 (it := .list itsTold) rfl
  obtain ⟨u5, h5, _⟩ := hst.at 5 (it := .list itsTold) rfl
  rw [esOf_eq h4] at h4
  rw [esOf_eq h5] at h5
  rw [esOf_eq h2] at h2
  obtain ⟨a4, b4⟩ := told_cost h4 0
  obtain ⟨a5, b5⟩ := told_cost h5 0
  obtain ⟨a2, b2⟩ := coms_cost h2 (n + 9 + lenL (ats ds 3) + lenL (ats ds 6) + loopF fTold (esOf (ats ds 4)) 0 + loopF fTold (esOf (ats ds 5)) 0)
  refine ⟨by unfold fDealt; omega, fun hl => ?_⟩
  unfold fDealt at hl ⊢
  have c2 := b2 hl
  have c4 := b4 (by omega)
  have c5 := b5 (by omega)
  rw [costs_eq hst.len]
  simp only [itsDealing, costsA, cost_list, cost_int, cost_is, cost_nums, Nat.zero_add, Nat.reduceAdd]
  omega
theorem pairs_cost (h : Rd σ C (.list itsPair) v (.l es)) : es.foldl (fun c x => c + costs itsPair x) 0 = 16 * es.length := by
  have : ∀ (es : List (List D)), (∀ ds ∈ es, ds.length = 2) → es.foldl (fun c x => c + costs itsPair x) 0 = 16 * es.length := by
    intro es
    induction es with
    | nil => intro _; rfl
    | cons ds es ih =>
      intro h
      rw [List.foldl_cons, foldl_cost, ih fun d hd => h d (.tail _ hd), costs_eq (its := itsPair) (h ds (.head _))]
      simp only [itsPair, costsA, cost_num, List.length_cons]
      omega
  exact this es fun ds hd => by obtain ⟨b, o, hst⟩ := h.mem hd; exact hst.len
end
theorem costs_all (ds : List D) : costsA itsAll ds 0 = 8 * 11 + 8 * 4 + 4 * 2050 + (cost (.list itsText) (ats ds 1) + cost (.list itsVote) (ats ds 19) + cost (.list itsSaid) (ats ds 20) + cost (.list itsMsg) (ats ds 21) + cost (.list itsText) (ats ds 22) + cost (.list itsPair) (ats ds 23) + cost (.list itsPair) (ats ds 24) + cost (.list itsDealing) (ats ds 26) + cost (.list itsDone) (ats ds 27) + cost (.list itsMsg) (ats ds 28) + cost (.list itsDealing) (ats ds 29)) := by
  simp only [itsAll, costsA, cost_is, cost_int, cost_text, Nat.zero_add, Nat.reduceAdd]
  omega
theorem small {σ : St} {C : Nat → Prop} {cs : List Value} {ds : List D} (h : RdA σ C itsAll cs ds) (hl : largeN ds < 9000) : costs itsAll ds ≤ LIM := by
  have hs := h.stc 34
  obtain ⟨u1, h1, _⟩ := hs.at 1 (it := .list itsText) rfl
  obtain ⟨u19, h19, _⟩ := hs.at 19 (it := .list itsVote) rfl
  obtain ⟨u20, h20, _⟩ := hs.at 20 (it := .list itsSaid) rfl
  obtain ⟨u21, h21, _⟩ := hs.at 21 (it := .list itsMsg) rfl
  obtain ⟨u22, h22, _⟩ := hs.at 22 (it := .list itsText) rfl
  obtain ⟨u23, h23, _⟩ := hs.at 23 (it := .list itsPair) rfl
  obtain ⟨u24, h24, _⟩ := hs.at 24 (it := .list itsPair) rfl
  obtain ⟨u26, h26, _⟩ := hs.at 26 (it := .list itsDealing) rfl
  obtain ⟨u27, h27, _⟩ := hs.at 27 (it := .list itsDone) rfl
  obtain ⟨u28, h28, _⟩ := hs.at 28 (it := .list itsMsg) rfl
  obtain ⟨u29, h29, _⟩ := hs.at 29 (it := .list itsDealing) rfl
  have e23 : lenL (ats ds 23) = (esOf (ats ds 23)).length := by
    conv => lhs; rw [esOf_eq h23]
    rfl
  have e24 : lenL (ats ds 24) = (esOf (ats ds 24)).length := by
    conv => lhs; rw [esOf_eq h24]
    rfl
  rw [esOf_eq h1] at h1
  rw [esOf_eq h19] at h19
  rw [esOf_eq h20] at h20
  rw [esOf_eq h21] at h21
  rw [esOf_eq h22] at h22
  rw [esOf_eq h23] at h23
  rw [esOf_eq h24] at h24
  rw [esOf_eq h26] at h26
  rw [esOf_eq h27] at h27
  rw [esOf_eq h28] at h28
  rw [esOf_eq h29] at h29
  unfold largeN at hl
  obtain ⟨a20, b20⟩ := said_cost h20 (loopF fVotes (esOf (ats ds 19)) (N3 ds (loopF fDones (esOf (ats ds 27)) (N1 ds))))
  obtain ⟨a19, b19⟩ := votes_cost h19 (N3 ds (loopF fDones (esOf (ats ds 27)) (N1 ds)))
  obtain ⟨a27, b27⟩ := dones_cost h27 (N1 ds)
  have fin : ∀ (n F L : Nat), (10400 * n + F ≤ 10400 * L) → L < 9000 → F ≤ 93600000 := fun n F L h1 h2 => by omega
  have l19 : loopF fVotes (esOf (ats ds 19)) (N3 ds (loopF fDones (esOf (ats ds 27)) (N1 ds))) < 9000 := Nat.lt_of_le_of_lt a20 hl
  have l3 : N3 ds (loopF fDones (esOf (ats ds 27)) (N1 ds)) < 9000 := Nat.lt_of_le_of_lt a19 l19
  have hN3 : loopF fDones (esOf (ats ds 27)) (N1 ds) ≤ N3 ds (loopF fDones (esOf (ats ds 27)) (N1 ds)) := by unfold N3; exact Nat.le_add_right _ _
  have l27 : loopF fDones (esOf (ats ds 27)) (N1 ds) < 9000 := Nat.lt_of_le_of_lt hN3 l3
  have hN1 : N1 ds < 9000 := Nat.lt_of_le_of_lt a27 l27
  have d20 := fin _ _ _ (b20 hl) hl
  have d19 := fin _ _ _ (b19 l19) l19
  have d27 := fin _ _ _ (b27 l27) l27
  unfold N1 at hN1
  obtain ⟨_, b1⟩ := texts_cost h1 0
  obtain ⟨_, b22⟩ := texts_cost h22 0
  obtain ⟨_, b26⟩ := dealt_cost h26 0
  obtain ⟨_, b29⟩ := dealt_cost h29 0
  obtain ⟨_, b28⟩ := msgs_cost h28 0
  obtain ⟨_, b21⟩ := msgs_cost h21 0
  have c23 := pairs_cost h23
  have c24 := pairs_cost h24
  have split : ∀ a b c d e f g i : Nat, a + b + c + d + e + f + g + i < 9000 → a < 9000 ∧ b < 9000 ∧ c < 9000 ∧ d < 9000 ∧ e < 9000 ∧ f < 9000 ∧ g < 9000 ∧ i < 9000 := fun a b c d e f g i h => by omega
  obtain ⟨q1, q2, q3, q4, q5, q6, q7, q8⟩ := split _ _ _ _ _ _ _ _ hN1
  have d1 := fin _ _ _ (b1 q1) q1
  have d22 := fin _ _ _ (b22 q2) q2
  have d26 := fin _ _ _ (b26 q5) q5
  have d29 := fin _ _ _ (b29 q6) q6
  have d28 := fin _ _ _ (b28 q7) q7
  have d21 := fin _ _ _ (b21 q8) q8
  have d23 : 16 * (esOf (ats ds 23)).length ≤ 93600000 := by rw [← e23]; omega
  have d24 : 16 * (esOf (ats ds 24)).length ≤ 93600000 := by rw [← e24]; omega
  rw [costs_eq h.dlen, costs_all]
  simp only [cost_list, c23, c24]
  have tot : ∀ a b c d e f g i j k l : Nat, a ≤ 93600000 → b ≤ 93600000 → c ≤ 93600000 → d ≤ 93600000 → e ≤ 93600000 → f ≤ 93600000 → g ≤ 93600000 → i ≤ 93600000 → j ≤ 93600000 → k ≤ 93600000 → l ≤ 93600000 →
      8 * 11 + 8 * 4 + 4 * 2050 + (8 + a + (8 + b) + (8 + c) + (8 + d) + (8 + e) + (8 + f) + (8 + g) + (8 + i) + (8 + j) + (8 + k) + (8 + l)) ≤ LIM := by
    intro a b c d e f g i j k l; unfold LIM; omega
  exact tot _ _ _ _ _ _ _ _ _ _ _ d1 d19 d20 d21 d22 d23 d24 d26 d27 d28 d29
end Go.Am
