/- save: wire's reader, at open bytes. -/
import Derived.Test.YtbockfpeohfphaaSpc
import Derived.Test.YtbockfpeohfphaaSqa

namespace Go.Am
open Go.RowKit Go.MapKept Go.Proofs Go.Proofs.Rdr
variable {most : Nat}
/-- a reader that lies in a row of its own; the rows that may turn -/
structure Eye (σ : St) (W : Nat → Prop) (rr : Nat) (st : RS) : Prop where
  inW : W rr
  lt : ∀ i, W i → i < σ.n
  obj : σ.obj rr = some (.cells [.string ⟨⟨st.1⟩⟩, .int .i64 (.ofNat st.2)] 109 .exact)
  len : st.1.length < 9223372036854775808
abbrev eye (rr : Nat) : Value := .iface 73 (.agg ⟨[pt rr 0]⟩)
theorem writeK_exact {σ : St} {i o : Nat} {vs new : List Value} {e : TypeId} (h : σ.obj i = some (.cells vs e .exact)) (ho : o + new.length ≤ vs.length) (k : St → Bool) : writeK σ i o new k = k (σ.set i (.cells (splice o new vs) e .exact)) := by
  unfold writeK
  rw [cellsK_h h]
  show spliceK o new vs (fun vs => setK σ i (.cells vs e .exact) k) = _
  rw [spliceK_eq, if_pos ho, setK_eq]
theorem Eye.new {σ : St} {W : Nat → Prop} {rr : Nat} {st : RS} (h : Eye σ W rr st) (o : AObj) : Eye (σ.new o) W rr st :=
  ⟨h.inW, fun i hi => Nat.lt_succ_of_lt (h.lt i hi), by rw [obj_new_old (Nat.ne_of_lt (h.lt rr h.inW))]; exact h.obj, h.len⟩
theorem Eye.lt1 {σ : St} {W : Nat → Prop} {rr : Nat} {st : RS} (h : Eye σ W rr st) : rr < σ.n := h.lt rr h.inW
theorem Eye.nW {σ : St} {W : Nat → Prop} {rr : Nat} {st : RS} (h : Eye σ W rr st) : ¬ W σ.n := fun hb => Nat.lt_irrefl _ (h.lt _ hb)
/-- the reader turns -/
theorem Eye.turn {σ : St} {W : Nat → Prop} {rr : Nat} {st : RS} (h : Eye σ W rr st) (st' : RS) (hl : st'.1.length ≤ st.1.length) :
    Eye (σ.set rr (.cells [.string ⟨⟨st'.1⟩⟩, .int .i64 (.ofNat st'.2)] 109 .exact)) W rr st' ∧ Fr' W σ (σ.set rr (.cells [.string ⟨⟨st'.1⟩⟩, .int .i64 (.ofNat st'.2)] 109 .exact)) W :=
  ⟨⟨h.inW, h.lt, obj_set_same, Nat.lt_of_le_of_lt hl h.len⟩, ⟨Nat.le_refl _, fun _ _ hi => obj_set_other fun e => hi (e ▸ h.inW), fun _ h => .inl h⟩⟩
theorem eq_zero_i (e : Nat) : eqI (.ofNat e) 0 = decide (e = 0) := by
  rw [eqI_eq]
  by_cases h : e = 0
  · subst h; rfl
  · rw [decide_eq_false h]
    have : ¬ (Int.ofNat e = 0) := fun c => h (Int.ofNat.inj c)
    simpa using this
/-- what is read, by a contract -/
theorem rdK_s {σ : St} {W : Nat → Prop} {rr : Nat} {st : RS} (h : Eye σ W rr st) {zero v : Value} {st' : RS} {parse : Parse} (he : st.2 ≠ 0 → v = zero ∧ st' = st)
    (hp : st.2 = 0 → ∀ (ok : Value → List UInt8 → Bool) (no : Int → Bool), parse st.1 st.1.length ok no = if st'.2 = 0 then ok v st'.1 else no (.ofNat st'.2))
    (hz : st'.2 ≠ 0 → v = zero) (hl : st.2 = 0 → st'.2 ≠ 0 → st'.1 = []) (hle : st'.1.length ≤ st.1.length) {K : VK}
    (hK : ∀ σ', Eye σ' W rr st' → Fr' W σ σ' W → K (.tuple ⟨[v, .int .i64 (.ofNat st'.2)]⟩) σ' = true) : rdK zero parse σ (pt rr 0) K = true := by
  show cellsK σ rr _ = true
  rw [cellsK_h h.obj]
  show (match eqI (.ofNat st.2) 0 with
    | true => lenK st.1 fun n => match Nat.blt n 9223372036854775808 with
      | true => parse st.1 n (fun v rest => writeK σ rr 0 [.string ⟨⟨rest⟩⟩] fun σ => K (.tuple ⟨[v, .int .i64 (.ofNat 0)]⟩) σ) (fun er => writeK σ rr 0 [.string ⟨⟨[]⟩⟩, .int .i64 er] fun σ => K (.tuple ⟨[zero, .int .i64 er]⟩) σ)
      | false => false
    | false => K (.tuple ⟨[zero, .int .i64 (.ofNat st.2)]⟩) σ) = true
  rw [eq_zero_i]
  by_cases h0 : st.2 = 0
  · rw [decide_eq_true h0, lenK_eq]
    simp only
    rw [show Nat.blt st.1.length 9223372036854775808 = true from Nat.ble_eq_true_of_le h.len]
    simp only
    rw [hp h0]
    by_cases h1 : st'.2 = 0
    · rw [if_pos h1, writeK_exact h.obj (by simp)]
      have := h.turn st' hle
      have e : splice 0 [Value.string ⟨⟨st'.1⟩⟩] [.string ⟨⟨st.1⟩⟩, .int .i64 (.ofNat st.2)] = [.string ⟨⟨st'.1⟩⟩, .int .i64 (.ofNat st'.2)] := by simp [splice, h0, h1]
      rw [e]
      have h2 := hK _ this.1 this.2
      rw [h1] at h2 ⊢
      exact h2
    · rw [if_neg h1, writeK_exact h.obj (by simp)]
      have := h.turn st' hle
      have e : splice 0 [Value.string ⟨⟨[]⟩⟩, .int .i64 (.ofNat st'.2)] [.string ⟨⟨st.1⟩⟩, .int .i64 (.ofNat st.2)] = [.string ⟨⟨st'.1⟩⟩, .int .i64 (.ofNat st'.2)] := by simp [splice, hl h0 h1]
      rw [e]
      have h2 := hK _ this.1 this.2
      rw [hz h1] at h2
      exact h2
  · rw [decide_eq_false h0]
    obtain ⟨rfl, rfl⟩ := he h0
    exact hK σ h (.refl W σ)
theorem numP_eq (st : RS) (h0 : st.2 = 0) (ok : Value → List UInt8 → Bool) (no : Int → Bool) : numP st.1 st.1.length ok no = if (rdN 8 st).2.2 = 0 then ok (.int .u64 (.ofNat (rdN 8 st).1)) (rdN 8 st).2.1 else no (.ofNat (rdN 8 st).2.2) := by
  unfold numP rdN
  have e0 : ¬ st.2 ≠ 0 := by simp [h0]
  simp only [if_neg e0]
  by_cases h : 8 ≤ st.1.length
  · rw [show Nat.ble 8 st.1.length = true from Nat.ble_eq_true_of_le h]
    simp only [if_pos h, if_true]
    rw [takeK_eq, if_pos h, dropK_eq, if_pos h, beK_eq]
  · rw [show Nat.ble 8 st.1.length = false from by cases q : Nat.ble 8 st.1.length with | false => rfl | true => exact absurd (Nat.le_of_ble_eq_true q) h]
    simp [if_neg h]
theorem byteP_eq (st : RS) (h0 : st.2 = 0) (ok : Value → List UInt8 → Bool) (no : Int → Bool) : byteP st.1 st.1.length ok no = if (rdN 1 st).2.2 = 0 then ok (.int .u8 (.ofNat (rdN 1 st).1)) (rdN 1 st).2.1 else no (.ofNat (rdN 1 st).2.2) := by
  unfold byteP rdN
  have e0 : ¬ st.2 ≠ 0 := by simp [h0]
  simp only [if_neg e0]
  by_cases h : 1 ≤ st.1.length
  · rw [show Nat.ble 1 st.1.length = true from Nat.ble_eq_true_of_le h]
    simp only [if_pos h, if_true]
    rw [takeK_eq, if_pos h, dropK_eq, if_pos h, beK_eq]
  · rw [show Nat.ble 1 st.1.length = false from by cases q : Nat.ble 1 st.1.length with | false => rfl | true => exact absurd (Nat.le_of_ble_eq_true q) h]
    simp [if_neg h]
theorem ble_f {a b : Nat} (h : ¬ a ≤ b) : Nat.ble a b = false := by cases q : Nat.ble a b with | false => rfl | true => exact absurd (Nat.le_of_ble_eq_true q) h
theorem ble_t {a b : Nat} (h : a ≤ b) : Nat.ble a b = true := Nat.ble_eq_true_of_le h
theorem countP_eq (m : Nat) (st : RS) (h0 : st.2 = 0) (ok : Value → List UInt8 → Bool) (no : Int → Bool) : countP m st.1 st.1.length ok no = if (rdC m st).2.2 = 0 then ok (.int .i64 (.ofNat (rdC m st).1)) (rdC m st).2.1 else no (.ofNat (rdC m st).2.2) := by
  unfold countP rdC
  have e0 : ¬ st.2 ≠ 0 := by simp [h0]
  simp only [if_neg e0]
  by_cases h : 8 ≤ st.1.length
  · rw [ble_t h]
    simp only [if_pos h]
    rw [takeK_eq, if_pos h, dropK_eq, if_pos h, beK_eq]
    by_cases h1 : be (st.1.take 8) ≤ m
    · rw [ble_t h1]; simp [if_pos h1]
    · rw [ble_f h1]; simp [if_neg h1]
  · rw [ble_f h]; simp [if_neg h]
theorem textP_eq (st : RS) (h0 : st.2 = 0) (ok : Value → List UInt8 → Bool) (no : Int → Bool) : textP st.1 st.1.length ok no = if (rdT st).2.2 = 0 then ok (.string ⟨⟨(rdT st).1⟩⟩) (rdT st).2.1 else no (.ofNat (rdT st).2.2) := by
  unfold textP rdT
  have e0 : ¬ st.2 ≠ 0 := by simp [h0]
  simp only [if_neg e0]
  by_cases h : 2 ≤ st.1.length
  · rw [ble_t h]
    simp only [if_pos h]
    rw [takeK_eq, if_pos h, dropK_eq, if_pos h, beK_eq]
    by_cases h1 : be (st.1.take 2) ≤ 2048
    · rw [ble_t h1]
      simp only [if_pos h1]
      rw [lenK_eq]
      by_cases h2 : be (st.1.take 2) ≤ (st.1.drop 2).length
      · rw [ble_t h2]
        simp only [if_pos h2, if_true]
        rw [takeK_eq, if_pos h2, dropK_eq, if_pos h2]
      · rw [ble_f h2]; simp only [if_neg h2]; rfl
    · rw [ble_f h1]; simp [if_neg h1]
  · rw [ble_f h]; simp [if_neg h]
theorem rdN_le (k : Nat) (st : RS) : (rdN k st).2.1.length ≤ st.1.length := by
  unfold rdN
  split
  · exact Nat.le_refl _
  · split
    · simp
    · simp
theorem rdC_le (k : Nat) (st : RS) : (rdC k st).2.1.length ≤ st.1.length := by
  unfold rdC
  split
  · exact Nat.le_refl _
  · split
    · split <;> simp
    · simp
theorem rdT_le (st : RS) : (rdT st).2.1.length ≤ st.1.length := by
  unfold rdT
  split
  · exact Nat.le_refl _
  · split
    · split
      · split
        · simp
        · simp
      · simp
    · simp
theorem rdW_le (st : RS) : (rdW st).2.1.length ≤ st.1.length := by
  unfold rdW
  split
  · exact Nat.le_refl _
  · split
    · split
      · split
        · simp
        · simp
      · simp
    · simp
theorem rdN_z (k : Nat) (st : RS) (h : (rdN k st).2.2 ≠ 0) : (rdN k st).1 = 0 ∧ (st.2 = 0 → (rdN k st).2.1 = []) := by
  unfold rdN at h ⊢
  split
  · rename_i h1; exact ⟨rfl, fun c => absurd c h1⟩
  · rename_i h1
    rw [if_neg h1] at h
    split
    · rename_i h2; rw [if_pos h2] at h; exact absurd rfl h
    · exact ⟨rfl, fun _ => rfl⟩
theorem rdC_z (k : Nat) (st : RS) (h : (rdC k st).2.2 ≠ 0) : (rdC k st).1 = 0 ∧ (st.2 = 0 → (rdC k st).2.1 = []) := by
  unfold rdC at h ⊢
  split
  · rename_i h1; exact ⟨rfl, fun c => absurd c h1⟩
  · rename_i h1
    rw [if_neg h1] at h
    split
    · rename_i h2
      rw [if_pos h2] at h
      split
      · rename_i h3; rw [if_pos h3] at h; exact absurd rfl h
      · exact ⟨rfl, fun _ => rfl⟩
    · exact ⟨rfl, fun _ => rfl⟩
theorem rdT_z (st : RS) (h : (rdT st).2.2 ≠ 0) : (rdT st).1 = [] ∧ (st.2 = 0 → (rdT st).2.1 = []) := by
  unfold rdT at h ⊢
  split
  · rename_i h1; exact ⟨rfl, fun c => absurd c h1⟩
  · rename_i h1
    rw [if_neg h1] at h
    split
    · rename_i h2
      rw [if_pos h2] at h
      split
      · rename_i h3
        rw [if_pos h3] at h
        split
        · rename_i h4; rw [if_pos h4] at h; exact absurd rfl h
        · exact ⟨rfl, fun _ => rfl⟩
      · exact ⟨rfl, fun _ => rfl⟩
    · exact ⟨rfl, fun _ => rfl⟩
theorem rdN_e (k : Nat) (st : RS) (h : st.2 ≠ 0) : rdN k st = (0, st) := by unfold rdN; rw [if_pos h]
theorem rdC_e (k : Nat) (st : RS) (h : st.2 ≠ 0) : rdC k st = (0, st) := by unfold rdC; rw [if_pos h]
theorem rdT_e (st : RS) (h : st.2 ≠ 0) : rdT st = ([], st) := by unfold rdT; rw [if_pos h]
theorem rdW_e (st : RS) (h : st.2 ≠ 0) : rdW st = ([], st) := by unfold rdW; rw [if_pos h]
section
variable {σ : St} {W : Nat → Prop} {rr : Nat} {st : RS} {n : Nat} {K : VK}
theorem Num_s (h : Eye σ W rr st) (hK : ∀ σ', Eye σ' W rr (rdN 8 st).2 → Fr' W σ σ' W → K (.tuple ⟨[.int .u64 (.ofNat (rdN 8 st).1), .int .i64 (.ofNat (rdN 8 st).2.2)]⟩) σ' = true) :
    (X most (n + 2)).C c_wire_Reader_Num [pt rr 0] σ K = true := by
  rw [X_call (by rfl), f_wire_Reader_Num]
  unfold r_wire_Reader_Num
  rw [X_ov (g := ovRd c_wire_Reader_Num_1 (.int .u64 (.ofNat 0)) numP) (by rfl)]
  show rdK (.int .u64 (.ofNat 0)) numP σ (pt rr 0) _ = true
  refine rdK_s h (v := .int .u64 (.ofNat (rdN 8 st).1)) (st' := (rdN 8 st).2) (fun he => by rw [rdN_e 8 st he]; exact ⟨rfl, rfl⟩) (fun h0 => numP_eq st h0) (fun hz => by rw [(rdN_z 8 st hz).1]) (fun h0 hz => (rdN_z 8 st hz).2 h0) (rdN_le 8 st) fun σ' h1 f => ?_
  exact hK σ' h1 f
theorem ByteR_s (h : Eye σ W rr st) (hK : ∀ σ', Eye σ' W rr (rdN 1 st).2 → Fr' W σ σ' W → K (.tuple ⟨[.int .u8 (.ofNat (rdN 1 st).1), .int .i64 (.ofNat (rdN 1 st).2.2)]⟩) σ' = true) :
    (X most (n + 2)).C c_wire_Reader_Byte [pt rr 0] σ K = true := by
  rw [X_call (by rfl), f_wire_Reader_Byte]
  unfold r_wire_Reader_Byte
  rw [X_ov (g := ovRd c_wire_Reader_Byte_1 (.int .u8 (.ofNat 0)) byteP) (by rfl)]
  show rdK (.int .u8 (.ofNat 0)) byteP σ (pt rr 0) _ = true
  refine rdK_s h (v := .int .u8 (.ofNat (rdN 1 st).1)) (st' := (rdN 1 st).2) (fun he => by rw [rdN_e 1 st he]; exact ⟨rfl, rfl⟩) (fun h0 => byteP_eq st h0) (fun hz => by rw [(rdN_z 1 st hz).1]) (fun h0 hz => (rdN_z 1 st hz).2 h0) (rdN_le 1 st) fun σ' h1 f => ?_
  exact hK σ' h1 f
theorem TextR_s (h : Eye σ W rr st) (hK : ∀ σ', Eye σ' W rr (rdT st).2 → Fr' W σ σ' W → K (.tuple ⟨[.string ⟨⟨(rdT st).1⟩⟩, .int .i64 (.ofNat (rdT st).2.2)]⟩) σ' = true) :
    (X most (n + 2)).C c_wire_Reader_Text [pt rr 0] σ K = true := by
  rw [X_call (by rfl), f_wire_Reader_Text]
  unfold r_wire_Reader_Text
  rw [X_ov (g := ovRd c_wire_Reader_Text_1 (.string ⟨⟨[]⟩⟩) textP) (by rfl)]
  show rdK (.string ⟨⟨[]⟩⟩) textP σ (pt rr 0) _ = true
  refine rdK_s h (v := .string ⟨⟨(rdT st).1⟩⟩) (st' := (rdT st).2) (fun he => by rw [rdT_e st he]; exact ⟨rfl, rfl⟩) (fun h0 => textP_eq st h0) (fun hz => by rw [(rdT_z st hz).1]) (fun h0 hz => (rdT_z st hz).2 h0) (rdT_le st) fun σ' h1 f => ?_
  exact hK σ' h1 f
theorem Count_s (h : Eye σ W rr st) {m : Nat} (hm : m < 9223372036854775808) (hK : ∀ σ', Eye σ' W rr (rdC m st).2 → Fr' W σ σ' W → K (.tuple ⟨[.int .i64 (.ofNat (rdC m st).1), .int .i64 (.ofNat (rdC m st).2.2)]⟩) σ' = true) :
    (X most (n + 2)).C c_wire_Reader_Count [pt rr 0, .int .i64 (.ofNat m)] σ K = true := by
  rw [X_call (by rfl), f_wire_Reader_Count]
  unfold r_wire_Reader_Count
  rw [boxK_one rfl, X_ov (g := ovCnt) (by rfl)]
  have h1 := h.new (.cells [.int .i64 (.ofNat m)] 3 .exact)
  show cellsK (σ.new (.cells [.int .i64 (.ofNat m)] 3 .exact)) σ.n _ = true
  rw [cellsK_h obj_new_same]
  show (match Nat.blt m 9223372036854775808 with | true => rdK (.int .i64 (.ofNat 0)) (countP m) (σ.new (.cells [.int .i64 (.ofNat m)] 3 .exact)) (pt rr 0) _ | false => false) = true
  rw [show Nat.blt m 9223372036854775808 = true from Nat.ble_eq_true_of_le hm]
  simp only
  refine rdK_s h1 (v := .int .i64 (.ofNat (rdC m st).1)) (st' := (rdC m st).2) (fun he => by rw [rdC_e m st he]; exact ⟨rfl, rfl⟩) (fun h0 => countP_eq m st h0) (fun hz => by rw [(rdC_z m st hz).1]) (fun h0 hz => (rdC_z m st hz).2 h0) (rdC_le m st) fun σ' h1 f => ?_
  exact hK σ' h1 ((Fr'.new W σ _).trans f)
theorem Wrong_s (h : Eye σ W rr st) (K : VK) : (X most (n + 1)).C c_wire_Reader_Wrong [pt rr 0] σ K = K (.int .i64 (.ofNat st.2)) σ := by
  rw [X_call (by rfl), f_wire_Reader_Wrong]
  unfold r_wire_Reader_Wrong
  have hb : ∀ K : Value → Bool, rBin PP .eql 70 (pt rr 0) (.pointer none) K = K (.bool false) := fun K => by kernel_rfl
  rw [hb, rIf_f, rNil_p, rFld_p, Nat.zero_add, rLd_h h.obj rfl]
/-- the rows of lists that are read -/
theorem ListR_s (h : Eye σ W rr st) (hK : ∀ σ' v, Eye σ' W rr (rdW st).2 → Fr' W σ σ' W → ((v = .slice none 0 0 ∧ (rdW st).1 = []) ∨ (v = .slice (some ⟨σ.n, 0, some 0⟩) (rdW st).1.length (rdW st).1.length ∧ σ'.n = σ.n + 1 ∧ σ'.obj σ.n = some (.cells ((rdW st).1.map fun z : Nat => .int .u64 (.ofNat z)) 56 (.grown [])))) →
      K (.tuple ⟨[v, .int .i64 (.ofNat (rdW st).2.2)]⟩) σ' = true) : (X most (n + 2)).C c_wire_Reader_List [pt rr 0] σ K = true := by
  rw [X_call (by rfl), f_wire_Reader_List]
  unfold r_wire_Reader_List
  rw [X_ov (g := ovList) (by rfl)]
  show cellsK σ rr _ = true
  rw [cellsK_h h.obj]
  show (match eqI (.ofNat st.2) 0 with
    | true => lenK st.1 fun n => match Nat.blt n 9223372036854775808 with
      | true => listK st.1 n (fun vs rest => writeK σ rr 0 [.string ⟨⟨rest⟩⟩] fun σ => rowK vs σ _) (fun er => writeK σ rr 0 [.string ⟨⟨[]⟩⟩, .int .i64 er] fun σ => _)
      | false => false
    | false => _) = true
  rw [eq_zero_i]
  by_cases h0 : st.2 = 0
  · rw [decide_eq_true h0, lenK_eq]
    simp only
    rw [show Nat.blt st.1.length 9223372036854775808 = true from Nat.ble_eq_true_of_le h.len]
    simp only
    have hle := rdW_le st
    unfold rdW at hK hle
    rw [if_neg (by simp [h0])] at hK hle
    unfold listK
    have lack : ∀ (er : Nat), (∀ σ' v, Eye σ' W rr ([], er) → Fr' W σ σ' W → ((v = .slice none 0 0 ∧ ([] : List Nat) = []) ∨ (v = .slice (some ⟨σ.n, 0, some 0⟩) ([] : List Nat).length ([] : List Nat).length ∧ σ'.n = σ.n + 1 ∧ σ'.obj σ.n = some (.cells (([] : List Nat).map fun z : Nat => .int .u64 (.ofNat z)) 56 (.grown [])))) →
      K (.tuple ⟨[v, .int .i64 (.ofNat er)]⟩) σ' = true) → ∀ K2 : St → Bool, (∀ σ', K (.tuple ⟨[.slice none 0 0, .int .i64 (.ofNat er)]⟩) σ' = true → K2 σ' = true) → writeK σ rr 0 [.string ⟨⟨[]⟩⟩, .int .i64 (.ofNat er)] K2 = true := by
      intro er hK K2 hK2
      rw [writeK_exact h.obj (by simp)]
      have := h.turn ([], er) (by simp)
      have e : splice 0 [Value.string ⟨⟨[]⟩⟩, .int .i64 (.ofNat er)] [.string ⟨⟨st.1⟩⟩, .int .i64 (.ofNat st.2)] = [.string ⟨⟨[]⟩⟩, .int .i64 (.ofNat er)] := by simp [splice]
      rw [e]
      exact hK2 _ (hK _ _ this.1 this.2 (.inl ⟨rfl, rfl⟩))
    by_cases h2 : 2 ≤ st.1.length
    · rw [ble_t h2]
      rw [if_pos h2] at hK hle
      simp only
      rw [takeK_eq, if_pos h2, dropK_eq, if_pos h2, beK_eq]
      by_cases h3 : be (st.1.take 2) ≤ 1024
      · rw [ble_t h3]
        rw [if_pos h3] at hK hle
        simp only
        rw [lenK_eq]
        by_cases h4 : be (st.1.take 2) * 8 ≤ (st.1.drop 2).length
        · rw [show Nat.ble (Nat.mul (be (st.1.take 2)) 8) (st.1.drop 2).length = true from ble_t h4]
          rw [if_pos h4] at hK hle
          simp only
          rw [wdsK_eq _ _ _ h4, writeK_exact h.obj (by simp)]
          have ht := h.turn ((st.1.drop 2).drop (8 * be (st.1.take 2)), 0) hle
          have e : splice 0 [Value.string ⟨⟨(st.1.drop 2).drop (8 * be (st.1.take 2))⟩⟩] [.string ⟨⟨st.1⟩⟩, .int .i64 (.ofNat st.2)] = [.string ⟨⟨(st.1.drop 2).drop (8 * be (st.1.take 2))⟩⟩, .int .i64 (.ofNat 0)] := by simp [splice, h0]
          rw [e]
          unfold rowK
          rw [lenK_eq]
          have hwl : (wvals (st.1.drop 2) (be (st.1.take 2))).length = be (st.1.take 2) := by simp [wvals, wds_length]
          rw [hwl]
          simp only [wds_length] at hK
          generalize hN : be (st.1.take 2) = N at *
          cases N with
          | zero =>
            exact hK _ _ ht.1 ht.2 (.inl ⟨rfl, rfl⟩)
          | succ N =>
            show newK _ _ _ = true
            rw [newK_eq]
            exact hK _ _ (ht.1.new _) (ht.2.trans (.new W _ _)) (.inr ⟨rfl, rfl, obj_new_same⟩)
        · rw [show Nat.ble (Nat.mul (be (st.1.take 2)) 8) (st.1.drop 2).length = false from ble_f h4]
          rw [if_neg h4] at hK
          simp only
          exact lack 8 hK _ fun σ' h => h
      · rw [ble_f h3]
        rw [if_neg h3] at hK
        simp only
        exact lack 40 hK _ fun σ' h => h
    · rw [ble_f h2]
      rw [if_neg h2] at hK
      simp only
      exact lack 8 hK _ fun σ' h => h
  · rw [decide_eq_false h0]
    rw [rdW_e st h0] at hK
    simp only
    exact hK σ _ h (.refl W σ) (.inl ⟨rfl, rfl⟩)
end
end Go.Am

namespace Go.Am
open Go.RowKit Go.MapKept Go.Proofs Go.Proofs.Rdr
variable {most : Nat}
theorem emeth_number : methT PP 73 "consistory/save.number" = some c_save_eye_number := by kernel_rfl
theorem emeth_kind : methT PP 73 "consistory/save.kind" = some c_save_eye_kind := by kernel_rfl
theorem emeth_text : methT PP 73 "consistory/save.text" = some c_save_eye_text := by kernel_rfl
theorem emeth_nums : methT PP 73 "consistory/save.nums" = some c_save_eye_nums := by kernel_rfl
theorem emeth_many : methT PP 73 "consistory/save.many" = some c_save_eye_many := by kernel_rfl
theorem emeth_is : methT PP 73 "consistory/save.is" = some c_save_eye_is := by kernel_rfl
theorem emeth_wrong : methT PP 73 "consistory/save.wrong" = some c_save_eye_wrong := by kernel_rfl
/-- a row that is written: alone in one's hand, or a list's -/
structure Own (σ : St) (W : Nat → Prop) (rr b : Nat) (e : TypeId) (gr : Bool) (vs : List Value) : Prop where
  inW : W b
  ne : b ≠ rr
  obj : ∃ ck, σ.obj b = some (.cells vs e ck) ∧ match gr with | true => ∃ olds, ck = .grown olds ∧ ∀ i ∈ olds, W i ∧ i ≠ rr ∧ i ≠ b | false => ck = .exact
theorem Own.rd {σ : St} {W : Nat → Prop} {rr b : Nat} {e : TypeId} {gr : Bool} {vs : List Value} (h : Own σ W rr b e gr vs) : ∃ ck, σ.obj b = some (.cells vs e ck) ∧ Wr ck := by
  obtain ⟨ck, h1, h2⟩ := h.obj
  cases gr with
  | true => obtain ⟨olds, rfl, _⟩ := h2; exact ⟨_, h1, .inr (.inr ⟨_, rfl⟩)⟩
  | false => have h2 : ck = .exact := h2; subst h2; exact ⟨_, h1, .inr (.inl rfl)⟩
theorem Own.ld {σ : St} {W : Nat → Prop} {rr b : Nat} {e : TypeId} {gr : Bool} {vs : List Value} (h : Own σ W rr b e gr vs) {q : Nat} {v : Value} (hv : vs[q]? = some v) (K : VK) : rLd (pt b q) σ K = K v σ := by
  obtain ⟨ck, h1, _⟩ := h.rd
  exact rLd_h h1 hv K
/-- other rows turned -/
theorem Own.keep {σ σ' : St} {W : Nat → Prop} {rr b : Nat} {e : TypeId} {gr : Bool} {vs : List Value} (h : Own σ W rr b e gr vs) (ho : σ'.obj b = σ.obj b) : Own σ' W rr b e gr vs := ⟨h.inW, h.ne, by rw [ho]; exact h.obj⟩
theorem foldl_put : ∀ (olds : List Nat) (h : Tr AObj) (i : Nat), (olds.foldl (fun h i => h.put i .dead) h).get i = if i ∈ olds then some .dead else h.get i := by
  intro olds
  induction olds with
  | nil => intro h i; simp
  | cons a olds ih =>
    intro h i
    rw [List.foldl_cons, ih, get_put]
    by_cases h1 : i ∈ olds
    · simp [h1]
    · by_cases h2 : i = a
      · simp [h2]
      · simp [h1, h2]
theorem set_self {vs : List Value} {q : Nat} {v : Value} (h : vs[q]? = some v) : vs.set q v = vs := by
  apply List.ext_getElem?; intro j
  rw [List.getElem?_set]
  split
  · rename_i hj; subst hj
    have := (List.getElem?_eq_some_iff.1 h).1
    rw [if_pos this, h]
  · rfl
theorem splice_one {vs : List Value} {q : Nat} {v : Value} (hq : q < vs.length) : splice q [v] vs = vs.set q v := by
  unfold splice
  rw [List.set_eq_take_append_cons_drop, if_pos hq]
  simp
/-- a cell is written -/
theorem Own.st {σ : St} {W : Nat → Prop} {rr b : Nat} {e : TypeId} {gr : Bool} {vs : List Value} {s : RS} (h : Own σ W rr b e gr vs) (he : Eye σ W rr s) {q : Nat} {v : Value} (hq : q < vs.length) (h1 : oneCell v = true) :
    ∃ σ', (∀ k : St → Bool, rSt 1 (pt b q) v σ k = k σ') ∧ Own σ' W rr b e gr (vs.set q v) ∧ Eye σ' W rr s ∧ Fr' W σ σ' W := by
  obtain ⟨ck, h2, h3⟩ := h.obj
  cases gr with
  | false =>
    have h3 : ck = .exact := h3
    subst h3
    exact ⟨_, fun k => rSt_exact h2 hq h1 k, ⟨h.inW, h.ne, _, obj_set_same, rfl⟩, ⟨he.inW, he.lt, by rw [obj_set_other (Ne.symm h.ne)]; exact he.obj, he.len⟩, ⟨Nat.le_refl _, fun i _ hi => obj_set_other fun c => hi (c ▸ h.inW), fun _ h => .inl h⟩⟩
  | true =>
    obtain ⟨olds, rfl, h4⟩ := h3
    have hst : ∀ k : St → Bool, rSt 1 (pt b q) v σ k = match asIs [v] (vs.drop q) with
      | true => k σ
      | false => k ⟨(olds.foldl (fun h i => h.put i .dead) σ.h).put b (.cells (vs.set q v) e (.grown [])), σ.n⟩ := by
      intro k
      show cellsOfK v (fun cs => lenK cs fun m => match Nat.beq m 1 with | true => writeK σ b q cs k | false => false) = _
      rw [cellsOf_one h1, lenK_eq]
      show writeK σ b q [v] k = _
      unfold writeK
      rw [cellsK_h h2]
      show dropK q vs _ = _
      rw [dropK_eq, if_pos (by omega)]
      cases asIs [v] (vs.drop q) with
      | true => rfl
      | false =>
        simp only
        rw [spliceK_eq, if_pos (by simp; omega), killK_eq, putK_eq, splice_one hq]
        rfl
    cases hA : asIs [v] (vs.drop q) with
    | true =>
      have h5 := (asIs_true hA).2 0 v rfl
      rw [List.getElem?_drop, Nat.add_zero] at h5
      rw [set_self h5]
      exact ⟨σ, fun k => by rw [hst, hA], h, he, .refl W σ⟩
    | false =>
      have ho : ∀ i, (⟨(olds.foldl (fun h i => h.put i .dead) σ.h).put b (.cells (vs.set q v) e (.grown [])), σ.n⟩ : St).obj i = if i = b then some (.cells (vs.set q v) e (.grown [])) else if i ∈ olds then some .dead else σ.obj i := by
        intro i
        show ((olds.foldl (fun h i => h.put i .dead) σ.h).put b (.cells (vs.set q v) e (.grown []))).get i = _
        rw [get_put, foldl_put]
        rfl
      refine ⟨⟨(olds.foldl (fun h i => h.put i .dead) σ.h).put b (.cells (vs.set q v) e (.grown [])), σ.n⟩, fun k => by rw [hst, hA], ⟨h.inW, h.ne, .grown [], by rw [ho, if_pos rfl], [], rfl, fun i hi => nomatch hi⟩, ⟨he.inW, he.lt, ?_, he.len⟩, ⟨Nat.le_refl _, fun i _ hi => ?_, fun _ h => .inl h⟩⟩
      · rw [ho, if_neg (Ne.symm h.ne), if_neg (show ¬ rr ∈ olds from fun c => (h4 rr c).2.1 rfl)]; exact he.obj
      · rw [ho, if_neg (show ¬ i = b from fun c => hi (c ▸ h.inW)), if_neg (show ¬ i ∈ olds from fun c => hi (h4 i c).1)]
section
variable {σ : St} {W : Nat → Prop} {rr : Nat} {st : RS} {n : Nat} {K : VK}
theorem eye_number (h : Eye σ W rr st) (b q : Nat) (hK : ∀ σ', Eye σ' W rr (rdN 8 st).2 → Fr' W σ σ' W → rSt 1 (pt b q) (.int .u64 (.ofNat (rdN 8 st).1)) σ' (fun σ => K (.tuple ⟨[]⟩) σ) = true) :
    (X most (n + 3)).C c_save_eye_number [.agg ⟨[pt rr 0]⟩, pt b q] σ K = true := by
  rw [X_call (by rfl), f_save_eye_number]
  unfold r_save_eye_number
  rw [boxK_agg rfl, rFld_p, Nat.zero_add, rLd_h obj_new_same rfl]
  refine Num_s (n := n) (h.new _) fun σ' h1 f => ?_
  exact hK σ' h1 ((Fr'.new W σ _).trans f)
theorem eye_kind (h : Eye σ W rr st) (b q : Nat) (hK : ∀ σ', Eye σ' W rr (rdN 1 st).2 → Fr' W σ σ' W → rSt 1 (pt b q) (.int .u8 (.ofNat (rdN 1 st).1)) σ' (fun σ => K (.tuple ⟨[]⟩) σ) = true) :
    (X most (n + 3)).C c_save_eye_kind [.agg ⟨[pt rr 0]⟩, pt b q] σ K = true := by
  rw [X_call (by rfl), f_save_eye_kind]
  unfold r_save_eye_kind
  rw [boxK_agg rfl, rFld_p, Nat.zero_add, rLd_h obj_new_same rfl]
  refine ByteR_s (n := n) (h.new _) fun σ' h1 f => ?_
  exact hK σ' h1 ((Fr'.new W σ _).trans f)
theorem eye_text (h : Eye σ W rr st) (b q : Nat) (hK : ∀ σ', Eye σ' W rr (rdT st).2 → Fr' W σ σ' W → rSt 1 (pt b q) (.string ⟨⟨(rdT st).1⟩⟩) σ' (fun σ => K (.tuple ⟨[]⟩) σ) = true) :
    (X most (n + 3)).C c_save_eye_text [.agg ⟨[pt rr 0]⟩, pt b q] σ K = true := by
  rw [X_call (by rfl), f_save_eye_text]
  unfold r_save_eye_text
  rw [boxK_agg rfl, rFld_p, Nat.zero_add, rLd_h obj_new_same rfl]
  refine TextR_s (n := n) (h.new _) fun σ' h1 f => ?_
  exact hK σ' h1 ((Fr'.new W σ _).trans f)
theorem eye_is (h : Eye σ W rr st) (b q : Nat) (hK : ∀ σ', Eye σ' W rr (rdC 1 st).2 → Fr' W σ σ' W → rSt 1 (pt b q) (.bool (decide ((rdC 1 st).1 = 1))) σ' (fun σ => K (.tuple ⟨[]⟩) σ) = true) :
    (X most (n + 3)).C c_save_eye_is [.agg ⟨[pt rr 0]⟩, pt b q] σ K = true := by
  rw [X_call (by rfl), f_save_eye_is]
  unfold r_save_eye_is
  rw [boxK_agg rfl, rFld_p, Nat.zero_add, rLd_h obj_new_same rfl]
  refine Count_s (n := n) (h.new _) (by omega) fun σ' h1 f => ?_
  rw [rExt_t, nthK_z, rExt_t, nthK_s, nthK_z, rBin_eqlN]
  exact hK σ' h1 ((Fr'.new W σ _).trans f)
theorem eye_many (h : Eye σ W rr st) (v : Value) (hK : ∀ σ', Eye σ' W rr (rdC 1048576 st).2 → Fr' W σ σ' W → K (.int .i64 (.ofNat (rdC 1048576 st).1)) σ' = true) :
    (X most (n + 3)).C c_save_eye_many [.agg ⟨[pt rr 0]⟩, v] σ K = true := by
  rw [X_call (by rfl), f_save_eye_many]
  unfold r_save_eye_many
  rw [boxK_agg rfl, rFld_p, Nat.zero_add, rLd_h obj_new_same rfl]
  refine Count_s (n := n) (h.new _) (by omega) fun σ' h1 f => ?_
  exact hK σ' h1 ((Fr'.new W σ _).trans f)
theorem eye_wrong (h : Eye σ W rr st) (hK : ∀ σ', Eye σ' W rr st → Fr' W σ σ' W → K (.int .i64 (.ofNat st.2)) σ' = true) : (X most (n + 2)).C c_save_eye_wrong [.agg ⟨[pt rr 0]⟩] σ K = true := by
  rw [X_call (by rfl), f_save_eye_wrong]
  unfold r_save_eye_wrong
  rw [boxK_agg rfl, rFld_p, Nat.zero_add, rLd_h obj_new_same rfl, Wrong_s (n := n) (h.new _)]
  exact hK _ (h.new _) (.new W σ _)
/-- numbers that were read, in a row of their own -/
theorem nums_rd {σ σ' : St} {C : Nat → Prop} {ns : List Nat} {v : Value} (hC : ¬ C σ.n) (hz : ∀ z ∈ ns, z < 18446744073709551616) (hN : ns.length ≤ 1024)
    (h : (v = .slice none 0 0 ∧ ns = []) ∨ (v = .slice (some ⟨σ.n, 0, some 0⟩) ns.length ns.length ∧ σ'.n = σ.n + 1 ∧ σ'.obj σ.n = some (.cells (ns.map fun z : Nat => .int .u64 (.ofNat z)) 56 (.grown [])))) : Rd σ' C .nums v (.l (ns.map fun z : Nat => [.n (z : Int)])) := by
  rcases h with ⟨rfl, rfl⟩ | ⟨rfl, h1, h2⟩
  · exact .nums .empty
  · refine .nums (.row rfl (by omega) hC h2 (.inr (.inr ⟨_, rfl⟩)) (by simp) (by simp) (fun ds hd => ?_) (by omega) fun k ds j it v d a b c g => ?_)
    · obtain ⟨z, _, rfl⟩ := List.mem_map.1 hd; rfl
    · match j, b with
      | 0, b =>
        injection b with b; subst b
        have hk : k < ns.length := by simpa using (List.getElem?_eq_some_iff.1 a).1
        rw [List.getElem?_map, List.getElem?_eq_getElem hk] at a
        injection a with a; subst a
        have e : 0 + k * [It.num].length + 0 = k := by simp
        rw [e, List.getElem?_map, List.getElem?_eq_getElem hk] at c
        injection c with c; subst c
        injection g with g; subst g
        exact .num (hz _ (List.getElem_mem hk))
      | j + 1, b => cases b
theorem rdW_ok (st : RS) : (∀ z ∈ (rdW st).1, z < 18446744073709551616) ∧ (rdW st).1.length ≤ 1024 := by
  unfold rdW
  split
  · exact ⟨(fun z h => nomatch h), by simp⟩
  · split
    · split
      · split
        · rename_i h1 h2
          exact ⟨wds_lt (by omega), by rw [wds_length]; exact h1⟩
        · exact ⟨(fun z h => nomatch h), by simp⟩
      · exact ⟨(fun z h => nomatch h), by simp⟩
    · exact ⟨(fun z h => nomatch h), by simp⟩
theorem eye_nums {C : Nat → Prop} (h : Eye σ W rr st) (hC : ∀ i, C i → i < σ.n) (b q : Nat) (hK : ∀ σ' v, Eye σ' W rr (rdW st).2 → Fr' W σ σ' W → Rd σ' C .nums v (.l ((rdW st).1.map fun z : Nat => [.n (z : Int)])) → rSt 1 (pt b q) v σ' (fun σ => K (.tuple ⟨[]⟩) σ) = true) :
    (X most (n + 3)).C c_save_eye_nums [.agg ⟨[pt rr 0]⟩, pt b q] σ K = true := by
  rw [X_call (by rfl), f_save_eye_nums]
  unfold r_save_eye_nums
  rw [boxK_agg rfl, rFld_p, Nat.zero_add, rLd_h obj_new_same rfl]
  refine ListR_s (n := n) (h.new _) fun σ' v h1 f h2 => ?_
  have hn : ¬ C (σ.new (.cells [pt rr 0] 73 .exact)).n := fun c => by have := hC _ c; rw [new_n] at this; omega
  exact hK σ' v h1 ((Fr'.new W σ _).trans f) (nums_rd hn (rdW_ok st).1 (rdW_ok st).2 h2)
end
end Go.Am

namespace Go.Am
open Go.RowKit Go.MapKept Go.Proofs Go.Proofs.Rdr
variable {most : Nat}
def zeroI : It → Value
  | .num => .int .u64 (.ofNat 0)
  | .kind => .int .u8 (.ofNat 0)
  | .int => .int .i64 (.ofNat 0)
  | .is => .bool false
  | .text => .string ⟨⟨[]⟩⟩
  | .nums => .slice none 0 0
  | .list _ => .slice none 0 0
/-- an eye that is at the j-th cell of a struct -/
structure GE (σ : St) (W C : Nat → Prop) (rr : Nat) (st : RS) (b o : Nat) (e : TypeId) (gr : Bool) (vs : List Value) (all : List It) (ds : List D) (j : Nat) (its : List It) (K : VK) : Prop where
  eye : Eye σ W rr st
  own : Own σ W rr b e gr vs
  sub : ∀ i, W i → C i
  lt : ∀ i, C i → i < σ.n
  le : o + all.length ≤ vs.length
  dl : ds.length = j
  jle : j ≤ all.length
  rest : its = all.drop j
  done : ∀ (k : Nat) (it : It) (v : Value) (d : D), all[k]? = some it → vs[o + k]? = some v → ds[k]? = some d → Rd σ C it v d
  zero : ∀ (k : Nat) (it : It), j ≤ k → all[k]? = some it → vs[o + k]? = some (zeroI it)
  hK : ∀ v σ' vs', Own σ' W rr b e gr vs' → vs'.length = vs.length → (∀ q, q < o ∨ o + all.length ≤ q → vs'[q]? = vs[q]?) → (ds ++ (decs its st).1).length = all.length →
    (∀ (k : Nat) (it : It) (v : Value) (d : D), all[k]? = some it → vs'[o + k]? = some v → (ds ++ (decs its st).1)[k]? = some d → Rd σ' C it v d) → Eye σ' W rr (decs its st).2 → Fr' W σ σ' W → K v σ' = true
theorem Fr'.up {W C : Nat → Prop} {σ σ' : St} (f : Fr' W σ σ' W) (hs : ∀ i, W i → C i) : Fr' C σ σ' C := ⟨f.n, fun i hi hc => f.same i hi fun w => hc (hs i w), fun _ h => .inl h⟩
theorem Eye.self {σ : St} {W : Nat → Prop} {rr : Nat} {st : RS} (h : Eye σ W rr st) : Eye σ (fun i => i = rr) rr st := ⟨rfl, fun i hi => by rw [hi]; exact h.lt1, h.obj, h.len⟩
theorem Eye.back {σ σ' : St} {W : Nat → Prop} {rr : Nat} {st st' : RS} (h : Eye σ W rr st) (h' : Eye σ' (fun i => i = rr) rr st') (hn : σ.n ≤ σ'.n) : Eye σ' W rr st' := ⟨h.inW, fun i hi => Nat.lt_of_lt_of_le (h.lt i hi) hn, h'.obj, h'.len⟩
section
variable {σ : St} {W C : Nat → Prop} {rr : Nat} {st : RS} {b o : Nat} {e : TypeId} {gr : Bool} {vs : List Value} {all : List It} {ds : List D} {j : Nat} {it : It} {its : List It} {K K0 : VK} {n : Nat}
/-- the reader alone turned -/
theorem GE.read (g : GE σ W C rr st b o e gr vs all ds j its K) {σ1 : St} {st1 : RS} (e1 : Eye σ1 (fun i => i = rr) rr st1) (f1 : Fr' (fun i => i = rr) σ σ1 (fun i => i = rr)) : Own σ1 W rr b e gr vs ∧ Eye σ1 W rr st1 ∧ Fr' W σ σ1 W :=
  ⟨g.own.keep (f1.same b (g.eye.lt b g.own.inW) g.own.ne), g.eye.back e1 f1.n, f1.up fun i hi => by rw [hi]; exact g.eye.inW⟩
theorem GE.at (g : GE σ W C rr st b o e gr vs all ds j (it :: its) K) : all[j]? = some it ∧ its = all.drop (j + 1) ∧ j < all.length := by
  have h := g.rest
  have hj : j < all.length := by
    rcases Nat.lt_or_ge j all.length with h1 | h1
    · exact h1
    · rw [List.drop_of_length_le h1] at h; cases h
  rw [List.drop_eq_getElem_cons hj] at h
  injection h with h1 h2
  exact ⟨by rw [List.getElem?_eq_getElem hj, h1], h2, hj⟩
theorem GE.next (g : GE σ W C rr st b o e gr vs all ds j (it :: its) K) {σ' : St} {v' : Value} (own' : Own σ' W rr b e gr (vs.set (o + j) v')) (r : Rd σ' C it v' (dec it st).1) (e' : Eye σ' W rr (dec it st).2) (f : Fr' W σ σ' W) :
    GE σ' W C rr (dec it st).2 b o e gr (vs.set (o + j) v') all (ds ++ [(dec it st).1]) (j + 1) its K := by
  obtain ⟨h1, h2, h3⟩ := g.at
  have hle := g.le
  refine ⟨e', own', g.sub, fun i hi => Nat.lt_of_lt_of_le (g.lt i hi) f.n, by rw [List.length_set]; exact hle, by simp [g.dl], h3, h2, fun k it2 v d a p q => ?_, fun k it2 hk a => ?_, fun v σ2 vs2 o2 l2 s2 n2 r2 e2 f2 => ?_⟩
  · rcases Nat.lt_trichotomy k j with hk | hk | hk
    · rw [List.getElem?_set_ne (by omega)] at p
      rw [List.getElem?_append_left (by rw [g.dl]; exact hk)] at q
      exact (g.done k it2 v d a p q).fr (f.up g.sub)
    · subst hk
      rw [h1] at a
      injection a with a; subst a
      rw [List.getElem?_set_self (by omega)] at p
      injection p with p; subst p
      rw [List.getElem?_append_right (by rw [g.dl]; exact Nat.le_refl _), g.dl, Nat.sub_self] at q
      injection q with q; subst q
      exact r
    · rw [List.getElem?_eq_none (by simp [g.dl]; omega)] at q
      cases q
  · rw [List.getElem?_set_ne (by omega)]
    exact g.zero k it2 (by omega) a
  · have hd : ds ++ (decs (it :: its) st).1 = ds ++ [(dec it st).1] ++ (decs its (dec it st).2).1 := by simp [decs]
    refine g.hK v σ2 vs2 o2 (by rw [l2, List.length_set]) (fun q hq => ?_) (by rw [hd]; exact n2) (by rw [hd]; exact r2) e2 (f.trans f2)
    rw [s2 q hq, List.getElem?_set_ne (by omega)]
theorem GE.fin (g : GE σ W C rr st b o e gr vs all ds j [] K) (v : Value) : K v σ = true := by
  have h := g.rest
  have hj : all.length ≤ j := by
    rcases Nat.lt_or_ge j all.length with h1 | h1
    · rw [List.drop_eq_getElem_cons h1] at h; cases h
    · exact h1
  have hd : ds ++ (decs [] st).1 = ds := by simp [decs]
  have := g.jle
  exact g.hK v σ vs g.own rfl (fun _ _ => rfl) (by rw [hd, g.dl]; omega) (by rw [hd]; exact g.done) g.eye (.refl W σ)
/-- what was read is put into its cell -/
theorem GE.put (g : GE σ W C rr st b o e gr vs all ds j (it :: its) K) {σ1 : St} (e1 : Eye σ1 (fun i => i = rr) rr (dec it st).2) (f1 : Fr' (fun i => i = rr) σ σ1 (fun i => i = rr)) {v' : Value} (r : Rd σ1 C it v' (dec it st).1) :
    ∃ σ2, (∀ k : St → Bool, rSt 1 (pt b (o + j)) v' σ1 k = k σ2) ∧ GE σ2 W C rr (dec it st).2 b o e gr (vs.set (o + j) v') all (ds ++ [(dec it st).1]) (j + 1) its K := by
  obtain ⟨h1, h2, h3⟩ := g.read e1 f1
  obtain ⟨_, _, hj⟩ := g.at
  have hle := g.le
  obtain ⟨σ2, k1, k2, k3, k4⟩ := h1.st h2 (q := o + j) (v := v') (by omega) r.one
  exact ⟨σ2, k1, g.next k2 (r.fr (k4.up g.sub)) k3 (h3.trans k4)⟩
theorem estep_number (g : GE σ W C rr st b o e gr vs all ds j (.num :: its) K) (next : ∀ v σ' st' vs' ds', GE σ' W C rr st' b o e gr vs' all ds' (j + 1) its K → K0 v σ' = true) :
    (X most (n + 3)).C c_save_eye_number [.agg ⟨[pt rr 0]⟩, pt b (o + j)] σ K0 = true := by
  refine eye_number (n := n) g.eye.self b (o + j) fun σ1 e1 f1 => ?_
  have hz : (rdN 8 st).1 < 18446744073709551616 := by
    unfold rdN
    split
    · simp
    · split
      · rename_i h
        have := be_lt (st.1.take 8)
        rw [List.length_take, Nat.min_eq_left h, p8] at this
        exact this
      · simp
  obtain ⟨σ2, k1, g2⟩ := g.put (v' := .int .u64 (.ofNat (rdN 8 st).1)) e1 f1 (.num hz)
  rw [k1]
  exact next _ _ _ _ _ g2
theorem estep_kind (g : GE σ W C rr st b o e gr vs all ds j (.kind :: its) K) (next : ∀ v σ' st' vs' ds', GE σ' W C rr st' b o e gr vs' all ds' (j + 1) its K → K0 v σ' = true) :
    (X most (n + 3)).C c_save_eye_kind [.agg ⟨[pt rr 0]⟩, pt b (o + j)] σ K0 = true := by
  refine eye_kind (n := n) g.eye.self b (o + j) fun σ1 e1 f1 => ?_
  have hz : (rdN 1 st).1 < 256 := by
    unfold rdN
    split
    · simp
    · split
      · rename_i h
        have := be_lt (st.1.take 1)
        rw [List.length_take, Nat.min_eq_left h] at this
        exact this
      · simp
  obtain ⟨σ2, k1, g2⟩ := g.put (v' := .int .u8 (.ofNat (rdN 1 st).1)) e1 f1 (.kind hz)
  rw [k1]
  exact next _ _ _ _ _ g2
theorem estep_is (g : GE σ W C rr st b o e gr vs all ds j (.is :: its) K) (next : ∀ v σ' st' vs' ds', GE σ' W C rr st' b o e gr vs' all ds' (j + 1) its K → K0 v σ' = true) :
    (X most (n + 3)).C c_save_eye_is [.agg ⟨[pt rr 0]⟩, pt b (o + j)] σ K0 = true := by
  refine eye_is (n := n) g.eye.self b (o + j) fun σ1 e1 f1 => ?_
  obtain ⟨σ2, k1, g2⟩ := g.put (v' := .bool (decide ((rdC 1 st).1 = 1))) e1 f1 .is
  rw [k1]
  exact next _ _ _ _ _ g2
theorem rdT_len (st : RS) : (rdT st).1.length ≤ 2048 := by
  unfold rdT
  split
  · simp
  · split
    · split
      · split
        · simp only [List.length_take]; omega
        · simp
      · simp
    · simp
theorem estep_text (g : GE σ W C rr st b o e gr vs all ds j (.text :: its) K) (next : ∀ v σ' st' vs' ds', GE σ' W C rr st' b o e gr vs' all ds' (j + 1) its K → K0 v σ' = true) :
    (X most (n + 3)).C c_save_eye_text [.agg ⟨[pt rr 0]⟩, pt b (o + j)] σ K0 = true := by
  refine eye_text (n := n) g.eye.self b (o + j) fun σ1 e1 f1 => ?_
  have := rdT_len st
  obtain ⟨σ2, k1, g2⟩ := g.put (v' := .string ⟨⟨(rdT st).1⟩⟩) e1 f1 (.text (by omega))
  rw [k1]
  exact next _ _ _ _ _ g2
theorem estep_nums (g : GE σ W C rr st b o e gr vs all ds j (.nums :: its) K) (next : ∀ v σ' st' vs' ds', GE σ' W C rr st' b o e gr vs' all ds' (j + 1) its K → K0 v σ' = true) :
    (X most (n + 3)).C c_save_eye_nums [.agg ⟨[pt rr 0]⟩, pt b (o + j)] σ K0 = true := by
  refine eye_nums (n := n) g.eye.self g.lt b (o + j) fun σ1 v e1 f1 r => ?_
  obtain ⟨σ2, k1, g2⟩ := g.put (v' := v) e1 f1 r
  rw [k1]
  exact next _ _ _ _ _ g2
theorem wrap_i64n (x : Nat) : wrapI .i64 (.ofNat x) = i64 x := by rw [wrapI_eq, IntKind.wrap_i64]; rfl
theorem ewhole_loop {sb k j0 : Nat} (hk : k ≤ 100) (hnext : ∀ v σ' st' vs' ds', GE σ' W C rr st' b o e gr vs' all ds' (j0 + k) its K → K0 v σ' = true) :
    ∀ (r i m : Nat) (σ : St) (st : RS) (vs : List Value) (ds : List D), i + r = k → r < m → GE σ W C rr st b o e gr vs all ds (j0 + i) (List.replicate r .int ++ its) K → σ.obj sb = some (.cells ((List.range k).map fun i => pt b (o + (j0 + i))) 87 .exact) → ¬ W sb → sb < σ.n →
      l_save_whole_rd (X most (n + 3)) m (eye rr) (.slice (some ⟨sb, 0, none⟩) k k) (.int .i64 (.ofNat k)) (.int .i64 (.ofNat i)) σ K0 = true := by
  intro r
  induction r with
  | zero =>
    intro i m σ st vs ds hi hm g hso hsW hsn
    obtain ⟨m, rfl⟩ := Nat.exists_eq_succ_of_ne_zero (show m ≠ 0 by omega)
    rw [l_save_whole_rdE]
    unfold l_save_whole_rdB
    rw [rBin_lssN, rIf_b, if_neg (by simp; omega)]
    have : i = k := by omega
    subst this
    exact hnext _ _ _ _ _ g
  | succ r ih =>
    intro i m σ st vs ds hi hm g hso hsW hsn
    obtain ⟨m, rfl⟩ := Nat.exists_eq_succ_of_ne_zero (show m ≠ 0 by omega)
    rw [l_save_whole_rdE]
    unfold l_save_whole_rdB
    rw [rBin_lssN, rIf_b, if_pos (by simp; omega), rIdx_n 1 sb 0 i _ _ (by omega)]
    rw [rLd_h hso (v := pt b (o + (j0 + i))) (by rw [List.getElem?_map]; simp [show i < k by omega]), rNil_p]
    have g' : GE σ W C rr st b o e gr vs all ds (j0 + i) (.int :: (List.replicate r .int ++ its)) K := g
    obtain ⟨h1, _, _⟩ := g'.at
    rw [g.own.ld (g.zero (j0 + i) .int (Nat.le_refl _) h1)]
    have hz : ∀ K : Value → Bool, rInt .u64 (zeroI .int) K = K (.int .u64 (.ofNat 0)) := fun K => by
      show rInt .u64 (.int .i64 (.ofNat 0)) K = _
      rw [rInt_i, wrap_u64 (by omega)]
    rw [hz, rAlloc_h, rSt_exact obj_new_same (by simp) rfl, rInv_i emeth_number]
    have hnr : ¬ (σ.n = rr) := fun c => by have := g.eye.lt1; omega
    have hne : rr ≠ σ.n := fun c => hnr c.symm
    have e1 : Eye ((σ.new (.cells [.int .u64 (.ofNat 0)] 56 .exact)).set σ.n (.cells [.int .u64 (.ofNat 0)] 56 .exact)) (fun i => i = rr) rr st :=
      ⟨rfl, fun i hi => by rw [hi]; exact Nat.lt_succ_of_lt g.eye.lt1, by rw [obj_set_other hne, obj_new_old hne]; exact g.eye.obj, g.eye.len⟩
    have f1 : Fr' (fun i => i = rr) σ ((σ.new (.cells [.int .u64 (.ofNat 0)] 56 .exact)).set σ.n (.cells [.int .u64 (.ofNat 0)] 56 .exact)) (fun i => i = rr) := (Fr'.new _ σ _).set_new (Nat.le_refl _) _
    refine eye_number (n := n) e1 σ.n 0 fun σ1 e2 f2 => ?_
    have ho1 : σ1.obj σ.n = some (.cells [.int .u64 (.ofNat 0)] 56 .exact) := by
      rw [f2.same σ.n (by rw [set_n, new_n]; omega) hnr, obj_set_same]
    rw [rSt_exact ho1 (by simp) rfl, rLd_h obj_set_same rfl, rInt_i, wrap_i64n, rNil_p]
    have e3 : Eye (σ1.set σ.n (.cells ([Value.int .u64 (.ofNat 0)].set 0 (.int .u64 (.ofNat (rdN 8 st).1))) 56 .exact)) (fun i => i = rr) rr (rdN 8 st).2 :=
      ⟨rfl, e2.lt, by rw [obj_set_other hne]; exact e2.obj, e2.len⟩
    have f3 := (f1.trans f2).set_new (Nat.le_refl σ.n) (.cells ([Value.int .u64 (.ofNat 0)].set 0 (.int .u64 (.ofNat (rdN 8 st).1))) 56 .exact)
    obtain ⟨σ2, k1, g2⟩ := g'.put (v' := .int .i64 (i64 (rdN 8 st).1)) e3 f3 (.int (i64_rng _).1 (i64_rng _).2)
    rw [k1, rBin_add _ _ _ _ (by omega)]
    have hW := (g2.eye.lt)
    have f4 : Fr' W σ σ2 W := by
      obtain ⟨q1, q2, q3⟩ := g.read e3 f3
      obtain ⟨σ3, c1, c2, c3, c4⟩ := q1.st q2 (q := o + (j0 + i)) (v := .int .i64 (i64 (rdN 8 st).1)) (by have := g.le; have := g'.at.2.2; omega) rfl
      have : σ2 = σ3 := by
        by_cases h : σ2 = σ3
        · exact h
        · have a1 := k1 (fun s => @decide (s = σ2) (Classical.propDecidable _))
          have a2 := c1 (fun s => @decide (s = σ2) (Classical.propDecidable _))
          rw [a1] at a2
          simp at a2
          exact absurd a2.symm h
      rw [this]
      exact q3.trans c4
    exact ih (i + 1) m σ2 _ _ _ (by omega) (by omega) g2 (by rw [f4.same sb hsn hsW]; exact hso) hsW (Nat.lt_of_lt_of_le hsn f4.n)
/-- whole numbers, some cells of them -/
theorem estep_whole (hm : 1024 < most) (k : Nat) (hk : k ≤ 100) (g : GE σ W C rr st b o e gr vs all ds j (List.replicate k .int ++ its) K) (next : ∀ v σ' st' vs' ds', GE σ' W C rr st' b o e gr vs' all ds' (j + k) its K → K0 v σ' = true) :
    (X most (n + 4)).C c_save_whole [eye rr, .slice (some ⟨σ.n, 0, none⟩) k k] (σ.new (.cells ((List.range k).map fun i => pt b (o + (j + i))) 87 .exact)) K0 = true := by
  rw [X_call (by rfl), f_save_whole]
  unfold r_save_whole
  rw [rLenS_s, X_most]
  have hx : GE (σ.new (.cells ((List.range k).map fun i => pt b (o + (j + i))) 87 .exact)) W C rr st b o e gr vs all ds (j + 0) (List.replicate k .int ++ its) K := by
    have f : Fr' W σ (σ.new (.cells ((List.range k).map fun i => pt b (o + (j + i))) 87 .exact)) W := .new W σ _
    refine ⟨g.eye.new _, g.own.keep (obj_new_old (Nat.ne_of_lt (g.eye.lt b g.own.inW))), g.sub, fun i hi => Nat.lt_succ_of_lt (g.lt i hi), g.le, g.dl, g.jle, g.rest, fun k it v d a p q => (g.done k it v d a p q).fr (f.up g.sub), g.zero, fun v σ' vs' a1 a2 a3 a4 a5 a6 a7 => g.hK v σ' vs' a1 a2 a3 a4 a5 a6 (f.trans a7)⟩
  exact ewhole_loop (n := n) hk next k 0 most _ st vs ds (by omega) (by omega) hx obj_new_same g.eye.nW (Nat.lt_succ_self _)
/-- what goes over a struct -/
def EyeOk (most : Nat) (f : FuncId) (all : List It) (dp : Nat) : Prop := ∀ (n : Nat) {σ : St} {W C : Nat → Prop} {rr : Nat} {st : RS} {b o : Nat} {e : TypeId} {gr : Bool} {vs : List Value} {K : VK}, GE σ W C rr st b o e gr vs all [] 0 all K → (X most (n + dp)).C f [eye rr, pt b o] σ K = true
theorem decs_app : ∀ (a b : List It) (st : RS), decs (a ++ b) st = ((decs a st).1 ++ (decs b (decs a st).2).1, (decs b (decs a st).2).2) := by
  intro a
  induction a with
  | nil => intro b st; simp [decs]
  | cons x a ih => intro b st; simp only [List.cons_append, decs, ih]
theorem decs_len : ∀ (a : List It) (st : RS), (decs a st).1.length = a.length := by
  intro a
  induction a with
  | nil => intro st; rfl
  | cons x a ih => intro st; simp [decs, ih]
/-- a struct within a struct -/
theorem estep_sub {f : FuncId} {dp : Nat} {its' : List It} (h : EyeOk most f its' dp) (g : GE σ W C rr st b o e gr vs all ds j (its' ++ its) K) (next : ∀ v σ' st' vs' ds', GE σ' W C rr st' b o e gr vs' all ds' (j + its'.length) its K → K0 v σ' = true) :
    (X most (n + dp)).C f [eye rr, pt b (o + j)] σ K0 = true := by
  have hr := g.rest
  have hal : all = all.take j ++ (its' ++ its) := by rw [hr]; exact (List.take_append_drop _ _).symm
  have hjl := g.jle
  have htl : (all.take j).length = j := by rw [List.length_take]; omega
  have hlen : all.length = j + its'.length + its.length := by rw [hal]; simp [htl]; omega
  have hat : ∀ k, k < its'.length → all[j + k]? = its'[k]? := fun k hk => by
    rw [hal, List.getElem?_append_right (by omega), htl, Nat.add_sub_cancel_left, List.getElem?_append_left hk]
  have hle := g.le
  refine h n ⟨g.eye, g.own, g.sub, g.lt, by omega, rfl, Nat.zero_le _, rfl, fun k it v d _ _ q => by simp at q, fun k it _ a => ?_, fun v σ' vs' o' l' s' n' r' e' f' => ?_⟩
  · have hk := (List.getElem?_eq_some_iff.1 a).1
    have := g.zero (j + k) it (by omega) (by rw [hat k hk]; exact a)
    rwa [← Nat.add_assoc] at this
  · simp only [List.nil_append] at n' r'
    refine next v σ' _ vs' (ds ++ (decs its' st).1) ⟨e', o', g.sub, fun i hi => Nat.lt_of_lt_of_le (g.lt i hi) f'.n, by omega, by rw [List.length_append, decs_len, g.dl], by omega, ?_, fun k it v d a p q => ?_, fun k it hk a => ?_, fun v2 σ2 vs2 o2 l2 s2 n2 r2 e2 f2 => ?_⟩
    · have e1 : all.drop (j + its'.length) = (all.drop j).drop its'.length := by rw [List.drop_drop]
      rw [e1, ← hr, List.drop_left]
    · by_cases hk : k < j
      · rw [s' _ (.inl (by omega))] at p
        rw [List.getElem?_append_left (by rw [g.dl]; exact hk)] at q
        exact (g.done k it v d a p q).fr (f'.up g.sub)
      · rw [List.getElem?_append_right (by rw [g.dl]; omega), g.dl] at q
        have hk2 : k - j < its'.length := by have := (List.getElem?_eq_some_iff.1 q).1; rw [decs_len] at this; exact this
        have ek : k = j + (k - j) := by omega
        rw [ek, hat _ hk2] at a
        rw [ek, ← Nat.add_assoc] at p
        exact r' (k - j) it v d a p q
    · rw [s' _ (.inr (by omega))]
      exact g.zero k it (by omega) a
    · have hd : ds ++ (decs (its' ++ its) st).1 = ds ++ (decs its' st).1 ++ (decs its (decs its' st).2).1 := by rw [decs_app]; simp
      refine g.hK v2 σ2 vs2 o2 (by omega) (fun q hq => ?_) (by rw [hd]; exact n2) (by rw [hd]; exact r2) (by rw [decs_app]; exact e2) (f'.trans f2)
      rw [s2 q hq, s' q (by omega)]
end
end Go.Am

namespace Go.Am
open Go.RowKit Go.MapKept Go.Proofs Go.Proofs.Rdr
variable {most : Nat}
/-- a list that is read, in rows from n0 on -/
def Lst (σ : St) (C : Nat → Prop) (n0 : Nat) (its : List It) (el : TypeId) (v : Value) (es : List (List D)) : Prop :=
  (v = .slice none 0 0 ∧ es = []) ∨ ∃ j vs olds, n0 ≤ j ∧ j < σ.n ∧ v = .slice (some ⟨j, 0, some 0⟩) es.length es.length ∧ σ.obj j = some (.cells vs el (.grown olds)) ∧ vs.length = es.length * its.length ∧ (∀ i ∈ olds, n0 ≤ i ∧ i < σ.n ∧ i ≠ j) ∧ (∀ ds ∈ es, ds.length = its.length) ∧
    ∀ (k : Nat) (ds : List D) (q : Nat) (it : It) (u : Value) (d : D), es[k]? = some ds → its[q]? = some it → vs[k * its.length + q]? = some u → ds[q]? = some d → Rd σ (fun i => C i ∨ i = j ∨ i ∈ olds) it u d
/-- one more is laid, of zeros -/
def Mid (σ : St) (C : Nat → Prop) (n0 : Nat) (its : List It) (el : TypeId) (jn : Nat) (es : List (List D)) : Prop :=
  ∃ vs olds, n0 ≤ jn ∧ jn < σ.n ∧ σ.obj jn = some (.cells vs el (.grown olds)) ∧ vs.length = (es.length + 1) * its.length ∧ (∀ i ∈ olds, n0 ≤ i ∧ i < σ.n ∧ i ≠ jn) ∧ (∀ ds ∈ es, ds.length = its.length) ∧
    (∀ (k : Nat) (ds : List D) (q : Nat) (it : It) (u : Value) (d : D), es[k]? = some ds → its[q]? = some it → vs[k * its.length + q]? = some u → ds[q]? = some d → Rd σ (fun i => C i ∨ i = jn ∨ i ∈ olds) it u d) ∧
    ∀ (q : Nat) (it : It), its[q]? = some it → vs[es.length * its.length + q]? = some (zeroI it)
theorem Lst.val {σ : St} {C : Nat → Prop} {n0 : Nat} {its : List It} {el : TypeId} {v : Value} {es : List (List D)} (h : Lst σ C n0 its el v es) : (∃ a, v = .slice a es.length es.length) ∧ sameV v v = true := by
  rcases h with ⟨rfl, rfl⟩ | ⟨j, vs, olds, _, _, rfl, _⟩
  · exact ⟨⟨_, rfl⟩, rfl⟩
  · refine ⟨⟨_, rfl⟩, ?_⟩
    show ((Nat.beq j j && Nat.beq 0 0) && (Nat.beq es.length es.length && Nat.beq es.length es.length)) = true
    simp
theorem Lst.fr {σ σ' : St} {W C : Nat → Prop} {n0 : Nat} {its : List It} {el : TypeId} {v : Value} {es : List (List D)} (h : Lst σ C n0 its el v es) (f : Fr' W σ σ' W) (hs : ∀ i, W i → C i) (hC : ∀ i, C i → i < n0) : Lst σ' C n0 its el v es := by
  rcases h with ⟨rfl, rfl⟩ | ⟨j, vs, olds, h1, h2, rfl, h3, h4, h5, h6, h7⟩
  · exact .inl ⟨rfl, rfl⟩
  · have hj : ¬ W j := fun w => by have := hC j (hs j w); omega
    exact .inr ⟨j, vs, olds, h1, Nat.lt_of_lt_of_le h2 f.n, rfl, by rw [f.same j h2 hj]; exact h3, h4, fun i hi => ⟨(h5 i hi).1, Nat.lt_of_lt_of_le (h5 i hi).2.1 f.n, (h5 i hi).2.2⟩, h6, fun k ds q it u d a b c g => (h7 k ds q it u d a b c g).fr (f.up fun i w => .inl (hs i w))⟩
theorem Mid.fr {σ σ' : St} {W C : Nat → Prop} {n0 : Nat} {its : List It} {el : TypeId} {jn : Nat} {es : List (List D)} (h : Mid σ C n0 its el jn es) (f : Fr' W σ σ' W) (hs : ∀ i, W i → C i) (hC : ∀ i, C i → i < n0) : Mid σ' C n0 its el jn es := by
  obtain ⟨vs, olds, h1, h2, h3, h4, h5, h6, h7, h8⟩ := h
  have hj : ¬ W jn := fun w => by have := hC jn (hs jn w); omega
  exact ⟨vs, olds, h1, Nat.lt_of_lt_of_le h2 f.n, by rw [f.same jn h2 hj]; exact h3, h4, fun i hi => ⟨(h5 i hi).1, Nat.lt_of_lt_of_le (h5 i hi).2.1 f.n, (h5 i hi).2.2⟩, h6, fun k ds q it u d a b c g => (h7 k ds q it u d a b c g).fr (f.up fun i w => .inl (hs i w)), h8⟩
theorem Lst.rd {σ : St} {C : Nat → Prop} {n0 : Nat} {its : List It} {el : TypeId} {v : Value} {es : List (List D)} (h : Lst σ C n0 its el v es) (hC : ∀ i, C i → i < n0) (hle : es.length ≤ 1048576) : Rd σ C (.list its) v (.l es) := by
  rcases h with ⟨rfl, rfl⟩ | ⟨j, vs, olds, h1, h2, rfl, h3, h4, h5, h6, h7⟩
  · exact .empty
  · refine .row rfl h2 (fun hc => by have := hC j hc; omega) h3 (.inr (.inr ⟨olds, rfl⟩)) rfl (by omega) h6 (by omega) fun k ds q it u d a b c g => ?_
    rw [Nat.zero_add] at c
    exact (h7 k ds q it u d a b c g).fr ⟨Nat.le_refl _, fun _ _ _ => rfl, fun i hi => .inl (.inl hi)⟩
/-- what was there is as it was, but for some rows -/
structure Fn (n0 : Nat) (W : Nat → Prop) (σ σ' : St) : Prop where
  n : σ.n ≤ σ'.n
  same : ∀ i, i < n0 → ¬ W i → σ'.obj i = σ.obj i
theorem Fn.of {n0 : Nat} {W : Nat → Prop} {σ σ' : St} (f : Fr' W σ σ' W) (h : n0 ≤ σ.n) : Fn n0 W σ σ' := ⟨f.n, fun i hi hw => f.same i (by omega) hw⟩
theorem Fn.trans {n0 : Nat} {W : Nat → Prop} {a b c : St} (f : Fn n0 W a b) (g : Fn n0 W b c) : Fn n0 W a c := ⟨Nat.le_trans f.n g.n, fun i hi hw => by rw [g.same i hi hw, f.same i hi hw]⟩
theorem Fn.fr {W : Nat → Prop} {σ σ' : St} (f : Fn σ.n W σ σ') : Fr' W σ σ' W := ⟨f.n, fun i hi hw => f.same i hi hw, fun _ h => .inl h⟩
section
variable {σ : St} {W C : Nat → Prop} {n0 rr b q : Nat} {e0 : TypeId} {gr : Bool} {vs : List Value} {its : List It} {el : TypeId} {w v : Value} {es : List (List D)} {st : RS} {n : Nat}
/-- where a list lies that is read -/
structure LB (σ : St) (W C : Nat → Prop) (n0 rr b q : Nat) (e0 : TypeId) (gr : Bool) (vs : List Value) (w : Value) (st : RS) : Prop where
  eye : Eye σ W rr st
  own : Own σ W rr b e0 gr (vs.set q w)
  hq : q < vs.length
  sub : ∀ i, W i → C i
  lt : ∀ i, C i → i < n0
  n0 : n0 ≤ σ.n
theorem LB.ld (h : LB σ W C n0 rr b q e0 gr vs w st) (K : VK) : rLd (pt b q) σ K = K w σ := h.own.ld (by rw [List.getElem?_set_self h.hq]) K
theorem LB.read (h : LB σ W C n0 rr b q e0 gr vs w st) {σ1 : St} {st1 : RS} (e1 : Eye σ1 (fun i => i = rr) rr st1) (f1 : Fr' (fun i => i = rr) σ σ1 (fun i => i = rr)) : LB σ1 W C n0 rr b q e0 gr vs w st1 ∧ Fr' W σ σ1 W :=
  ⟨⟨h.eye.back e1 f1.n, h.own.keep (f1.same b (h.eye.lt b h.own.inW) h.own.ne), h.hq, h.sub, h.lt, Nat.le_trans h.n0 f1.n⟩, f1.up fun i hi => by rw [hi]; exact h.eye.inW⟩
theorem LB.new (h : LB σ W C n0 rr b q e0 gr vs w st) (o : AObj) : LB (σ.new o) W C n0 rr b q e0 gr vs w st :=
  ⟨h.eye.new o, h.own.keep (obj_new_old (Nat.ne_of_lt (h.eye.lt b h.own.inW))), h.hq, h.sub, h.lt, Nat.le_succ_of_le h.n0⟩
theorem LB.put (h : LB σ W C n0 rr b q e0 gr vs w st) (v : Value) (hv : oneCell v = true) : ∃ σ', (∀ k : St → Bool, rSt 1 (pt b q) v σ k = k σ') ∧ LB σ' W C n0 rr b q e0 gr vs v st ∧ Fr' W σ σ' W := by
  obtain ⟨σ', k1, k2, k3, k4⟩ := h.own.st h.eye (q := q) (v := v) (by rw [List.length_set]; exact h.hq) hv
  rw [List.set_set] at k2
  exact ⟨σ', k1, ⟨k3, k2, h.hq, h.sub, h.lt, Nat.le_trans h.n0 k4.n⟩, k4⟩
/-- one more -/
theorem LB.grow {bytes : Nat} {x : Value} {σ1 : St} (h : LB σ W C n0 rr b q e0 gr vs w st) (hl : Lst σ C n0 its el v es) (h1 : LB σ1 W C n0 rr b q e0 gr vs w st) (hx : Ext' σ σ1) (hx2 : Src σ1 its.length x 1 (its.map zeroI)) (hs : sizeT PP el = some its.length) (hb : (es.length + 1) * (bytes + 1) ≤ 1099511627776) {K : VK}
    (hK : ∀ σ' jn, LB σ' W C n0 rr b q e0 gr vs w st → Mid σ' C n0 its el jn es → Fn n0 W σ1 σ' → K (.slice (some ⟨jn, 0, some 0⟩) (es.length + 1) (es.length + 1)) σ' = true) : rApp PP el its.length bytes v x σ1 K = true := by
  have hn := hx.n
  rcases hl with ⟨rfl, rfl⟩ | ⟨j, ws, olds, h2, h3, rfl, h4, h5, h6, h7, h8⟩
  · rw [rApp_nil hx2 (by omega) (by simpa using hb)]
    refine hK _ σ1.n (h1.new _) ⟨its.map zeroI, [], h1.n0, Nat.lt_succ_self _, obj_new_same, by simp, fun i hi => (nomatch hi), fun ds hd => (nomatch hd), fun k ds q it u d a => by simp at a, fun q it a => ?_⟩ (.of (.new W σ1 _) h1.n0)
    simp [a]
  · have hj1 : σ1.obj j = some (.cells ws el (.grown olds)) := by rw [hx.same j h3]; exact h4
    rw [rApp_row hx2 (by omega) hb hj1 h5 hs]
    have hjW : ¬ W j := fun c => by have := h.lt j (h.sub j c); omega
    have hjr : rr ≠ j := fun c => hjW (c ▸ h.eye.inW)
    have hjb : b ≠ j := fun c => hjW (c ▸ h.own.inW)
    have ho : ∀ i, i ≠ j → i < σ1.n → ((σ1.set j (.cells ws el .stale)).new (.cells (ws ++ its.map zeroI) el (.grown (j :: olds)))).obj i = σ1.obj i := fun i hi hlt => by
      rw [obj_new_old (by rw [set_n]; omega), obj_set_other hi]
    have f : Fr' (fun i => C i ∨ i = j ∨ i ∈ olds) σ1 ((σ1.set j (.cells ws el .stale)).new (.cells (ws ++ its.map zeroI) el (.grown (j :: olds)))) (fun i => C i ∨ i = σ1.n ∨ i ∈ j :: olds) := by
      refine ⟨by rw [new_n, set_n]; omega, fun i hi hb => ho i (fun e => hb (.inr (.inl e))) hi, fun i hi => ?_⟩
      rcases hi with hi | hi | hi
      · exact .inl (.inl hi)
      · exact .inr (by omega)
      · rcases List.mem_cons.1 hi with e | hi
        · exact .inl (.inr (.inl e))
        · exact .inl (.inr (.inr hi))
    have hrl := h1.eye.lt1
    have hbl := h1.eye.lt b h1.own.inW
    refine hK _ σ1.n ⟨⟨h1.eye.inW, fun i hi => Nat.lt_succ_of_lt (h1.eye.lt i hi), by rw [ho rr hjr hrl]; exact h1.eye.obj, h1.eye.len⟩, h1.own.keep (ho b hjb hbl), h1.hq, h1.sub, h1.lt, Nat.le_succ_of_le h1.n0⟩
      ⟨ws ++ its.map zeroI, j :: olds, h1.n0, Nat.lt_succ_self _, ?_, ?_, fun i hi => ?_, h7, fun k d q it u d' a b c g => ?_, fun q it a => ?_⟩ ⟨by rw [new_n, set_n]; omega, fun i hi hb => ho i (by omega) (by have := h1.n0; omega)⟩
    · have : σ1.n = (σ1.set j (.cells ws el .stale)).n := rfl
      rw [this, obj_new_same]
    · simp [h5, Nat.add_mul]
    · rcases List.mem_cons.1 hi with e | hi
      · rw [e]; exact ⟨h2, by rw [new_n, set_n]; omega, by omega⟩
      · obtain ⟨a1, a2, a3⟩ := h6 i hi
        exact ⟨a1, by rw [new_n, set_n]; omega, by omega⟩
    · have hk := (List.getElem?_eq_some_iff.1 a).1
      have hq := (List.getElem?_eq_some_iff.1 b).1
      have hlt : k * its.length + its.length ≤ es.length * its.length := by
        have : (k + 1) * its.length ≤ es.length * its.length := Nat.mul_le_mul_right _ hk
        rwa [Nat.add_mul, Nat.one_mul] at this
      rw [List.getElem?_append_left (by omega)] at c
      exact ((h8 k d q it u d' a b c g).fr (hx.fr _)).fr f
    · rw [List.getElem?_append_right (by omega), h5, Nat.add_sub_cancel_left]
      simp [a]
theorem rBuildS_agg1 (el : TypeId) {k : Nat} {zero cs : List Value} (hz : zero.length = k) (hc : cs.length = k) (h1 : cs.all oneCell = true) (σ : St) (K : VK) : rBuildS el 1 zero [(0, k, .agg ⟨cs⟩)] σ K = K (.slice (some ⟨σ.n, 0, none⟩) 1 1) (σ.new (.cells cs el .exact)) := by
  show repK zero 1 (fun c0 => (match allB oneCell cs with | true => (lenK cs fun m => match Nat.beq m k with | true => spliceK 0 cs c0 (fun cs => newK σ (.cells cs el .exact) fun i σ => K (.slice (some ⟨i, 0, none⟩) 1 1) σ) | false => false) | false => false)) = _
  rw [repK_eq, allB_eq, h1, lenK_eq]
  simp only [hc, show Nat.beq k k = true from Nat.beq_refl _]
  rw [spliceK_eq, if_pos (by simp; omega), newK_eq]
  congr 3
  simp [splice]
  omega
/-- what one is, is read -/
theorem Mid.child {one : FuncId} {dp jn : Nat} {K : VK} (h : EyeOk most one its dp) (hb : LB σ W C n0 rr b q e0 gr vs w st) (hm : Mid σ C n0 its el jn es)
    (hK : ∀ v σ', LB σ' W C n0 rr b q e0 gr vs w (decs its st).2 → Lst σ' C n0 its el (.slice (some ⟨jn, 0, some 0⟩) (es.length + 1) (es.length + 1)) (es ++ [(decs its st).1]) → Fn n0 W σ σ' → K v σ' = true) :
    (X most (n + dp)).C one [eye rr, pt jn (0 + es.length * its.length)] σ K = true := by
  obtain ⟨ws, olds, h1, h2, h3, h4, h5, h6, h7, h8⟩ := hm
  have hrn : rr < n0 := hb.lt rr (hb.sub rr hb.eye.inW)
  have hbn : b < n0 := hb.lt b (hb.sub b hb.own.inW)
  let W1 : Nat → Prop := fun i => i = rr ∨ i = jn ∨ i ∈ olds
  let C1 : Nat → Prop := fun i => C i ∨ i = jn ∨ i ∈ olds
  have hs1 : ∀ i, W1 i → C1 i := fun i hi => by
    rcases hi with e | e | e
    · exact .inl (by rw [e]; exact hb.sub rr hb.eye.inW)
    · exact .inr (.inl e)
    · exact .inr (.inr e)
  have hl1 : ∀ i, C1 i → i < σ.n := fun i hi => by
    rcases hi with e | e | e
    · have := hb.lt i e; have := hb.n0; omega
    · omega
    · exact (h5 i e).2.1
  have e1 : Eye σ W1 rr st := ⟨.inl rfl, fun i hi => hl1 i (hs1 i hi), hb.eye.obj, hb.eye.len⟩
  have o1 : Own σ W1 rr jn el true ws := ⟨.inr (.inl rfl), by omega, _, h3, olds, rfl, fun i hi => ⟨.inr (.inr hi), by have := (h5 i hi).1; omega, (h5 i hi).2.2⟩⟩
  rw [Nat.zero_add]
  refine h n ⟨e1, o1, hs1, hl1, by rw [h4, Nat.add_mul]; omega, rfl, Nat.zero_le _, rfl, fun k it v d _ _ c => by simp at c, fun k it _ a => h8 k it a, fun v σ' vs' o2 l2 s2 n2 r2 e2 f2 => ?_⟩
  simp only [List.nil_append] at n2 r2
  have hbo : σ'.obj b = σ.obj b := f2.same b (by have := hb.n0; omega) (fun c => by
    rcases c with e | e | e
    · exact hb.own.ne e
    · omega
    · have := (h5 b e).1; omega)
  have hb2 : LB σ' W C n0 rr b q e0 gr vs w (decs its st).2 :=
    ⟨⟨hb.eye.inW, fun i hi => Nat.lt_of_lt_of_le (hb.eye.lt i hi) f2.n, e2.obj, e2.len⟩, hb.own.keep hbo, hb.hq, hb.sub, hb.lt, Nat.le_trans hb.n0 f2.n⟩
  refine hK v σ' hb2 ?_ ⟨f2.n, fun i hi hw => f2.same i (by have := hb.n0; omega) (fun c => by
    rcases c with e | e | e
    · exact hw (by rw [e]; exact hb.eye.inW)
    · omega
    · have := (h5 i e).1; omega)⟩
  obtain ⟨ck, p1, olds', p2, p3⟩ := o2.obj
  subst p2
  have hsub : ∀ i, i ∈ olds' → i ∈ olds := fun i hi => by
    obtain ⟨a1, a2, a3⟩ := p3 i hi
    rcases a1 with e | e | e
    · exact absurd e a2
    · exact absurd e a3
    · exact e
  have less : ∀ {it : It} {u : Value} {d : D}, Rd σ' C1 it u d → Rd σ' (fun i => C i ∨ i = jn ∨ i ∈ olds') it u d := fun hr => hr.fr ⟨Nat.le_refl _, fun _ _ _ => rfl, fun i hi => .inl (by
    rcases hi with e | e | e
    · exact .inl e
    · exact .inr (.inl e)
    · exact .inr (.inr (hsub i e)))⟩
  refine .inr ⟨jn, vs', olds', h1, Nat.lt_of_lt_of_le h2 f2.n, by simp, p1, by simp [l2, h4], fun i hi => ⟨(h5 i (hsub i hi)).1, Nat.lt_of_lt_of_le (h5 i (hsub i hi)).2.1 f2.n, (h5 i (hsub i hi)).2.2⟩, fun d hd => ?_, fun k d q it u d' a b c g => ?_⟩
  · rcases List.mem_append.1 hd with hd | hd
    · exact h6 d hd
    · simp at hd; subst hd; rw [decs_len]
  · have hq := (List.getElem?_eq_some_iff.1 b).1
    rcases Nat.lt_or_ge k es.length with hk | hk
    · rw [List.getElem?_append_left hk] at a
      have hlt : k * its.length + its.length ≤ es.length * its.length := by
        have : (k + 1) * its.length ≤ es.length * its.length := Nat.mul_le_mul_right _ hk
        rwa [Nat.add_mul, Nat.one_mul] at this
      rw [s2 _ (.inl (by omega))] at c
      exact less ((h7 k d q it u d' a b c g).fr (f2.up hs1))
    · have hk' : k = es.length := by
        have := (List.getElem?_eq_some_iff.1 a).1
        simp at this; omega
      subst hk'
      simp at a
      subst a
      exact less (r2 q it u d' b c g)
end
end Go.Am
