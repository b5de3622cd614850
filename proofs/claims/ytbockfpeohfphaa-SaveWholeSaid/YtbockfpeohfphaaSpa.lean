/- save: strings.Builder, and wire's texts, at open values. -/
import Derived.Test.YtbockfpeohfphaaAmd
import Derived.Test.YtbockfpeohfphaaSxa
import Derived.Test.YtbockfpeohfphaaSva
import Derived.IntWalk

namespace Go.Am
open Go.RowKit Go.MapKept Go.Proofs Go.Proofs.Rdr
variable {most : Nat}
theorem ex_X (most : Nat) : ∃ X : Nat → EV, ∀ n, X n = xAt PP tbS ovS1 most n := ⟨fun n => xAt PP tbS ovS1 most n, fun _ => rfl⟩
/-- the environment, so many calls deep (not to be made out) -/
noncomputable def X (most : Nat) : Nat → EV := Classical.choose (ex_X most)
theorem X_eq (most n : Nat) : X most n = xAt PP tbS ovS1 most n := Classical.choose_spec (ex_X most) n
theorem X_most (most n : Nat) : (X most n).most = most := by rw [X_eq]; rfl
theorem X_call {n : Nat} {f : FuncId} (h : ovS1 f = none) (args : List Value) (σ : St) (K : VK) : (X most (n + 1)).C f args σ K = fnX PP tbS f ((X most n).E PP) args σ K := by
  rw [X_eq, X_eq]; exact xAt_call h args σ K
theorem X_ov {n : Nat} {f : FuncId} {g : List Value → St → VK → Bool} (h : ovS1 f = some g) (args : List Value) (σ : St) (K : VK) : (X most (n + 1)).C f args σ K = g args σ K := by
  rw [X_eq]; exact xAt_ov h args σ K
/-- what is at a Builder's row -/
def BufR (σ : St) (w : Nat) (B : Nat → Prop) (bs : List UInt8) (buf : Value) : Prop :=
  (bs = [] ∧ buf = .slice none 0 0) ∨ ∃ j olds, bs ≠ [] ∧ B j ∧ j ≠ w ∧ σ.obj j = some (.cells (bytesV bs) 5 (.grown olds)) ∧ buf = .slice (some ⟨j, 0, some 0⟩) bs.length bs.length
def Lies (t : TypeId) (m : Nat) : Prop := liesAt PP PP.depth t (Nat.div m (PP.cellsOf t)) 0 64 1 = true
/-- a Builder that lies at the beginning of a row -/
structure Bld (σ : St) (w : Nat) (B : Nat → Prop) (bs : List UInt8) (t : TypeId) (rest : List Value) : Prop where
  inB : B w
  lt : ∀ i, B i → i < σ.n
  obj : ∃ addr buf, σ.obj w = some (.cells (addr :: buf :: rest) t .exact) ∧ (addr = .pointer none ∨ addr = .pointer (some ⟨w, 0, none⟩)) ∧ BufR σ w B bs buf
theorem Bld.fr {σ σ' : St} {w : Nat} {B C C' : Nat → Prop} {bs : List UInt8} {t : TypeId} {rest : List Value} (h : Bld σ w B bs t rest) (f : Fr' C σ σ' C') (hd : ∀ i, B i → ¬ C i) : Bld σ' w B bs t rest := by
  obtain ⟨a, b, h1, h2, h3⟩ := h.obj
  refine ⟨h.inB, fun i hi => Nat.lt_of_lt_of_le (h.lt i hi) f.n, a, b, by rw [f.same w (h.lt w h.inB) (hd w h.inB)]; exact h1, h2, ?_⟩
  rcases h3 with h3 | ⟨j, olds, g1, g2, g3, g4, g5⟩
  · exact .inl h3
  · exact .inr ⟨j, olds, g1, g2, g3, by rw [f.same j (h.lt j g2) (hd j g2)]; exact g4, g5⟩
theorem copyCheck_c {n : Nat} (args : List Value) (σ : St) (K : VK) : (X most (n + 1)).C c_strings_Builder_copyCheck args σ K = ovCC args σ K := X_ov (by rfl) args σ K
theorem ovCC_nil {σ : St} {w : Nat} {t : TypeId} {l : List Value} (h : σ.obj w = some (.cells (.pointer none :: l) t .exact)) (hl : Lies t (l.length + 1)) (K : VK) :
    ovCC [.pointer (some ⟨w, 0, none⟩)] σ K = K (.tuple ⟨[]⟩) (σ.set w (.cells (.pointer (some ⟨w, 0, none⟩) :: l) t .exact)) := by
  have hl : liesAt Try.prog Try.prog.depth t (Nat.div (l.length + 1) (Try.prog.cellsOf t)) 0 64 1 = true := hl
  unfold ovCC
  simp only [cellsK_h h, nthK_z, lenK_eq, List.length_cons, hl]
  unfold writeK
  simp only [cellsK_h h, spliceK_eq, setK_eq]
  rw [if_pos (by simp)]
  simp [splice]
theorem ovCC_some {σ : St} {w : Nat} {t : TypeId} {l : List Value} (h : σ.obj w = some (.cells (.pointer (some ⟨w, 0, none⟩) :: l) t .exact)) (K : VK) :
    ovCC [.pointer (some ⟨w, 0, none⟩)] σ K = K (.tuple ⟨[]⟩) σ := by
  show cellsK σ w _ = _
  rw [cellsK_h h]
  show (match Nat.beq w w, Nat.beq 0 0 with | true, true => K (.tuple ⟨[]⟩) σ | _, _ => false) = _
  rw [show Nat.beq w w = true from Nat.beq_refl w]
theorem WriteString_s {n : Nat} {σ : St} {w : Nat} {B : Nat → Prop} {bs : List UInt8} {t : TypeId} {rest : List Value} (h : Bld σ w B bs t rest) (hl : Lies t (rest.length + 2)) (l : List UInt8) (hb : bs.length + l.length ≤ 274877906944) {K : VK}
    (hK : ∀ v σ' B', Bld σ' w B' (bs ++ l) t rest → Fr' B σ σ' B' → K v σ' = true) : (X most (n + 2)).C c_strings_Builder_WriteString [.pointer (some ⟨w, 0, none⟩), .string ⟨⟨l⟩⟩] σ K = true := by
  rw [X_call (by rfl), f_strings_Builder_WriteString]
  unfold r_strings_Builder_WriteString
  rw [copyCheck_c]
  obtain ⟨addr, buf, h1, h2, h3⟩ := h.obj
  have key : ∀ σ1 : St, σ1.n = σ.n → σ1.obj w = some (.cells (.pointer (some ⟨w, 0, none⟩) :: buf :: rest) t .exact) → (∀ i, i ≠ w → σ1.obj i = σ.obj i) →
      (rNil PP (.pointer (some ⟨w, 0, none⟩)) fun v1 =>
        rFld 1 v1 fun v2 => rLd v2 σ1 fun v3 σ => rApp PP 5 1 1 v3 (.string ⟨⟨l⟩⟩) σ fun v4 σ => rNil PP (.pointer (some ⟨w, 0, none⟩)) fun v5 => rFld 1 v5 fun v6 => rSt 1 v6 v4 σ fun σ =>
          rLenT (.string ⟨⟨l⟩⟩) fun v7 => K (.tuple ⟨[v7, .nilIface]⟩) σ) = true := by
    intro σ1 hn hw ho
    rw [rNil_p, rFld_p, Nat.zero_add, rLd_h hw (v := buf) rfl]
    have hwn : w < σ.n := h.lt w h.inB
    have fin : ∀ (v4 : Value) (σ2 : St) (B' : Nat → Prop), oneCell v4 = true → σ2.obj w = some (.cells (.pointer (some ⟨w, 0, none⟩) :: buf :: rest) t .exact) → B' w → (∀ i, B' i → i < σ2.n) → BufR σ2 w B' (bs ++ l) v4 →
        σ.n ≤ σ2.n → (∀ i, i < σ.n → ¬ B i → σ2.obj i = σ.obj i) → (∀ i, B' i → B i ∨ σ.n ≤ i) →
        (rNil PP (.pointer (some ⟨w, 0, none⟩)) fun v5 => rFld 1 v5 fun v6 => rSt 1 v6 v4 σ2 fun σ => rLenT (.string ⟨⟨l⟩⟩) fun v7 => K (.tuple ⟨[v7, .nilIface]⟩) σ) = true := by
      intro v4 σ2 B' hv hw2 hB' hlt hbuf hn2 hsame hsub
      rw [rNil_p, rFld_p, Nat.zero_add, rSt_exact hw2 (by simp) hv, rLenT_s]
      refine hK _ _ B' ⟨hB', hlt, _, v4, by rw [obj_set_same]; rfl, .inr rfl, ?_⟩ ⟨hn2, fun i hi hb => ?_, hsub⟩
      · rcases hbuf with hbuf | ⟨j, olds, g1, g2, g3, g4, g5⟩
        · exact .inl hbuf
        · exact .inr ⟨j, olds, g1, g2, g3, by rw [obj_set_other g3]; exact g4, g5⟩
      · rw [obj_set_other (show i ≠ w from fun e => hb (e ▸ h.inB))]
        exact hsame i hi hb
    rcases Nat.eq_zero_or_pos l.length with hz | hz
    · have hl0 : l = [] := List.eq_nil_of_length_eq_zero hz
      subst hl0
      have hx : Src σ1 1 (.string ⟨⟨[]⟩⟩) 0 (bytesV []) := Src.text σ1 []
      have hbuf : ∃ b m, buf = .slice b m m := by
        rcases h3 with ⟨_, e⟩ | ⟨_, _, _, _, _, _, e⟩
        · exact ⟨_, _, e⟩
        · exact ⟨_, _, e⟩
      obtain ⟨b, m, rfl⟩ := hbuf
      rw [rApp_zero hx]
      refine fin _ _ B rfl hw h.inB (fun i hi => by rw [hn]; exact h.lt i hi) ?_ (by omega) (fun i hi hb => ho i fun e => hb (e ▸ h.inB)) (fun i hi => .inl hi)
      rw [List.append_nil]
      rcases h3 with h3 | ⟨j, olds, g1, g2, g3, g4, g5⟩
      · exact .inl h3
      · exact .inr ⟨j, olds, g1, g2, g3, by rw [ho j g3]; exact g4, g5⟩
    · have hx := Src.text σ1 l
      rcases h3 with ⟨e1, e2⟩ | ⟨j, olds, g1, g2, g3, g4, g5⟩
      · subst e1 e2
        rw [rApp_nil hx (by omega) (by omega)]
        refine fin _ _ (fun i => B i ∨ i = σ.n) rfl (by rw [obj_new_old (by omega)]; exact hw) (.inl h.inB) (fun i hi => ?_) (.inr ⟨σ1.n, [], ?_, .inr (by omega), by omega, ?_, ?_⟩) (by rw [new_n]; omega) (fun i hi hb => ?_) (fun i hi => ?_)
        · rw [new_n]
          rcases hi with hi | hi
          · have := h.lt i hi; omega
          · omega
        · intro e; simp at e; subst e; simp at hz
        · rw [obj_new_same]; rfl
        · simp
        · rw [obj_new_old (by omega)]; exact ho i fun e => hb (e ▸ h.inB)
        · rcases hi with hi | hi
          · exact .inl hi
          · exact .inr (by omega)
      · subst g5
        have hj1 : σ1.obj j = some (.cells (bytesV bs) 5 (.grown olds)) := by rw [ho j g3]; exact g4
        have hjn : j < σ.n := h.lt j g2
        rw [rApp_row hx (by omega) (by omega) hj1 (by simp [bytesV]) (by kernel_rfl)]
        refine fin _ _ (fun i => B i ∨ i = σ.n) rfl (by rw [obj_new_old (by rw [set_n]; omega), obj_set_other (Ne.symm g3)]; exact hw) (.inl h.inB) (fun i hi => ?_) (.inr ⟨σ1.n, j :: olds, ?_, .inr (by omega), by omega, ?_, ?_⟩) (by rw [new_n, set_n]; omega) (fun i hi hb => ?_) (fun i hi => ?_)
        · rw [new_n, set_n]
          rcases hi with hi | hi
          · have := h.lt i hi; omega
          · omega
        · intro e; exact g1 (List.append_eq_nil_iff.1 e).1
        · have : σ1.n = (σ1.set j (.cells (bytesV bs) 5 .stale)).n := rfl
          rw [this, obj_new_same]; simp [bytesV]
        · simp
        · rw [obj_new_old (by rw [set_n]; omega), obj_set_other (show i ≠ j from fun e => hb (e ▸ g2))]; exact ho i fun e => hb (e ▸ h.inB)
        · rcases hi with hi | hi
          · exact .inl hi
          · exact .inr (by omega)
  rcases h2 with e | e
  · subst e
    rw [ovCC_nil h1 (by simpa using hl)]
    exact key _ rfl obj_set_same fun i hi => obj_set_other hi
  · subst e
    rw [ovCC_some h1]
    exact key _ rfl h1 fun i _ => rfl
end Go.Am



namespace Go.Am
open Go.RowKit Go.MapKept Go.Proofs Go.Proofs.Rdr
variable {most : Nat}
theorem put_c {n : Nat} (l : List UInt8) (z k : Nat) (hz : z < 18446744073709551616) (hk : k ≤ 8) (hl : l.length ≤ 35184372088832) (σ : St) (K : VK) :
    (X most (n + 1)).C c_wire_put [.string ⟨⟨l⟩⟩, .int .u64 (.ofNat z), .int .i64 (.ofNat k)] σ K = K (.string ⟨⟨l ++ beb k z⟩⟩) σ := by
  rw [X_ov (g := ovPut) (by rfl)]
  show (match Nat.blt z 18446744073709551616, Nat.ble k 8 with
    | true, true => lenK l fun m => match Nat.ble m 35184372088832 with
      | true => bebK z k fun t => appK l t fun bs => K (.string ⟨⟨bs⟩⟩) σ
      | false => false
    | _, _ => false) = _
  rw [show Nat.blt z 18446744073709551616 = true from Nat.ble_eq_true_of_le hz, show Nat.ble k 8 = true from Nat.ble_eq_true_of_le hk]
  simp only [lenK_eq, show Nat.ble l.length 35184372088832 = true from Nat.ble_eq_true_of_le hl, bebK_eq, appK_eq]
theorem beb_length (k z : Nat) : (beb k z).length = k := by
  induction k with
  | zero => rfl
  | succ k ih => simp [beb, ih]
theorem Num_c {n : Nat} (l : List UInt8) (z : Nat) (hz : z < 18446744073709551616) (hl : l.length ≤ 35184372088832) (σ : St) (K : VK) :
    (X most (n + 2)).C c_wire_Num [.string ⟨⟨l⟩⟩, .int .u64 (.ofNat z)] σ K = K (.string ⟨⟨l ++ beb 8 z⟩⟩) σ := by
  rw [X_call (by rfl), f_wire_Num]
  unfold r_wire_Num
  rw [put_c l z 8 hz (by omega) hl]
theorem wrap_u8_u64 {z : Nat} (h : z < 256) : wrapI .u64 (.ofNat z) = .ofNat z := by
  show (match Nat.blt z 18446744073709551616 with | true => _ | false => _) = _
  rw [show Nat.blt z 18446744073709551616 = true from Nat.ble_eq_true_of_le (by omega)]
theorem wrap_u64 {z : Nat} (h : z < 18446744073709551616) : wrapI .u64 (.ofNat z) = .ofNat z := by
  show (match Nat.blt z 18446744073709551616 with | true => _ | false => _) = _
  rw [show Nat.blt z 18446744073709551616 = true from Nat.ble_eq_true_of_le h]
theorem Byte_c {n : Nat} (l : List UInt8) (z : Nat) (hz : z < 256) (hl : l.length ≤ 35184372088832) (σ : St) (K : VK) :
    (X most (n + 2)).C c_wire_Byte [.string ⟨⟨l⟩⟩, .int .u8 (.ofNat z)] σ K = K (.string ⟨⟨l ++ beb 1 z⟩⟩) σ := by
  rw [X_call (by rfl), f_wire_Byte]
  unfold r_wire_Byte
  rw [rInt_i, wrap_u8_u64 hz, put_c l z 1 (by omega) (by omega) hl]
theorem rBin_cat (t : TypeId) (a b : List UInt8) (K : Value → Bool) (h : a.length + b.length < 9223372036854775808) : rBin PP .add t (.string ⟨⟨a⟩⟩) (.string ⟨⟨b⟩⟩) K = K (.string ⟨⟨a ++ b⟩⟩) := by
  rw [rBin_eq]
  show (lenK a fun n => lenK b fun m => match Nat.blt (n + m) 9223372036854775808 with
    | true => appK a b fun l => K (.string ⟨⟨l⟩⟩)
    | false => false) = _
  rw [lenK_eq, lenK_eq, show Nat.blt (a.length + b.length) 9223372036854775808 = true from Nat.ble_eq_true_of_le h]
  simp only [appK_eq]
/-- a text's bytes; an error -/
def encText (t : List UInt8) : List UInt8 × Nat := if 2048 < t.length then ([], 40) else (beb 2 t.length ++ t, 0)
theorem Text_c {n : Nat} (t : List UInt8) (ht : t.length ≤ 140737488355328) (σ : St) (K : VK) :
    (X most (n + 2)).C c_wire_Text [.string ⟨⟨[]⟩⟩, .string ⟨⟨t⟩⟩] σ K = K (.tuple ⟨[.string ⟨⟨(encText t).1⟩⟩, .int .i64 (.ofNat (encText t).2)]⟩) σ := by
  rw [X_call (by rfl), f_wire_Text]
  unfold r_wire_Text
  rw [rLenT_s, rBin_gtrN, rIf_b]
  unfold encText
  by_cases h : 2048 < t.length
  · rw [if_pos h, if_pos (by simpa using h)]
  · rw [if_neg h, if_neg (by simpa using h)]
    rw [rLenT_s, rInt_i, wrap_u64 (by omega), put_c [] t.length 2 (by omega) (by omega) (by simp)]
    rw [List.nil_append, rBin_cat _ _ _ _ (by rw [beb_length]; omega)]
/-- lists of numbers -/
def encNums (l : List Nat) : List UInt8 × Nat := if 1024 < l.length then ([], 40) else (beb 2 l.length ++ l.flatMap (beb 8), 0)
theorem bytes8K_V (l : List UInt8) (k : List UInt8 → Bool) : bytes8K (bytesV l) k = k l := by
  induction l generalizing k with
  | nil => rfl
  | cons b l ih =>
    show (match Nat.blt b.toNat 256 with | true => bytes8K (bytesV l) (fun t => k (UInt8.ofNat b.toNat :: t)) | false => false) = _
    rw [show Nat.blt b.toNat 256 = true from Nat.ble_eq_true_of_le b.toNat_lt, ih]
    simp
theorem String_s {n : Nat} {σ : St} {w : Nat} {B : Nat → Prop} {bs : List UInt8} {t : TypeId} {rest : List Value} (h : Bld σ w B bs t rest) (hb : bs.length ≤ 274877906944) {K : VK}
    (hK : ∀ σ', Fr' B σ σ' B → K (.string ⟨⟨bs⟩⟩) σ' = true) : (X most (n + 1)).C c_strings_Builder_String [.pointer (some ⟨w, 0, none⟩)] σ K = true := by
  rw [X_ov (g := ovStr) (by rfl)]
  obtain ⟨a, b, h1, h2, h3⟩ := h.obj
  unfold ovStr
  simp only [cellsK_h h1, nthK_s, nthK_z]
  rcases h3 with ⟨e1, e2⟩ | ⟨j, olds, g1, g2, g3, g4, g5⟩
  · subst e1 e2
    exact hK σ (.refl B σ)
  · subst g5
    obtain ⟨m, hm⟩ := Nat.exists_eq_succ_of_ne_zero (show bs.length ≠ 0 from fun e => g1 (List.eq_nil_of_length_eq_zero e))
    rw [hm]
    show getK σ.h j _ = true
    rw [getK_eq]
    have g4' : σ.h.get j = some (.cells (bytesV bs) 5 (.grown olds)) := g4
    rw [g4']
    simp only
    rw [show Nat.ble (m + 1) 9223372036854775807 = true from Nat.ble_eq_true_of_le (by omega)]
    show dropK 0 (bytesV bs) _ = true
    rw [dropK_eq, if_pos (by omega), takeK_eq, if_pos (by simp [bytesV]; omega)]
    have : (List.drop 0 (bytesV bs)).take (Nat.succ m) = bytesV bs := by
      rw [List.drop_zero, List.take_of_length_le (by simp [bytesV]; omega)]
    rw [this, bytes8K_V, setK_eq]
    exact hK _ ⟨Nat.le_refl _, fun i _ hi => obj_set_other (fun e => hi (e ▸ g2)), fun _ hi => .inl hi⟩
theorem lies64 : Lies 64 2 := by unfold Lies; kernel_rfl
/-- a list's rest is put -/
theorem List_loop {n : Nat} {v : Value} {ns : List Nat} (hlen : ns.length ≤ 1024) :
    ∀ (r i m : Nat) (σ : St) (w : Nat) (B : Nat → Prop) (bs : List UInt8) (K : VK), i + r = ns.length → r < m → Bld σ w B bs 64 [] → bs.length ≤ 100000 - 8 * r → Rd σ B (.list [.num]) v (.l (ns.map fun z : Nat => [.n (z : Int)])) →
      (∀ σ' B', Fr' B σ σ' B' → K (.tuple ⟨[.string ⟨⟨bs ++ (ns.drop i).flatMap (beb 8)⟩⟩, .int .i64 (.ofNat 0)]⟩) σ' = true) →
      l_wire_List_rrrrlrd (X most (n + 2)) m (.pointer (some ⟨w, 0, none⟩)) v (.int .i64 (.ofNat ns.length)) (.int .i64 (.ofNat i)) σ K = true := by
  intro r
  induction r with
  | zero =>
    intro i m σ w B bs K hi hm hB hbs hv hK
    obtain ⟨m, rfl⟩ := Nat.exists_eq_succ_of_ne_zero (show m ≠ 0 by omega)
    rw [l_wire_List_rrrrlrdE]
    unfold l_wire_List_rrrrlrdB
    rw [rBin_lssN, rIf_b, if_neg (by simp; omega)]
    refine String_s (n := n + 1) hB (by omega) fun σ' f => ?_
    have := hK σ' B f
    rwa [List.drop_of_length_le (by omega), List.flatMap_nil, List.append_nil] at this
  | succ r ih =>
    intro i m σ w B bs K hi hm hB hbs hv hK
    obtain ⟨m, rfl⟩ := Nat.exists_eq_succ_of_ne_zero (show m ≠ 0 by omega)
    rw [l_wire_List_rrrrlrdE]
    unfold l_wire_List_rrrrlrdB
    rw [rBin_lssN, rIf_b, if_pos (by simp; omega)]
    have hlt : i < ns.length := by omega
    have hz : ns[i]? = some ns[i] := List.getElem?_eq_getElem hlt
    obtain ⟨b, o, sp, c, rfl, hsp, hst⟩ := hv.elem (k := i) (ds := [.n ns[i]]) (by simp [hz])
    obtain ⟨d, hd, hc⟩ := hst.cell 0 (it := .num) rfl
    simp at hd
    subst hd
    obtain ⟨vs, e, ck, u, g1, g2, g3, g4⟩ := hc.row
    rw [rIdx_sp 1 b o i _ c sp hsp (by simpa using hlt), rLd_h g1 (by simpa using g3)]
    obtain ⟨z, rfl, ez, hz64⟩ := g4.num_inv
    have ez : ns[i] = z := by injection ez with ez; exact Int.ofNat.inj ez
    rw [put_c [] z 8 hz64 (by omega) (by simp), List.nil_append]
    refine WriteString_s (n := n) hB (by exact lies64) (beb 8 z) (by rw [beb_length]; omega) fun v' σ' B' hB' f => ?_
    rw [rBin_add _ _ _ _ (by omega)]
    have hv' := hv.fr f
    refine ih (i + 1) m σ' w B' (bs ++ beb 8 z) K (by omega) (by omega) hB' (by rw [List.length_append, beb_length]; omega) hv' fun σ2 B2 f2 => ?_
    have := hK σ2 B2 (f.trans f2)
    have e1 : ns.drop i = z :: ns.drop (i + 1) := by
      rw [List.drop_eq_getElem_cons hlt, ez]
    rw [e1, List.flatMap_cons, ← List.append_assoc] at this
    exact this
theorem nums_data {σ : St} {C : Nat → Prop} {v : Value} {es : List (List D)} (h : Rd σ C (.list [.num]) v (.l es)) : ∃ ns : List Nat, es = ns.map fun z : Nat => [D.n (z : Int)] := by
  have : ∀ (k : Nat) (ds : List D), es[k]? = some ds → ∃ z : Nat, ds = [D.n (z : Int)] := by
    intro k ds hk
    obtain ⟨b, o, sp, c, rfl, hsp, hst⟩ := h.elem hk
    obtain ⟨d, hd, hc⟩ := hst.cell 0 (it := .num) rfl
    obtain ⟨vs, e, ck, u, g1, g2, g3, g4⟩ := hc.row
    obtain ⟨z, rfl, rfl, _⟩ := g4.num_inv
    have hl := hst.len
    match ds, hl, hd with
    | [d], _, hd => simp at hd; exact ⟨z, by rw [hd]⟩
  clear h
  induction es with
  | nil => exact ⟨[], rfl⟩
  | cons ds es ih =>
    obtain ⟨z, rfl⟩ := this 0 ds rfl
    obtain ⟨ns, rfl⟩ := ih fun k ds hk => this (k + 1) ds (by simpa using hk)
    exact ⟨z :: ns, rfl⟩
theorem List_s {n : Nat} {v : Value} {ns : List Nat} {σ : St} {C : Nat → Prop} (hv : Rd σ C (.list [.num]) v (.l (ns.map fun z : Nat => [.n (z : Int)]))) (hm : 1024 < most) {K : VK}
    (hK : ∀ σ', Ext' σ σ' → K (.tuple ⟨[.string ⟨⟨(encNums ns).1⟩⟩, .int .i64 (.ofNat (encNums ns).2)]⟩) σ' = true) : (X most (n + 3)).C c_wire_List [.string ⟨⟨[]⟩⟩, v] σ K = true := by
  rw [X_call (by rfl), f_wire_List]
  unfold r_wire_List
  obtain ⟨⟨b, c, e⟩, hN⟩ := hv.len
  rw [List.length_map] at e hN
  have hv0 := hv
  subst e
  rw [rLenS_s, rBin_gtrN, rIf_b]
  unfold encNums at hK
  by_cases h : 1024 < ns.length
  · rw [if_pos (by simpa using h)]
    rw [if_pos h] at hK
    exact hK σ (.refl σ)
  · rw [if_neg (by simpa using h)]
    rw [if_neg h] at hK
    rw [rAlloc_h, rLenS_s, rInt_i, wrap_u64 (by omega), put_c [] ns.length 2 (by omega) (by omega) (by simp), List.nil_append]
    have hB : Bld (σ.new (.cells [.pointer none, .slice none 0 0] 64 .exact)) σ.n (fun i => i = σ.n) [] 64 [] := ⟨rfl, fun i hi => by subst hi; exact Nat.lt_succ_self _, _, _, obj_new_same, .inl rfl, .inl ⟨rfl, rfl⟩⟩
    have hx : Ext' σ (σ.new (.cells [.pointer none, .slice none 0 0] 64 .exact)) := ⟨Nat.le_succ _, fun i hi => obj_new_old (Nat.ne_of_lt hi)⟩
    refine WriteString_s (n := n) hB (by exact lies64) (beb 2 ns.length) (by rw [beb_length]; simp) fun v' σ' B' hB' f => ?_
    rw [rLenS_s]
    have hx' : Ext' σ σ' := f.ext hx fun i hi => by omega
    have hB'n : ∀ i, B' i → σ.n ≤ i := fun i hi => by
      rcases f.sub i hi with h | h
      · omega
      · rw [new_n] at h; omega
    have hv' : Rd σ' B' (.list [.num]) (.slice b ns.length c) (.l (ns.map fun z : Nat => [.n (z : Int)])) := by
      have : Fr' C σ σ' B' := ⟨hx'.n, fun i hi _ => hx'.same i hi, fun i hi => .inr (hB'n i hi)⟩
      exact hv.fr this
    rw [X_most]
    refine List_loop (n := n) (by omega) ns.length 0 most σ' σ.n B' (beb 2 ns.length) K (by omega) (show ns.length < most by omega) (by simpa using hB') (by rw [beb_length]; omega) hv' fun σ2 B2 f2 => ?_
    rw [List.drop_zero]
    exact hK σ2 (f2.ext hx' hB'n)
end Go.Am

namespace Go.Am
open Go.RowKit Go.MapKept Go.Proofs Go.Proofs.Rdr
variable {most : Nat}
/-- what a pen has written, and its error -/
abbrev PenS := List UInt8 × Nat
abbrev Pen (σ : St) (w : Nat) (B : Nat → Prop) (st : PenS) : Prop := Bld σ w B st.1 66 [.int .i64 (.ofNat st.2)]
def LIM : Nat := 274877906944
def wrN (l : List UInt8) (st : PenS) : PenS := (st.1 ++ l, st.2)
def wr (x : List UInt8 × Nat) (st : PenS) : PenS := (st.1 ++ x.1, if st.2 = 0 then x.2 else st.2)
theorem lies66 : Lies 66 3 := by unfold Lies; kernel_rfl
abbrev pt (b o : Nat) : Value := .pointer (some ⟨b, o, none⟩)
abbrev hand (w : Nat) : Value := .iface 60 (pt w 0)
theorem pen_write {n : Nat} {σ : St} {w : Nat} {B : Nat → Prop} {st : PenS} (h : Pen σ w B st) (l : List UInt8) (hl : st.1.length + l.length ≤ LIM) {K : VK}
    (hK : ∀ v σ' B', Pen σ' w B' (wrN l st) → Fr' B σ σ' B' → K v σ' = true) : (X most (n + 2)).C c_strings_Builder_WriteString [pt w 0, .string ⟨⟨l⟩⟩] σ K = true :=
  WriteString_s (n := n) h (by exact lies66) l hl hK
theorem pen_err {σ : St} {w : Nat} {B : Nat → Prop} {st : PenS} (h : Pen σ w B st) (K : VK) : rLd (pt w 2) σ K = K (.int .i64 (.ofNat st.2)) σ := by
  obtain ⟨a, b, h1, h2, h3⟩ := h.obj
  exact rLd_h h1 rfl K
theorem pen_put {n : Nat} {σ : St} {w : Nat} {B : Nat → Prop} {st : PenS} (h : Pen σ w B st) (hm : most ≠ 0) (x : List UInt8 × Nat) (hl : st.1.length + x.1.length ≤ LIM) {K : VK}
    (hK : ∀ v σ' B', Pen σ' w B' (wr x st) → Fr' B σ σ' B' → K v σ' = true) : (X most (n + 3)).C c_save_pen_put [pt w 0, .string ⟨⟨x.1⟩⟩, .int .i64 (.ofNat x.2)] σ K = true := by
  rw [X_call (by rfl), f_save_pen_put]
  unfold r_save_pen_put
  rw [rNil_p, rFld_p, Nat.zero_add, pen_err h, rBin_eqlN, rIf_b]
  by_cases he : st.2 = 0
  · rw [if_pos (by simpa using he), rNil_p, rFld_p, Nat.zero_add]
    obtain ⟨a, b, h1, h2, h3⟩ := h.obj
    rw [rSt_exact h1 (by simp) rfl]
    have h' : Pen (σ.set w (.cells ((a :: b :: [.int .i64 (.ofNat st.2)]).set 2 (.int .i64 (.ofNat x.2))) 66 .exact)) w B (st.1, x.2) := by
      refine ⟨h.inB, h.lt, a, b, obj_set_same, h2, ?_⟩
      rcases h3 with h3 | ⟨j, olds, g1, g2, g3, g4, g5⟩
      · exact .inl h3
      · exact .inr ⟨j, olds, g1, g2, g3, by rw [obj_set_other g3]; exact g4, g5⟩
    rw [j_save_pen_put_rE _ (by rw [X_most]; exact hm)]
    unfold j_save_pen_put_rB
    rw [rNil_p, rFld_p]
    refine pen_write (n := n) h' x.1 hl fun v σ' B' hp f => ?_
    refine hK _ σ' B' ?_ ⟨f.n, fun i hi hb => ?_, f.sub⟩
    · unfold wr; rw [if_pos he]; exact hp
    · rw [f.same i hi hb, obj_set_other (show i ≠ w from fun e => hb (e ▸ h.inB))]
  · rw [if_neg (by simpa using he), j_save_pen_put_rE _ (by rw [X_most]; exact hm)]
    unfold j_save_pen_put_rB
    rw [rNil_p, rFld_p]
    refine pen_write (n := n) h x.1 hl fun v σ' B' hp f => hK _ σ' B' ?_ f
    unfold wr; rw [if_neg he]; exact hp
theorem CellAt.ld {σ : St} {C : Nat → Prop} {it : It} {b o : Nat} {d : D} (h : CellAt σ C it b o d) : ∃ v, Rd σ C it v d ∧ ∀ K, rLd (pt b o) σ K = K v σ := by
  obtain ⟨vs, e, ck, v, g1, _, g3, g4⟩ := h.row
  exact ⟨v, g4, fun K => rLd_h g1 g3 K⟩
theorem pen_number {n : Nat} {σ : St} {w : Nat} {B : Nat → Prop} {st : PenS} {b o z : Nat} (h : Pen σ w B st) (hv : ∀ K, rLd (pt b o) σ K = K (.int .u64 (.ofNat z)) σ) (hz : z < 18446744073709551616) (hl : st.1.length + 8 ≤ LIM) {K : VK}
    (hK : ∀ v σ' B', Pen σ' w B' (wrN (beb 8 z) st) → Fr' B σ σ' B' → K v σ' = true) : (X most (n + 3)).C c_save_pen_number [pt w 0, pt b o] σ K = true := by
  rw [X_call (by rfl), f_save_pen_number]
  unfold r_save_pen_number
  rw [rNil_p, rFld_p, rNil_p, hv, Num_c [] z hz (by simp), List.nil_append]
  exact pen_write (n := n) h _ (by rw [beb_length]; exact hl) fun v σ' B' hp f => hK _ σ' B' hp f
theorem pen_kind {n : Nat} {σ : St} {w : Nat} {B : Nat → Prop} {st : PenS} {b o z : Nat} (h : Pen σ w B st) (hv : ∀ K, rLd (pt b o) σ K = K (.int .u8 (.ofNat z)) σ) (hz : z < 256) (hl : st.1.length + 1 ≤ LIM) {K : VK}
    (hK : ∀ v σ' B', Pen σ' w B' (wrN (beb 1 z) st) → Fr' B σ σ' B' → K v σ' = true) : (X most (n + 3)).C c_save_pen_kind [pt w 0, pt b o] σ K = true := by
  rw [X_call (by rfl), f_save_pen_kind]
  unfold r_save_pen_kind
  rw [rNil_p, rFld_p, rNil_p, hv, Byte_c [] z hz (by simp), List.nil_append]
  exact pen_write (n := n) h _ (by rw [beb_length]; exact hl) fun v σ' B' hp f => hK _ σ' B' hp f
theorem encText_le (t : List UInt8) : (encText t).1.length ≤ 2050 := by
  unfold encText
  by_cases h : 2048 < t.length
  · rw [if_pos h]; simp
  · rw [if_neg h, List.length_append, beb_length]; omega
theorem flatMap_beb (ns : List Nat) : (ns.flatMap (beb 8)).length = 8 * ns.length := by
  induction ns with
  | nil => rfl
  | cons z ns ih => rw [List.flatMap_cons, List.length_append, beb_length, ih, List.length_cons]; omega
theorem encNums_le (ns : List Nat) : (encNums ns).1.length ≤ 8194 := by
  unfold encNums
  by_cases h : 1024 < ns.length
  · rw [if_pos h]; simp
  · rw [if_neg h, List.length_append, beb_length, flatMap_beb]; omega
theorem pen_text {n : Nat} {σ : St} {w : Nat} {B : Nat → Prop} {st : PenS} {b o : Nat} {t : List UInt8} (h : Pen σ w B st) (hm : most ≠ 0) (hc : CellAt σ B .text b o (.s t)) (hl : st.1.length + 2050 ≤ LIM) {K : VK}
    (hK : ∀ v σ' B', Pen σ' w B' (wr (encText t) st) → Fr' B σ σ' B' → K v σ' = true) : (X most (n + 4)).C c_save_pen_text [pt w 0, pt b o] σ K = true := by
  rw [X_call (by rfl), f_save_pen_text]
  unfold r_save_pen_text
  obtain ⟨v, hv, hld⟩ := hc.ld
  obtain ⟨l, rfl, e, hlen⟩ := hv.text_inv
  injection e with e; subst e
  rw [rNil_p, hld, Text_c t hlen, rExt_t, nthK_z, rExt_t, nthK_s, nthK_z]
  exact pen_put (n := n) h hm (encText t) (by have := encText_le t; omega) fun v σ' B' hp f => hK _ σ' B' hp f
theorem pen_nums {n : Nat} {σ : St} {w : Nat} {B : Nat → Prop} {st : PenS} {b o : Nat} {ns : List Nat} (h : Pen σ w B st) (hm : 1024 < most) (hc : CellAt σ B .nums b o (.l (ns.map fun z : Nat => [.n (z : Int)]))) (hl : st.1.length + 8194 ≤ LIM) {K : VK}
    (hK : ∀ v σ' B', Pen σ' w B' (wr (encNums ns) st) → Fr' B σ σ' B' → K v σ' = true) : (X most (n + 4)).C c_save_pen_nums [pt w 0, pt b o] σ K = true := by
  rw [X_call (by rfl), f_save_pen_nums]
  unfold r_save_pen_nums
  obtain ⟨v, hv, hld⟩ := hc.ld
  have hv : Rd σ B (.list [.num]) v (.l (ns.map fun z : Nat => [.n (z : Int)])) := by cases hv with | nums h => exact h
  rw [rNil_p, hld]
  refine List_s (n := n) hv hm fun σ1 hx => ?_
  rw [rExt_t, nthK_z, rExt_t, nthK_s, nthK_z]
  have f1 := hx.fr B
  have h1 : Pen σ1 w B st := by
    obtain ⟨a, bf, g1, g2, g3⟩ := h.obj
    refine ⟨h.inB, fun i hi => Nat.lt_of_lt_of_le (h.lt i hi) hx.n, a, bf, by rw [hx.same w (h.lt w h.inB)]; exact g1, g2, ?_⟩
    rcases g3 with g3 | ⟨j, olds, k1, k2, k3, k4, k5⟩
    · exact .inl g3
    · exact .inr ⟨j, olds, k1, k2, k3, by rw [hx.same j (h.lt j k2)]; exact k4, k5⟩
  exact pen_put (n := n) h1 (by omega) (encNums ns) (by have := encNums_le ns; omega) fun v σ' B' hp f => hK _ σ' B' hp (f1.trans f)
/-- how many there are, as it is written -/
def encMany (n : Nat) : List UInt8 × Nat := if 1048576 < n then ([], 40) else (beb 8 n, 0)
def manyN (n : Nat) : Nat := if 1048576 < n then 0 else n
theorem wr_zero (l : List UInt8) (st : PenS) : wr (l, 0) st = wrN l st := by unfold wr wrN; by_cases h : st.2 = 0 <;> simp [h]
theorem pen_many {n : Nat} {σ : St} {w : Nat} {B : Nat → Prop} {st : PenS} {m : Nat} (h : Pen σ w B st) (hm : most ≠ 0) (hN : m ≤ 140737488355328) (hl : st.1.length + 8 ≤ LIM) {K : VK}
    (hK : ∀ σ' B', Pen σ' w B' (wr (encMany m) st) → Fr' B σ σ' B' → K (.int .i64 (.ofNat (manyN m))) σ' = true) : (X most (n + 4)).C c_save_pen_many [pt w 0, .int .i64 (.ofNat m)] σ K = true := by
  rw [X_call (by rfl), f_save_pen_many]
  unfold r_save_pen_many
  rw [rBin_gtrN, rIf_b]
  unfold encMany manyN at hK
  by_cases hb : 1048576 < m
  · rw [if_pos (by simpa using hb)]
    rw [if_pos hb, if_pos hb] at hK
    exact pen_put (n := n) h hm ([], 40) (by simp; omega) fun v σ' B' hp f => hK σ' B' hp f
  · rw [if_neg (by simpa using hb)]
    rw [if_neg hb, if_neg hb] at hK
    rw [rNil_p, rFld_p, rInt_i, wrap_u64 (by omega), Num_c [] m (by omega) (by simp), List.nil_append]
    exact pen_write (n := n + 1) h _ (by rw [beb_length]; exact hl) fun v σ' B' hp f => hK σ' B' (by rw [wr_zero]; exact hp) f
theorem pen_wrong {n : Nat} {σ : St} {w : Nat} {B : Nat → Prop} {st : PenS} (h : Pen σ w B st) (K : VK) : (X most (n + 1)).C c_save_pen_wrong [pt w 0] σ K = K (.int .i64 (.ofNat st.2)) σ := by
  rw [X_call (by rfl), f_save_pen_wrong]
  unfold r_save_pen_wrong
  rw [rNil_p, rFld_p, Nat.zero_add, pen_err h]
theorem Bld.new {σ : St} {w : Nat} {B : Nat → Prop} {bs : List UInt8} {t : TypeId} {rest : List Value} (h : Bld σ w B bs t rest) (o : AObj) : Bld (σ.new o) w B bs t rest := by
  obtain ⟨a, bf, g1, g2, g3⟩ := h.obj
  refine ⟨h.inB, fun i hi => Nat.lt_succ_of_lt (h.lt i hi), a, bf, by rw [obj_new_old (Nat.ne_of_lt (h.lt w h.inB))]; exact g1, g2, ?_⟩
  rcases g3 with g3 | ⟨j, olds, k1, k2, k3, k4, k5⟩
  · exact .inl g3
  · exact .inr ⟨j, olds, k1, k2, k3, by rw [obj_new_old (Nat.ne_of_lt (h.lt j k2))]; exact k4, k5⟩
theorem Bld.set {σ : St} {w : Nat} {B : Nat → Prop} {bs : List UInt8} {t : TypeId} {rest : List Value} (h : Bld σ w B bs t rest) (i : Nat) (hi : ¬ B i) (o : AObj) : Bld (σ.set i o) w B bs t rest := by
  obtain ⟨a, bf, g1, g2, g3⟩ := h.obj
  have hne : ∀ j, B j → j ≠ i := fun j hj e => hi (e ▸ hj)
  refine ⟨h.inB, h.lt, a, bf, by rw [obj_set_other (hne w h.inB)]; exact g1, g2, ?_⟩
  rcases g3 with g3 | ⟨j, olds, k1, k2, k3, k4, k5⟩
  · exact .inl g3
  · exact .inr ⟨j, olds, k1, k2, k3, by rw [obj_set_other (hne j k2)]; exact k4, k5⟩
/-- what is put into a row made meanwhile -/
theorem Fr'.set_new {B : Nat → Prop} {σ σ' : St} (f : Fr' B σ σ' B) {i : Nat} (hi : σ.n ≤ i) (o : AObj) : Fr' B σ (σ'.set i o) B :=
  ⟨f.n, fun j hj hb => by rw [obj_set_other (show j ≠ i by omega)]; exact f.same j hj hb, f.sub⟩
theorem pen_is {n : Nat} {σ : St} {w : Nat} {B : Nat → Prop} {st : PenS} {b o : Nat} {t : Bool} (h : Pen σ w B st) (hc : CellAt σ B .is b o (.b t)) (hl : st.1.length + 8 ≤ LIM) {K : VK}
    (hK : ∀ v σ' B', Pen σ' w B' (wrN (beb 8 (if t then 1 else 0)) st) → Fr' B σ σ' B' → K v σ' = true) : (X most (n + 4)).C c_save_pen_is [pt w 0, pt b o] σ K = true := by
  rw [X_call (by rfl), f_save_pen_is]
  unfold r_save_pen_is
  rw [rAlloc_h, rSt_exact obj_new_same (by simp) rfl, rNil_p]
  have hnB : ¬ B σ.n := fun hb => Nat.lt_irrefl _ (h.lt _ hb)
  have f1 : Fr' B σ ((σ.new (.cells [.int .u64 (.ofNat 0)] 56 .exact)).set σ.n (.cells [.int .u64 (.ofNat 0)] 56 .exact)) B := (Fr'.new B σ _).set_new (Nat.le_refl _) _
  have h1 : Pen ((σ.new (.cells [.int .u64 (.ofNat 0)] 56 .exact)).set σ.n (.cells [.int .u64 (.ofNat 0)] 56 .exact)) w B st := (h.new _).set _ hnB _
  obtain ⟨v, hv, hld⟩ := (hc.fr f1).ld
  obtain ⟨t', rfl, e⟩ := hv.is_inv
  injection e with e; subst e
  have hld' := hld
  rw [show ([Value.int .u64 (.ofNat 0)].set 0 (.int .u64 (.ofNat 0))) = [.int .u64 (.ofNat 0)] from rfl]
  rw [hld']
  cases t with
  | true =>
    rw [rIf_t, rSt_exact obj_set_same (by simp) rfl]
    refine pen_number (n := n) (z := 1) (h1.set _ hnB _) (fun K => rLd_h obj_set_same rfl K) (by omega) hl fun v σ' B' hp f => hK _ σ' B' hp ?_
    exact (f1.set_new (Nat.le_refl _) _).trans f
  | false =>
    rw [rIf_f]
    refine pen_number (n := n) (z := 0) h1 (fun K => rLd_h obj_set_same rfl K) (by omega) hl fun v σ' B' hp f => hK _ σ' B' hp (f1.trans f)
end Go.Am

namespace Go.Am
open Go.RowKit Go.MapKept Go.Proofs Go.Proofs.Rdr
variable {most : Nat}
def u64 (z : Int) : Nat := (z % 18446744073709551616).toNat
def numOf : List D → Nat
  | [.n z] => z.toNat
  | _ => 0
mutual
def enc : It → D → PenS → PenS
  | .num, .n z, st => wrN (beb 8 z.toNat) st
  | .kind, .n z, st => wrN (beb 1 z.toNat) st
  | .int, .n z, st => wrN (beb 8 (u64 z)) st
  | .is, .b t, st => wrN (beb 8 (if t then 1 else 0)) st
  | .text, .s t, st => wr (encText t) st
  | .nums, .l es, st => wr (encNums (es.map numOf)) st
  | .list its, .l es, st => if 1048576 < es.length then wr ([], 40) st else es.foldl (fun st ds => if st.2 = 0 then encs its ds st else st) (wrN (beb 8 es.length) st)
  | _, _, st => st
def encs : List It → List D → PenS → PenS
  | it :: its, d :: ds, st => encs its ds (enc it d st)
  | _, _, st => st
end
mutual
/-- how many bytes at most -/
def cost : It → D → Nat
  | .num, _ => 8
  | .kind, _ => 1
  | .int, _ => 8
  | .is, _ => 8
  | .text, _ => 2050
  | .nums, _ => 8194
  | .list its, .l es => es.foldl (fun c ds => c + costs its ds) 8
  | .list _, _ => 8
def costs : List It → List D → Nat
  | it :: its, d :: ds => cost it d + costs its ds
  | _, _ => 0
end
theorem foldl_cost {α : Type} (f : α → Nat) : ∀ (l : List α) (c : Nat), l.foldl (fun c x => c + f x) c = c + l.foldl (fun c x => c + f x) 0 := by
  intro l
  induction l with
  | nil => intro c; rfl
  | cons x l ih => intro c; rw [List.foldl_cons, List.foldl_cons, ih, ih (0 + f x)]; omega
mutual
theorem enc_len : ∀ (it : It) (d : D) (st : PenS), (enc it d st).1.length ≤ st.1.length + cost it d
  | .num, d, st => by cases d <;> simp [enc, wrN, cost, beb_length]
  | .kind, d, st => by cases d <;> simp [enc, wrN, cost, beb_length]
  | .int, d, st => by cases d <;> simp [enc, wrN, cost, beb_length]
  | .is, d, st => by cases d <;> simp [enc, wrN, cost, beb_length]
  | .text, d, st => by cases d <;> simp [enc, wr, cost, encText_le]
  | .nums, d, st => by cases d <;> simp [enc, wr, cost, encNums_le]
  | .list its, .n _, st => by simp [enc]
  | .list its, .b _, st => by simp [enc]
  | .list its, .s _, st => by simp [enc]
  | .list its, .l es, st => by
    simp only [enc, cost]
    split
    · simp [wr]
    · have key : ∀ (es : List (List D)) (st : PenS) (c : Nat), (es.foldl (fun st ds => if st.2 = 0 then encs its ds st else st) st).1.length + c ≤ st.1.length + es.foldl (fun c ds => c + costs its ds) c := by
        intro es
        induction es with
        | nil => intro st c; exact Nat.le_refl _
        | cons ds es ih =>
          intro st c
          rw [List.foldl_cons, List.foldl_cons]
          have h1 := ih (if st.2 = 0 then encs its ds st else st) (c + costs its ds)
          have h2 : (if st.2 = 0 then encs its ds st else st).1.length ≤ st.1.length + costs its ds := by
            split
            · exact encs_len its ds st
            · omega
          omega
      have := key es (wrN (beb 8 es.length) st) 8
      simp only [wrN, List.length_append, beb_length] at this ⊢
      omega
theorem encs_len : ∀ (its : List It) (ds : List D) (st : PenS), (encs its ds st).1.length ≤ st.1.length + costs its ds
  | [], _, st => by simp [encs]
  | _ :: _, [], st => by simp [encs]
  | it :: its, d :: ds, st => by
    simp only [encs, costs]
    have h1 := enc_len it d st
    have h2 := encs_len its ds (enc it d st)
    omega
end
theorem u64_lt (z : Int) : u64 z < 18446744073709551616 := by unfold u64; omega
theorem wrap_int_u64 (z : Int) : wrapI .u64 z = .ofNat (u64 z) := by
  rw [wrapI_eq, IntKind.wrap_u64]
  unfold u64
  show _ = (((z % 18446744073709551616).toNat : Nat) : Int)
  omega
theorem wrap_back {z : Int} (h1 : -9223372036854775808 ≤ z) (h2 : z < 9223372036854775808) : wrapI .i64 (.ofNat (u64 z)) = z := by
  rw [wrapI_eq, IntKind.wrap_i64]
  unfold u64
  show ((((z % 18446744073709551616).toNat : Nat) : Int) + 9223372036854775808) % 18446744073709551616 - 9223372036854775808 = z
  omega
/-- nothing has turned -/
theorem Bld.same {σ σ' : St} {w : Nat} {B : Nat → Prop} {bs : List UInt8} {t : TypeId} {rest : List Value} (h : Bld σ w B bs t rest) (hn : σ'.n = σ.n) (ho : ∀ j, σ'.obj j = σ.obj j) : Bld σ' w B bs t rest := by
  obtain ⟨a, bf, g1, g2, g3⟩ := h.obj
  refine ⟨h.inB, fun i hi => by rw [hn]; exact h.lt i hi, a, bf, by rw [ho]; exact g1, g2, ?_⟩
  rcases g3 with g3 | ⟨j, olds, k1, k2, k3, k4, k5⟩
  · exact .inl g3
  · exact .inr ⟨j, olds, k1, k2, k3, by rw [ho]; exact k4, k5⟩
theorem CellAt.st {σ : St} {C : Nat → Prop} {b o : Nat} {z : Int} (h : CellAt σ C .int b o (.n z)) : ∃ σ', σ'.n = σ.n ∧ (∀ j, σ'.obj j = σ.obj j) ∧ ∀ k : St → Bool, rSt 1 (pt b o) (.int .i64 z) σ k = k σ' := by
  obtain ⟨vs, e, ck, v, g1, g2, g3, g4⟩ := h.row
  obtain ⟨z', rfl, e', _⟩ := g4.int_inv
  injection e' with e'; subst e'
  rcases g2 with rfl | rfl | ⟨olds, rfl⟩
  · exact ⟨σ, rfl, fun _ => rfl, fun k => rSt_rs g1 g3 k⟩
  · have hlt := (List.getElem?_eq_some_iff.1 g3).1
    have hset : vs.set o (.int .i64 z) = vs := by
      apply List.ext_getElem?; intro j
      rw [List.getElem?_set]
      split
      · rename_i hj; subst hj; rw [g3]
      · rfl
    refine ⟨σ.set b (.cells vs e .exact), rfl, fun j => ?_, fun k => by rw [rSt_exact g1 hlt rfl, hset]⟩
    rw [obj_set]
    split
    · rename_i hj; subst hj; exact g1.symm
    · rfl
  · exact ⟨σ, rfl, fun _ => rfl, fun k => rSt_gr g1 g3 k⟩
theorem meth_number : methT PP 60 "consistory/save.number" = some c_save_pen_number := by kernel_rfl
theorem meth_kind : methT PP 60 "consistory/save.kind" = some c_save_pen_kind := by kernel_rfl
theorem meth_text : methT PP 60 "consistory/save.text" = some c_save_pen_text := by kernel_rfl
theorem meth_nums : methT PP 60 "consistory/save.nums" = some c_save_pen_nums := by kernel_rfl
theorem meth_many : methT PP 60 "consistory/save.many" = some c_save_pen_many := by kernel_rfl
theorem meth_is : methT PP 60 "consistory/save.is" = some c_save_pen_is := by kernel_rfl
theorem meth_wrong : methT PP 60 "consistory/save.wrong" = some c_save_pen_wrong := by kernel_rfl
def encI (ds : List D) (st : PenS) : PenS := ds.foldl (fun st d => enc .int d st) st
theorem whole_loop {n : Nat} {ps : List (Nat × Nat)} {ds : List D} {sb w : Nat} (hl : ps.length = ds.length) :
    ∀ (r i m : Nat) (σ : St) (B : Nat → Prop) (st : PenS) (K : VK), i + r = ds.length → r < m → Pen σ w B st → st.1.length + 8 * r ≤ LIM → sb < σ.n → ¬ B sb → σ.obj sb = some (.cells (ps.map fun p => pt p.1 p.2) 87 .exact) → ds.length < 1000000 →
      (∀ (k : Nat) (p : Nat × Nat) (d : D), ps[k]? = some p → ds[k]? = some d → CellAt σ B .int p.1 p.2 d) →
      (∀ v σ' B', Pen σ' w B' (encI (ds.drop i) st) → Fr' B σ σ' B' → K v σ' = true) →
      l_save_whole_rd (X most (n + 3)) m (hand w) (.slice (some ⟨sb, 0, none⟩) ds.length ds.length) (.int .i64 (.ofNat ds.length)) (.int .i64 (.ofNat i)) σ K = true := by
  intro r
  induction r with
  | zero =>
    intro i m σ B st K hi hm hp _ _ _ _ _ _ hK
    obtain ⟨m, rfl⟩ := Nat.exists_eq_succ_of_ne_zero (show m ≠ 0 by omega)
    rw [l_save_whole_rdE]
    unfold l_save_whole_rdB
    rw [rBin_lssN, rIf_b, if_neg (by simp; omega)]
    refine hK _ σ B ?_ (.refl B σ)
    rw [List.drop_of_length_le (by omega)]
    exact hp
  | succ r ih =>
    intro i m σ B st K hi hm hp hb hsn hsB hso hbig hc hK
    obtain ⟨m, rfl⟩ := Nat.exists_eq_succ_of_ne_zero (show m ≠ 0 by omega)
    rw [l_save_whole_rdE]
    unfold l_save_whole_rdB
    have hlt : i < ds.length := by omega
    rw [rBin_lssN, rIf_b, if_pos (by simp; omega), rIdx_n 1 sb 0 i _ _ hlt]
    have hp1 : ps[i]? = some (ps[i]'(by omega)) := List.getElem?_eq_getElem _
    have hd1 : ds[i]? = some ds[i] := List.getElem?_eq_getElem _
    rw [rLd_h hso (v := pt (ps[i]'(by omega)).1 (ps[i]'(by omega)).2) (by simp [hp1]), rNil_p]
    have hcell := hc i _ _ hp1 hd1
    obtain ⟨v, hv, hld⟩ := hcell.ld
    obtain ⟨z, rfl, ez, z1, z2⟩ := hv.int_inv
    rw [hld, rInt_i, wrap_int_u64, rAlloc_h, rSt_exact obj_new_same (by simp) rfl, rInv_i meth_number]
    have hnB : ¬ B σ.n := fun hb => Nat.lt_irrefl _ (hp.lt _ hb)
    have f1 : Fr' B σ ((σ.new (.cells [.int .u64 (.ofNat 0)] 56 .exact)).set σ.n (.cells [.int .u64 (.ofNat (u64 z))] 56 .exact)) B := (Fr'.new B σ _).set_new (Nat.le_refl _) _
    have h1 : Pen ((σ.new (.cells [.int .u64 (.ofNat 0)] 56 .exact)).set σ.n (.cells [.int .u64 (.ofNat (u64 z))] 56 .exact)) w B st := (hp.new _).set _ hnB _
    refine pen_number (n := n) (z := u64 z) h1 (fun K => rLd_h obj_set_same rfl K) (u64_lt z) (by omega) fun v σ1 B1 hp1' f2 => ?_
    have f := f1.trans f2
    have ho1 : σ1.obj σ.n = some (.cells [.int .u64 (.ofNat (u64 z))] 56 .exact) := by
      rw [f2.same σ.n (by rw [set_n, new_n]; omega) hnB, obj_set_same]
    rw [rLd_h ho1 rfl, rInt_i, wrap_back z1 z2, rNil_p]
    rw [ez] at hcell hd1
    obtain ⟨σ2, e1, e2, e3⟩ := (hcell.fr f).st
    rw [e3, rBin_add _ _ _ _ (by omega)]
    have f3 : Fr' B1 σ1 σ2 B1 := ⟨by omega, fun j _ _ => e2 j, fun _ h => .inl h⟩
    have ff := f.trans f3
    have hsB1 : ¬ B1 sb := fun h => by
      rcases f.sub _ h with h | h
      · exact hsB h
      · omega
    refine ih (i + 1) m σ2 B1 (wrN (beb 8 (u64 z)) st) K (by omega) (by omega) (hp1'.same e1 e2) (by show (st.1 ++ beb 8 (u64 z)).length + _ ≤ _; rw [List.length_append, beb_length]; omega) (by have := ff.n; omega) hsB1 (by rw [ff.same sb hsn hsB]; exact hso) hbig (fun k p d a b => (hc k p d a b).fr ff) fun v σ' B' hp' f' => ?_
    refine hK _ σ' B' ?_ (ff.trans f')
    rw [List.drop_eq_getElem_cons hlt]
    have e4 : ds[i] = .n z := by rw [List.getElem?_eq_getElem hlt] at hd1; injection hd1
    rw [e4]
    exact hp'
theorem whole_s {n : Nat} {ps : List (Nat × Nat)} {ds : List D} {sb w : Nat} {σ : St} {B : Nat → Prop} {st : PenS} {k : Nat} (hk : k = ds.length) (hl : ps.length = ds.length) (hm : ds.length < most) (hp : Pen σ w B st) (hb : st.1.length + 8 * ds.length ≤ LIM) (hsn : sb < σ.n) (hsB : ¬ B sb)
    (hso : σ.obj sb = some (.cells (ps.map fun p => pt p.1 p.2) 87 .exact)) (hbig : ds.length < 1000000) (hc : ∀ (k : Nat) (p : Nat × Nat) (d : D), ps[k]? = some p → ds[k]? = some d → CellAt σ B .int p.1 p.2 d) {K : VK}
    (hK : ∀ v σ' B', Pen σ' w B' (encI ds st) → Fr' B σ σ' B' → K v σ' = true) : (X most (n + 4)).C c_save_whole [hand w, .slice (some ⟨sb, 0, none⟩) k k] σ K = true := by
  subst hk
  rw [X_call (by rfl), f_save_whole]
  unfold r_save_whole
  rw [rLenS_s, X_most]
  exact whole_loop (n := n) hl ds.length 0 most σ B st K (by omega) hm hp hb hsn hsB hso hbig hc (by rw [List.drop_zero]; exact hK)
end Go.Am

namespace Go.Am
open Go.RowKit Go.MapKept Go.Proofs Go.Proofs.Rdr
variable {most : Nat}
/-- a pen that is at the j-th cell of a struct -/
structure G (σ : St) (w : Nat) (B : Nat → Prop) (st : PenS) (b o : Nat) (all : List It) (ds : List D) (j : Nat) (its : List It) (K : VK) : Prop where
  pen : Pen σ w B st
  stc : Stc σ B all b o ds
  lim : st.1.length + costs its (ds.drop j) ≤ LIM
  hK : ∀ v σ' B', Pen σ' w B' (encs its (ds.drop j) st) → Fr' B σ σ' B' → K v σ' = true
theorem G.next {σ σ' : St} {w : Nat} {B B' : Nat → Prop} {st : PenS} {b o : Nat} {all : List It} {ds : List D} {j : Nat} {it : It} {its : List It} {K : VK} {d : D}
    (g : G σ w B st b o all ds j (it :: its) K) (hd : ds[j]? = some d) (hp : Pen σ' w B' (enc it d st)) (f : Fr' B σ σ' B') : G σ' w B' (enc it d st) b o all ds (j + 1) its K := by
  have hlt := (List.getElem?_eq_some_iff.1 hd).1
  have e : ds.drop j = d :: ds.drop (j + 1) := by
    rw [List.drop_eq_getElem_cons hlt]; congr 1; exact (List.getElem?_eq_some_iff.1 hd).2
  refine ⟨hp, g.stc.fr f, ?_, fun v σ2 B2 hp2 f2 => g.hK v σ2 B2 ?_ (f.trans f2)⟩
  · have h1 := g.lim
    rw [e] at h1
    have h2 := enc_len it d st
    simp only [costs] at h1
    omega
  · rw [e]; exact hp2
theorem G.cost {σ : St} {w : Nat} {B : Nat → Prop} {st : PenS} {b o : Nat} {all : List It} {ds : List D} {j : Nat} {it : It} {its : List It} {K : VK} {d : D}
    (g : G σ w B st b o all ds j (it :: its) K) (hd : ds[j]? = some d) : st.1.length + cost it d ≤ LIM := by
  have hlt := (List.getElem?_eq_some_iff.1 hd).1
  have e : ds.drop j = d :: ds.drop (j + 1) := by
    rw [List.drop_eq_getElem_cons hlt]; congr 1; exact (List.getElem?_eq_some_iff.1 hd).2
  have h1 := g.lim
  rw [e] at h1
  simp only [costs] at h1
  omega
section
variable {n : Nat} {σ : St} {w : Nat} {B : Nat → Prop} {st : PenS} {b o : Nat} {all : List It} {ds : List D} {j : Nat} {its : List It} {K K0 : VK}
theorem G.fin (g : G σ w B st b o all ds j [] K) (v : Value) : K v σ = true := g.hK v σ B (by simpa [encs] using g.pen) (.refl B σ)
theorem step_number (_hm : 1024 < most) (g : G σ w B st b o all ds j (.num :: its) K) (hj : all[j]? = some .num) (next : ∀ v σ' B' st', G σ' w B' st' b o all ds (j + 1) its K → K0 v σ' = true) :
    (X most (n + 4)).C c_save_pen_number [pt w 0, pt b (o + j)] σ K0 = true := by
  obtain ⟨d, hd, hc⟩ := g.stc.cell j hj
  obtain ⟨v, hv, hld⟩ := hc.ld
  obtain ⟨z, rfl, rfl, hz⟩ := hv.num_inv
  exact pen_number (n := n + 1) g.pen hld hz (g.cost hd) fun v σ' B' hp f => next v σ' B' _ (g.next hd hp f)
theorem step_kind (_hm : 1024 < most) (g : G σ w B st b o all ds j (.kind :: its) K) (hj : all[j]? = some .kind) (next : ∀ v σ' B' st', G σ' w B' st' b o all ds (j + 1) its K → K0 v σ' = true) :
    (X most (n + 4)).C c_save_pen_kind [pt w 0, pt b (o + j)] σ K0 = true := by
  obtain ⟨d, hd, hc⟩ := g.stc.cell j hj
  obtain ⟨v, hv, hld⟩ := hc.ld
  obtain ⟨z, rfl, rfl, hz⟩ := hv.kind_inv
  exact pen_kind (n := n + 1) g.pen hld hz (g.cost hd) fun v σ' B' hp f => next v σ' B' _ (g.next hd hp f)
theorem step_text (hm : 1024 < most) (g : G σ w B st b o all ds j (.text :: its) K) (hj : all[j]? = some .text) (next : ∀ v σ' B' st', G σ' w B' st' b o all ds (j + 1) its K → K0 v σ' = true) :
    (X most (n + 4)).C c_save_pen_text [pt w 0, pt b (o + j)] σ K0 = true := by
  obtain ⟨d, hd, hc⟩ := g.stc.cell j hj
  obtain ⟨v, hv, hld⟩ := hc.ld
  obtain ⟨l, rfl, rfl, _⟩ := hv.text_inv
  exact pen_text (n := n) g.pen (by omega) hc (g.cost hd) fun v σ' B' hp f => next v σ' B' _ (g.next hd hp f)
theorem step_nums (hm : 1024 < most) (g : G σ w B st b o all ds j (.nums :: its) K) (hj : all[j]? = some .nums) (next : ∀ v σ' B' st', G σ' w B' st' b o all ds (j + 1) its K → K0 v σ' = true) :
    (X most (n + 4)).C c_save_pen_nums [pt w 0, pt b (o + j)] σ K0 = true := by
  obtain ⟨d, hd, hc⟩ := g.stc.cell j hj
  obtain ⟨v, hv, hld⟩ := hc.ld
  have hv' : ∃ es, d = .l es ∧ Rd σ B (.list [.num]) v (.l es) := by cases hv with | nums h => exact ⟨_, rfl, h⟩
  obtain ⟨es, rfl, hr⟩ := hv'
  obtain ⟨ns, rfl⟩ := nums_data hr
  have e : (ns.map fun z : Nat => [D.n (z : Int)]).map numOf = ns := by
    rw [List.map_map]
    have : (numOf ∘ fun z : Nat => [D.n (z : Int)]) = id := by funext z; rfl
    rw [this, List.map_id]
  refine pen_nums (n := n) g.pen hm hc (g.cost hd) fun v σ' B' hp f => next v σ' B' _ (g.next hd ?_ f)
  simpa [enc, e] using hp
theorem step_is (_hm : 1024 < most) (g : G σ w B st b o all ds j (.is :: its) K) (hj : all[j]? = some .is) (next : ∀ v σ' B' st', G σ' w B' st' b o all ds (j + 1) its K → K0 v σ' = true) :
    (X most (n + 4)).C c_save_pen_is [pt w 0, pt b (o + j)] σ K0 = true := by
  obtain ⟨d, hd, hc⟩ := g.stc.cell j hj
  obtain ⟨v, hv, hld⟩ := hc.ld
  obtain ⟨t, rfl, rfl⟩ := hv.is_inv
  exact pen_is (n := n) g.pen hc (g.cost hd) fun v σ' B' hp f => next v σ' B' _ (g.next hd hp f)
theorem encI_len : ∀ (el : List D) (st : PenS), (encI el st).1.length ≤ st.1.length + 8 * el.length := by
  intro el
  induction el with
  | nil => intro st; simp [encI]
  | cons d el ih =>
    intro st
    have h1 := ih (enc .int d st)
    have h2 := enc_len .int d st
    simp only [cost] at h2
    show (encI el (enc .int d st)).1.length ≤ _
    rw [List.length_cons]
    omega
/-- whole numbers, some cells of them -/
theorem step_whole (hm : 1024 < most) (k : Nat) (hk : k ≤ 100) (g : G σ w B st b o all ds j (List.replicate k .int ++ its) K) (hj : ∀ i, i < k → all[j + i]? = some .int) (next : ∀ v σ' B' st', G σ' w B' st' b o all ds (j + k) its K → K0 v σ' = true) :
    (X most (n + 4)).C c_save_whole [hand w, .slice (some ⟨σ.n, 0, none⟩) k k] (σ.new (.cells ((List.range k).map fun i => pt b (o + (j + i))) 87 .exact)) K0 = true := by
  have hall : ∀ i, i < k → ∃ d, ds[j + i]? = some d ∧ CellAt σ B .int b (o + (j + i)) d := fun i hi => g.stc.cell (j + i) (hj i hi)
  have hdl : j + k ≤ ds.length ∨ k = 0 := by
    rcases Nat.eq_zero_or_pos k with h | h
    · exact .inr h
    · obtain ⟨d, hd, _⟩ := hall (k - 1) (by omega)
      have := (List.getElem?_eq_some_iff.1 hd).1
      exact .inl (by omega)
  let el := (ds.drop j).take k
  have hel : el.length = k := by
    show ((ds.drop j).take k).length = k
    rw [List.length_take, List.length_drop]; omega
  have helg : ∀ i, i < k → el[i]? = ds[j + i]? := fun i hi => by
    show ((ds.drop j).take k)[i]? = _
    rw [List.getElem?_take, if_pos hi, List.getElem?_drop]
  have hnB : ¬ B σ.n := fun hb => Nat.lt_irrefl _ (g.pen.lt _ hb)
  have f1 : Fr' B σ (σ.new (.cells ((List.range k).map fun i => pt b (o + (j + i))) 87 .exact)) B := .new B σ _
  -- what the rest is
  have hrest : ∀ (i : Nat), i ≤ k → ∀ (st : PenS), encs (List.replicate (k - i) .int ++ its) (ds.drop (j + i)) st = encs its (ds.drop (j + k)) (encI (el.drop i) st) ∧ costs (List.replicate (k - i) .int ++ its) (ds.drop (j + i)) = 8 * (k - i) + costs its (ds.drop (j + k)) := by
    intro i hi
    generalize hr : k - i = r
    induction r generalizing i with
    | zero =>
      intro st
      have : i = k := by omega
      subst this
      have e0 : el.drop i = [] := List.drop_of_length_le (by omega)
      rw [e0]
      exact ⟨rfl, by simp⟩
    | succ r ih =>
      intro st
      obtain ⟨d, hd, _⟩ := hall i (by omega)
      have hlt := (List.getElem?_eq_some_iff.1 hd).1
      have e : ds.drop (j + i) = d :: ds.drop (j + (i + 1)) := by
        rw [List.drop_eq_getElem_cons hlt]; congr 1; exact (List.getElem?_eq_some_iff.1 hd).2
      have e2 : el.drop i = d :: el.drop (i + 1) := by
        have : el[i]? = some d := by rw [helg i (by omega)]; exact hd
        have hl2 := (List.getElem?_eq_some_iff.1 this).1
        rw [List.drop_eq_getElem_cons hl2]; congr 1; exact (List.getElem?_eq_some_iff.1 this).2
      obtain ⟨i1, i2⟩ := ih (i + 1) (by omega) (by omega) (enc .int d st)
      rw [e, e2]
      refine ⟨i1, ?_⟩
      show cost .int d + costs (List.replicate r .int ++ its) (ds.drop (j + (i + 1))) = _
      rw [i2]
      show 8 + _ = _
      omega
  obtain ⟨q1, q2⟩ := hrest 0 (by omega) st
  simp only [Nat.sub_zero, Nat.add_zero, List.drop_zero] at q1 q2
  have hlim := g.lim
  rw [q2] at hlim
  refine whole_s (n := n) (ps := (List.range k).map fun i => (b, o + (j + i))) (ds := el) (sb := σ.n) hel.symm (by simp [hel]) (by omega) (g.pen.new _) (by rw [hel]; omega) (by rw [new_n]; omega) hnB (by rw [obj_new_same, List.map_map]; rfl) (by omega) (fun i p d hp hd => ?_) fun v σ' B' hp f => ?_
  · have hi : i < k := by have := (List.getElem?_eq_some_iff.1 hd).1; omega
    rw [List.getElem?_map, List.getElem?_range hi] at hp
    injection hp with hp
    subst hp
    obtain ⟨d', hd', hc⟩ := hall i hi
    rw [helg i hi, hd'] at hd
    injection hd with hd
    subst hd
    exact hc.fr f1
  · refine next v σ' B' _ ⟨hp, g.stc.fr (f1.trans f), ?_, fun v2 σ2 B2 hp2 f2 => g.hK v2 σ2 B2 (by rw [q1]; exact hp2) ((f1.trans f).trans f2)⟩
    have hel2 : (encI el st).1.length ≤ st.1.length + 8 * el.length := encI_len el st
    rw [hel] at hel2
    omega
/-- a function that goes over a struct -/
def PenOk (most : Nat) (c : FuncId) (its : List It) (d : Nat) : Prop := ∀ (n : Nat) {σ : St} {w : Nat} {B : Nat → Prop} {st : PenS} {b o : Nat} {ds : List D} {K : VK}, G σ w B st b o its ds 0 its K → (X most (n + d)).C c [hand w, pt b o] σ K = true
/-- a function that goes over a list -/
def EachOk (most : Nat) (c one : FuncId) (its : List It) (d : Nat) : Prop := ∀ (n : Nat) {σ : St} {w : Nat} {B : Nat → Prop} {st : PenS} {b o : Nat} {es : List (List D)} {K : VK}, Pen σ w B st → CellAt σ B (.list its) b o (.l es) → st.1.length + cost (.list its) (.l es) ≤ LIM →
  (∀ v σ' B', Pen σ' w B' (enc (.list its) (.l es) st) → Fr' B σ σ' B' → K v σ' = true) → (X most (n + d)).C c [hand w, pt b o, .func (.func one) #[] #[]] σ K = true
theorem step_list {c one : FuncId} {d : Nat} {its' : List It} (he : EachOk most c one its' d) (g : G σ w B st b o all ds j (.list its' :: its) K) (hj : all[j]? = some (.list its')) (next : ∀ v σ' B' st', G σ' w B' st' b o all ds (j + 1) its K → K0 v σ' = true) :
    (X most (n + d)).C c [hand w, pt b (o + j), .func (.func one) #[] #[]] σ K0 = true := by
  obtain ⟨dd, hd, hc⟩ := g.stc.cell j hj
  obtain ⟨v, hv, hld⟩ := hc.ld
  obtain ⟨es, rfl⟩ := hv.list_inv
  exact he n g.pen hc (g.cost hd) fun v σ' B' hp f => next v σ' B' _ (g.next hd hp f)
theorem encs_append : ∀ (a b : List It) (ds : List D) (st : PenS), a.length ≤ ds.length → encs (a ++ b) ds st = encs b (ds.drop a.length) (encs a (ds.take a.length) st) ∧ costs (a ++ b) ds = costs a (ds.take a.length) + costs b (ds.drop a.length) := by
  intro a
  induction a with
  | nil => intro b ds st _; simp [encs, costs]
  | cons x a ih =>
    intro b ds st h
    cases ds with
    | nil => simp at h
    | cons d ds =>
      obtain ⟨i1, i2⟩ := ih b ds (enc x d st) (by simpa using h)
      refine ⟨by simpa [encs] using i1, ?_⟩
      simp only [List.cons_append, costs, List.length_cons, List.take_succ_cons, List.drop_succ_cons, i2]
      omega
/-- a struct in a struct -/
theorem step_sub {c : FuncId} {d : Nat} {its' : List It} (hf : PenOk most c its' d) (g : G σ w B st b o all ds j (its' ++ its) K) (hj : (all.drop j).take its'.length = its') (hle : j + its'.length ≤ all.length) (next : ∀ v σ' B' st', G σ' w B' st' b o all ds (j + its'.length) its K → K0 v σ' = true) :
    (X most (n + d)).C c [hand w, pt b (o + j)] σ K0 = true := by
  have hlen := g.stc.len
  obtain ⟨q1, q2⟩ := encs_append its' its (ds.drop j) st (by rw [List.length_drop]; omega)
  rw [List.drop_drop] at q1 q2
  have hlim := g.lim
  rw [q2] at hlim
  have hpart := g.stc.part j its'.length hle
  rw [hj] at hpart
  refine hf n ⟨g.pen, hpart, ?_, fun v σ' B' hp f => ?_⟩
  · rw [List.drop_zero]; omega
  · rw [List.drop_zero] at hp
    refine next v σ' B' _ ⟨hp, g.stc.fr f, ?_, fun v2 σ2 B2 hp2 f2 => g.hK v2 σ2 B2 (by rw [q1]; exact hp2) (f.trans f2)⟩
    have := encs_len its' ((ds.drop j).take its'.length) st
    omega
end
theorem rCallV_0 (call : CallT) (round : Nat → List Value → St → VK → Bool) (g : FuncId) (a : List Value) (σ : St) (K : VK) : rCallV call round (.func (.func g) #[] #[]) a σ K = call g a σ K := rCallV_f call round g a σ K
theorem bcase_t (a b : Bool) : bcase true a b = a := rfl
theorem rSame_v {v : Value} (h : sameV v v = true) (k : Bool) : rSame v v k = k := by unfold rSame; rw [h]
/-- cells that are laid one by one -/
def partsOf : List Value → Nat → List (Nat × Nat × Value)
  | [], _ => []
  | v :: vs, i => (i, 1, v) :: partsOf vs (i + 1)
theorem rFill_parts (k : List Value → Bool) : ∀ (vs : List Value) (pre : List Value) (z : Value), (∀ v ∈ vs, oneCell v = true) → rFill (partsOf vs pre.length) (pre ++ List.replicate vs.length z) k = k (pre ++ vs) := by
  intro vs
  induction vs with
  | nil => intro pre z _; simp [partsOf, rFill, lrec_nil]
  | cons v vs ih =>
    intro pre z h
    show cellsOfK v (fun new => lenK new fun m => match Nat.beq m 1 with
      | true => spliceK pre.length new (pre ++ List.replicate (vs.length + 1) z) fun cs => rFill (partsOf vs (pre.length + 1)) cs k
      | false => false) = _
    rw [cellsOf_one (h v (.head _)), lenK_eq]
    show spliceK pre.length [v] (pre ++ List.replicate (vs.length + 1) z) _ = _
    rw [spliceK_eq, if_pos (by simp)]
    have e : splice pre.length [v] (pre ++ List.replicate (vs.length + 1) z) = (pre ++ [v]) ++ List.replicate vs.length z := by
      unfold splice
      rw [List.replicate_succ]
      simp
    rw [e]
    have := ih (pre ++ [v]) z fun u hu => h u (.tail _ hu)
    rw [List.length_append] at this
    rw [List.append_assoc, List.singleton_append] at this
    have e2 : pre ++ v :: List.replicate vs.length z = pre ++ [v] ++ List.replicate vs.length z := by simp
    rw [← e2]
    simpa using this
theorem rep_flatten (z : Value) : ∀ (n : Nat) (acc : List Value) (k : List Value → Bool), (nrec (β := List Value → Bool) (fun acc => k acc) (fun _ ih acc => appK [z] acc ih) n) acc = k (List.replicate n z ++ acc) := by
  intro n
  induction n with
  | zero => intro acc k; rfl
  | succ n ih =>
    intro acc k
    show appK [z] acc _ = _
    rw [appK_eq]
    show (nrec (β := List Value → Bool) (fun acc => k acc) (fun _ ih acc => appK [z] acc ih) n) ([z] ++ acc) = _
    rw [ih]
    congr 1
    rw [← List.append_assoc, ← List.replicate_succ']
theorem rBuildS_ones (el : TypeId) (z : Value) (vs : List Value) (h : ∀ v ∈ vs, oneCell v = true) (σ : St) (K : VK) : rBuildS el vs.length [z] (partsOf vs 0) σ K = K (.slice (some ⟨σ.n, 0, none⟩) vs.length vs.length) (σ.new (.cells vs el .exact)) := by
  unfold rBuildS repK
  rw [rep_flatten]
  have := rFill_parts (fun cs => newK σ (.cells cs el .exact) fun i σ => K (.slice (some ⟨i, 0, none⟩) vs.length vs.length) σ) vs [] z h
  rw [List.append_nil]
  refine Eq.trans this ?_
  rw [newK_eq]
  rfl
end Go.Am
