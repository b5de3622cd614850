/- save: Decode, at open bytes. -/
import Derived.Test.YtbockfpeohfphaaSeb
import Derived.Test.YtbockfpeohfphaaSpc
import Derived.Test.YtbockfpeohfphaaSqa
import Derived.Test.YtbockfpeohfphaaSxa
import Derived.Test.YtbockfpeohfphaaAmd

namespace Go.Am
open Go.RowKit Go.MapKept Go.Proofs Go.Proofs.Rdr
variable {most : Nat}
/-- what is read at the end -/
def rdE (st : RS) : RS := if st.2 ≠ 0 then st else if st.1 = [] then ([], 0) else ([], 10)
theorem endP_eq (st : RS) (h0 : st.2 = 0) (ok : Value → List UInt8 → Bool) (no : Int → Bool) : endP st.1 st.1.length ok no = if (rdE st).2 = 0 then ok (.bool true) (rdE st).1 else no (.ofNat (rdE st).2) := by
  unfold endP rdE
  have e0 : ¬ st.2 ≠ 0 := by simp [h0]
  simp only [if_neg e0]
  cases hl : st.1 with
  | nil => simp
  | cons a l => simp
theorem End_s {n : Nat} {σ : St} {W : Nat → Prop} {rr : Nat} {st : RS} {K : VK} (h : Eye σ W rr st) (hK : ∀ σ', Eye σ' W rr (rdE st) → Fr' W σ σ' W → K (.int .i64 (.ofNat (rdE st).2)) σ' = true) :
    (X most (n + 2)).C c_wire_Reader_End [pt rr 0] σ K = true := by
  rw [X_call (by rfl), f_wire_Reader_End]
  unfold r_wire_Reader_End
  rw [X_ov (show ovS1 c_wire_read_bool = some (ovRd c_wire_Reader_End_1 (.bool false) endP) from by kernel_rfl)]
  show ovRd c_wire_Reader_End_1 (.bool false) endP [pt rr 0, .func (.func c_wire_Reader_End_1) ⟨[]⟩ ⟨[]⟩] σ _ = true
  unfold ovRd
  simp only []
  refine rdK_s h (v := .bool (decide ((rdE st).2 = 0))) (st' := rdE st) (fun he => ?_) (fun h0 ok no => ?_) (fun hz => by rw [decide_eq_false hz]) (fun h0 hz => ?_) ?_ fun σ' h1 f => ?_
  · have : rdE st = st := by unfold rdE; rw [if_pos he]
    rw [this, decide_eq_false he]; exact ⟨rfl, rfl⟩
  · rw [endP_eq st h0]
    by_cases hz : (rdE st).2 = 0
    · rw [if_pos hz, if_pos hz, decide_eq_true hz]
    · rw [if_neg hz, if_neg hz]
  · unfold rdE at hz ⊢
    have e0 : ¬ st.2 ≠ 0 := by simp [h0]
    rw [if_neg e0] at hz ⊢
    split <;> rfl
  · unfold rdE
    split
    · exact Nat.le_refl _
    · split <;> simp
  · exact hK σ' h1 f
def zeroD : It → D
  | .num => .n 0
  | .kind => .n 0
  | .int => .n 0
  | .is => .b false
  | .text => .s []
  | .nums => .l []
  | .list _ => .l []
theorem zero_rd (σ : St) (C : Nat → Prop) (it : It) : Rd σ C it (zeroI it) (zeroD it) := by
  cases it with
  | num => exact .num (z := 0) (by omega)
  | kind => exact .kind (z := 0) (by omega)
  | int => exact .int (by decide) (by decide)
  | is => exact .is
  | text => exact .text (by simp)
  | nums => exact .nums .empty
  | list its => exact .empty
theorem zero_rda (σ : St) (C : Nat → Prop) (its : List It) : RdA σ C its (its.map zeroI) (its.map zeroD) := by
  refine ⟨by simp, by simp, fun j it v d a b c => ?_⟩
  rw [List.getElem?_map, a] at b c
  injection b with b; injection c with c
  subst b c
  exact zero_rd σ C it
/-- the state of bytes; an error -/
def decode (l : List UInt8) : List D × Nat := if (rdE (decs itsAll (l, 0)).2).2 = 0 then ((decs itsAll (l, 0)).1, 0) else (itsAll.map zeroD, (rdE (decs itsAll (l, 0)).2).2)
theorem rSt_one {σ : St} {i : Nat} {u v : Value} {e : TypeId} (h : σ.obj i = some (.cells [u] e .exact)) (h1 : oneCell v = true) (k : St → Bool) : rSt 1 (pt i 0) (.agg ⟨[v]⟩) σ k = k (σ.set i (.cells [v] e .exact)) :=
  rSt_all (cs := [v]) h rfl (by simp [h1]) 1 rfl k
/-- the zeros of a state -/
def zs30 : List Value := itsAll.map zeroI
theorem zeros_all : ([(.int .i64 (.ofNat 0)), (.slice none 0 0), (.int .i64 (.ofNat 0)), (.string ⟨⟨[]⟩⟩), (.bool false), (.int .i64 (.ofNat 0)), (.int .i64 (.ofNat 0)), (.int .i64 (.ofNat 0)), (.int .i64 (.ofNat 0)), (.int .i64 (.ofNat 0)), (.int .i64 (.ofNat 0)), (.int .i64 (.ofNat 0)), (.string ⟨⟨[]⟩⟩), (.string ⟨⟨[]⟩⟩), (.int .i64 (.ofNat 0)), (.int .i64 (.ofNat 0)), (.bool false), (.bool false), (.string ⟨⟨[]⟩⟩), (.slice none 0 0), (.slice none 0 0), (.slice none 0 0), (.slice none 0 0), (.slice none 0 0), (.slice none 0 0), (.bool false), (.slice none 0 0), (.slice none 0 0), (.slice none 0 0), (.slice none 0 0)] : List Value) = zs30 := rfl
theorem zs30_len : zs30.length = 30 := rfl
theorem zs30_one : zs30.all oneCell = true := rfl
theorem rBuild_none (z : List Value) (K : Value → Bool) : rBuild z [] K = K (.agg ⟨z⟩) := rfl
theorem Decode_s (hM : 1048576 < most) {n : Nat} {σ : St} {l : List UInt8} (hl : l.length < 9223372036854775808) {K : VK}
    (hK : ∀ σ' cs, Ext' σ σ' → RdA σ' (fun _ => False) itsAll cs (decode l).1 → K (.tuple ⟨[.agg ⟨cs⟩, .int .i64 (.ofNat (decode l).2)]⟩) σ' = true) : (X most (n + 10)).C c_save_Decode [.string ⟨⟨l⟩⟩] σ K = true := by
  rw [X_call (by rfl), f_save_Decode]
  unfold r_save_Decode
  rw [zeros_all, rAlloc_h]
  let σ1 := σ.new (.cells zs30 34 .exact)
  have hop : ∀ (σ : St) (K : VK), (X most (n + 9)).C c_wire_Open [.string ⟨⟨l⟩⟩] σ K = K (pt σ.n 0) (σ.new (.cells [.string ⟨⟨l⟩⟩, .int .i64 (.ofNat 0)] 109 .exact)) := fun σ K => by
    rw [X_call (by rfl), f_wire_Open]
    unfold r_wire_Open
    have hb : ∀ K : Value → Bool, rBuild [.string ⟨⟨[]⟩⟩, .int .i64 (.ofNat 0)] [(0, 1, .string ⟨⟨l⟩⟩)] K = K (.agg ⟨[.string ⟨⟨l⟩⟩, .int .i64 (.ofNat 0)]⟩) := fun K => rfl
    rw [hb, boxK_agg rfl]
  rw [hop]
  have hb : ∀ (a : Value) (K : Value → Bool), oneCell a = true → rBuild [.pointer none] [(0, 1, a)] K = K (.agg ⟨[a]⟩) := fun a K ha => by
    show cellsOfK a (fun new => lenK new fun m => match Nat.beq m 1 with | true => spliceK 0 new [.pointer none] (fun cs => K (.agg ⟨cs⟩)) | false => false) = _
    rw [cellsOf_one ha]
    rfl
  rw [hb _ _ rfl, rAlloc_h, rSt_one obj_new_same rfl, rAlloc_h]
  let σ2 := σ1.new (.cells [.string ⟨⟨l⟩⟩, .int .i64 (.ofNat 0)] 109 .exact)
  let σ3 := (σ2.new (.cells [.pointer none] 73 .exact)).set σ2.n (.cells [pt σ1.n 0] 73 .exact)
  let σ4 := σ3.new (.cells zs30 34 .exact)
  have n1 : σ1.n = σ.n + 1 := rfl
  have n2 : σ2.n = σ.n + 2 := rfl
  have n3 : σ3.n = σ.n + 3 := rfl
  have n4 : σ4.n = σ.n + 4 := rfl
  have o3 : σ4.obj σ2.n = some (.cells [pt σ1.n 0] 73 .exact) := by
    show (σ3.new _).obj σ2.n = _
    rw [obj_new_old (by omega)]; exact obj_set_same
  have o1 : σ4.obj σ.n = some (.cells zs30 34 .exact) := by
    show (σ3.new _).obj σ.n = _
    rw [obj_new_old (by omega)]
    show ((σ2.new _).set σ2.n _).obj σ.n = _
    rw [obj_set_other (by omega), obj_new_old (by omega)]
    show (σ1.new _).obj σ.n = _
    rw [obj_new_old (by omega)]
    exact obj_new_same
  have o2 : σ4.obj σ1.n = some (.cells [.string ⟨⟨l⟩⟩, .int .i64 (.ofNat 0)] 109 .exact) := by
    show (σ3.new _).obj σ1.n = _
    rw [obj_new_old (by omega)]
    show ((σ2.new _).set σ2.n _).obj σ1.n = _
    rw [obj_set_other (by omega), obj_new_old (by omega)]
    exact obj_new_same
  have x4 : Ext' σ σ4 := ⟨by omega, fun i hi => by
    show (σ3.new _).obj i = _
    rw [obj_new_old (by omega)]
    show ((σ2.new _).set σ2.n _).obj i = _
    rw [obj_set_other (by omega), obj_new_old (by omega)]
    show (σ1.new _).obj i = _
    rw [obj_new_old (by omega)]
    exact obj_new_old (by omega)⟩
  let W : Nat → Prop := fun i => i = σ1.n ∨ i = σ3.n
  let C : Nat → Prop := fun i => W i ∨ i = σ.n
  have e4 : Eye σ4 W σ1.n (l, 0) := ⟨.inl rfl, fun i hi => by rcases hi with h | h <;> omega, o2, hl⟩
  have w4 : Own σ4 W σ1.n σ3.n 34 false zs30 := ⟨.inr rfl, by omega, .exact, obj_new_same, rfl⟩
  have hC4 : ∀ i, C i → i < σ4.n := fun i hi => by
    rcases hi with h | h
    · exact e4.lt i h
    · omega
  show (rLdN 1 (pt σ2.n 0) σ4 fun v5 σ => (X most (n + 9)).C c_save_all [.iface 73 v5, pt σ3.n 0] σ _) = true
  rw [rLdN_h o3 (by simp)]
  refine eye_all' hM n (W := W) (C := C) (b := σ3.n) (o := 0) (gr := false) ⟨e4, w4, fun _ h => .inl h, hC4, by rw [zs30_len]; exact Nat.le_refl 30, rfl, Nat.zero_le _, rfl, fun k it v d _ _ c => by simp at c, fun k it _ a => by unfold zs30; rw [Nat.zero_add, List.getElem?_map, a]; rfl, fun v σ5 vs o5 l5 _ n5 r5 e5 f5 => ?_⟩
  simp only [List.nil_append] at n5 r5
  have x5 : Ext' σ σ5 := f5.ext x4 fun i hi => by rcases hi with h | h <;> omega
  have hW2 : ∀ i, i < σ4.n → i ≠ σ1.n → i ≠ σ3.n → σ5.obj i = σ4.obj i := fun i hi h1 h2 => f5.same i hi (fun c => by rcases c with c | c <;> contradiction)
  rw [rFld_p, Nat.zero_add]
  show rLd (pt σ2.n 0) σ5 _ = true
  rw [rLd_h ((hW2 σ2.n (by omega) (by omega) (by omega)).trans o3) rfl]
  refine End_s (n := n + 7) e5.self fun σ6 e6 f6 => ?_
  have x6 : Ext' σ σ6 := f6.ext x5 fun i hi => by omega
  have q5 := f5.n
  have q6 := f6.n
  have hv0 : σ6.obj σ.n = some (.cells zs30 34 .exact) := by
    rw [f6.same σ.n (by omega) (by show ¬ σ.n = σ1.n; omega), hW2 σ.n (by omega) (by omega) (by omega)]; exact o1
  obtain ⟨ck, p1, p2⟩ := o5.obj
  have p2 : ck = .exact := p2
  subst p2
  have hv4 : σ6.obj σ3.n = some (.cells vs 34 .exact) := by
    rw [f6.same σ3.n (by omega) (by show ¬ σ3.n = σ1.n; omega)]; exact p1
  have hvl : vs.length = 30 := by rw [l5, zs30_len]
  rw [rBin_neqN]
  have hfin : ∀ (cs : List Value) (ds : List D), RdA σ6 C itsAll cs ds → RdA (σ6.set σ.n (.cells cs 34 .exact)) (fun _ => False) itsAll cs ds ∧ Ext' σ (σ6.set σ.n (.cells cs 34 .exact)) := fun cs ds h =>
    ⟨h.fr ⟨Nat.le_refl _, fun i _ hi => obj_set_other fun c => hi (.inr c), fun _ h => h.elim⟩, ⟨x6.n, fun i hi => by rw [obj_set_other (by omega)]; exact x6.same i hi⟩⟩
  unfold decode at hK
  by_cases he : (rdE (decs itsAll (l, 0)).2).2 = 0
  · rw [decide_eq_true he]
    show rIf (.bool false) _ _ = true
    rw [rIf_f]
    rw [if_pos he] at hK
    have hra : RdA σ6 C itsAll vs (decs itsAll (l, 0)).1 :=
      ⟨by rw [hvl]; rfl, by rw [n5], fun k it v d a b c => (r5 k it v d a (by rw [Nat.zero_add]; exact b) c).fr (f6.up fun i hi => .inl (.inl hi))⟩
    show rLdN 30 (pt σ3.n 0) σ6 _ = true
    rw [rLdN_h hv4 (by omega), List.drop_zero, List.take_of_length_le (by omega), rSt_all hv0 (by rw [hvl, zs30_len]) (List.all_eq_true.2 hra.one) 30 hvl.symm, rLdN_h obj_set_same (by omega), List.drop_zero, List.take_of_length_le (by omega)]
    obtain ⟨a1, a2⟩ := hfin vs _ hra
    exact hK _ vs a2 a1
  · rw [decide_eq_false he]
    show rIf (.bool true) _ _ = true
    rw [rIf_t]
    rw [if_neg he] at hK
    rw [rBuild_none]
    have h30 : zs30.length = 30 := zs30_len
    have h1c : zs30.all oneCell = true := zs30_one
    rw [rSt_all (cs := zs30) hv0 (by rw [h30]) h1c 30 h30.symm, rLdN_h obj_set_same (by omega), List.drop_zero, List.take_of_length_le (by omega)]
    obtain ⟨a1, a2⟩ := hfin zs30 (itsAll.map zeroD) (zero_rda σ6 C itsAll)
    have hk := hK _ zs30 a2 (by simp only; exact a1)
    simp only at hk
    exact hk
end Go.Am

namespace Go.Am
open Go.RowKit Go.MapKept Go.Proofs Go.Proofs.Rdr
variable {most : Nat}
theorem awakeX_c {n : Nat} (σ : St) (K : VK) : (X most (n + 1)).C c_law25_awake [] σ K = K (.bool true) σ := (X_ov (by rfl) [] σ K).trans rfl
theorem rBin_eqlS {P : Program} (t : TypeId) (a b : List UInt8) (K : Value → Bool) : rBin P .eql t (.string ⟨⟨a⟩⟩) (.string ⟨⟨b⟩⟩) K = K (.bool (decide (a = b))) := by
  rw [rBin_eq]
  show boolK (eqL8 a b) K = _
  rw [boolK_eq, eqL8_eq]
  congr 2
  by_cases h : a = b
  · subst h; simp
  · rw [decide_eq_false h]; simpa using h
theorem rBin_neqS {P : Program} (t : TypeId) (a b : List UInt8) (K : Value → Bool) : rBin P .neq t (.string ⟨⟨a⟩⟩) (.string ⟨⟨b⟩⟩) K = K (.bool (!decide (a = b))) := by
  rw [rBin_eq]
  show boolK (!eqL8 a b) K = _
  rw [boolK_eq, eqL8_eq]
  congr 3
  by_cases h : a = b
  · subst h; simp
  · rw [decide_eq_false h]; simpa using h
theorem rBin_rem64 {P : Program} (t : TypeId) (a b : Nat) (hb : b ≠ 0) (K : Value → Bool) : rBin P .rem t (.int .u64 (.ofNat a)) (.int .u64 (.ofNat b)) K = K (.int .u64 (.ofNat (a % b))) := by
  rw [rBin_i _ _ _ _ _ _ (by simp) (by simp)]
  show (match eqI (.ofNat b) 0 with | true => false | false => forceI (Int.tmod (.ofNat a) (.ofNat b)) fun n => K (.int .u64 n)) = _
  rw [eq_zero_i, decide_eq_false hb]
  simp only
  rw [forceI_eq]
  rfl
/-- a beginning of a text -/
theorem sliceK_take {P : Program} {t : TypeId} (ht : P.underlying t = some .string) (l : List UInt8) (m : Nat) (hm : m ≤ l.length) (j : IntKind) (σ : St) (K : Value → Bool) : sliceK P t (.string ⟨⟨l⟩⟩) none (some (.int j (.ofNat m))) none σ K = K (.string ⟨⟨l.take m⟩⟩) := by
  unfold sliceK
  simp only [ht]
  rw [lenK_eq]
  unfold boundsK bndK
  simp only [ble_t hm, ble_t (Nat.le_refl l.length), ble_t (Nat.zero_le m)]
  rw [takeK_eq, if_pos hm, dropK_eq, if_pos (Nat.zero_le _), List.drop_zero]
theorem rGuard_tu (op : VK → Bool) (σ : St) (k : VK) : rGuard true undef op σ k = k undef σ := rfl
theorem und9 : PP.underlying 9 = some .string := by kernel_rfl
theorem encode_ok {ds : List D} (e : (encode ds).2 = 0) : (encs itsAll ds ([], 0)).2 = 0 ∧ (encode ds).1 = (encs itsAll ds ([], 0)).1 := by
  unfold encode at e ⊢
  by_cases a : (encs itsAll ds ([], 0)).2 = 0
  · simp only [if_pos a] at e ⊢; exact ⟨a, trivial⟩
  · simp only [if_neg a] at e; exact absurd e a
theorem decode_short {ds : List D} (w : WFs itsAll ds) (e : (encode ds).2 = 0) {p q : List UInt8} (h : (encode ds).1 = p ++ q) (hq : q ≠ []) : (decode p).2 = 8 := by
  obtain ⟨e1, e2⟩ := encode_ok e
  rw [e2] at h
  have := shrts_of itsAll (fun it _ => shrt_it it) ds w e1 p q h hq
  have hr : rdE (decs itsAll (p, 0)).2 = (decs itsAll (p, 0)).2 := by unfold rdE; rw [if_pos (by rw [this]; decide)]
  unfold decode
  rw [hr, this]
  rfl
theorem rdE_end (r : List UInt8) : rdE (r, 0) = if r = [] then ([], 0) else ([], 10) := by unfold rdE; simp
theorem decode_of {l r : List UInt8} {ds : List D} (h : decs itsAll (l, 0) = (ds, r, 0)) : (r = [] → decode l = (ds, 0)) ∧ (r ≠ [] → decode l = (itsAll.map zeroD, 10)) := by
  refine ⟨fun hr => ?_, fun hr => ?_⟩
  · unfold decode; rw [h]; simp only [rdE_end, if_pos hr, if_true]
  · unfold decode; rw [h]; simp only [rdE_end, if_neg hr]; rw [if_neg (by decide)]
theorem decode_enc {ds : List D} (w : WFs itsAll ds) (e : (encode ds).2 = 0) (r : List UInt8) : (r = [] → decode ((encode ds).1 ++ r) = (ds, 0)) ∧ (r ≠ [] → decode ((encode ds).1 ++ r) = (itsAll.map zeroD, 10)) := by
  obtain ⟨e1, e2⟩ := encode_ok e
  rw [e2]
  exact decode_of (readss_of itsAll (fun it _ => reads_it it) ds w e1 r)
theorem encode_pos {ds : List D} (w : WFs itsAll ds) (e : (encode ds).2 = 0) : 0 < (encode ds).1.length := by
  obtain ⟨e1, e2⟩ := encode_ok e
  rw [e2]
  match ds, w with
  | d :: ds, w =>
    obtain ⟨a1, a2, a3⟩ := two (f := enc .int d) (encs_app itsAll.tail ds) (encs_keeps itsAll.tail ds) (show (encs itsAll.tail ds (enc .int d ([], 0))).2 = 0 from e1)
    have h1 := w.2 0 .int d rfl rfl
    cases h1 with | @int z _ _ =>
    show 0 < (encs itsAll.tail ds (enc .int (.n z) ([], 0))).1.length
    rw [a3, List.length_append]
    simp only [enc, wrN, List.nil_append, beb_length]
    omega
theorem encode_len {ds : List D} (h : costs itsAll ds ≤ LIM) : (encode ds).1.length ≤ LIM := by
  unfold encode
  have := encs_len itsAll ds ([], 0)
  simp only
  split
  · show (encs itsAll ds ([], 0)).1.length ≤ LIM
    simp at this; omega
  · simp
theorem SaveWhole_s (hM : 140737488355328 < most) {n : Nat} {σ : St} {cs : List Value} {ds : List D} {k : Int} {more : List UInt8} (h : RdA σ (fun _ => False) itsAll cs ds) (hmore : more.length ≤ 140737488355328) {K : VK}
    (hK : ∀ σ', K (.bool true) σ' = true) : (X most (n + 11)).C c_law25_SaveWhole [.agg ⟨cs⟩, .int .i64 k, .string ⟨⟨more⟩⟩] σ K = true := by
  rw [X_call (by rfl), f_law25_SaveWhole]
  unfold r_law25_SaveWhole
  have l30 : cs.length = 30 := h.len
  rw [boxK_agg (List.all_eq_true.2 h.one), rLdN_h obj_new_same (by omega), List.drop_zero, List.take_of_length_le (by omega)]
  have x1 := Ext'.new σ (.cells cs 34 .exact)
  have lt1 : σ.n < (σ.new (.cells cs 34 .exact)).n := Nat.lt_succ_self _
  have o1 : (σ.new (.cells cs 34 .exact)).obj σ.n = some (.cells cs 34 .exact) := obj_new_same
  revert x1 lt1 o1
  generalize (σ.new (.cells cs 34 .exact)) = σ1
  intro x1 lt1 o1
  have again : ∀ (σ' : St), Ext' σ1 σ' → ∀ K, rLdN 30 (pt σ.n 0) σ' K = K (.agg ⟨cs⟩) σ' := fun σ' hx K => by
    rw [rLdN_h (by rw [hx.same _ lt1]; exact o1) (by omega), List.drop_zero, List.take_of_length_le (by omega)]
  have h1 := h.fr (x1.fr _)
  refine large_s (n := n + 7) hM h1 fun σ2 x2 => ?_
  have hnot : ∀ k : Value → Bool, unK .not (.bool true) k = k (.bool false) := fun k => rfl
  by_cases hl : 9000 ≤ largeN ds
  · rw [decide_eq_true hl]
    simp only [rGuard_ft, rPick_t, rIf_t, awakeX_c]
    exact hK _
  · rw [decide_eq_false hl]
    simp only [rGuard_ff, rPick_f, rLenT_s]
    rw [rBin_gtrN]
    by_cases hm : 3000 < more.length
    · rw [decide_eq_true hm]
      simp only [rGuard_ft, rPick_t, rIf_t, awakeX_c]
      exact hK _
    · rw [decide_eq_false hm]
      simp only [rGuard_ff, rPick_f, awakeX_c, hnot, rIf_f]
      have hl' : largeN ds < 9000 := by omega
      have h2 := h1.fr (x2.fr _)
      have hc := small h2 hl'
      rw [again σ2 x2]
      refine Encode_s (by omega) (n := n) h2 hc fun σ3 x3 => ?_
      rw [rExt_t, nthK_z, rExt_t, nthK_s, nthK_z, rBin_neqN]
      by_cases he : (encode ds).2 = 0
      · rw [decide_eq_true he]
        show rIf (.bool false) _ _ = true
        have hw := h2.wfs
        have hpos := encode_pos hw he
        have hlen := encode_len hc
        have hLIM : LIM = 274877906944 := rfl
        rw [rIf_f, rInt_i, wrap_int_u64, rLenT_s, rInt_i, wrap_u64 (by omega), rBin_rem64 _ _ _ (by omega), rInt_i]
        have hlt : u64 k % (encode ds).1.length < (encode ds).1.length := Nat.mod_lt _ hpos
        rw [wrapI_nat (by omega), sliceK_take und9 _ _ (by omega)]
        refine Decode_s (by omega) (n := n) (by rw [List.length_take]; omega) fun σ4 cs4 x4 r4 => ?_
        have e4 : (decode ((encode ds).1.take (u64 k % (encode ds).1.length))).2 = 8 := decode_short hw he (q := (encode ds).1.drop (u64 k % (encode ds).1.length)) (List.take_append_drop _ _).symm (by
          intro c
          have := congrArg List.length c
          rw [List.length_drop, List.length_nil] at this
          omega)
        have l4 : cs4.length = 30 := r4.len
        rw [e4, rExt_t, nthK_z, rExt_t, nthK_s, nthK_z, zeros_all, rAlloc_h, rSt_all obj_new_same (by rw [l4, zs30_len]) (List.all_eq_true.2 r4.one) 30 l4.symm, rBin_cat _ _ _ _ (by omega)]
        refine Decode_s (by omega) (n := n) (by rw [List.length_append]; omega) fun σ5 cs5 x5 r5 => ?_
        have l5 : cs5.length = 30 := r5.len
        rw [rExt_t, nthK_z, rExt_t, nthK_s, nthK_z, rAlloc_h, rSt_all obj_new_same (by rw [l5, zs30_len]) (List.all_eq_true.2 r5.one) 30 l5.symm, rBin_eqlN, decide_eq_true rfl]
        simp only [rGuard_tt]
        rw [rBin_eqlS]
        have e5 := decode_enc hw he more
        by_cases hmo : more = []
        · rw [e5.1 hmo, decide_eq_true hmo]
          simp only [rGuard_tt, rBin_eqlN, decide_true, rPick_t, rGuard_ft, rGuard_tu]
          exact hK _
        · rw [e5.2 hmo, decide_eq_false hmo]
          simp only [rGuard_tt, rGuard_tf, rPick_f, rGuard_ff, rBin_neqS, decide_eq_false hmo, Bool.not_false, rBin_eqlN, decide_true, rPick_t]
          exact hK _
      · rw [decide_eq_false he]
        show rIf (.bool true) _ _ = true
        rw [rIf_t]
        exact hK _
end Go.Am

namespace Go.Am
open Go.RowKit Go.MapKept Go.Proofs Go.Proofs.Rdr
theorem Lay.none {P : Program} {w : World} (hsz : P.globals.size ≤ w.heap.size) : Lay P w (Rn.globals P.globals.size) (St.none P.globals.size) := by
  refine ⟨Rel.none hsz, fun i o h => ?_⟩
  have : (St.none P.globals.size).obj i = Option.none := rfl
  rw [this] at h
  cases h
theorem xAt_C (P : Program) (tb : FuncId → LiveT) (ov : FuncId → Option (List Value → St → VK → Bool)) (most n : Nat) : (xAt P tb ov most n).C = (envX P tb ov most n).call := rfl
theorem its34 : itsT PP 8 34 = some itsAll := by kernel_rfl
theorem its9 : itsT PP 8 9 = some [.text] := by kernel_rfl
theorem text_laid {H : Type} {enc : TypeId × Value → H} {W : World} {s : ByteArray} {d : DataW H} {p : List MemPlace} (h : DataW.Trod enc PP W 0 (fun _ => true) true 9 (.string s) d p) (hz : ∀ b off, MemPlace.cell b off ∈ p → W.frozen? ⟨b, off, none⟩ = false)
    (hw : ∀ x ∈ d.weights PP 9, x ≤ reachBytes) (hsz : PP.globals.size ≤ W.heap.size) : s.data.toList.length ≤ 140737488355328 := by
  obtain ⟨F, hF⟩ := h
  obtain ⟨ρ', σ', vs, ds, _, _, _, hvs, hr⟩ := lay (P := PP) (w := W) (fun _ => true) (fun _ => rfl) F 8 9 [.string s] d p hF hz hw [.text] its9 _ _ (Lay.none hsz)
  match vs, hvs, hr with
  | [v], hvs, hr =>
    match ds, hr with
    | [x], hr =>
      have := hr.rd 0 .text v x rfl rfl rfl
      cases this with
      | @text l hl =>
        have h1 := hvs.2 0 _ _ rfl rfl
        have := h1.of_flat rfl
        injection this with this
        subst this
        exact hl
theorem called_whole {H : Type} {enc : TypeId × Value → H} {W : World} {cs : Array Value} {z : Int} {s : ByteArray} {d : DataW H} {p : List MemPlace} (hl : Laid [] W) (h : DataW.Trod enc PP W 0 (fun _ => true) true 34 (.agg cs) d p) (hz : ∀ b off, MemPlace.cell b off ∈ p → W.frozen? ⟨b, off, none⟩ = false)
    (hw : ∀ x ∈ d.weights PP 34, x ≤ reachBytes) (hs : s.data.toList.length ≤ 140737488355328) : Calls PP c_law25_SaveWhole #[.agg cs, .int .i64 z, .string s] W (fun e w' => e = .returned (.bool true) ∧ Below W.heap.size W w') := by
  have hsz : PP.globals.size ≤ W.heap.size := by rw [show PP.globals.size = 0 from gsz]; exact Nat.zero_le _
  obtain ⟨F, hF⟩ := h
  obtain ⟨ρ', σ', vs, ds, _, hlay, _, hvs, hr⟩ := lay (P := PP) (w := W) (fun _ => true) (fun _ => rfl) F 8 34 cs.toList d p hF hz hw itsAll its34 _ _ (Lay.none hsz)
  obtain ⟨most, hM⟩ : ∃ most : Nat, 140737488355328 < most := ⟨_, Nat.lt_succ_self _⟩
  obtain ⟨m, -⟩ : ∃ m : Nat, m = 0 := ⟨0, rfl⟩
  have hk := SaveWhole_s hM (n := m) (k := z) (more := s.data.toList) hr hs (K := fun v _ => isTrue v) (fun _ => rfl)
  rw [X_eq, xAt_C] at hk
  obtain ⟨_, hcall⟩ := (envX_sound (P := PP) (w0 := W) (tb := tbS) (most := most) (ovS1_ok hsz hl) namesS mixedS (m + 11)).1 c_law25_SaveWhole [.agg ⟨vs⟩, .int .i64 z, .string ⟨⟨s.data.toList⟩⟩] σ' (fun v _ => isTrue v) ρ' W [.agg cs, .int .i64 z, .string s] hk hlay.1
    (.cons (.agg (by simpa using hvs.1) (fun k v v' a b => hvs.2 k v v' a b)) (.cons (.flat rfl) (.cons (.flat (v := .string s) rfl) (.nil _))))
  refine Calls.mono (callsIn_wide.1 hcall) ?_
  rintro e w' ⟨v', rfl, ρ2, v, σ2, hk2, hv, hrel, _⟩
  cases v with
  | bool b =>
    have hb : b = true := hk2
    subst hb
    rw [hv.of_flat rfl]
    exact ⟨rfl, hrel.base⟩
  | _ => cases hk2
end Go.Am
