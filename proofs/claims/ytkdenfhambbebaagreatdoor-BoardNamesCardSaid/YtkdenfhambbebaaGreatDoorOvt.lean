/- AM: tally's functions by their contracts. -/
import Derived.Test.YtkdenfhambbebaaGreatDoorAmc
import Derived.Test.YtkdenfhambbebaaGreatDoorTly

namespace Go.Am
open Go.RowKit Go.MapKept Go.Proofs Go.Proofs.Tly Go.Rm

/-- a vote, laid out -/
noncomputable def voteK (v : Value) (z : Bool) (k : Nat → Int → Int → List UInt8 → Bool) : Bool :=
  match v with
  | .agg ⟨[.int .i64 (.ofNat f), .int .i64 r, .int .u8 q, .int .i64 _, .string s]⟩ => k f r q s.data.toList
  | _ => z
noncomputable def okEs (n c : Nat) (es : List MapEntry) : Bool :=
  lrec (β := Nat → Bool) (fun _ => true) (fun e _ ih lo => match Nat.ble lo e.born, Nat.blt e.born c, voteK e.val false (fun f _ _ _ => Nat.ble f n) with
    | true, true, true => ih (Nat.succ e.born)
    | _, _, _ => false) es 0
noncomputable def tallyK (σ : St) (v : Value) (k : Nat → List MapEntry → Bool) : Bool :=
  match v with
  | .pointer (some ⟨i, o, none⟩) => readK σ i o 2 fun l => match l with
    | [.int .i64 (.ofNat n), .map (some m)] => getK σ.h m fun ob => match ob with
      | .map es c => lenK es fun q => match Nat.ble n 1000000, Nat.ble q 1000000, okEs n c es with
        | true, true, true => k n es
        | _, _, _ => false
      | _ => false
    | _ => false
  | _ => false

theorem voteK_ok {v : Value} {n : Nat} (h : voteK v false (fun f _ _ _ => Nat.ble f n) = true) : v = encV (dec v) ∧ flat1 v = true ∧ ∃ f : Nat, (dec v).fr = (f : Int) ∧ f ≤ n := by
  unfold voteK at h
  split at h
  · rename_i f r q va s
    exact ⟨rfl, rfl, f, rfl, by simpa using h⟩
  · cases h
theorem okEs_go : ∀ {es : List MapEntry} {n c lo : Nat}, (lrec (β := Nat → Bool) (fun _ => true) (fun e _ ih lo => match Nat.ble lo e.born, Nat.blt e.born c, voteK e.val false (fun f _ _ _ => Nat.ble f n) with
    | true, true, true => ih (Nat.succ e.born)
    | _, _, _ => false) es lo) = true → (∀ e ∈ es, lo ≤ e.born ∧ e.born < c ∧ e.val = encV (dv e) ∧ flat1 e.val = true ∧ ∃ f : Nat, (dv e).fr = (f : Int) ∧ f ≤ n) ∧ (es.map (·.born)).Nodup := by
  intro es
  induction es with
  | nil => intro n c lo _; simp
  | cons e es ih =>
    intro n c lo h
    rw [lrec_cons] at h
    split at h
    · rename_i h1 h2 h3
      obtain ⟨g1, g2⟩ := ih h
      obtain ⟨k1, k0, k2⟩ := voteK_ok h3
      have h1' : lo ≤ e.born := by simpa using h1
      have h2' : e.born < c := by
        have := h2
        simp only [Nat.blt_eq] at this
        exact this
      refine ⟨fun x hx => ?_, ?_⟩
      · rcases List.mem_cons.1 hx with rfl | hx
        · exact ⟨h1', h2', k1, k0, k2⟩
        · obtain ⟨q1, q2⟩ := g1 x hx
          exact ⟨by omega, q2⟩
      · simp only [List.map_cons, List.nodup_cons]
        refine ⟨fun hm => ?_, g2⟩
        obtain ⟨x, hx, hb⟩ := List.mem_map.1 hm
        have := (g1 x hx).1
        omega
    · cases h

section
variable {w0 : World} {ρ : Rn} {σ : St} {w : World}
theorem ents_eq {l l' : List MapEntry} (h : EntsRel ρ l l') (hf : ∀ e ∈ l, flat1 e.val = true) : l' = l := by
  apply List.ext_getElem?
  intro k
  cases hk : l[k]? with
  | none =>
    rw [List.getElem?_eq_none_iff] at *
    rw [← h.1]; exact hk
  | some e =>
    have hlt : k < l'.length := by rw [← h.1]; exact (List.getElem?_eq_some_iff.1 hk).1
    rw [List.getElem?_eq_getElem hlt]
    obtain ⟨h1, _, h3, h4⟩ := h.2 k e l'[k] hk (List.getElem?_eq_getElem hlt)
    have h5 := h4.flat1_eq (hf e (List.mem_of_getElem? hk))
    congr 1
    cases hx : l'[k]
    rw [hx] at h1 h3 h5
    cases e
    simp at *
    exact ⟨h1, h5, h3⟩

theorem tallyK_true {v v' : Value} {k : Nat → List MapEntry → Bool} (hk : tallyK σ v k = true) (h : Rel Tryz.prog w0 ρ σ w) (hv : VR ρ v v') :
    ∃ bt ot n es, v' = .pointer (some ⟨bt, ot, none⟩) ∧ k n es = true ∧ At w bt ot n ⟨es⟩ := by
  unfold tallyK at hk
  split at hk
  · rename_i i o
    obtain ⟨vs, e, c, ho, hle, hk⟩ := readK_true hk
    split at hk
    · rename_i n m hl
      obtain ⟨ob, hob, hk⟩ := getK_true hk
      split at hk
      · rename_i es clk
        rw [lenK_eq] at hk
        split at hk
        · rename_i c1 c2 c3
          obtain ⟨g1, g2⟩ := okEs_go c3
          cases hv with
          | flat h => simp [flat0] at h
          | ptr hL =>
            rename_i L
            have e0 : vs[o]? = some (.int .i64 (.ofNat n)) := by
              have := congrArg (·[0]?) hl
              simpa [List.getElem?_take, List.getElem?_drop] using this
            have e1 : vs[o + 1]? = some (.map (some m)) := by
              have := congrArg (·[1]?) hl
              simpa [List.getElem?_take, List.getElem?_drop] using this
            obtain ⟨u0, hu0, hr0⟩ := h.readCell ho hL e0
            obtain ⟨u1, hu1, hr1⟩ := h.readCell ho hL e1
            obtain rfl := hr0.of_flat rfl
            cases hr1 with
            | flat h => simp [flat0] at h
            | map hM =>
              rename_i M
              obtain ⟨M', es', hM', _, hb, hes⟩ := h.map' hob
              rw [hM] at hM'; injection hM' with hM'; subst hM'
              have hes' : es'.toList = es := ents_eq hes fun e he => (g1 e he).2.2.2.1
              refine ⟨_, _, n, es, rfl, hk, ⟨hu0, ⟨M.b, clk, hu1, ?_, ⟨fun x hx => (g1 x hx).2.1, g2⟩⟩, by simpa using c1, by simpa using c2, fun e he => ⟨(g1 e he).2.2.1, (g1 e he).2.2.2.2⟩⟩⟩
              rw [hb, ← hes']
        · cases hk
      · cases hk
    · cases hk
  · cases hk
end
end Go.Am

namespace Go.Am
open Go.RowKit Go.MapKept Go.Proofs Go.Proofs.Tly Go.Rm

noncomputable def hasB (pe : MapEntry → Nat → Bool) (es : List MapEntry) (i : Nat) : Bool := lrec (β := Bool) false (fun e _ ih => bcase (pe e i) true ih) es
noncomputable def memK (pe : MapEntry → Nat → Bool) (es : List MapEntry) (n : Nat) (K : Nat → Bool) : Bool :=
  nrec (β := Nat → Bool) K (fun i ih acc => bcase (hasB pe es i) (forceN (Nat.succ acc) ih) (ih acc)) (Nat.succ n) 0
theorem hasB_eq {pe : MapEntry → Nat → Bool} {p : Vt → Bool} {i : Nat} : ∀ {es : List MapEntry}, (∀ e ∈ es, pe e i = (p (dv e) && (dv e).fr == (i : Int))) → hasB pe es i = (cnt p (es.map dv) i != 0) := by
  intro es
  induction es with
  | nil => intro _; rfl
  | cons e es ih =>
    intro h
    have ih := ih fun x hx => h x (List.mem_cons_of_mem _ hx)
    unfold hasB at ih ⊢
    rw [lrec_cons, h e List.mem_cons_self, ih]
    unfold cnt
    rw [List.map_cons, List.filter_cons]
    cases hb : (p (dv e) && (dv e).fr == (i : Int)) <;> simp [bcase]
theorem memK_go {pe : MapEntry → Nat → Bool} {es : List MapEntry} {K : Nat → Bool} : ∀ (m acc : Nat), nrec (β := Nat → Bool) K (fun i ih acc => bcase (hasB pe es i) (forceN (Nat.succ acc) ih) (ih acc)) m acc = K (acc + ((List.range m).filter fun i => hasB pe es i).length) := by
  intro m
  induction m with
  | zero => intro acc; simp [nrec_zero]
  | succ m ih =>
    intro acc
    rw [nrec_succ, List.range_succ, List.filter_append, List.length_append]
    cases hb : hasB pe es m
    · show nrec K _ m acc = _
      rw [ih]; simp [hb]
    · show forceN (Nat.succ acc) (nrec K _ m) = _
      rw [forceN_eq, ih]; simp [hb]; congr 1; omega
theorem memK_eq {pe : MapEntry → Nat → Bool} {p : Vt → Bool} {es : List MapEntry} {n : Nat} {K : Nat → Bool} (h : ∀ i, ∀ e ∈ es, pe e i = (p (dv e) && (dv e).fr == (i : Int))) : memK pe es n K = K (mem p n (es.map dv)) := by
  unfold memK mem
  rw [memK_go]
  congr 1
  simp only [Nat.zero_add]
  congr 2
  funext i
  rw [hasB_eq (h i)]

noncomputable def andB (a b : Bool) : Bool := bcase a b false
theorem andB_eq (a b : Bool) : andB a b = (a && b) := by cases a <;> rfl
noncomputable def lessB (a b : MapEntry) : Bool :=
  voteK a.val false fun f r q _ => voteK b.val false fun f' r' q' _ => bcase (ltI r r') true (andB (eqI r r') (bcase (Nat.blt f f') true (andB (Nat.beq f f') (ltI q q'))))
noncomputable def insK (e : MapEntry) (l : List MapEntry) (k : List MapEntry → Bool) : Bool :=
  lrec (β := (List MapEntry → Bool) → Bool) (fun k => k [e]) (fun x t ih k => bcase (lessB e x) (k (e :: x :: t)) (ih fun t' => k (x :: t'))) l k
noncomputable def sortK (es : List MapEntry) (k : List MapEntry → Bool) : Bool :=
  lrec (β := (List MapEntry → Bool) → Bool) (fun k => k []) (fun e _ ih k => ih fun s => insK e s k) es k
noncomputable def chainB (l : List MapEntry) : Bool :=
  lrec (β := Bool) true (fun e t ih => match t with | [] => true | x :: _ => bcase (lessB e x) ih false) l
noncomputable def flatK' (l : List MapEntry) (k : List Value → Bool) : Bool :=
  lrec (β := (List Value → Bool) → Bool) (fun k => k []) (fun e _ ih k => match e.val with | .agg ⟨vs⟩ => ih fun t => appK vs t k | _ => false) l k

theorem insK_true {e : MapEntry} : ∀ {l : List MapEntry} {k : List MapEntry → Bool}, insK e l k = true → ∃ s, s.Perm (e :: l) ∧ k s = true := by
  intro l
  induction l with
  | nil => intro k h; exact ⟨[e], .refl _, h⟩
  | cons x t ih =>
    intro k h
    unfold insK at h ih
    rw [lrec_cons] at h
    cases hb : lessB e x
    · rw [hb] at h
      obtain ⟨s, hs, hk⟩ := ih h
      exact ⟨x :: s, (hs.cons x).trans (List.Perm.swap e x t), hk⟩
    · rw [hb] at h
      exact ⟨_, .refl _, h⟩
theorem sortK_true : ∀ {es : List MapEntry} {k : List MapEntry → Bool}, sortK es k = true → ∃ s, s.Perm es ∧ k s = true := by
  intro es
  induction es with
  | nil => intro k h; exact ⟨[], .refl _, h⟩
  | cons e es ih =>
    intro k h
    unfold sortK at h ih
    rw [lrec_cons] at h
    obtain ⟨s, hs, h⟩ := ih h
    obtain ⟨s', hs', h⟩ := insK_true h
    exact ⟨s', hs'.trans (hs.cons e), h⟩
theorem lessB_lt {a b : MapEntry} (h : lessB a b = true) : ltV (dv a) (dv b) = true := by
  unfold lessB voteK at h
  split at h
  · rename_i f r q va s ha
    split at h
    · rename_i f' r' q' va' s' hb
      rw [ltV_iff]
      unfold dv
      rw [ha, hb]
      simp only [dec]
      dsimp only at h
      cases h1 : ltI r r'
      · rw [h1] at h
        simp only [bcase, andB_eq, eqI_eq, Bool.and_eq_true, beq_iff_eq] at h
        obtain ⟨h2, h3⟩ := h
        refine .inr ⟨h2, ?_⟩
        cases h4 : Nat.blt f f'
        · rw [h4] at h3
          simp only [Bool.and_eq_true, Nat.beq_eq, ltI_eq, decide_eq_true_eq] at h3
          exact .inr ⟨by rw [h3.1], h3.2⟩
        · simp only [Nat.blt_eq] at h4
          exact .inl (by simpa using h4)
      · rw [ltI_eq, decide_eq_true_eq] at h1
        exact .inl h1
    · cases h
  · cases h
theorem chainB_pw : ∀ {l : List MapEntry}, chainB l = true → (l.map dv).Pairwise fun x y => ltV x y = true := by
  intro l
  induction l with
  | nil => intro _; exact .nil
  | cons e t ih =>
    intro h
    unfold chainB at h ih
    rw [lrec_cons] at h
    cases t with
    | nil => simp
    | cons x t =>
      simp only at h
      cases hb : lessB e x
      · rw [hb] at h; cases h
      · rw [hb] at h
        have hp := ih h
        rw [List.map_cons, List.pairwise_cons]
        refine ⟨fun y hy => ?_, hp⟩
        have hx := lessB_lt hb
        rw [List.map_cons] at hy
        rcases List.mem_cons.1 hy with rfl | hy
        · exact hx
        · have := (List.pairwise_cons.1 hp).1 y hy
          rw [ltV_iff] at hx this ⊢
          omega
theorem flatK'_true : ∀ {l : List MapEntry} {k : List Value → Bool}, flatK' l k = true → (∀ e ∈ l, e.val = encV (dv e)) → k ((l.map dv).flatMap cellsV) = true := by
  intro l
  induction l with
  | nil => intro k h _; exact h
  | cons e t ih =>
    intro k h he
    unfold flatK' at h ih
    rw [lrec_cons] at h
    split at h
    · rename_i vs hv
      have := ih h fun x hx => he x (List.mem_cons_of_mem _ hx)
      rw [appK_eq] at this
      have hvs : vs = cellsV (dv e) := by
        have := he e List.mem_cons_self
        rw [hv] at this
        injection this with this
        injection this
      rw [List.map_cons, List.flatMap_cons, ← hvs]
      exact this
    · cases h
end Go.Am

namespace Go.Am
open Go.RowKit Go.MapKept Go.Proofs Go.Proofs.Tly Go.Rm

noncomputable def ovSent (args : List Value) (σ : St) (K : VK) : Bool :=
  match args with
  | [t, .int .i64 rd] => tallyK σ t fun n es => memK (fun e i => voteK e.val false fun f r _ _ => andB (eqI r rd) (Nat.beq f i)) es n fun c => K (.int .i64 (.ofNat c)) σ
  | _ => false
noncomputable def ovAll (args : List Value) (σ : St) (K : VK) : Bool :=
  match args with
  | [t, .int .i64 rd, .int .u8 kd] => tallyK σ t fun n es => memK (fun e i => voteK e.val false fun f r q _ => andB (andB (eqI r rd) (eqI q kd)) (Nat.beq f i)) es n fun c => K (.int .i64 (.ofNat c)) σ
  | _ => false
noncomputable def ovCount (args : List Value) (σ : St) (K : VK) : Bool :=
  match args with
  | [t, .int .i64 rd, .int .u8 kd, .string tx] => tallyK σ t fun n es => memK (fun e i => voteK e.val false fun f r q s => andB (andB (andB (eqI r rd) (eqI q kd)) (eqL8 s tx.data.toList)) (Nat.beq f i)) es n fun c => K (.int .i64 (.ofNat c)) σ
  | _ => false
noncomputable def ovVotes (args : List Value) (σ : St) (K : VK) : Bool :=
  match args with
  | [t] => tallyK σ t fun _ es => sortK es fun ss => match chainB ss with
    | true => flatK' ss fun cs => lenK ss fun n => match n with
      | 0 => K (.slice none 0 0) σ
      | n' + 1 => newK σ (.cells cs 85 (.grown [])) fun i σ => K (.slice (some ⟨i, 0, some 0⟩) (n' + 1) (n' + 1)) σ
    | false => false
  | _ => false

theorem voteK_at {v : Value} {u : Vt} {f : Nat} (h : v = encV u) (hf : u.fr = (f : Int)) (z : Bool) (k : Nat → Int → Int → List UInt8 → Bool) : voteK v z k = k f u.rd u.kd u.tx.data.toList := by
  subst h; unfold encV; rw [hf]; rfl
theorem beq_cast (f i : Nat) : Nat.beq f i = ((f : Int) == (i : Int)) := by
  rw [Bool.eq_iff_iff]; simp only [Nat.beq_eq, beq_iff_eq]; omega

section
variable {w0 : World}
/-- a call that tells a number -/
theorem ov_number {f : FuncId} {args' : List Value} {σ : St} {K : VK} {ρ : Rn} {w : World} {c : Nat} (h : Rel Tryz.prog w0 ρ σ w) (hk : K (.int .i64 (.ofNat c)) σ = true)
    (hc : Calls Tryz.prog f ⟨args'⟩ w fun e w' => e = .returned (.int .i64 (c : Int)) ∧ Below w.heap.size w w') : CallsIn (fnc none) 0 Tryz.prog f ⟨args'⟩ w (Back Tryz.prog w0 ρ w K) := by
  refine callsIn_wide.2 (hc.mono ?_)
  rintro e w' ⟨rfl, hb⟩
  obtain ⟨h1, h2⟩ := h.below hb
  exact ⟨_, rfl, ρ, _, σ, hk, .flat rfl, h1, h2⟩

theorem int_arg {ρ : Rn} {q : IntKind} {n : Int} {v : Value} (h : VR ρ (.int q n) v) : v = .int q n := h.of_flat rfl
theorem string_arg {ρ : Rn} {s : ByteArray} {v : Value} (h : VR ρ (.string s) v) : v = .string s := h.of_flat rfl

theorem ovSent_ok : CallOk Tryz.prog w0 (fun f' args σ K => match Nat.beq f' 137 with | true => ovSent args σ K | false => false) := by
  intro f args σ K ρ w args' hk h ha
  dsimp only at hk
  split at hk
  · rename_i hf
    obtain rfl : f = 137 := by simpa using hf
    refine ⟨enters_of Tryz.func137 (by kernel_rfl) rfl ⟨args'⟩, ?_⟩
    unfold ovSent at hk
    split at hk
    · rename_i t rd
      obtain ⟨t', l', rfl, ht, ha⟩ := ha.inv_cons
      obtain ⟨r', l', rfl, hr, ha⟩ := ha.inv_cons
      cases ha.inv_nil
      obtain rfl := int_arg hr
      obtain ⟨bt, ot, n, es, rfl, hk, hat⟩ := tallyK_true hk h ht
      rw [memK_eq (p := fun v => v.rd == rd) (fun i e he => by
        obtain ⟨h1, f, h2, h3⟩ := hat.votes e he
        rw [voteK_at h1 h2, andB_eq, eqI_eq, h2, beq_cast])] at hk
      exact ov_number h hk (sent_any hat rd)
    · cases hk
  · cases hk
theorem ovAll_ok : CallOk Tryz.prog w0 (fun f' args σ K => match Nat.beq f' 105 with | true => ovAll args σ K | false => false) := by
  intro f args σ K ρ w args' hk h ha
  dsimp only at hk
  split at hk
  · rename_i hf
    obtain rfl : f = 105 := by simpa using hf
    refine ⟨enters_of Tryz.func105 (by kernel_rfl) rfl ⟨args'⟩, ?_⟩
    unfold ovAll at hk
    split at hk
    · rename_i t rd kd
      obtain ⟨t', l', rfl, ht, ha⟩ := ha.inv_cons
      obtain ⟨r', l', rfl, hr, ha⟩ := ha.inv_cons
      obtain ⟨k', l', rfl, hq, ha⟩ := ha.inv_cons
      cases ha.inv_nil
      obtain rfl := int_arg hr
      obtain rfl := int_arg hq
      obtain ⟨bt, ot, n, es, rfl, hk, hat⟩ := tallyK_true hk h ht
      rw [memK_eq (p := fun v => v.rd == rd && v.kd == kd) (fun i e he => by
        obtain ⟨h1, f, h2, h3⟩ := hat.votes e he
        rw [voteK_at h1 h2, andB_eq, andB_eq, eqI_eq, eqI_eq, h2, beq_cast])] at hk
      exact ov_number h hk (all_any hat rd kd)
    · cases hk
  · cases hk
theorem ovCount_ok : CallOk Tryz.prog w0 (fun f' args σ K => match Nat.beq f' 169 with | true => ovCount args σ K | false => false) := by
  intro f args σ K ρ w args' hk h ha
  dsimp only at hk
  split at hk
  · rename_i hf
    obtain rfl : f = 169 := by simpa using hf
    refine ⟨enters_of Tryz.func169 (by kernel_rfl) rfl ⟨args'⟩, ?_⟩
    unfold ovCount at hk
    split at hk
    · rename_i t rd kd tx
      obtain ⟨t', l', rfl, ht, ha⟩ := ha.inv_cons
      obtain ⟨r', l', rfl, hr, ha⟩ := ha.inv_cons
      obtain ⟨k', l', rfl, hq, ha⟩ := ha.inv_cons
      obtain ⟨x', l', rfl, hx, ha⟩ := ha.inv_cons
      cases ha.inv_nil
      obtain rfl := int_arg hr
      obtain rfl := int_arg hq
      obtain rfl := string_arg hx
      obtain ⟨bt, ot, n, es, rfl, hk, hat⟩ := tallyK_true hk h ht
      rw [memK_eq (p := fun v => v.rd == rd && v.kd == kd && v.tx.toList == tx.toList) (fun i e he => by
        obtain ⟨h1, f, h2, h3⟩ := hat.votes e he
        rw [voteK_at h1 h2, andB_eq, andB_eq, andB_eq, eqI_eq, eqI_eq, eqL8_eq, h2, beq_cast, Lib.toList_data, Lib.toList_data])] at hk
      exact ov_number h hk (count_any hat rd kd tx)
    · cases hk
  · cases hk
theorem size55 : sizeT Tryz.prog 85 = some 5 := by kernel_rfl
theorem cellsV_flat (l : List Vt) : ∀ v ∈ l.flatMap cellsV, flat0 v = true := by
  intro v hv
  obtain ⟨x, _, hx⟩ := List.mem_flatMap.1 hv
  simp [cellsV] at hx
  rcases hx with rfl | rfl | rfl | rfl | rfl <;> rfl
theorem ovVotes_ok : CallOk Tryz.prog w0 (fun f' args σ K => match Nat.beq f' 66 with | true => ovVotes args σ K | false => false) := by
  intro f args σ K ρ w args' hk h ha
  dsimp only at hk
  split at hk
  · rename_i hf
    obtain rfl : f = 66 := by simpa using hf
    refine ⟨enters_of Tryz.func66 (by kernel_rfl) rfl ⟨args'⟩, ?_⟩
    unfold ovVotes at hk
    split at hk
    · rename_i t
      obtain ⟨t', l', rfl, ht, ha⟩ := ha.inv_cons
      cases ha.inv_nil
      obtain ⟨bt, ot, n, es, rfl, hk, hat⟩ := tallyK_true hk h ht
      obtain ⟨ss, hperm, hk⟩ := sortK_true hk
      split at hk
      · rename_i hch
        have hk := flatK'_true hk fun e he => (hat.votes e (hperm.subset he)).1
        rw [lenK_eq] at hk
        refine callsIn_wide.2 ((votes_any hat (ss.map dv) (hperm.map dv) (chainB_pw hch)).mono ?_)
        rintro e w' ⟨v, rfl, hown, hnil, hb⟩
        split at hk
        · rename_i h0
          obtain rfl := hnil.2 (List.eq_nil_of_length_eq_zero (by simpa using h0))
          obtain ⟨h1, h2⟩ := h.below hb
          exact ⟨_, rfl, ρ, _, σ, hk, .flat rfl, h1, h2⟩
        · rename_i n' hn'
          rw [newK_eq] at hk
          rcases hown.2 with ⟨rfl, h0⟩ | ⟨g, cap, cur, rfl, hg, hcur, hnc, hcm, hcs, htk⟩
          · simp at h0; rw [h0] at hn'; simp at hn'
          · have hlen : (ss.map dv).length = n' + 1 := by simpa using hn'
            obtain ⟨h1, h2⟩ := h.belowRow hb size55 hg hcur (VRs.flat (cellsV_flat (ss.map dv))) (by rw [Go.Proofs.Tly.flat_len]; exact htk)
            refine ⟨_, rfl, _, _, _, hk, ?_, h1, h2⟩
            rw [hlen]
            have := VR.sliceIn (ρ := ρ.put σ.n ⟨g, 0, cur.size, 5⟩) (i := σ.n) (o := 0) (n := n' + 1) (c := n' + 1) (c' := cap) (Rn.put_same _ _ _) (by omega) (Nat.le_refl _) (by simp [hcs]) (by simp)
            simpa using this
      · cases hk
    · cases hk
  · cases hk

noncomputable def ovT (f : FuncId) : Option (List Value → St → VK → Bool) :=
  bcase (Nat.beq f 169) (some ovCount) (bcase (Nat.beq f 66) (some ovVotes) (bcase (Nat.beq f 105) (some ovAll) (bcase (Nat.beq f 137) (some ovSent) none)))
theorem ovT_ok : OvOk Tryz.prog w0 ovT := by
  intro f g hg
  unfold ovT at hg
  cases h1 : Nat.beq f 169
  · rw [h1] at hg
    cases h2 : Nat.beq f 66
    · rw [h2] at hg
      cases h3 : Nat.beq f 105
      · rw [h3] at hg
        cases h4 : Nat.beq f 137
        · rw [h4] at hg; cases hg
        · rw [h4] at hg
          cases hg
          obtain rfl : f = 137 := by simpa using h4
          exact ovSent_ok
      · rw [h3] at hg
        cases hg
        obtain rfl : f = 105 := by simpa using h3
        exact ovAll_ok
    · rw [h2] at hg
      cases hg
      obtain rfl : f = 66 := by simpa using h2
      exact ovVotes_ok
  · rw [h1] at hg
    cases hg
    obtain rfl : f = 169 := by simpa using h1
    exact ovCount_ok
end
end Go.Am
