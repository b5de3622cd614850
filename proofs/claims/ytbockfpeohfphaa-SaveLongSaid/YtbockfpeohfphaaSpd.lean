/- save: lists that are made; other$1. -/
import Derived.Test.YtbockfpeohfphaaSpc
import Derived.Test.YtbockfpeohfphaaAmd

namespace Go.Am
open Go.RowKit Go.MapKept Go.Proofs Go.Proofs.Rdr
variable {most : Nat}
/-- a list that is being made, in rows from n0 on -/
def Acc (σ : St) (C : Nat → Prop) (n0 : Nat) (its : List It) (e : TypeId) (v : Value) (es : List (List D)) : Prop :=
  (v = .slice none 0 0 ∧ es = []) ∨ ∃ j vs olds, n0 ≤ j ∧ j < σ.n ∧ v = .slice (some ⟨j, 0, some 0⟩) es.length es.length ∧ σ.obj j = some (.cells vs e (.grown olds)) ∧ vs.length = es.length * its.length ∧ (∀ ds ∈ es, ds.length = its.length) ∧
    ∀ (k : Nat) (ds : List D) (q : Nat) (it : It) (u : Value) (d : D), es[k]? = some ds → its[q]? = some it → vs[k * its.length + q]? = some u → ds[q]? = some d → Rd σ (fun i => i = j ∨ C i) it u d
theorem Rd.less {σ : St} {C C' : Nat → Prop} (hC : ∀ i, C' i → C i) {it : It} {v : Value} {d : D} (h : Rd σ C it v d) : Rd σ C' it v d :=
  h.fr ⟨Nat.le_refl _, fun _ _ _ => rfl, fun i hi => .inl (hC i hi)⟩
theorem Acc.rd {σ : St} {C : Nat → Prop} {n0 : Nat} {its : List It} {e : TypeId} {v : Value} {es : List (List D)} (h : Acc σ C n0 its e v es) (hC : ∀ i, C i → i < n0) (hle : es.length ≤ 140737488355328) : Rd σ C (.list its) v (.l es) := by
  rcases h with ⟨rfl, rfl⟩ | ⟨j, vs, olds, h1, h2, rfl, h3, h4, h5, h6⟩
  · exact .empty
  · refine .row rfl h2 (fun hc => by have := hC j hc; omega) h3 (.inr (.inr ⟨olds, rfl⟩)) rfl (by omega) h5 hle fun k ds q it u d a b c g => ?_
    rw [Nat.zero_add] at c
    exact (h6 k ds q it u d a b c g).less fun i hi => .inr hi
theorem Acc.ext {σ σ1 : St} {C : Nat → Prop} {n0 : Nat} {its : List It} {e : TypeId} {v : Value} {es : List (List D)} (h : Acc σ C n0 its e v es) (hx : Ext' σ σ1) : Acc σ1 C n0 its e v es := by
  rcases h with ⟨rfl, rfl⟩ | ⟨j, vs, olds, h1, h2, rfl, h3, h4, h5, h6⟩
  · exact .inl ⟨rfl, rfl⟩
  · exact .inr ⟨j, vs, olds, h1, Nat.lt_of_lt_of_le h2 hx.n, rfl, by rw [hx.same j h2]; exact h3, h4, h5, fun k ds q it u d a b c g => (h6 k ds q it u d a b c g).fr (hx.fr _)⟩
theorem Acc.app {σ σ1 : St} {C : Nat → Prop} {n0 : Nat} {its : List It} {e bytes : Nat} {v x : Value} {es : List (List D)} {ds : List D} {new : List Value} (h : Acc σ C n0 its e v es) (hx1 : Ext' σ σ1) (hn0 : n0 ≤ σ.n) (hx : Src σ1 its.length x 1 new)
    (hnew : ∀ C' : Nat → Prop, (∀ i, C' i → C i ∨ (n0 ≤ i ∧ i < σ.n)) → RdA σ1 C' its new ds) (hs : sizeT PP e = some its.length) (hb : (es.length + 1) * (bytes + 1) ≤ 1099511627776) {K : VK}
    (hK : ∀ σ' v', (∀ i, i < n0 → σ'.obj i = σ1.obj i) → σ1.n ≤ σ'.n → Acc σ' C n0 its e v' (es ++ [ds]) → K v' σ' = true) : rApp PP e its.length bytes v x σ1 K = true := by
  have hn := hx1.n
  rcases h with ⟨rfl, rfl⟩ | ⟨j, vs, olds, h1, h2, rfl, h3, h4, h5, h6⟩
  · rw [rApp_nil hx (by omega) (by simpa using hb)]
    have hr := hnew C fun i hi => .inl hi
    refine hK _ _ (fun i hi => obj_new_old (by omega)) (Nat.le_succ _) (.inr ⟨σ1.n, new, [], by omega, Nat.lt_succ_self _, rfl, obj_new_same, by simp [hr.len], fun x hx => ?_, fun k d q it u d' a b c g => ?_⟩)
    · simp at hx; subst hx; exact hr.dlen
    · have hk : k = 0 := by
        have := (List.getElem?_eq_some_iff.1 a).1
        simp at this; exact this
      subst hk
      simp at a c
      subst a
      exact (hr.rd q it u d' b c g).fr ⟨Nat.le_succ _, fun i hi _ => obj_new_old (by omega), fun i hi => by
        rcases hi with hi | hi
        · exact .inr (by omega)
        · exact .inl hi⟩
  · have hj1 : σ1.obj j = some (.cells vs e (.grown olds)) := by rw [hx1.same j h2]; exact h3
    rw [rApp_row hx (by omega) hb hj1 h4 hs]
    have hr := hnew (fun i => i = j ∨ C i) fun i hi => by
      rcases hi with hi | hi
      · subst hi; exact .inr ⟨h1, h2⟩
      · exact .inl hi
    have f : Fr' (fun i => i = j ∨ C i) σ1 ((σ1.set j (.cells vs e .stale)).new (.cells (vs ++ new) e (.grown (j :: olds)))) (fun i => i = σ1.n ∨ C i) := by
      refine ⟨by rw [new_n, set_n]; omega, fun i hi hb => ?_, fun i hi => ?_⟩
      · rw [obj_new_old (by rw [set_n]; omega), obj_set_other fun e => hb (.inl e)]
      · rcases hi with hi | hi
        · exact .inr (by omega)
        · exact .inl (.inr hi)
    refine hK _ _ (fun i hi => ?_) (by rw [new_n, set_n]; omega) (.inr ⟨σ1.n, vs ++ new, j :: olds, by omega, by rw [new_n, set_n]; omega, by simp, ?_, ?_, fun x hx => ?_, fun k d q it u d' a b c g => ?_⟩)
    · rw [obj_new_old (by rw [set_n]; omega), obj_set_other (by omega)]
    · have : σ1.n = (σ1.set j (.cells vs e .stale)).n := rfl
      rw [this, obj_new_same]
    · simp [h4, hr.len, Nat.add_mul]
    · rcases List.mem_append.1 hx with hx | hx
      · exact h5 x hx
      · simp at hx; subst hx; exact hr.dlen
    · have hq := (List.getElem?_eq_some_iff.1 b).1
      rcases Nat.lt_or_ge k es.length with hk | hk
      · rw [List.getElem?_append_left hk] at a
        have hlt : k * its.length + its.length ≤ es.length * its.length := by
          have : (k + 1) * its.length ≤ es.length * its.length := Nat.mul_le_mul_right _ hk
          rwa [Nat.add_mul, Nat.one_mul] at this
        rw [List.getElem?_append_left (by omega)] at c
        exact ((h6 k d q it u d' a b c g).fr (hx1.fr _)).fr f
      · have hk' : k = es.length := by
          have := (List.getElem?_eq_some_iff.1 a).1
          simp at this; omega
        subst hk'
        simp at a
        subst a
        rw [List.getElem?_append_right (by omega), h4, Nat.add_sub_cancel_left] at c
        exact (hr.rd q it u d' b c g).fr f
/-- a pair's number is another's -/
def pairD (z : Int) (ds : List D) : List D := [.n (u64 z), ats ds 0]
theorem rBuild2 (a b : IntKind) (x y : Int) (z0 z1 : Value) (K : Value → Bool) : rBuild [z0, z1] [(0, 1, .int a x), (1, 1, .int b y)] K = K (.agg ⟨[.int a x, .int b y]⟩) := rfl
theorem rBuildS_1 (el : TypeId) {k : Nat} {zero cs : List Value} (hz : zero.length = k) (hc : cs.length = k) (h1 : cs.all oneCell = true) (σ : St) (K : VK) : rBuildS el 1 zero [(0, k, .agg ⟨cs⟩)] σ K = K (.slice (some ⟨σ.n, 0, none⟩) 1 1) (σ.new (.cells cs el .exact)) := by
  show repK zero 1 (fun c0 => (match allB oneCell cs with | true => (lenK cs fun m => match Nat.beq m k with | true => spliceK 0 cs c0 (fun cs => newK σ (.cells cs el .exact) fun i σ => K (.slice (some ⟨i, 0, none⟩) 1 1) σ) | false => false) | false => false)) = _
  rw [repK_eq, allB_eq, h1, lenK_eq]
  simp only [hc, show Nat.beq k k = true from Nat.beq_refl _]
  rw [spliceK_eq, if_pos (by simp; omega), newK_eq]
  congr 3
  simp [splice]
  omega
theorem pairs_loop {n : Nat} {σ0 : St} {C : Nat → Prop} {v : Value} {es : List (List D)} {b : Nat} {z : Int} (_hC : ∀ i, C i → i < σ0.n) (hv : Rd σ0 C (.list itsPair) v (.l es)) (hb : σ0.obj b = some (.cells [.int .i64 z] 3 .exact)) (hbn : b < σ0.n) (hle : es.length ≤ 9000) {K : VK}
    (hK : ∀ σ' v', Ext' σ0 σ' → Acc σ' C σ0.n itsPair 58 v' (es.map (pairD z)) → K v' σ' = true) :
    ∀ (r i m : Nat) (σ : St) (a : Value), i + r = es.length → r < m → Ext' σ0 σ → Acc σ C σ0.n itsPair 58 a ((es.take i).map (pairD z)) → l_law25_other_1_rrlrd (X most n) m v (pt b 0) a (.int .i64 (.ofNat i)) σ K = true := by
  intro r
  induction r with
  | zero =>
    intro i m σ a hi hm hx ha
    obtain ⟨m, rfl⟩ := Nat.exists_eq_succ_of_ne_zero (show m ≠ 0 by omega)
    rw [l_law25_other_1_rrlrdE]
    unfold l_law25_other_1_rrlrdB
    rw [hv.listL.2, rBin_lssN, show decide (i < lenL (.l es)) = false from decide_eq_false (show ¬ i < es.length by omega), rIf_f]
    rw [List.take_of_length_le (by omega)] at ha
    exact hK σ a hx ha
  | succ r ih =>
    intro i m σ a hi hm hx ha
    obtain ⟨m, rfl⟩ := Nat.exists_eq_succ_of_ne_zero (show m ≠ 0 by omega)
    have hlt : i < es.length := by omega
    rw [l_law25_other_1_rrlrdE]
    unfold l_law25_other_1_rrlrdB
    rw [hv.listL.2, rBin_lssN, show decide (i < lenL (.l es)) = true from decide_eq_true (show i < es.length from hlt), rIf_t]
    have hb1 : ∀ σ', Ext' σ0 σ' → σ'.obj b = some (.cells [.int .i64 z] 3 .exact) := fun σ' h => by rw [h.same b hbn]; exact hb
    obtain ⟨b2, o2, hst, hix⟩ := hv.at hlt 2 rfl
    have hsub : ∀ σ', Ext' σ0 σ' → ∃ z0 : Nat, ats es[i] 0 = .n z0 ∧ z0 < 18446744073709551616 ∧ ∀ K, rLd (pt b2 o2) σ' K = K (.int .u64 (.ofNat z0)) σ' := fun σ' h => by
      obtain ⟨u, hu, hld⟩ := (hst.fr (h.fr C)).at 0 (it := .num) rfl
      obtain ⟨z0, rfl, e, hz⟩ := hu.num_inv
      exact ⟨z0, e, hz, hld⟩
    obtain ⟨z0, e0, hz0, hld0⟩ := hsub σ hx
    have again : ∀ σ', Ext' σ0 σ' → ∀ K, rLd (pt b2 o2) σ' K = K (.int .u64 (.ofNat z0)) σ' := fun σ' h => by
      obtain ⟨z1, e1, _, hld1⟩ := hsub σ' h
      rw [e0] at e1
      injection e1 with e1
      have : z0 = z1 := Int.ofNat.inj e1
      subst this; exact hld1
    have hbs : ∀ K, rBuildS 58 1 [(.int .u64 (.ofNat 0)), (.int .u64 (.ofNat 0))] [(0, 2, .agg ⟨[.int .u64 (.ofNat (u64 z)), .int .u64 (.ofNat z0)]⟩)] σ K = K (.slice (some ⟨σ.n, 0, none⟩) 1 1) (σ.new (.cells [.int .u64 (.ofNat (u64 z)), .int .u64 (.ofNat z0)] 58 .exact)) := fun K => rBuildS_1 58 (k := 2) (zero := [(.int .u64 (.ofNat 0)), (.int .u64 (.ofNat 0))]) (cs := [.int .u64 (.ofNat (u64 z)), .int .u64 (.ofNat z0)]) rfl rfl rfl σ K
    rw [rLd_h (hb1 σ hx) rfl, rInt_i, wrap_int_u64, hix, rFld_p, Nat.add_zero, hld0, rBuild2, hld0, rSame_v (sameV_int _ _), rLd_h (hb1 σ hx) rfl, rSame_v (sameV_int _ _), hbs, hbs]
    rw [bcase_t]
    have hx1 : Ext' σ (σ.new (.cells [.int .u64 (.ofNat (u64 z)), .int .u64 (.ofNat z0)] 58 .exact)) := .new σ _
    refine Acc.app (its := itsPair) ha hx1 hx.n (new := [.int .u64 (.ofNat (u64 z)), .int .u64 (.ofNat z0)]) (ds := pairD z es[i]) (Src.row (n := 1) (o := 0) obj_new_same (by simp [itsPair]) (by simp [itsPair, oneCell])) (fun C' hC' => ?_) (by kernel_rfl) (by simp; omega) fun σ' a' h1 h2 h3 => ?_
    · refine ⟨rfl, rfl, fun j it u d q1 q2 q3 => ?_⟩
      match j, q1, q2, q3 with
      | 0, q1, q2, q3 =>
        injection q1 with q1; injection q2 with q2; injection q3 with q3
        subst q1 q2 q3
        exact .num (u64_lt z)
      | 1, q1, q2, q3 =>
        injection q1 with q1; injection q2 with q2; injection q3 with q3
        subst q1 q2 q3
        rw [e0]
        exact .num hz0
      | j + 2, q1, _, _ => cases q1
    · have hx' : Ext' σ0 σ' := ⟨by have := hx1.n; have := hx.n; omega, fun k hk => by rw [h1 k hk]; exact (hx.trans hx1).same k hk⟩
      rw [again σ' hx', rSame_v (sameV_int _ _), rLd_h (hb1 σ' hx') rfl, rSame_v (sameV_int _ _), rBin_add _ _ _ _ (by omega)]
      refine ih (i + 1) m σ' a' (by omega) (by omega) hx' ?_
      rw [List.take_succ_eq_append_getElem hlt, List.map_append]
      exact h3
theorem pairs_s {n : Nat} (hmost : 9000 < most) {σ0 : St} {C : Nat → Prop} {v : Value} {es : List (List D)} {b : Nat} {z : Int} (hC : ∀ i, C i → i < σ0.n) (hv : Rd σ0 C (.list itsPair) v (.l es)) (hb : σ0.obj b = some (.cells [.int .i64 z] 3 .exact)) (hbn : b < σ0.n) (hle : es.length ≤ 9000) {K : VK}
    (hK : ∀ σ' v', Ext' σ0 σ' → Rd σ' C (.list itsPair) v' (.l (es.map (pairD z))) → K v' σ' = true) : (X most (n + 1)).C c_law25_other_1 [v, pt b 0] σ0 K = true := by
  rw [X_call (by rfl), f_law25_other_1]
  unfold r_law25_other_1
  exact pairs_loop hC hv hb hbn hle (fun σ' v' h1 h2 => hK σ' v' h1 (h2.rd hC (by simp; omega))) es.length 0 _ σ0 _ (by omega) (by rw [X_most]; omega) (.refl σ0) (.inl ⟨rfl, by simp⟩)
end Go.Am

namespace Go.Am
open Go.RowKit Go.MapKept Go.Proofs Go.Proofs.Rdr
variable {most : Nat}
def zerosD (n : Nat) : D := .l (List.replicate n [.n 0])
theorem makeNums {n : Nat} (h : n ≤ 9000) (σ : St) (K : VK) : makeSliceK PP 49 (.int .i64 (.ofNat n)) (.int .i64 (.ofNat n)) σ K = K (.slice (some ⟨σ.n, 0, none⟩) n n) (σ.new (.cells (List.replicate n (.int .u64 (.ofNat 0))) 56 .exact)) := by
  have h1 : isSlice PP 49 = some 56 := by kernel_rfl
  obtain ⟨info, hi, hs, hb⟩ : ∃ info, PP.info? 56 = some info ∧ info.size = 1 ∧ info.bytes = 8 := by
    have : (PP.info? 56).map (fun i => (i.size, i.bytes)) = some (1, 8) := by kernel_rfl
    cases hq : PP.info? 56 with
    | none => rw [hq] at this; cases this
    | some i => rw [hq] at this; simp at this; exact ⟨i, rfl, this.1, this.2⟩
  have hz : zeroT PP 56 = some [.int .u64 (.ofNat 0)] := by kernel_rfl
  have a1 : Nat.ble n n = true := by simp
  have a2 : Nat.ble (8 * n) 1099511627776 = true := by rw [Nat.ble_eq]; omega
  have a3 : Nat.ble n 1099511627776 = true := by rw [Nat.ble_eq]; omega
  have a5 : Nat.ble n 65536 = true := by rw [Nat.ble_eq]; omega
  have a6 : allB flat0 [.int .u64 (.ofNat 0)] = true := rfl
  unfold makeSliceK
  simp only [h1, hi, hz, hs, hb, a1, a2, a3, a5, a6, show Nat.beq [Value.int .u64 (.ofNat 0)].length 1 = true from rfl]
  rw [repK_eq, newK_eq, List.flatten_replicate_singleton]
theorem nums_new {σ : St} {C : Nat → Prop} {n : Nat} (hn : n ≤ 9000) (hC : ¬ C σ.n) : Rd (σ.new (.cells (List.replicate n (.int .u64 (.ofNat 0))) 56 .exact)) C .nums (.slice (some ⟨σ.n, 0, none⟩) n n) (zerosD n) := by
  refine .nums (.row rfl (Nat.lt_succ_self _) hC obj_new_same (.inr (.inl rfl)) (by simp) (by simp) (fun ds hd => ?_) (by omega) fun k ds j it v d a b c g => ?_)
  · rw [List.mem_replicate] at hd; rw [hd.2]; rfl
  · match j, b with
    | 0, b =>
      injection b with b; subst b
      have e1 := (List.getElem?_eq_some_iff.1 a).2
      have e2 := (List.getElem?_eq_some_iff.1 c).2
      simp at e1 e2
      subst e1 e2
      injection g with g; subst g
      exact .num (z := 0) (by omega)
    | j + 1, b => cases b
theorem Stc.val {σ : St} {C : Nat → Prop} {its : List It} {b o : Nat} {ds : List D} (h : Stc σ C its b o ds) (j : Nat) {it : It} (hj : its[j]? = some it) : ∃ v, Rd σ C it v (ats ds j) ∧ ∀ σ', Ext' σ σ' → ∀ K, rLd (pt b (o + j)) σ' K = K v σ' := by
  obtain ⟨d, hd, hc⟩ := h.cell j hj
  obtain ⟨vs, e, ck, v, g1, g2, g3, g4⟩ := hc.row
  have : ats ds j = d := by unfold ats; rw [hd]; rfl
  exact ⟨v, by rw [this]; exact g4, fun σ' hx K => rLd_h (by rw [hx.same b h.lt]; exact g1) g3 K⟩
theorem sameV_text {σ : St} {C : Nat → Prop} {v : Value} {d : D} (h : Rd σ C .text v d) : sameV v v = true := by
  obtain ⟨l, rfl, _, _⟩ := h.text_inv
  show eqL8 l l = true
  rw [eqL8_eq]
  simp
/-- a done with other numbers -/
def doneD (z : Int) (ds : List D) : List D := [.n z, .n z, zerosD (lenL (ats ds 2))]
/-- a message with other numbers -/
def msgD (z : Int) (ds : List D) : List D := [.n ((z % 256).toNat : Nat), .n z, .n z, .n 0, .n 0, .n 0, .n 0, .n 0, .n z, ats ds 9, zerosD (lenL (ats ds 10))]
theorem rBuildDone (z : Int) (b c n : Nat) (K : Value → Bool) : rBuild [(.int .i64 (.ofNat 0)), (.int .i64 (.ofNat 0)), (.slice none 0 0)] [(0, 1, .int .i64 z), (1, 1, .int .i64 z), (2, 1, .slice (some ⟨b, 0, none⟩) n c)] K = K (.agg ⟨[.int .i64 z, .int .i64 z, .slice (some ⟨b, 0, none⟩) n c]⟩) := rfl
theorem rBuildSDone (z : Int) (b n : Nat) (σ : St) (K : VK) : rBuildS 51 1 [(.int .i64 (.ofNat 0)), (.int .i64 (.ofNat 0)), (.slice none 0 0)] [(0, 3, .agg ⟨[.int .i64 z, .int .i64 z, .slice (some ⟨b, 0, none⟩) n n]⟩)] σ K = K (.slice (some ⟨σ.n, 0, none⟩) 1 1) (σ.new (.cells [.int .i64 z, .int .i64 z, .slice (some ⟨b, 0, none⟩) n n] 51 .exact)) :=
  rBuildS_1 51 (k := 3) (zero := [(.int .i64 (.ofNat 0)), (.int .i64 (.ofNat 0)), (.slice none 0 0)]) (cs := [.int .i64 z, .int .i64 z, .slice (some ⟨b, 0, none⟩) n n]) rfl rfl rfl σ K
theorem odones_loop {n : Nat} {σ0 : St} {C : Nat → Prop} {p q : Nat} {cs : List Value} {u t6 : Value} {es : List (List D)} {z : Int} (hC : ∀ i, C i → i < σ0.n) (hp : σ0.obj p = some (.cells cs 34 .exact)) (hpn : p < σ0.n) (hu : cs[27]? = some u)
    (hv : Rd σ0 C (.list itsDone) u (.l es)) (hq : σ0.obj q = some (.cells [.int .i64 z] 3 .exact)) (hqn : q < σ0.n) (hz1 : -9223372036854775808 ≤ z) (hz2 : z < 9223372036854775808) (hle : es.length ≤ 9000) (hnums : ∀ ds ∈ es, lenL (ats ds 2) ≤ 9000) {K : VK}
    (hK : ∀ σ' v', Ext' σ0 σ' → Acc σ' C σ0.n itsDone 51 v' (es.map (doneD z)) → rSt 1 (pt p 27) v' σ' (fun σ => l_law25_other_rrrrrrrrrrrlrd (X most n) (X most n).most (pt p 0) (pt q 0) t6 (.slice none 0 0) (.int .i64 (.ofNat 0)) σ K) = true) :
    ∀ (r i m : Nat) (σ : St) (a : Value), i + r = es.length → r < m → Ext' σ0 σ → Acc σ C σ0.n itsDone 51 a ((es.take i).map (doneD z)) → l_law25_other_rrrrrrrrlrd (X most n) m (pt p 0) (pt q 0) t6 a (.int .i64 (.ofNat i)) σ K = true := by
  have hP : ∀ σ', Ext' σ0 σ' → ∀ K, rLd (pt p 27) σ' K = K u σ' := fun σ' h K => rLd_h (by rw [h.same p hpn]; exact hp) hu K
  have hQ : ∀ σ', Ext' σ0 σ' → ∀ K, rLd (pt q 0) σ' K = K (.int .i64 z) σ' := fun σ' h K => rLd_h (by rw [h.same q hqn]; exact hq) rfl K
  intro r
  induction r with
  | zero =>
    intro i m σ a hi hm hx ha
    obtain ⟨m, rfl⟩ := Nat.exists_eq_succ_of_ne_zero (show m ≠ 0 by omega)
    rw [l_law25_other_rrrrrrrrlrdE]
    unfold l_law25_other_rrrrrrrrlrdB
    rw [rFld_p, Nat.zero_add, hP σ hx, hv.listL.2, rBin_lssN, show decide (i < lenL (.l es)) = false from decide_eq_false (show ¬ i < es.length by omega), rIf_f, rFld_p, Nat.zero_add]
    rw [List.take_of_length_le (by omega)] at ha
    exact hK σ a hx ha
  | succ r ih =>
    intro i m σ a hi hm hx ha
    obtain ⟨m, rfl⟩ := Nat.exists_eq_succ_of_ne_zero (show m ≠ 0 by omega)
    have hlt : i < es.length := by omega
    rw [l_law25_other_rrrrrrrrlrdE]
    unfold l_law25_other_rrrrrrrrlrdB
    obtain ⟨b2, o2, hst, hix⟩ := hv.at hlt 3 rfl
    obtain ⟨w, hw, hW⟩ := hst.val 2 (it := .nums) rfl
    have hl9 := hnums _ (List.getElem_mem hlt)
    rw [rFld_p, Nat.zero_add, hP σ hx, hv.listL.2, rBin_lssN, show decide (i < lenL (.l es)) = true from decide_eq_true (show i < es.length from hlt), rIf_t, hQ σ hx, hQ σ hx, rFld_p, Nat.zero_add, hP σ hx, hix, rFld_p, hW σ hx, hw.numsL.2, hW σ hx, rSame_v (sameV_nums hw), hP σ hx, rSame_v (sameV_list hv), hQ σ hx, rSame_v (sameV_int _ _), hQ σ hx, rSame_v (sameV_int _ _)]
    simp only [makeNums hl9, rBuildDone, rBuildSDone, bcase_t]
    have hx1 : Ext' σ (σ.new (.cells (List.replicate (lenL (ats es[i] 2)) (.int .u64 (.ofNat 0))) 56 .exact)) := .new σ _
    have hx2 := hx1.trans (.new (σ.new (.cells (List.replicate (lenL (ats es[i] 2)) (.int .u64 (.ofNat 0))) 56 .exact)) (.cells [.int .i64 z, .int .i64 z, .slice (some ⟨σ.n, 0, none⟩) (lenL (ats es[i] 2)) (lenL (ats es[i] 2))] 51 .exact))
    refine Acc.app (bytes := 40) (its := itsDone) ha hx2 hx.n (new := [.int .i64 z, .int .i64 z, .slice (some ⟨σ.n, 0, none⟩) (lenL (ats es[i] 2)) (lenL (ats es[i] 2))]) (ds := doneD z es[i]) (Src.row (n := 1) (o := 0) obj_new_same (by simp [itsDone]) (by simp [itsDone, oneCell])) (fun C' hC' => ?_) (by kernel_rfl) (by simp; omega) fun σ' a' h1 h2 h3 => ?_
    · have hnC : ¬ C' σ.n := fun h => by
        rcases hC' _ h with h | h
        · have := hC _ h; have := hx.n; omega
        · omega
      refine ⟨rfl, rfl, fun j it u d q1 q2 q3 => ?_⟩
      match j, q1, q2, q3 with
      | 0, q1, q2, q3 =>
        injection q1 with q1; injection q2 with q2; injection q3 with q3
        subst q1 q2 q3
        exact .int hz1 hz2
      | 1, q1, q2, q3 =>
        injection q1 with q1; injection q2 with q2; injection q3 with q3
        subst q1 q2 q3
        exact .int hz1 hz2
      | 2, q1, q2, q3 =>
        injection q1 with q1; injection q2 with q2; injection q3 with q3
        subst q1 q2 q3
        exact (nums_new hl9 hnC).fr ((Ext'.new _ _).fr _)
      | j + 3, q1, _, _ => cases q1
    · have hx' : Ext' σ0 σ' := ⟨by have := hx2.n; have := hx.n; omega, fun k hk => by rw [h1 k hk]; exact (hx.trans hx2).same k hk⟩
      rw [hW σ' hx', rSame_v (sameV_nums hw), hP σ' hx', rSame_v (sameV_list hv), rBin_add _ _ _ _ (by omega)]
      refine ih (i + 1) m σ' a' (by omega) (by omega) hx' ?_
      rw [List.take_succ_eq_append_getElem hlt, List.map_append]
      exact h3
theorem rBuildMsg (k : Int) (z : Int) (t : List UInt8) (b c n : Nat) (K : Value → Bool) : rBuild [(.int .u8 (.ofNat 0)), (.int .i64 (.ofNat 0)), (.int .i64 (.ofNat 0)), (.int .i64 (.ofNat 0)), (.int .i64 (.ofNat 0)), (.int .i64 (.ofNat 0)), (.int .i64 (.ofNat 0)), (.int .i64 (.ofNat 0)), (.int .i64 (.ofNat 0)), (.string ⟨⟨[]⟩⟩), (.slice none 0 0)] [(0, 1, .int .u8 k), (1, 1, .int .i64 z), (2, 1, .int .i64 z), (8, 1, .int .i64 z), (9, 1, .string ⟨⟨t⟩⟩), (10, 1, .slice (some ⟨b, 0, none⟩) n c)] K = K (.agg ⟨[.int .u8 k, .int .i64 z, .int .i64 z, .int .i64 (.ofNat 0), .int .i64 (.ofNat 0), .int .i64 (.ofNat 0), .int .i64 (.ofNat 0), .int .i64 (.ofNat 0), .int .i64 z, .string ⟨⟨t⟩⟩, .slice (some ⟨b, 0, none⟩) n c]⟩) := rfl
theorem wrap_int_u8 (z : Int) : wrapI .u8 z = .ofNat (z % 256).toNat := by
  rw [wrapI_eq, IntKind.wrap_u8]
  show _ = (((z % 256).toNat : Nat) : Int)
  omega
abbrev msgZ : List Value := [(.int .u8 (.ofNat 0)), (.int .i64 (.ofNat 0)), (.int .i64 (.ofNat 0)), (.int .i64 (.ofNat 0)), (.int .i64 (.ofNat 0)), (.int .i64 (.ofNat 0)), (.int .i64 (.ofNat 0)), (.int .i64 (.ofNat 0)), (.int .i64 (.ofNat 0)), (.string ⟨⟨[]⟩⟩), (.slice none 0 0)]
abbrev msgV (z : Int) (t : List UInt8) (b n : Nat) : List Value := [.int .u8 (.ofNat (z % 256).toNat), .int .i64 z, .int .i64 z, .int .i64 (.ofNat 0), .int .i64 (.ofNat 0), .int .i64 (.ofNat 0), .int .i64 (.ofNat 0), .int .i64 (.ofNat 0), .int .i64 z, .string ⟨⟨t⟩⟩, .slice (some ⟨b, 0, none⟩) n n]
theorem rBuildSMsg (z : Int) (t : List UInt8) (b n : Nat) (σ : St) (K : VK) : rBuildS 78 1 msgZ [(0, 11, .agg ⟨msgV z t b n⟩)] σ K = K (.slice (some ⟨σ.n, 0, none⟩) 1 1) (σ.new (.cells (msgV z t b n) 78 .exact)) :=
  rBuildS_1 78 (k := 11) (zero := msgZ) (cs := msgV z t b n) rfl rfl rfl σ K
theorem omsgs_loop {n : Nat} {σ0 : St} {C : Nat → Prop} {p q : Nat} {cs : List Value} {u t6 : Value} {es : List (List D)} {z : Int} (hC : ∀ i, C i → i < σ0.n) (hp : σ0.obj p = some (.cells cs 34 .exact)) (hpn : p < σ0.n) (hu : cs[28]? = some u)
    (hv : Rd σ0 C (.list itsMsg) u (.l es)) (hq : σ0.obj q = some (.cells [.int .i64 z] 3 .exact)) (hqn : q < σ0.n) (hz1 : -9223372036854775808 ≤ z) (hz2 : z < 9223372036854775808) (hle : es.length ≤ 9000) (hnums : ∀ ds ∈ es, lenL (ats ds 10) ≤ 9000) {K : VK}
    (hK : ∀ σ' v', Ext' σ0 σ' → Acc σ' C σ0.n itsMsg 78 v' (es.map (msgD z)) → rSt 1 (pt p 28) v' σ' (fun σ => rLdN 30 (pt p 0) σ fun v44 σ => rSt 30 t6 v44 σ fun σ => rLdN 30 t6 σ fun v45 _ => K v45 σ) = true) :
    ∀ (r i m : Nat) (σ : St) (a : Value), i + r = es.length → r < m → Ext' σ0 σ → Acc σ C σ0.n itsMsg 78 a ((es.take i).map (msgD z)) → l_law25_other_rrrrrrrrrrrlrd (X most n) m (pt p 0) (pt q 0) t6 a (.int .i64 (.ofNat i)) σ K = true := by
  have hP : ∀ σ', Ext' σ0 σ' → ∀ K, rLd (pt p 28) σ' K = K u σ' := fun σ' h K => rLd_h (by rw [h.same p hpn]; exact hp) hu K
  have hQ : ∀ σ', Ext' σ0 σ' → ∀ K, rLd (pt q 0) σ' K = K (.int .i64 z) σ' := fun σ' h K => rLd_h (by rw [h.same q hqn]; exact hq) rfl K
  intro r
  induction r with
  | zero =>
    intro i m σ a hi hm hx ha
    obtain ⟨m, rfl⟩ := Nat.exists_eq_succ_of_ne_zero (show m ≠ 0 by omega)
    rw [l_law25_other_rrrrrrrrrrrlrdE]
    unfold l_law25_other_rrrrrrrrrrrlrdB
    rw [rFld_p, Nat.zero_add, hP σ hx, hv.listL.2, rBin_lssN, show decide (i < lenL (.l es)) = false from decide_eq_false (show ¬ i < es.length by omega), rIf_f, rFld_p, Nat.zero_add]
    rw [List.take_of_length_le (by omega)] at ha
    exact hK σ a hx ha
  | succ r ih =>
    intro i m σ a hi hm hx ha
    obtain ⟨m, rfl⟩ := Nat.exists_eq_succ_of_ne_zero (show m ≠ 0 by omega)
    have hlt : i < es.length := by omega
    rw [l_law25_other_rrrrrrrrrrrlrdE]
    unfold l_law25_other_rrrrrrrrrrrlrdB
    obtain ⟨b2, o2, hst, hix⟩ := hv.at hlt 11 rfl
    obtain ⟨w, hw, hW⟩ := hst.val 10 (it := .nums) rfl
    obtain ⟨x, hxt, hX⟩ := hst.val 9 (it := .text) rfl
    have hl9 := hnums _ (List.getElem_mem hlt)
    have hxs := sameV_text hxt
    obtain ⟨t, rfl, et, htl⟩ := hxt.text_inv
    rw [rFld_p, Nat.zero_add, hP σ hx, hv.listL.2, rBin_lssN, show decide (i < lenL (.l es)) = true from decide_eq_true (show i < es.length from hlt), rIf_t, hQ σ hx, rInt_i, wrap_int_u8, hQ σ hx, hQ σ hx, hQ σ hx, rFld_p, Nat.zero_add, hP σ hx, hix, rFld_p, hX σ hx, rFld_p, Nat.zero_add, hP σ hx, hix, rFld_p, hW σ hx, hw.numsL.2, hW σ hx, rSame_v (sameV_nums hw), hP σ hx, rSame_v (sameV_list hv), hX σ hx, rSame_v hxs, hP σ hx, rSame_v (sameV_list hv), hQ σ hx, rSame_v (sameV_int _ _), hQ σ hx, rSame_v (sameV_int _ _), hQ σ hx, rSame_v (sameV_int _ _), hQ σ hx, rSame_v (sameV_int _ _)]
    simp only [makeNums hl9, rBuildMsg, rBuildSMsg, bcase_t]
    have hx1 : Ext' σ (σ.new (.cells (List.replicate (lenL (ats es[i] 10)) (.int .u64 (.ofNat 0))) 56 .exact)) := .new σ _
    have hx2 := hx1.trans (.new (σ.new (.cells (List.replicate (lenL (ats es[i] 10)) (.int .u64 (.ofNat 0))) 56 .exact)) (.cells (msgV z t σ.n (lenL (ats es[i] 10))) 78 .exact))
    refine Acc.app (bytes := 112) (its := itsMsg) ha hx2 hx.n (new := msgV z t σ.n (lenL (ats es[i] 10))) (ds := msgD z es[i]) (Src.row (n := 1) (o := 0) obj_new_same (by simp [itsMsg]) (by simp [itsMsg, oneCell])) (fun C' hC' => ?_) (by kernel_rfl) (by simp; omega) fun σ' a' h1 h2 h3 => ?_
    · have hnC : ¬ C' σ.n := fun h => by
        rcases hC' _ h with h | h
        · have := hC _ h; have := hx.n; omega
        · omega
      refine ⟨rfl, rfl, fun j it u d q1 q2 q3 => ?_⟩
      match j, q1, q2, q3 with
      | 0, q1, q2, q3 =>
        injection q1 with q1; injection q2 with q2; injection q3 with q3
        subst q1 q2 q3
        exact .kind (by omega)
      | 1, q1, q2, q3 | 2, q1, q2, q3 | 8, q1, q2, q3 =>
        injection q1 with q1; injection q2 with q2; injection q3 with q3
        subst q1 q2 q3
        exact .int hz1 hz2
      | 3, q1, q2, q3 | 4, q1, q2, q3 | 5, q1, q2, q3 | 6, q1, q2, q3 | 7, q1, q2, q3 =>
        injection q1 with q1; injection q2 with q2; injection q3 with q3
        subst q1 q2 q3
        exact .int (by simp) (by simp)
      | 9, q1, q2, q3 =>
        injection q1 with q1; injection q2 with q2; injection q3 with q3
        subst q1 q2 q3
        rw [et]
        exact .text htl
      | 10, q1, q2, q3 =>
        injection q1 with q1; injection q2 with q2; injection q3 with q3
        subst q1 q2 q3
        exact (nums_new hl9 hnC).fr ((Ext'.new _ _).fr _)
      | j + 11, q1, _, _ => cases q1
    · have hx' : Ext' σ0 σ' := ⟨by have := hx2.n; have := hx.n; omega, fun k hk => by rw [h1 k hk]; exact (hx.trans hx2).same k hk⟩
      rw [hW σ' hx', rSame_v (sameV_nums hw), hP σ' hx', rSame_v (sameV_list hv), hP σ' hx', rSame_v (sameV_list hv), hQ σ' hx', rSame_v (sameV_int _ _), rBin_add _ _ _ _ (by omega)]
      refine ih (i + 1) m σ' a' (by omega) (by omega) hx' ?_
      rw [List.take_succ_eq_append_getElem hlt, List.map_append]
      exact h3
end Go.Am

namespace Go.Am
open Go.RowKit Go.MapKept Go.Proofs Go.Proofs.Rdr
variable {most : Nat}
def C0 (b : Nat) : Nat → Prop := fun i => i = b ∨ i = b + 2
/-- memory in other: the state that is changed, the number, the result -/
structure OS (σ0 σ : St) (z : Int) (ds : List D) : Prop where
  ext : Ext' σ0 σ
  lt : σ0.n + 3 ≤ σ.n
  r0 : ∃ cs, σ.obj σ0.n = some (.cells cs 34 .exact) ∧ RdA σ (C0 σ0.n) itsAll cs ds
  r1 : σ.obj (σ0.n + 1) = some (.cells [.int .i64 z] 3 .exact)
  r2 : ∃ zs, σ.obj (σ0.n + 2) = some (.cells zs 34 .exact) ∧ zs.length = 30
variable {σ0 σ σ' : St} {z : Int} {ds : List D}
theorem OS.ext' (h : OS σ0 σ z ds) (hx : Ext' σ σ') : OS σ0 σ' z ds := by
  obtain ⟨cs, h1, h2⟩ := h.r0
  obtain ⟨zs, h3, h4⟩ := h.r2
  have := h.lt
  exact ⟨h.ext.trans hx, Nat.le_trans h.lt hx.n, ⟨cs, by rw [hx.same _ (by omega)]; exact h1, h2.fr (hx.fr _)⟩, by rw [hx.same _ (by omega)]; exact h.r1, ⟨zs, by rw [hx.same _ (by omega)]; exact h3, h4⟩⟩
theorem OS.lo (h : OS σ0 σ z ds) : ∀ i, C0 σ0.n i → i < σ.n := by
  intro i hi
  have := h.lt
  rcases hi with hi | hi <;> omega
theorem OS.n (h : OS σ0 σ z ds) (K : VK) : rLd (pt (σ0.n + 1) 0) σ K = K (.int .i64 z) σ := rLd_h h.r1 rfl K
theorem RdA.at {C : Nat → Prop} {its : List It} {cs : List Value} (h : RdA σ C its cs ds) {j : Nat} {it : It} (hj : its[j]? = some it) : ∃ u, cs[j]? = some u ∧ Rd σ C it u (ats ds j) := by
  have hlt := (List.getElem?_eq_some_iff.1 hj).1
  have hc : cs[j]? = some (cs[j]'(by rw [h.len]; exact hlt)) := List.getElem?_eq_getElem _
  have hd : ds[j]? = some (ds[j]'(by rw [h.dlen]; exact hlt)) := List.getElem?_eq_getElem _
  refine ⟨_, hc, ?_⟩
  have : ats ds j = ds[j]'(by rw [h.dlen]; exact hlt) := by unfold ats; rw [hd]; rfl
  rw [this]
  exact h.rd j it _ _ hj hc hd
theorem RdA.set {C C' : Nat → Prop} {its : List It} {cs : List Value} (h : RdA σ C its cs ds) (f : Fr' C σ σ' C') {k : Nat} {it : It} {v : Value} {d : D} (hk : its[k]? = some it) (hv : Rd σ C it v d) : RdA σ' C' its (cs.set k v) (ds.set k d) := by
  refine ⟨by rw [List.length_set]; exact h.len, by rw [List.length_set]; exact h.dlen, fun j it' v' d' a b c => ?_⟩
  rw [List.getElem?_set] at b c
  by_cases hj : k = j
  · subst hj
    rw [hk] at a
    injection a with a; subst a
    have hlt := (List.getElem?_eq_some_iff.1 hk).1
    rw [if_pos rfl, if_pos (by rw [h.len]; exact hlt)] at b
    rw [if_pos rfl, if_pos (by rw [h.dlen]; exact hlt)] at c
    injection b with b; injection c with c
    subst b c
    exact hv.fr f
  · rw [if_neg hj] at b c
    exact (h.rd j it' v' d' a b c).fr f
theorem OS.st (h : OS σ0 σ z ds) {k : Nat} {it : It} {v : Value} {d : D} (hk : itsAll[k]? = some it) (hv : Rd σ (C0 σ0.n) it v d) {K : St → Bool}
    (hK : ∀ σ', OS σ0 σ' z (ds.set k d) → Fr' (C0 σ0.n) σ σ' (C0 σ0.n) → K σ' = true) : rSt 1 (pt σ0.n k) v σ K = true := by
  obtain ⟨cs, h1, h2⟩ := h.r0
  obtain ⟨zs, h3, h4⟩ := h.r2
  have hlt := (List.getElem?_eq_some_iff.1 hk).1
  rw [rSt_exact h1 (by rw [h2.len]; exact hlt) hv.one]
  have f : Fr' (C0 σ0.n) σ (σ.set σ0.n (.cells (cs.set k v) 34 .exact)) (C0 σ0.n) := ⟨Nat.le_refl _, fun i _ hi => obj_set_other fun e => hi (.inl e), fun _ h => .inl h⟩
  refine hK _ ⟨⟨h.ext.n, fun i hi => ?_⟩, h.lt, ⟨_, obj_set_same, h2.set f hk hv⟩, ?_, ⟨zs, ?_, h4⟩⟩ f
  · rw [obj_set_other (by omega)]; exact h.ext.same i hi
  · rw [obj_set_other (by omega)]; exact h.r1
  · rw [obj_set_other (by omega)]; exact h3
theorem OS.ld (h : OS σ0 σ z ds) {k : Nat} {it : It} (hk : itsAll[k]? = some it) : ∃ u, Rd σ (C0 σ0.n) it u (ats ds k) ∧ ∀ σ', Ext' σ σ' → ∀ K, rLd (pt σ0.n k) σ' K = K u σ' := by
  obtain ⟨cs, h1, h2⟩ := h.r0
  obtain ⟨u, hu, hr⟩ := h2.at hk
  have := h.lt
  exact ⟨u, hr, fun σ' hx K => rLd_h (by rw [hx.same _ (by omega)]; exact h1) hu K⟩
/-- numbers and truth values that are others -/
def ints (z : Int) (t : Bool) (ds : List D) : List D :=
  (((((((((((((((ds.set 0 (.n z)).set 25 (.b t)).set 2 (.n z)).set 4 (.b t)).set 5 (.n z)).set 6 (.n z)).set 7 (.n z)).set 8 (.n z)).set 9 (.n z)).set 10 (.n z)).set 11 (.n z)).set 14 (.n z)).set 15 (.n z)).set 16 (.b t)).set 17 (.b t))
def otherD (z : Int) (t : Bool) (ds : List D) : List D :=
  ((((ints z t ds).set 23 (.l ((esOf (ats ds 23)).map (pairD z)))).set 24 (.l ((esOf (ats ds 24)).map (pairD z)))).set 27 (.l ((esOf (ats ds 27)).map (doneD z)))).set 28 (.l ((esOf (ats ds 28)).map (msgD z)))
theorem ats_set_ne {ds : List D} {k j : Nat} (d : D) (h : k ≠ j) : ats (ds.set k d) j = ats ds j := by unfold ats; rw [List.getElem?_set_ne h]
theorem ats_ints (t : Bool) {j : Nat} (h : 17 < j) (h2 : j ≠ 25) : ats (ints z t ds) j = ats ds j := by
  unfold ints
  repeat rw [ats_set_ne _ (by omega)]
theorem rCallV_1 (call : CallT) (round : Nat → List Value → St → VK → Bool) (g : FuncId) (a c : Value) (σ : St) (K : VK) : rCallV call round (.func (.func g) ⟨[]⟩ ⟨[c]⟩) [a] σ K = call g [a, c] σ K := rfl
theorem other_s {n : Nat} (hmost : 9000 < most) {cs : List Value} {t : Bool} (h : RdA σ0 (fun _ => False) itsAll cs ds) (hz1 : -9223372036854775808 ≤ z) (hz2 : z < 9223372036854775808)
    (h23 : (esOf (ats ds 23)).length ≤ 9000) (h24 : (esOf (ats ds 24)).length ≤ 9000) (h27 : (esOf (ats ds 27)).length ≤ 9000) (h28 : (esOf (ats ds 28)).length ≤ 9000)
    (n27 : ∀ x ∈ esOf (ats ds 27), lenL (ats x 2) ≤ 9000) (n28 : ∀ x ∈ esOf (ats ds 28), lenL (ats x 10) ≤ 9000) {K : VK}
    (hK : ∀ σ' cs', Ext' σ0 σ' → RdA σ' (fun _ => False) itsAll cs' (otherD z t ds) → K (.agg ⟨cs'⟩) σ' = true) : (X most (n + 2)).C c_law25_other [.agg ⟨cs⟩, .int .i64 z, .bool t] σ0 K = true := by
  rw [X_call (by rfl), f_law25_other]
  unfold r_law25_other
  rw [boxK_agg (List.all_eq_true.2 h.one), boxK_one rfl, rAlloc_h, new_n, new_n]
  have hS : ∀ zs : List Value, zs.length = 30 → OS σ0 (((σ0.new (.cells cs 34 .exact)).new (.cells [.int .i64 z] 3 .exact)).new (.cells zs 34 .exact)) z ds := by
    intro zs hzs
    refine ⟨((Ext'.new _ _).trans (Ext'.new _ _)).trans (Ext'.new _ _), by simp only [new_n]; omega, ⟨cs, ?_, h.fr ?_⟩, ?_, ⟨zs, ?_, hzs⟩⟩
    · rw [obj_new_old (by simp only [new_n]; omega), obj_new_old (by simp only [new_n]; omega), obj_new_same]
    · refine ⟨by simp only [new_n]; omega, fun i hi _ => (((Ext'.new _ _).trans (Ext'.new _ _)).trans (Ext'.new _ _)).same i hi, fun i hi => .inr ?_⟩
      rcases hi with hi | hi <;> omega
    · rw [obj_new_old (by simp only [new_n]; omega)]
      exact obj_new_same (σ := σ0.new _)
    · exact obj_new_same (σ := (σ0.new _).new _)
  have hh := hS [(.int .i64 (.ofNat 0)), (.slice none 0 0), (.int .i64 (.ofNat 0)), (.string ⟨⟨[]⟩⟩), (.bool false), (.int .i64 (.ofNat 0)), (.int .i64 (.ofNat 0)), (.int .i64 (.ofNat 0)), (.int .i64 (.ofNat 0)), (.int .i64 (.ofNat 0)), (.int .i64 (.ofNat 0)), (.int .i64 (.ofNat 0)), (.string ⟨⟨[]⟩⟩), (.string ⟨⟨[]⟩⟩), (.int .i64 (.ofNat 0)), (.int .i64 (.ofNat 0)), (.bool false), (.bool false), (.string ⟨⟨[]⟩⟩), (.slice none 0 0), (.slice none 0 0), (.slice none 0 0), (.slice none 0 0), (.slice none 0 0), (.slice none 0 0), (.bool false), (.slice none 0 0), (.slice none 0 0), (.slice none 0 0), (.slice none 0 0)] rfl
  revert hh
  generalize ((σ0.new (.cells cs 34 .exact)).new (.cells [.int .i64 z] 3 .exact)).new _ = σ
  intro hh
  have iz : ∀ (σ : St), Rd σ (C0 σ0.n) .int (.int .i64 z) (.n z) := fun σ => .int hz1 hz2
  have it' : ∀ (σ : St), Rd σ (C0 σ0.n) .is (.bool t) (.b t) := fun σ => .is
  rw [hh.n, rFld_p]
  refine hh.st (k := 0 + 0) rfl (iz _) fun σ hh _ => ?_
  rw [rFld_p]
  refine hh.st (k := 0 + 25) rfl (it' _) fun σ hh _ => ?_
  rw [hh.n, rFld_p, rFld_p]
  refine hh.st (k := 0 + 2 + 0) rfl (iz _) fun σ hh _ => ?_
  rw [rFld_p, rFld_p]
  refine hh.st (k := 0 + 2 + 2) rfl (it' _) fun σ hh _ => ?_
  rw [rFld_p, rFld_p, hh.n, hh.n, hh.n, hh.n, hh.n, hh.n, hh.n, hh.n, hh.n, rNil_p, rFld_p]
  refine hh.st (k := 0 + 2 + 3 + 0) rfl (iz _) fun σ hh _ => ?_
  repeat rw [hh.n, rSame_v (sameV_int _ _)]
  rw [rNil_p, rFld_p]
  refine hh.st (k := 0 + 2 + 3 + 1) rfl (iz _) fun σ hh _ => ?_
  repeat rw [hh.n, rSame_v (sameV_int _ _)]
  rw [rNil_p, rFld_p]
  refine hh.st (k := 0 + 2 + 3 + 2) rfl (iz _) fun σ hh _ => ?_
  repeat rw [hh.n, rSame_v (sameV_int _ _)]
  rw [rNil_p, rFld_p]
  refine hh.st (k := 0 + 2 + 3 + 3) rfl (iz _) fun σ hh _ => ?_
  repeat rw [hh.n, rSame_v (sameV_int _ _)]
  rw [rNil_p, rFld_p]
  refine hh.st (k := 0 + 2 + 3 + 4) rfl (iz _) fun σ hh _ => ?_
  repeat rw [hh.n, rSame_v (sameV_int _ _)]
  rw [rNil_p, rFld_p]
  refine hh.st (k := 0 + 2 + 3 + 5) rfl (iz _) fun σ hh _ => ?_
  repeat rw [hh.n, rSame_v (sameV_int _ _)]
  rw [rNil_p, rFld_p]
  refine hh.st (k := 0 + 2 + 3 + 6) rfl (iz _) fun σ hh _ => ?_
  repeat rw [hh.n, rSame_v (sameV_int _ _)]
  rw [rNil_p, rFld_p]
  refine hh.st (k := 0 + 2 + 3 + 9) rfl (iz _) fun σ hh _ => ?_
  repeat rw [hh.n, rSame_v (sameV_int _ _)]
  rw [rNil_p, rFld_p]
  refine hh.st (k := 0 + 2 + 3 + 10) rfl (iz _) fun σ hh _ => ?_
  rw [rNil_p, rFld_p]
  refine hh.st (k := 0 + 2 + 3 + 11) rfl (it' _) fun σ hh _ => ?_
  rw [rNil_p, rFld_p]
  refine hh.st (k := 0 + 2 + 3 + 12) rfl (it' _) fun σ hh _ => ?_
  replace hh : OS σ0 σ z (ints z t ds) := hh
  obtain ⟨u23, r23, l23⟩ := hh.ld (k := 23) (it := .list itsPair) rfl
  obtain ⟨u24, r24, l24⟩ := hh.ld (k := 24) (it := .list itsPair) rfl
  have q23 : Rd σ (C0 σ0.n) (.list itsPair) u23 (.l (esOf (ats ds 23))) := by
    rw [ats_ints t (by omega) (by omega)] at r23; rw [← esOf_eq r23]; exact r23
  have q24 : Rd σ (C0 σ0.n) (.list itsPair) u24 (.l (esOf (ats ds 24))) := by
    rw [ats_ints t (by omega) (by omega)] at r24; rw [← esOf_eq r24]; exact r24
  have lt := hh.lt
  rw [rFld_p, Nat.zero_add, l23 σ (.refl σ), rFld_p, Nat.zero_add, l24 σ (.refl σ), rCallV_1]
  refine pairs_s (n := n) hmost hh.lo q23 hh.r1 (by omega) h23 fun σa va xa ra => ?_
  have ha := hh.ext' xa
  rw [l24 σa xa, rSame_v (sameV_list r24), rCallV_1]
  refine pairs_s (n := n) hmost ha.lo (q24.fr (xa.fr _)) ha.r1 (by have := xa.n; omega) h24 fun σb vb xb rb => ?_
  have hb := ha.ext' xb
  rw [rFld_p]
  refine hb.st (k := 0 + 23) rfl (ra.fr (xb.fr _)) fun σc hc f => ?_
  rw [rFld_p]
  refine hc.st (k := 0 + 24) rfl (rb.fr f) fun σd hd _ => ?_
  replace hd : OS σ0 σd z (((ints z t ds).set 23 (.l ((esOf (ats ds 23)).map (pairD z)))).set 24 (.l ((esOf (ats ds 24)).map (pairD z)))) := hd
  have ltd := hd.lt
  obtain ⟨cs1, c1, c2⟩ := hd.r0
  obtain ⟨u27, g27, r27⟩ := c2.at (j := 27) (it := .list itsDone) rfl
  have q27 : Rd σd (C0 σ0.n) (.list itsDone) u27 (.l (esOf (ats ds 27))) := by
    rw [ats_set_ne _ (by omega), ats_set_ne _ (by omega), ats_ints t (by omega) (by omega)] at r27; rw [← esOf_eq r27]; exact r27
  refine odones_loop (most := most) (n := n + 1) (p := σ0.n) (q := σ0.n + 1) (t6 := pt (σ0.n + 2) 0) hd.lo c1 (by omega) g27 q27 hd.r1 (by omega) hz1 hz2 h27 n27 (fun σ1 v1 x1 a1 => ?_) (esOf (ats ds 27)).length 0 _ σd _ (by omega) (by rw [X_most]; omega) (.refl σd) (.inl ⟨rfl, by simp⟩)
  refine (hd.ext' x1).st (k := 27) rfl (a1.rd hd.lo (by simp; omega)) fun σe he _ => ?_
  have lte := he.lt
  obtain ⟨cs2, d1, d2⟩ := he.r0
  obtain ⟨u28, g28, r28⟩ := d2.at (j := 28) (it := .list itsMsg) rfl
  have q28 : Rd σe (C0 σ0.n) (.list itsMsg) u28 (.l (esOf (ats ds 28))) := by
    rw [ats_set_ne _ (by omega), ats_set_ne _ (by omega), ats_set_ne _ (by omega), ats_ints t (by omega) (by omega)] at r28; rw [← esOf_eq r28]; exact r28
  refine omsgs_loop (most := most) (n := n + 1) (p := σ0.n) (q := σ0.n + 1) (t6 := pt (σ0.n + 2) 0) he.lo d1 (by omega) g28 q28 he.r1 (by omega) hz1 hz2 h28 n28 (fun σ2 v2 x2 a2 => ?_) (esOf (ats ds 28)).length 0 _ σe _ (by omega) (by rw [X_most]; omega) (.refl σe) (.inl ⟨rfl, by simp⟩)
  refine (he.ext' x2).st (k := 28) rfl (a2.rd he.lo (by simp; omega)) fun σf hf _ => ?_
  obtain ⟨cs4, p1, p2⟩ := hf.r0
  obtain ⟨zs, p3, p4⟩ := hf.r2
  have l4 : cs4.length = 30 := p2.len
  have f : Fr' (C0 σ0.n) σf (σf.set (σ0.n + 2) (.cells cs4 34 .exact)) (fun _ => False) := ⟨Nat.le_refl _, fun i _ hi => obj_set_other fun e => hi (.inr e), fun _ h => h.elim⟩
  rw [rLdN_h p1 (by omega), List.drop_zero, List.take_of_length_le (by omega), rSt_all p3 (by omega) (List.all_eq_true.2 p2.one) 30 (by omega), rLdN_h obj_set_same (by omega), List.drop_zero, List.take_of_length_le (by omega)]
  exact hK _ _ ⟨hf.ext.n, fun i hi => by rw [obj_set_other (by omega)]; exact hf.ext.same i hi⟩ (p2.fr f)
end Go.Am

namespace Go.Am
theorem lenL_es (d : D) : lenL d = (esOf d).length := by cases d <;> rfl
theorem loopF_up {f : Nat → List D → Nat} (hf : ∀ n ds, n ≤ f n ds) : ∀ (es : List (List D)) (n : Nat), n ≤ loopF f es n := by
  intro es
  induction es with
  | nil => intro n; exact Nat.le_refl _
  | cons ds es ih =>
    intro n
    by_cases h : n < 9000
    · rw [loopF_lt h]; exact Nat.le_trans (hf n ds) (ih _)
    · rw [loopF_ge h]; exact Nat.le_refl _
theorem loopF_bd {f : Nat → List D → Nat} (g : List D → Nat) (hf : ∀ n ds, n + 1 + g ds ≤ f n ds) : ∀ (es : List (List D)) (n : Nat), loopF f es n < 9000 → n + es.length ≤ loopF f es n ∧ ∀ ds ∈ es, g ds ≤ 9000 := by
  intro es
  induction es with
  | nil => intro n _; exact ⟨Nat.le_refl _, fun _ h => by cases h⟩
  | cons ds es ih =>
    intro n hl
    by_cases h : n < 9000
    · rw [loopF_lt h] at hl ⊢
      obtain ⟨h1, h2⟩ := ih _ hl
      have := hf n ds
      refine ⟨by rw [List.length_cons]; omega, fun x hx => ?_⟩
      rcases List.mem_cons.1 hx with e | hx
      · subst e; omega
      · exact h2 x hx
    · rw [loopF_ge h] at hl; exact absurd hl h
theorem short {ds : List D} (hl : largeN ds < 9000) : (esOf (ats ds 23)).length ≤ 9000 ∧ (esOf (ats ds 24)).length ≤ 9000 ∧ (esOf (ats ds 27)).length ≤ 9000 ∧ (esOf (ats ds 28)).length ≤ 9000 ∧
    (∀ x ∈ esOf (ats ds 27), lenL (ats x 2) ≤ 9000) ∧ (∀ x ∈ esOf (ats ds 28), lenL (ats x 10) ≤ 9000) := by
  unfold largeN at hl
  have l19 := Nat.lt_of_le_of_lt (loopF_up (f := fSaid) (fun n ds => by unfold fSaid; omega) _ _) hl
  have l3 := Nat.lt_of_le_of_lt (loopF_up (f := fVotes) (fun n ds => by unfold fVotes; omega) _ _) l19
  have l27 : loopF fDones (esOf (ats ds 27)) (N1 ds) < 9000 := Nat.lt_of_le_of_lt (by unfold N3; exact Nat.le_add_right _ _) l3
  have l1 := Nat.lt_of_le_of_lt (loopF_up (f := fDones) (fun n ds => by unfold fDones; omega) _ _) l27
  obtain ⟨a1, a2⟩ := loopF_bd (f := fDones) (fun x => lenL (ats x 2)) (fun n ds => by unfold fDones; omega) _ _ l27
  unfold N1 at l1
  rw [lenL_es (ats ds 23), lenL_es (ats ds 24)] at l1
  have l28 : loopF fMsgs (esOf (ats ds 28)) 0 < 9000 := by omega
  obtain ⟨b1, b2⟩ := loopF_bd (f := fMsgs) (fun x => lenL (ats x 10)) (fun n ds => by unfold fMsgs; omega) _ _ l28
  exact ⟨by omega, by omega, by omega, by omega, a2, b2⟩
end Go.Am

namespace Go.Am
/-- numbers may be others -/
inductive Sh : It → D → D → Prop where
  | num {a b : Int} : Sh .num (.n a) (.n b)
  | kind {a b : Int} : Sh .kind (.n a) (.n b)
  | int {a b : Int} : Sh .int (.n a) (.n b)
  | is {a b : Bool} : Sh .is (.b a) (.b b)
  | text {l : List UInt8} : Sh .text (.s l) (.s l)
  | nums {a b : List (List D)} (h : a.length = b.length) : Sh .nums (.l a) (.l b)
  | list {its : List It} {a b : List (List D)} (h : a.length = b.length) (ha : ∀ ds ∈ a, ds.length = its.length) (hb : ∀ ds ∈ b, ds.length = its.length)
      (hr : ∀ (k : Nat) (ds ds' : List D) (j : Nat) (it : It) (d d' : D), a[k]? = some ds → b[k]? = some ds' → its[j]? = some it → ds[j]? = some d → ds'[j]? = some d' → Sh it d d') : Sh (.list its) (.l a) (.l b)
/-- as long, with the same error -/
def Eqv (a b : PenS) : Prop := a.1.length = b.1.length ∧ a.2 = b.2
theorem Eqv.wrN {a b : PenS} (h : Eqv a b) {l m : List UInt8} (hl : l.length = m.length) : Eqv (wrN l a) (wrN m b) := ⟨by simp [Am.wrN, h.1, hl], h.2⟩
theorem Eqv.wr {a b : PenS} (h : Eqv a b) {l m : List UInt8} {e : Nat} (hl : l.length = m.length) : Eqv (wr (l, e) a) (wr (m, e) b) := ⟨by simp [Am.wr, h.1, hl], by simp [Am.wr, h.2]⟩
theorem encNums_eqv {a b : List Nat} (h : a.length = b.length) : (encNums a).1.length = (encNums b).1.length ∧ (encNums a).2 = (encNums b).2 := by
  unfold encNums
  by_cases hl : 1024 < a.length
  · rw [if_pos hl, if_pos (by omega)]; exact ⟨rfl, rfl⟩
  · rw [if_neg hl, if_neg (by omega)]; exact ⟨by rw [List.length_append, List.length_append, flatMap_beb, flatMap_beb, beb_length, beb_length, h], rfl⟩
theorem encs_eqv : ∀ (its : List It) (ds ds' : List D), ds.length = its.length → ds'.length = its.length →
    (∀ (j : Nat) (it : It) (d d' : D), its[j]? = some it → ds[j]? = some d → ds'[j]? = some d' → (∀ a b, Eqv a b → Eqv (enc it d a) (enc it d' b)) ∧ cost it d = cost it d') →
    (∀ a b, Eqv a b → Eqv (encs its ds a) (encs its ds' b)) ∧ costs its ds = costs its ds' := by
  intro its
  induction its with
  | nil => intro ds ds' _ _ _; exact ⟨fun a b h => by simpa [encs] using h, by simp [costs]⟩
  | cons it its ih =>
    intro ds ds' h1 h2 h
    match ds, ds', h1, h2, h with
    | d :: ds, d' :: ds', h1, h2, h =>
      obtain ⟨g1, g2⟩ := h 0 it d d' rfl rfl rfl
      obtain ⟨i1, i2⟩ := ih ds ds' (by simpa using h1) (by simpa using h2) fun j it d d' a b c => h (j + 1) it d d' a b c
      refine ⟨fun a b hab => ?_, by simp only [costs, g2, i2]⟩
      simp only [encs]
      exact i1 _ _ (g1 a b hab)
theorem enc_eqv {it : It} {d d' : D} (h : Sh it d d') : (∀ a b, Eqv a b → Eqv (enc it d a) (enc it d' b)) ∧ cost it d = cost it d' := by
  induction h with
  | num => exact ⟨fun a b h => by simp only [enc]; exact h.wrN (by rw [beb_length, beb_length]), rfl⟩
  | kind => exact ⟨fun a b h => by simp only [enc]; exact h.wrN (by rw [beb_length, beb_length]), rfl⟩
  | int => exact ⟨fun a b h => by simp only [enc]; exact h.wrN (by rw [beb_length, beb_length]), rfl⟩
  | is => exact ⟨fun a b h => by simp only [enc]; exact h.wrN (by rw [beb_length, beb_length]), rfl⟩
  | text => exact ⟨fun a b h => by simp only [enc]; exact h.wr rfl, rfl⟩
  | @nums x y hl =>
    refine ⟨fun a b h => ?_, rfl⟩
    simp only [enc]
    obtain ⟨e1, e2⟩ := encNums_eqv (a := x.map numOf) (b := y.map numOf) (by simpa using hl)
    have := h.wr (e := (encNums (x.map numOf)).2) e1
    rw [show encNums (x.map numOf) = ((encNums (x.map numOf)).1, (encNums (x.map numOf)).2) from rfl, show encNums (y.map numOf) = ((encNums (y.map numOf)).1, (encNums (y.map numOf)).2) from rfl, ← e2]
    exact this
  | @list its x y hl hx hy _ ih =>
    have key : ∀ (x y : List (List D)), x.length = y.length → (∀ ds ∈ x, ds.length = its.length) → (∀ ds ∈ y, ds.length = its.length) →
        (∀ (k : Nat) (ds ds' : List D) (j : Nat) (it : It) (d d' : D), x[k]? = some ds → y[k]? = some ds' → its[j]? = some it → ds[j]? = some d → ds'[j]? = some d' → (∀ a b, Eqv a b → Eqv (enc it d a) (enc it d' b)) ∧ cost it d = cost it d') →
        (∀ a b, Eqv a b → Eqv (x.foldl (fun st ds => if st.2 = 0 then encs its ds st else st) a) (y.foldl (fun st ds => if st.2 = 0 then encs its ds st else st) b)) ∧ ∀ c, x.foldl (fun c ds => c + costs its ds) c = y.foldl (fun c ds => c + costs its ds) c := by
      intro x
      induction x with
      | nil =>
        intro y hl _ _ _
        have : y = [] := List.eq_nil_of_length_eq_zero (by simpa using hl.symm)
        subst this
        exact ⟨fun a b h => h, fun _ => rfl⟩
      | cons ds x ihx =>
        intro y hl hx hy hr
        match y, hl, hy, hr with
        | ds' :: y, hl, hy, hr =>
          obtain ⟨g1, g2⟩ := encs_eqv its ds ds' (hx _ (.head _)) (hy _ (.head _)) fun j it d d' a b c => hr 0 ds ds' j it d d' rfl rfl a b c
          obtain ⟨i1, i2⟩ := ihx y (by simpa using hl) (fun d hd => hx d (.tail _ hd)) (fun d hd => hy d (.tail _ hd)) fun k ds ds' j it d d' a b c e f => hr (k + 1) ds ds' j it d d' a b c e f
          refine ⟨fun a b hab => ?_, fun c => by rw [List.foldl_cons, List.foldl_cons, g2, i2]⟩
          rw [List.foldl_cons, List.foldl_cons]
          refine i1 _ _ ?_
          by_cases he : a.2 = 0
          · rw [if_pos he, if_pos (by rw [← hab.2]; exact he)]; exact g1 a b hab
          · rw [if_neg he, if_neg (by rw [← hab.2]; exact he)]; exact hab
    obtain ⟨k1, k2⟩ := key x y hl hx hy ih
    refine ⟨fun a b hab => ?_, by simp only [cost]; exact k2 8⟩
    simp only [enc]
    by_cases hb : 1048576 < x.length
    · rw [if_pos hb, if_pos (by omega)]; exact hab.wr rfl
    · rw [if_neg hb, if_neg (by omega)]; exact k1 _ _ (hab.wrN (by rw [beb_length, beb_length]))
/-- structs of one shape -/
structure Shs (its : List It) (ds ds' : List D) : Prop where
  l1 : ds.length = its.length
  l2 : ds'.length = its.length
  sh : ∀ (j : Nat) (it : It) (d d' : D), its[j]? = some it → ds[j]? = some d → ds'[j]? = some d' → Sh it d d'
theorem Rd.sh {σ : St} {C : Nat → Prop} {it : It} {v : Value} {d : D} (h : Rd σ C it v d) : Sh it d d := by
  induction h with
  | num => exact .num
  | kind => exact .kind
  | int => exact .int
  | is => exact .is
  | text => exact .text
  | nums => exact .nums rfl
  | empty => exact .list rfl (fun _ h => by cases h) (fun _ h => by cases h) fun k ds ds' j it d d' a => by simp at a
  | emptyR => exact .list rfl (fun _ h => by cases h) (fun _ h => by cases h) fun k ds ds' j it d d' a => by simp at a
  | @row its b o n c sp vs e ck es hsp hb hC ho hw hn hl hd hN _ ih =>
    refine .list rfl hd hd fun k ds ds' j it d d' a b c e f => ?_
    rw [a] at b; injection b with b; subst b
    rw [e] at f; injection f with f; subst f
    have hlt := (List.getElem?_eq_some_iff.1 c).1
    have hk := (List.getElem?_eq_some_iff.1 a).1
    have hle : k * its.length + its.length ≤ n * its.length := by
      have : (k + 1) * its.length ≤ n * its.length := Nat.mul_le_mul_right _ (by omega)
      rwa [Nat.add_mul, Nat.one_mul] at this
    exact ih k ds j it _ d a c (List.getElem?_eq_getElem (by omega)) e
theorem RdA.shs {σ : St} {C : Nat → Prop} {its : List It} {cs : List Value} {ds : List D} (h : RdA σ C its cs ds) : Shs its ds ds := by
  refine ⟨h.dlen, h.dlen, fun j it d d' a b c => ?_⟩
  rw [b] at c; injection c with c; subst c
  have hlt := (List.getElem?_eq_some_iff.1 a).1
  exact (h.rd j it _ d a (List.getElem?_eq_getElem (by rw [h.len]; exact hlt)) b).sh
theorem Shs.set {its : List It} {ds ds' : List D} (h : Shs its ds ds') {k : Nat} {it : It} {x : D} (hk : its[k]? = some it) (hx : Sh it (ats ds k) x) : Shs its ds (ds'.set k x) := by
  refine ⟨h.l1, by rw [List.length_set]; exact h.l2, fun j it' d d' a b c => ?_⟩
  by_cases hj : k = j
  · subst hj
    rw [List.getElem?_set, if_pos rfl, if_pos (by rw [h.l2]; exact (List.getElem?_eq_some_iff.1 a).1)] at c
    injection c with c; subst c
    rw [hk] at a; injection a with a; subst a
    have : ats ds k = d := by unfold ats; rw [b]; rfl
    rwa [this] at hx
  · rw [List.getElem?_set_ne hj] at c
    exact h.sh j it' d d' a b c
theorem encode_eqv {ds ds' : List D} (h : Shs itsAll ds ds') : (encode ds).1.length = (encode ds').1.length ∧ (encode ds).2 = (encode ds').2 ∧ costs itsAll ds = costs itsAll ds' := by
  obtain ⟨h1, h2⟩ := encs_eqv itsAll ds ds' h.l1 h.l2 fun j it d d' a b c => enc_eqv (h.sh j it d d' a b c)
  have := h1 ([], 0) ([], 0) ⟨rfl, rfl⟩
  unfold encode
  by_cases he : (encs itsAll ds ([], 0)).2 = 0
  · simp only [if_pos he, if_pos (show (encs itsAll ds' ([], 0)).2 = 0 by rw [← this.2]; exact he)]
    exact ⟨this.1, trivial, h2⟩
  · simp only [if_neg he, if_neg (show ¬ (encs itsAll ds' ([], 0)).2 = 0 by rw [← this.2]; exact he)]
    exact ⟨trivial, this.2, h2⟩
theorem Stc.rd {σ : St} {C : Nat → Prop} {its : List It} {b o : Nat} {x : List D} (h : Stc σ C its b o x) {j : Nat} {it : It} {d : D} (hj : its[j]? = some it) (hd : x[j]? = some d) : ∃ v, Rd σ C it v d := by
  obtain ⟨v, hv, _⟩ := h.val j hj
  have : ats x j = d := by unfold ats; rw [hd]; rfl
  exact ⟨v, this ▸ hv⟩
theorem pair_sh {σ : St} {C : Nat → Prop} {x : List D} {z z0 : Int} {j : Nat} {it : It} {d d' : D} {w : Value} (e1 : itsPair[j]? = some it) (e3 : (pairD z x)[j]? = some d') (hw : Rd σ C it w d) (q0 : ats x 0 = .n z0) : Sh it d d' := by
  match j, e1, e3 with
  | 0, e1, e3 =>
    injection e1 with e1; injection e3 with e3; subst e1 e3
    obtain ⟨y, _, e, _⟩ := hw.num_inv
    rw [e]; exact .num
  | 1, e1, e3 =>
    injection e1 with e1; injection e3 with e3; subst e1 e3
    obtain ⟨y, _, e, _⟩ := hw.num_inv
    rw [e, q0]; exact .num
  | j + 2, e1, _ => cases e1
theorem nums_sh {σ : St} {C : Nat → Prop} {w : Value} {d : D} (hw : Rd σ C .nums w d) : Sh .nums d (zerosD (lenL d)) := by
  cases hw with
  | nums h => exact .nums (by simp [lenL])
theorem done_sh {σ : St} {C : Nat → Prop} {x : List D} {z : Int} {j : Nat} {it : It} {d d' : D} {w : Value} (e1 : itsDone[j]? = some it) (e2 : x[j]? = some d) (e3 : (doneD z x)[j]? = some d') (hw : Rd σ C it w d) : Sh it d d' := by
  have hd : ats x j = d := by unfold ats; rw [e2]; rfl
  match j, e1, e3, hd with
  | 0, e1, e3, _ | 1, e1, e3, _ =>
    injection e1 with e1; injection e3 with e3; subst e1 e3
    obtain ⟨y, _, e, _⟩ := hw.int_inv
    rw [e]; exact .int
  | 2, e1, e3, hd =>
    injection e1 with e1; injection e3 with e3; subst e1 e3
    rw [hd]; exact nums_sh hw
  | j + 3, e1, _, _ => cases e1
theorem msg_sh {σ : St} {C : Nat → Prop} {x : List D} {z : Int} {j : Nat} {it : It} {d d' : D} {w : Value} (e1 : itsMsg[j]? = some it) (e2 : x[j]? = some d) (e3 : (msgD z x)[j]? = some d') (hw : Rd σ C it w d) : Sh it d d' := by
  have hd : ats x j = d := by unfold ats; rw [e2]; rfl
  match j, e1, e3, hd with
  | 0, e1, e3, _ =>
    injection e1 with e1; injection e3 with e3; subst e1 e3
    obtain ⟨y, _, e, _⟩ := hw.kind_inv
    rw [e]; exact .kind
  | 1, e1, e3, _ | 2, e1, e3, _ | 3, e1, e3, _ | 4, e1, e3, _ | 5, e1, e3, _ | 6, e1, e3, _ | 7, e1, e3, _ | 8, e1, e3, _ =>
    injection e1 with e1; injection e3 with e3; subst e1 e3
    obtain ⟨y, _, e, _⟩ := hw.int_inv
    rw [e]; exact .int
  | 9, e1, e3, hd =>
    injection e1 with e1; injection e3 with e3; subst e1 e3
    obtain ⟨y, _, e, _⟩ := hw.text_inv
    rw [hd, e]; exact .text
  | 10, e1, e3, hd =>
    injection e1 with e1; injection e3 with e3; subst e1 e3
    rw [hd]; exact nums_sh hw
  | j + 11, e1, _, _ => cases e1
/-- other's shape -/
theorem other_sh {σ : St} {C : Nat → Prop} {cs : List Value} {ds : List D} (h : RdA σ C itsAll cs ds) (z : Int) (t : Bool) : Shs itsAll ds (otherD z t ds) := by
  have hi : ∀ k, itsAll[k]? = some .int → Sh .int (ats ds k) (.n z) := fun k hk => by
    obtain ⟨u, _, hu⟩ := h.at hk
    obtain ⟨y, _, e, _⟩ := hu.int_inv
    rw [e]; exact .int
  have hb : ∀ k, itsAll[k]? = some .is → Sh .is (ats ds k) (.b t) := fun k hk => by
    obtain ⟨u, _, hu⟩ := h.at hk
    obtain ⟨y, _, e⟩ := hu.is_inv
    rw [e]; exact .is
  have hlist : ∀ (k : Nat) (its : List It) (f : List D → List D), itsAll[k]? = some (.list its) → (∀ x, (f x).length = its.length) → (∀ (σ : St) (C : Nat → Prop) (b o : Nat) (x : List D), Stc σ C its b o x → ∀ (j : Nat) (it : It) (d d' : D), its[j]? = some it → x[j]? = some d → (f x)[j]? = some d' → Sh it d d') →
      Sh (.list its) (ats ds k) (.l ((esOf (ats ds k)).map f)) := fun k its f hk hf hs => by
    obtain ⟨u, _, hu⟩ := h.at hk
    generalize ats ds k = y at hu ⊢
    obtain ⟨es, rfl⟩ := hu.list_inv
    show Sh (.list its) (.l es) (.l (es.map f))
    refine .list (by simp) (fun x hx => ?_) (fun x hx => ?_) fun n x x' j it d d' a b c e g => ?_
    · obtain ⟨b, o, hst⟩ := hu.mem hx; exact hst.len
    · obtain ⟨y, _, rfl⟩ := List.mem_map.1 hx; exact hf y
    · have hxm := List.mem_of_getElem? a
      obtain ⟨b', o, hst⟩ := hu.mem hxm
      simp only [List.getElem?_map, a, Option.map_some] at b
      injection b with b
      subst b
      exact hs σ C b' o x hst j it d d' c e g
  unfold otherD
  refine Shs.set (Shs.set (Shs.set (Shs.set ?_ (k := 23) rfl (hlist 23 itsPair _ rfl (fun _ => rfl) ?_)) (k := 24) rfl (hlist 24 itsPair _ rfl (fun _ => rfl) ?_)) (k := 27) rfl (hlist 27 itsDone _ rfl (fun _ => rfl) ?_)) (k := 28) rfl (hlist 28 itsMsg _ rfl (fun _ => rfl) ?_)
  · unfold ints
    exact (((((((((((((((h.shs.set (k := 0) rfl (hi 0 rfl)).set (k := 25) rfl (hb 25 rfl)).set (k := 2) rfl (hi 2 rfl)).set (k := 4) rfl (hb 4 rfl)).set (k := 5) rfl (hi 5 rfl)).set (k := 6) rfl (hi 6 rfl)).set (k := 7) rfl (hi 7 rfl)).set (k := 8) rfl (hi 8 rfl)).set (k := 9) rfl (hi 9 rfl)).set (k := 10) rfl (hi 10 rfl)).set (k := 11) rfl (hi 11 rfl)).set (k := 14) rfl (hi 14 rfl)).set (k := 15) rfl (hi 15 rfl)).set (k := 16) rfl (hb 16 rfl)).set (k := 17) rfl (hb 17 rfl))
  · intro σ C b o x hst j it d d' e1 e2 e3
    obtain ⟨u0, h0, _⟩ := hst.val 0 (it := .num) rfl
    obtain ⟨z0, _, q0, _⟩ := h0.num_inv
    obtain ⟨w, hw⟩ := hst.rd e1 e2
    exact pair_sh e1 e3 hw q0
  · intro σ C b o x hst j it d d' e1 e2 e3
    obtain ⟨u0, h0, _⟩ := hst.val 0 (it := .num) rfl
    obtain ⟨z0, _, q0, _⟩ := h0.num_inv
    obtain ⟨w, hw⟩ := hst.rd e1 e2
    exact pair_sh e1 e3 hw q0
  · intro σ C b o x hst j it d d' e1 e2 e3
    obtain ⟨w, hw⟩ := hst.rd e1 e2
    exact done_sh e1 e2 e3 hw
  · intro σ C b o x hst j it d d' e1 e2 e3
    obtain ⟨w, hw⟩ := hst.rd e1 e2
    exact msg_sh e1 e2 e3 hw
end Go.Am

namespace Go.Am
open Go.RowKit Go.MapKept Go.Proofs Go.Proofs.Rdr
variable {most : Nat}
theorem awake_c {n : Nat} (σ : St) (K : VK) : (X most (n + 1)).C c_law25_awake [] σ K = K (.bool true) σ := (X_ov (by rfl) [] σ K).trans rfl
theorem SaveLong_s (hM : 140737488355328 < most) {n : Nat} {σ : St} {cs : List Value} {ds : List D} {z : Int} {t : Bool} (h : RdA σ (fun _ => False) itsAll cs ds) (hz1 : -9223372036854775808 ≤ z) (hz2 : z < 9223372036854775808) {K : VK}
    (hK : ∀ σ', K (.bool true) σ' = true) : (X most (n + 11)).C c_law25_SaveLong [.agg ⟨cs⟩, .int .i64 z, .bool t] σ K = true := by
  rw [X_call (by rfl), f_law25_SaveLong]
  unfold r_law25_SaveLong
  have l30 : cs.length = 30 := h.len
  rw [boxK_agg (List.all_eq_true.2 h.one), rLdN_h obj_new_same (by omega), List.drop_zero, List.take_of_length_le (by omega)]
  have x1 := Ext'.new σ (.cells cs 34 .exact)
  have lt1 : σ.n < (σ.new (.cells cs 34 .exact)).n := Nat.lt_succ_self _
  have o1 : (σ.new (.cells cs 34 .exact)).obj σ.n = some (.cells cs 34 .exact) := obj_new_same
  revert x1 lt1 o1
  generalize (σ.new (.cells cs 34 .exact)) = σ1
  intro x1 lt1 o1
  have again : ∀ (σ' : St), Ext' σ1 σ' → ∀ K, rLdN 30 (pt σ.n 0) σ' K = K (.agg ⟨cs⟩) σ' := fun σ' hx K => by
    rw [rLdN_h (by rw [hx.same _ lt1]; exact o1) (by omega), List.drop_zero, List.take_of_length_le (by omega)]
  have h1 := h.fr (x1.fr _)
  refine large_s (n := n + 7) hM h1 fun σ2 x2 => ?_
  by_cases hl : 9000 ≤ largeN ds
  · rw [decide_eq_true hl]
    simp only [rGuard_ft, rPick_t, rIf_t, awake_c]
    exact hK _
  · rw [decide_eq_false hl]
    simp only [rGuard_ff, rPick_f, awake_c]
    have hl' : largeN ds < 9000 := by omega
    have h2 := h1.fr (x2.fr _)
    have hc := small h2 hl'
    obtain ⟨b23, b24, b27, b28, n27, n28⟩ := short hl'
    obtain ⟨e1, e2, e3⟩ := encode_eqv (other_sh h2 z t)
    have hnot : ∀ k : Value → Bool, unK .not (.bool true) k = k (.bool false) := fun k => rfl
    rw [hnot, rIf_f, again σ2 x2]
    refine Encode_s (by omega) (n := n) h2 hc fun σ3 x3 => ?_
    have x13 := x2.trans x3
    have h3 := h2.fr (x3.fr _)
    rw [rExt_t, nthK_z, rExt_t, nthK_s, nthK_z, again σ3 x13]
    refine other_s (n := n + 8) (by omega) h3 hz1 hz2 b23 b24 b27 b28 n27 n28 fun σ4 cs4 x4 h4 => ?_
    refine Encode_s (by omega) (n := n) h4 (by rw [← e3]; exact hc) fun σ5 x5 => ?_
    rw [rExt_t, nthK_z, rExt_t, nthK_s, nthK_z, rBin_eqlN, decide_eq_true e2]
    simp only [rGuard_tt, rPick_t, rLenT_s]
    rw [rBin_eqlN, decide_eq_true e1]
    exact hK _
end Go.Am

namespace Go.Am
open Go.RowKit Go.MapKept Go.Proofs Go.Proofs.Rdr
theorem Lay.none {P : Program} {w : World} (hsz : P.globals.size ≤ w.heap.size) : Lay P w (Rn.globals P.globals.size) (St.none P.globals.size) := by
  refine ⟨Rel.none hsz, fun i o h => ?_⟩
  have : (St.none P.globals.size).obj i = Option.none := rfl
  rw [this] at h
  cases h
theorem xAt_C (P : Program) (tb : FuncId → LiveT) (ov : FuncId → Option (List Value → St → VK → Bool)) (most n : Nat) : (xAt P tb ov most n).C = (envX P tb ov most n).call := rfl
theorem its34 : itsT PP 8 34 = some itsAll := by kernel_rfl
theorem called_long {H : Type} {enc : TypeId × Value → H} {W : World} {cs : Array Value} {z : Int} {t : Bool} {d : DataW H} {p : List MemPlace} (hl : Laid [] W) (h : DataW.Trod enc PP W 0 (fun _ => true) true 34 (.agg cs) d p) (hz : ∀ b off, MemPlace.cell b off ∈ p → W.frozen? ⟨b, off, none⟩ = false)
    (hw : ∀ x ∈ d.weights PP 34, x ≤ reachBytes) (hz1 : -9223372036854775808 ≤ z) (hz2 : z < 9223372036854775808) : Calls PP c_law25_SaveLong #[.agg cs, .int .i64 z, .bool t] W (fun e w' => e = .returned (.bool true) ∧ Below W.heap.size W w') := by
  have hsz : PP.globals.size ≤ W.heap.size := by rw [show PP.globals.size = 0 from gsz]; exact Nat.zero_le _
  obtain ⟨F, hF⟩ := h
  obtain ⟨ρ', σ', vs, ds, _, hlay, _, hvs, hr⟩ := lay (P := PP) (w := W) (fun _ => true) (fun _ => rfl) F 8 34 cs.toList d p hF hz hw itsAll its34 _ _ (Lay.none hsz)
  obtain ⟨most, hM⟩ : ∃ most : Nat, 140737488355328 < most := ⟨_, Nat.lt_succ_self _⟩
  obtain ⟨m, -⟩ : ∃ m : Nat, m = 0 := ⟨0, rfl⟩
  have hk := SaveLong_s hM (n := m) (t := t) hr hz1 hz2 (K := fun v _ => isTrue v) (fun _ => rfl)
  rw [X_eq, xAt_C] at hk
  obtain ⟨_, hcall⟩ := (envX_sound (P := PP) (w0 := W) (tb := tbS) (most := most) (ovS1_ok hsz hl) namesS mixedS (m + 11)).1 c_law25_SaveLong [.agg ⟨vs⟩, .int .i64 z, .bool t] σ' (fun v _ => isTrue v) ρ' W [.agg cs, .int .i64 z, .bool t] hk hlay.1
    (.cons (.agg (by simpa using hvs.1) (fun k v v' a b => hvs.2 k v v' a b)) (.cons (.flat rfl) (.cons (.flat rfl) (.nil _))))
  refine Calls.mono (callsIn_wide.1 hcall) ?_
  rintro e w' ⟨v', rfl, ρ2, v, σ2, hk2, hv, hrel, _⟩
  cases v with
  | bool b =>
    have hb : b = true := hk2
    subst hb
    rw [hv.of_flat rfl]
    exact ⟨rfl, hrel.base⟩
  | _ => cases hk2
end Go.Am
