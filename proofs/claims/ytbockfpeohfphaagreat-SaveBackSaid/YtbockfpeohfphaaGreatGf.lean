/- save: an eye's methods; cells that are written. -/
import Derived.Test.YtbockfpeohfphaaGreatGe
import Derived.Test.YtbockfpeohfphaaGreatGd

namespace Go.Am
open Go.RowKit Go.MapKept Go.Proofs Go.Proofs.Rdr
variable {most : Nat}
theorem emeth_number : methT PP 103 "consistory/save.number" = some c_save_eye_number := by kernel_rfl
theorem emeth_kind : methT PP 103 "consistory/save.kind" = some c_save_eye_kind := by kernel_rfl
theorem emeth_text : methT PP 103 "consistory/save.text" = some c_save_eye_text := by kernel_rfl
theorem emeth_nums : methT PP 103 "consistory/save.nums" = some c_save_eye_nums := by kernel_rfl
theorem emeth_many : methT PP 103 "consistory/save.many" = some c_save_eye_many := by kernel_rfl
theorem emeth_is : methT PP 103 "consistory/save.is" = some c_save_eye_is := by kernel_rfl
theorem emeth_wrong : methT PP 103 "consistory/save.wrong" = some c_save_eye_wrong := by kernel_rfl
structure Own (σ : St) (W : Nat → Prop) (rr b : Nat) (e : TypeId) (gr : Bool) (vs : List Value) : Prop where
 inW : W b
 ne : b ≠ rr
 obj : ∃ ck, σ.obj b = some (.cells vs e ck) ∧ match gr with | true => ∃ olds, ck = .grown olds ∧ ∀ i ∈ olds, W i ∧ i ≠ rr ∧ i ≠ b | false => ck = .exact
theorem Own.rd {σ : St} {W : Nat → Prop} {rr b : Nat} {e : TypeId} {gr : Bool} {vs : List Value} (h : Own σ W rr b e gr vs) : ∃ ck, σ.obj b = some (.cells vs e ck) ∧ Wr ck := by
 obtain ⟨ck, h1, h2⟩ := h.obj
 cases gr with
 | true => obtain ⟨olds, rfl, _⟩ := h2; exact ⟨_, h1, .inr (.inr ⟨_, rfl⟩)⟩
 | false => have h2 : ck = .exact := h2; subst h2; exact ⟨_, h1, .inr (.inl rfl)⟩
theorem Own.ld {σ : St} {W : Nat → Prop} {rr b : Nat} {e : TypeId} {gr : Bool} {vs : List Value} (h : Own σ W rr b e gr vs) {q : Nat} {v : Value} (hv : vs[q]? = some v) (K : VK) : rLd (pt b q) σ K = K v σ := by
 obtain ⟨ck, h1, _⟩ := h.rd
 exact rLd_h h1 hv K
theorem Own.keep {σ σ' : St} {W : Nat → Prop} {rr b : Nat} {e : TypeId} {gr : Bool} {vs : List Value} (h : Own σ W rr b e gr vs) (ho : σ'.obj b = σ.obj b) : Own σ' W rr b e gr vs := ⟨h.inW, h.ne, by rw [ho]; exact h.obj⟩
theorem foldl_put : ∀ (olds : List Nat) (h : Tr AObj) (i : Nat), (olds.foldl (fun h i => h.put i .dead) h).get i = if i ∈ olds then some .dead else h.get i := by
 intro olds
 induction olds with
 | nil => intro h i; simp
 | cons a olds ih =>
  intro h i
  rw [List.foldl_cons, ih, get_put]
  by_cases h1 : i ∈ olds
  · simp [h1]
  · by_cases h2 : i = a
    · simp [h2]
    · simp [h1, h2]
theorem set_self {vs : List Value} {q : Nat} {v : Value} (h : vs[q]? = some v) : vs.set q v = vs := by
 apply List.ext_getElem?; intro j
 rw [List.getElem?_set]
 split
 · rename_i hj; subst hj
   have := (List.getElem?_eq_some_iff.1 h).1
   rw [if_pos this, h]
 · rfl
theorem splice_one {vs : List Value} {q : Nat} {v : Value} (hq : q < vs.length) : splice q [v] vs = vs.set q v := by
 unfold splice
 rw [List.set_eq_take_append_cons_drop, if_pos hq]
 simp
theorem Own.st {σ : St} {W : Nat → Prop} {rr b : Nat} {e : TypeId} {gr : Bool} {vs : List Value} {s : RS} (h : Own σ W rr b e gr vs) (he : Eye σ W rr s) {q : Nat} {v : Value} (hq : q < vs.length) (h1 : oneCell v = true) :
 ∃ σ', (∀ k : St → Bool, rSt 1 (pt b q) v σ k = k σ') ∧ Own σ' W rr b e gr (vs.set q v) ∧ Eye σ' W rr s ∧ Fr' W σ σ' W := by
 obtain ⟨ck, h2, h3⟩ := h.obj
 cases gr with
 | false =>
  have h3 : ck = .exact := h3
  subst h3
  exact ⟨_, fun k => rSt_exact h2 hq h1 k, ⟨h.inW, h.ne, _, obj_set_same, rfl⟩, ⟨he.inW, he.lt, by rw [obj_set_other (Ne.symm h.ne)]; exact he.obj, he.len⟩, ⟨Nat.le_refl _, fun i _ hi => obj_set_other fun c => hi (c ▸ h.inW), fun _ h => .inl h⟩⟩
 | true =>
  obtain ⟨olds, rfl, h4⟩ := h3
  have hst : ∀ k : St → Bool, rSt 1 (pt b q) v σ k = match asIs [v] (vs.drop q) with
   | true => k σ
   | false => k ⟨(olds.foldl (fun h i => h.put i .dead) σ.h).put b (.cells (vs.set q v) e (.grown [])), σ.n⟩ := by
   intro k
   show cellsOfK v (fun cs => lenK cs fun m => match Nat.beq m 1 with | true => writeK σ b q cs k | false => false) = _
   rw [cellsOf_one h1, lenK_eq]
   show writeK σ b q [v] k = _
   unfold writeK
   rw [cellsK_h h2]
   show dropK q vs _ = _
   rw [dropK_eq, if_pos (by omega)]
   cases asIs [v] (vs.drop q) with
   | true => rfl
   | false =>
    simp only
    rw [spliceK_eq, if_pos (by simp; omega), killK_eq, putK_eq, splice_one hq]
    rfl
  cases hA : asIs [v] (vs.drop q) with
  | true =>
   have h5 := (asIs_true hA).2 0 v rfl
   rw [List.getElem?_drop, Nat.add_zero] at h5
   rw [set_self h5]
   exact ⟨σ, fun k => by rw [hst, hA], h, he, .refl W σ⟩
  | false =>
   have ho : ∀ i, (⟨(olds.foldl (fun h i => h.put i .dead) σ.h).put b (.cells (vs.set q v) e (.grown [])), σ.n⟩ : St).obj i = if i = b then some (.cells (vs.set q v) e (.grown [])) else if i ∈ olds then some .dead else σ.obj i := by
    intro i
    show ((olds.foldl (fun h i => h.put i .dead) σ.h).put b (.cells (vs.set q v) e (.grown []))).get i = _
    rw [get_put, foldl_put]
    rfl
   refine ⟨⟨(olds.foldl (fun h i => h.put i .dead) σ.h).put b (.cells (vs.set q v) e (.grown [])), σ.n⟩, fun k => by rw [hst, hA], ⟨h.inW, h.ne, .grown [], by rw [ho, if_pos rfl], [], rfl, fun i hi => nomatch hi⟩, ⟨he.inW, he.lt, ?_, he.len⟩, ⟨Nat.le_refl _, fun i _ hi => ?_, fun _ h => .inl h⟩⟩
   · rw [ho, if_neg (Ne.symm h.ne), if_neg (show ¬ rr ∈ olds from fun c => (h4 rr c).2.1 rfl)]; exact he.obj
   · rw [ho, if_neg (show ¬ i = b from fun c => hi (c ▸ h.inW)), if_neg (show ¬ i ∈ olds from fun c => hi (h4 i c).1)]
section
variable {σ : St} {W : Nat → Prop} {rr : Nat} {st : RS} {n : Nat} {K : VK}
theorem eye_number (h : Eye σ W rr st) (b q : Nat) (hK : ∀ σ', Eye σ' W rr (rdN 8 st).2 → Fr' W σ σ' W → rSt 1 (pt b q) (.int .u64 (.ofNat (rdN 8 st).1)) σ' (fun σ => K (.tuple ⟨[]⟩) σ) = true) :
 (X most (n + 3)).C c_save_eye_number [.agg ⟨[pt rr 0]⟩, pt b q] σ K = true := by
 rw [X_call (by rfl), f_save_eye_number]
 unfold r_save_eye_number
 rw [boxK_agg rfl, rFld_p, Nat.zero_add, rLd_h obj_new_same rfl]
 refine Num_s (n := n) (h.new _) fun σ' h1 f => ?_
 exact hK σ' h1 ((Fr'.new W σ _).trans f)
theorem eye_kind (h : Eye σ W rr st) (b q : Nat) (hK : ∀ σ', Eye σ' W rr (rdN 1 st).2 → Fr' W σ σ' W → rSt 1 (pt b q) (.int .u8 (.ofNat (rdN 1 st).1)) σ' (fun σ => K (.tuple ⟨[]⟩) σ) = true) :
 (X most (n + 3)).C c_save_eye_kind [.agg ⟨[pt rr 0]⟩, pt b q] σ K = true := by
 rw [X_call (by rfl), f_save_eye_kind]
 unfold r_save_eye_kind
 rw [boxK_agg rfl, rFld_p, Nat.zero_add, rLd_h obj_new_same rfl]
 refine ByteR_s (n := n) (h.new _) fun σ' h1 f => ?_
 exact hK σ' h1 ((Fr'.new W σ _).trans f)
theorem eye_text (h : Eye σ W rr st) (b q : Nat) (hK : ∀ σ', Eye σ' W rr (rdT st).2 → Fr' W σ σ' W → rSt 1 (pt b q) (.string ⟨⟨(rdT st).1⟩⟩) σ' (fun σ => K (.tuple ⟨[]⟩) σ) = true) :
 (X most (n + 3)).C c_save_eye_text [.agg ⟨[pt rr 0]⟩, pt b q] σ K = true := by
 rw [X_call (by rfl), f_save_eye_text]
 unfold r_save_eye_text
 rw [boxK_agg rfl, rFld_p, Nat.zero_add, rLd_h obj_new_same rfl]
 refine TextR_s (n := n) (h.new _) fun σ' h1 f => ?_
 exact hK σ' h1 ((Fr'.new W σ _).trans f)
theorem eye_is (h : Eye σ W rr st) (b q : Nat) (hK : ∀ σ', Eye σ' W rr (rdC 1 st).2 → Fr' W σ σ' W → rSt 1 (pt b q) (.bool (decide ((rdC 1 st).1 = 1))) σ' (fun σ => K (.tuple ⟨[]⟩) σ) = true) :
 (X most (n + 3)).C c_save_eye_is [.agg ⟨[pt rr 0]⟩, pt b q] σ K = true := by
 rw [X_call (by rfl), f_save_eye_is]
 unfold r_save_eye_is
 rw [boxK_agg rfl, rFld_p, Nat.zero_add, rLd_h obj_new_same rfl]
 refine Count_s (n := n) (h.new _) (by omega) fun σ' h1 f => ?_
 rw [rExt_t, nthK_z, rExt_t, nthK_s, nthK_z, rBin_eqlN]
 exact hK σ' h1 ((Fr'.new W σ _).trans f)
theorem eye_many (h : Eye σ W rr st) (v : Value) (hK : ∀ σ', Eye σ' W rr (rdC 1048576 st).2 → Fr' W σ σ' W → K (.int .i64 (.ofNat (rdC 1048576 st).1)) σ' = true) :
 (X most (n + 3)).C c_save_eye_many [.agg ⟨[pt rr 0]⟩, v] σ K = true := by
 rw [X_call (by rfl), f_save_eye_many]
 unfold r_save_eye_many
 rw [boxK_agg rfl, rFld_p, Nat.zero_add, rLd_h obj_new_same rfl]
 refine Count_s (n := n) (h.new _) (by omega) fun σ' h1 f => ?_
 exact hK σ' h1 ((Fr'.new W σ _).trans f)
theorem eye_wrong (h : Eye σ W rr st) (hK : ∀ σ', Eye σ' W rr st → Fr' W σ σ' W → K (.int .i64 (.ofNat st.2)) σ' = true) : (X most (n + 2)).C c_save_eye_wrong [.agg ⟨[pt rr 0]⟩] σ K = true := by
 rw [X_call (by rfl), f_save_eye_wrong]
 unfold r_save_eye_wrong
 rw [boxK_agg rfl, rFld_p, Nat.zero_add, rLd_h obj_new_same rfl, Wrong_s (n := n) (h.new _)]
 exact hK _ (h.new _) (.new W σ _)
theorem nums_rd {σ σ' : St} {C : Nat → Prop} {ns : List Nat} {v : Value} (hC : ¬ C σ.n) (hz : ∀ z ∈ ns, z < 18446744073709551616) (hN : ns.length ≤ 1024)
 (h : (v = .slice none 0 0 ∧ ns = []) ∨ (v = .slice (some ⟨σ.n, 0, some 0⟩) ns.length ns.length ∧ σ'.n = σ.n + 1 ∧ σ'.obj σ.n = some (.cells (ns.map fun z : Nat => .int .u64 (.ofNat z)) 57 (.grown [])))) : Rd σ' C .nums v (.l (ns.map fun z : Nat => [.n (z : Int)])) := by
 rcases h with ⟨rfl, rfl⟩ | ⟨rfl, h1, h2⟩
 · exact .nums .empty
 · refine .nums (.row rfl (by omega) hC h2 (.inr (.inr ⟨_, rfl⟩)) (by simp) (by simp) (fun ds hd => ?_) (by omega) fun k ds j it v d a b c g => ?_)
   · obtain ⟨z, _, rfl⟩ := List.mem_map.1 hd; rfl
   · match j, b with
     | 0, b =>
      injection b with b; subst b
      have hk : k < ns.length := by simpa using (List.getElem?_eq_some_iff.1 a).1
      rw [List.getElem?_map, List.getElem?_eq_getElem hk] at a
      injection a with a; subst a
      have e : 0 + k * [It.num].length + 0 = k := by simp
      rw [e, List.getElem?_map, List.getElem?_eq_getElem hk] at c
      injection c with c; subst c
      injection g with g; subst g
      exact .num (hz _ (List.getElem_mem hk))
     | j + 1, b => cases b
theorem rdW_ok (st : RS) : (∀ z ∈ (rdW st).1, z < 18446744073709551616) ∧ (rdW st).1.length ≤ 1024 := by
 unfold rdW
 split
 · exact ⟨(fun z h => nomatch h), by simp⟩
 · split
   · split
     · split
       · rename_i h1 h2
         exact ⟨wds_lt (by omega), by rw [wds_length]; exact h1⟩
       · exact ⟨(fun z h => nomatch h), by simp⟩
     · exact ⟨(fun z h => nomatch h), by simp⟩
   · exact ⟨(fun z h => nomatch h), by simp⟩
theorem eye_nums {C : Nat → Prop} (h : Eye σ W rr st) (hC : ∀ i, C i → i < σ.n) (b q : Nat) (hK : ∀ σ' v, Eye σ' W rr (rdW st).2 → Fr' W σ σ' W → Rd σ' C .nums v (.l ((rdW st).1.map fun z : Nat => [.n (z : Int)])) → rSt 1 (pt b q) v σ' (fun σ => K (.tuple ⟨[]⟩) σ) = true) :
 (X most (n + 3)).C c_save_eye_nums [.agg ⟨[pt rr 0]⟩, pt b q] σ K = true := by
 rw [X_call (by rfl), f_save_eye_nums]
 unfold r_save_eye_nums
 rw [boxK_agg rfl, rFld_p, Nat.zero_add, rLd_h obj_new_same rfl]
 refine ListR_s (n := n) (h.new _) fun σ' v h1 f h2 => ?_
 have hn : ¬ C (σ.new (.cells [pt rr 0] 103 .exact)).n := fun c => by have := hC _ c; rw [new_n] at this; omega
 exact hK σ' v h1 ((Fr'.new W σ _).trans f) (nums_rd hn (rdW_ok st).1 (rdW_ok st).2 h2)
end
end Go.Am

namespace Go.Am
open Go.RowKit Go.MapKept Go.Proofs Go.Proofs.Rdr
variable {most : Nat}
def zeroI : It → Value
 | .num => .int .u64 (.ofNat 0)
 | .kind => .int .u8 (.ofNat 0)
 | .int => .int .i64 (.ofNat 0)
 | .is => .bool false
 | .text => .string ⟨⟨[]⟩⟩
 | .nums => .slice none 0 0
 | .list _ => .slice none 0 0
structure GE (σ : St) (W C : Nat → Prop) (rr : Nat) (st : RS) (b o : Nat) (e : TypeId) (gr : Bool) (vs : List Value) (all : List It) (ds : List D) (j : Nat) (its : List It) (K : VK) : Prop where
 eye : Eye σ W rr st
 own : Own σ W rr b e gr vs
 sub : ∀ i, W i → C i
 lt : ∀ i, C i → i < σ.n
 le : o + all.length ≤ vs.length
 dl : ds.length = j
 jle : j ≤ all.length
 rest : its = all.drop j
 done : ∀ (k : Nat) (it : It) (v : Value) (d : D), all[k]? = some it → vs[o + k]? = some v → ds[k]? = some d → Rd σ C it v d
 zero : ∀ (k : Nat) (it : It), j ≤ k → all[k]? = some it → vs[o + k]? = some (zeroI it)
 hK : ∀ v σ' vs', Own σ' W rr b e gr vs' → vs'.length = vs.length → (∀ q, q < o ∨ o + all.length ≤ q → vs'[q]? = vs[q]?) → (ds ++ (decs its st).1).length = all.length →
  (∀ (k : Nat) (it : It) (v : Value) (d : D), all[k]? = some it → vs'[o + k]? = some v → (ds ++ (decs its st).1)[k]? = some d → Rd σ' C it v d) → Eye σ' W rr (decs its st).2 → Fr' W σ σ' W → K v σ' = true
theorem Fr'.up {W C : Nat → Prop} {σ σ' : St} (f : Fr' W σ σ' W) (hs : ∀ i, W i → C i) : Fr' C σ σ' C := ⟨f.n, fun i hi hc => f.same i hi fun w => hc (hs i w), fun _ h => .inl h⟩
theorem Eye.self {σ : St} {W : Nat → Prop} {rr : Nat} {st : RS} (h : Eye σ W rr st) : Eye σ (fun i => i = rr) rr st := ⟨rfl, fun i hi => by rw [hi]; exact h.lt1, h.obj, h.len⟩
theorem Eye.back {σ σ' : St} {W : Nat → Prop} {rr : Nat} {st st' : RS} (h : Eye σ W rr st) (h' : Eye σ' (fun i => i = rr) rr st') (hn : σ.n ≤ σ'.n) : Eye σ' W rr st' := ⟨h.inW, fun i hi => Nat.lt_of_lt_of_le (h.lt i hi) hn, h'.obj, h'.len⟩
section
variable {σ : St} {W C : Nat → Prop} {rr : Nat} {st : RS} {b o : Nat} {e : TypeId} {gr : Bool} {vs : List Value} {all : List It} {ds : List D} {j : Nat} {it : It} {its : List It} {K K0 : VK} {n : Nat}
theorem GE.read (g : GE σ W C rr st b o e gr vs all ds j its K) {σ1 : St} {st1 : RS} (e1 : Eye σ1 (fun i => i = rr) rr st1) (f1 : Fr' (fun i => i = rr) σ σ1 (fun i => i = rr)) : Own σ1 W rr b e gr vs ∧ Eye σ1 W rr st1 ∧ Fr' W σ σ1 W :=
 ⟨g.own.keep (f1.same b (g.eye.lt b g.own.inW) g.own.ne), g.eye.back e1 f1.n, f1.up fun i hi => by rw [hi]; exact g.eye.inW⟩
theorem GE.at (g : GE σ W C rr st b o e gr vs all ds j (it :: its) K) : all[j]? = some it ∧ its = all.drop (j + 1) ∧ j < all.length := by
 have h := g.rest
 have hj : j < all.length := by
  rcases Nat.lt_or_ge j all.length with h1 | h1
  · exact h1
  · rw [List.drop_of_length_le h1] at h; cases h
 rw [List.drop_eq_getElem_cons hj] at h
 injection h with h1 h2
 exact ⟨by rw [List.getElem?_eq_getElem hj, h1], h2, hj⟩
theorem GE.next (g : GE σ W C rr st b o e gr vs all ds j (it :: its) K) {σ' : St} {v' : Value} (own' : Own σ' W rr b e gr (vs.set (o + j) v')) (r : Rd σ' C it v' (dec it st).1) (e' : Eye σ' W rr (dec it st).2) (f : Fr' W σ σ' W) :
 GE σ' W C rr (dec it st).2 b o e gr (vs.set (o + j) v') all (ds ++ [(dec it st).1]) (j + 1) its K := by
 obtain ⟨h1, h2, h3⟩ := g.at
 have hle := g.le
 refine ⟨e', own', g.sub, fun i hi => Nat.lt_of_lt_of_le (g.lt i hi) f.n, by rw [List.length_set]; exact hle, by simp [g.dl], h3, h2, fun k it2 v d a p q => ?_, fun k it2 hk a => ?_, fun v σ2 vs2 o2 l2 s2 n2 r2 e2 f2 => ?_⟩
 · rcases Nat.lt_trichotomy k j with hk | hk | hk
   · rw [List.getElem?_set_ne (by omega)] at p
     rw [List.getElem?_append_left (by rw [g.dl]; exact hk)] at q
     exact (g.done k it2 v d a p q).fr (f.up g.sub)
   · subst hk
     rw [h1] at a
     injection a with a; subst a
     rw [List.getElem?_set_self (by omega)] at p
     injection p with p; subst p
     rw [List.getElem?_append_right (by rw [g.dl]; exact Nat.le_refl _), g.dl, Nat.sub_self] at q
     injection q with q; subst q
     exact r
   · rw [List.getElem?_eq_none (by simp [g.dl]; omega)] at q
     cases q
 · rw [List.getElem?_set_ne (by omega)]
   exact g.zero k it2 (by omega) a
 · have hd : ds ++ (decs (it :: its) st).1 = ds ++ [(dec it st).1] ++ (decs its (dec it st).2).1 := by simp [decs]
   refine g.hK v σ2 vs2 o2 (by rw [l2, List.length_set]) (fun q hq => ?_) (by rw [hd]; exact n2) (by rw [hd]; exact r2) e2 (f.trans f2)
   rw [s2 q hq, List.getElem?_set_ne (by omega)]
theorem GE.fin (g : GE σ W C rr st b o e gr vs all ds j [] K) (v : Value) : K v σ = true := by
 have h := g.rest
 have hj : all.length ≤ j := by
  rcases Nat.lt_or_ge j all.length with h1 | h1
  · rw [List.drop_eq_getElem_cons h1] at h; cases h
  · exact h1
 have hd : ds ++ (decs [] st).1 = ds := by simp [decs]
 have := g.jle
 exact g.hK v σ vs g.own rfl (fun _ _ => rfl) (by rw [hd, g.dl]; omega) (by rw [hd]; exact g.done) g.eye (.refl W σ)
theorem GE.put (g : GE σ W C rr st b o e gr vs all ds j (it :: its) K) {σ1 : St} (e1 : Eye σ1 (fun i => i = rr) rr (dec it st).2) (f1 : Fr' (fun i => i = rr) σ σ1 (fun i => i = rr)) {v' : Value} (r : Rd σ1 C it v' (dec it st).1) :
 ∃ σ2, (∀ k : St → Bool, rSt 1 (pt b (o + j)) v' σ1 k = k σ2) ∧ GE σ2 W C rr (dec it st).2 b o e gr (vs.set (o + j) v') all (ds ++ [(dec it st).1]) (j + 1) its K := by
 obtain ⟨h1, h2, h3⟩ := g.read e1 f1
 obtain ⟨_, _, hj⟩ := g.at
 have hle := g.le
 obtain ⟨σ2, k1, k2, k3, k4⟩ := h1.st h2 (q := o + j) (v := v') (by omega) r.one
 exact ⟨σ2, k1, g.next k2 (r.fr (k4.up g.sub)) k3 (h3.trans k4)⟩
theorem estep_number (g : GE σ W C rr st b o e gr vs all ds j (.num :: its) K) (next : ∀ v σ' st' vs' ds', GE σ' W C rr st' b o e gr vs' all ds' (j + 1) its K → K0 v σ' = true) :
 (X most (n + 3)).C c_save_eye_number [.agg ⟨[pt rr 0]⟩, pt b (o + j)] σ K0 = true := by
 refine eye_number (n := n) g.eye.self b (o + j) fun σ1 e1 f1 => ?_
 have hz : (rdN 8 st).1 < 18446744073709551616 := by
  unfold rdN
  split
  · simp
  · split
    · rename_i h
      have := be_lt (st.1.take 8)
      rw [List.length_take, Nat.min_eq_left h, p8] at this
      exact this
    · simp
 obtain ⟨σ2, k1, g2⟩ := g.put (v' := .int .u64 (.ofNat (rdN 8 st).1)) e1 f1 (.num hz)
 rw [k1]
 exact next _ _ _ _ _ g2
theorem estep_kind (g : GE σ W C rr st b o e gr vs all ds j (.kind :: its) K) (next : ∀ v σ' st' vs' ds', GE σ' W C rr st' b o e gr vs' all ds' (j + 1) its K → K0 v σ' = true) :
 (X most (n + 3)).C c_save_eye_kind [.agg ⟨[pt rr 0]⟩, pt b (o + j)] σ K0 = true := by
 refine eye_kind (n := n) g.eye.self b (o + j) fun σ1 e1 f1 => ?_
 have hz : (rdN 1 st).1 < 256 := by
  unfold rdN
  split
  · simp
  · split
    · rename_i h
      have := be_lt (st.1.take 1)
      rw [List.length_take, Nat.min_eq_left h] at this
      exact this
    · simp
 obtain ⟨σ2, k1, g2⟩ := g.put (v' := .int .u8 (.ofNat (rdN 1 st).1)) e1 f1 (.kind hz)
 rw [k1]
 exact next _ _ _ _ _ g2
theorem estep_is (g : GE σ W C rr st b o e gr vs all ds j (.is :: its) K) (next : ∀ v σ' st' vs' ds', GE σ' W C rr st' b o e gr vs' all ds' (j + 1) its K → K0 v σ' = true) :
 (X most (n + 3)).C c_save_eye_is [.agg ⟨[pt rr 0]⟩, pt b (o + j)] σ K0 = true := by
 refine eye_is (n := n) g.eye.self b (o + j) fun σ1 e1 f1 => ?_
 obtain ⟨σ2, k1, g2⟩ := g.put (v' := .bool (decide ((rdC 1 st).1 = 1))) e1 f1 .is
 rw [k1]
 exact next _ _ _ _ _ g2
theorem rdT_len (st : RS) : (rdT st).1.length ≤ 2048 := by
 unfold rdT
 split
 · simp
 · split
   · split
     · split
       · simp only [List.length_take]; omega
       · simp
     · simp
   · simp
theorem estep_text (g : GE σ W C rr st b o e gr vs all ds j (.text :: its) K) (next : ∀ v σ' st' vs' ds', GE σ' W C rr st' b o e gr vs' all ds' (j + 1) its K → K0 v σ' = true) :
 (X most (n + 3)).C c_save_eye_text [.agg ⟨[pt rr 0]⟩, pt b (o + j)] σ K0 = true := by
 refine eye_text (n := n) g.eye.self b (o + j) fun σ1 e1 f1 => ?_
 have := rdT_len st
 obtain ⟨σ2, k1, g2⟩ := g.put (v' := .string ⟨⟨(rdT st).1⟩⟩) e1 f1 (.text (by omega))
 rw [k1]
 exact next _ _ _ _ _ g2
theorem estep_nums (g : GE σ W C rr st b o e gr vs all ds j (.nums :: its) K) (next : ∀ v σ' st' vs' ds', GE σ' W C rr st' b o e gr vs' all ds' (j + 1) its K → K0 v σ' = true) :
 (X most (n + 3)).C c_save_eye_nums [.agg ⟨[pt rr 0]⟩, pt b (o + j)] σ K0 = true := by
 refine eye_nums (n := n) g.eye.self g.lt b (o + j) fun σ1 v e1 f1 r => ?_
 obtain ⟨σ2, k1, g2⟩ := g.put (v' := v) e1 f1 r
 rw [k1]
 exact next _ _ _ _ _ g2
theorem wrap_i64n (x : Nat) : wrapI .i64 (.ofNat x) = i64 x := by rw [wrapI_eq, IntKind.wrap_i64]; rfl
theorem ewhole_loop {sb k j0 : Nat} (hk : k ≤ 100) (hnext : ∀ v σ' st' vs' ds', GE σ' W C rr st' b o e gr vs' all ds' (j0 + k) its K → K0 v σ' = true) :
 ∀ (r i m : Nat) (σ : St) (st : RS) (vs : List Value) (ds : List D), i + r = k → r < m → GE σ W C rr st b o e gr vs all ds (j0 + i) (List.replicate r .int ++ its) K → σ.obj sb = some (.cells ((List.range k).map fun i => pt b (o + (j0 + i))) 146 .exact) → ¬ W sb → sb < σ.n →
  l_save_whole_rd (X most (n + 3)) m (eye rr) (.slice (some ⟨sb, 0, none⟩) k k) (.int .i64 (.ofNat k)) (.int .i64 (.ofNat i)) σ K0 = true := by
 intro r
 induction r with
 | zero =>
  intro i m σ st vs ds hi hm g hso hsW hsn
  obtain ⟨m, rfl⟩ := Nat.exists_eq_succ_of_ne_zero (show m ≠ 0 by omega)
  rw [l_save_whole_rdE]
  unfold l_save_whole_rdB
  rw [rBin_lssN, rIf_b, if_neg (by simp; omega)]
  have : i = k := by omega
  subst this
  exact hnext _ _ _ _ _ g
 | succ r ih =>
  intro i m σ st vs ds hi hm g hso hsW hsn
  obtain ⟨m, rfl⟩ := Nat.exists_eq_succ_of_ne_zero (show m ≠ 0 by omega)
  rw [l_save_whole_rdE]
  unfold l_save_whole_rdB
  rw [rBin_lssN, rIf_b, if_pos (by simp; omega), rIdx_n 1 sb 0 i _ _ (by omega)]
  rw [rLd_h hso (v := pt b (o + (j0 + i))) (by rw [List.getElem?_map]; simp [show i < k by omega]), rNil_p]
  have g' : GE σ W C rr st b o e gr vs all ds (j0 + i) (.int :: (List.replicate r .int ++ its)) K := g
  obtain ⟨h1, _, _⟩ := g'.at
  rw [g.own.ld (g.zero (j0 + i) .int (Nat.le_refl _) h1)]
  have hz : ∀ K : Value → Bool, rInt .u64 (zeroI .int) K = K (.int .u64 (.ofNat 0)) := fun K => by
   show rInt .u64 zI K = _
   rw [rInt_i, wrap_u64 (by omega)]
  rw [hz, rAlloc_h, rSt_exact obj_new_same (by simp) rfl, rInv_i emeth_number]
  have hnr : ¬ (σ.n = rr) := fun c => by have := g.eye.lt1; omega
  have hne : rr ≠ σ.n := fun c => hnr c.symm
  have e1 : Eye ((σ.new (.cells [.int .u64 (.ofNat 0)] 57 .exact)).set σ.n (.cells [.int .u64 (.ofNat 0)] 57 .exact)) (fun i => i = rr) rr st :=
   ⟨rfl, fun i hi => by rw [hi]; exact Nat.lt_succ_of_lt g.eye.lt1, by rw [obj_set_other hne, obj_new_old hne]; exact g.eye.obj, g.eye.len⟩
  have f1 : Fr' (fun i => i = rr) σ ((σ.new (.cells [.int .u64 (.ofNat 0)] 57 .exact)).set σ.n (.cells [.int .u64 (.ofNat 0)] 57 .exact)) (fun i => i = rr) := (Fr'.new _ σ _).set_new (Nat.le_refl _) _
  refine eye_number (n := n) e1 σ.n 0 fun σ1 e2 f2 => ?_
  have ho1 : σ1.obj σ.n = some (.cells [.int .u64 (.ofNat 0)] 57 .exact) := by
   rw [f2.same σ.n (by rw [set_n, new_n]; omega) hnr, obj_set_same]
  rw [rSt_exact ho1 (by simp) rfl, rLd_h obj_set_same rfl, rInt_i, wrap_i64n, rNil_p]
  have e3 : Eye (σ1.set σ.n (.cells ([Value.int .u64 (.ofNat 0)].set 0 (.int .u64 (.ofNat (rdN 8 st).1))) 57 .exact)) (fun i => i = rr) rr (rdN 8 st).2 :=
   ⟨rfl, e2.lt, by rw [obj_set_other hne]; exact e2.obj, e2.len⟩
  have f3 := (f1.trans f2).set_new (Nat.le_refl σ.n) (.cells ([Value.int .u64 (.ofNat 0)].set 0 (.int .u64 (.ofNat (rdN 8 st).1))) 57 .exact)
  obtain ⟨σ2, k1, g2⟩ := g'.put (v' := .int .i64 (i64 (rdN 8 st).1)) e3 f3 (.int (i64_rng _).1 (i64_rng _).2)
  rw [k1, rBin_add _ _ _ _ (by omega)]
  have hW := (g2.eye.lt)
  have f4 : Fr' W σ σ2 W := by
   obtain ⟨q1, q2, q3⟩ := g.read e3 f3
   obtain ⟨σ3, c1, c2, c3, c4⟩ := q1.st q2 (q := o + (j0 + i)) (v := .int .i64 (i64 (rdN 8 st).1)) (by have := g.le; have := g'.at.2.2; omega) rfl
   have : σ2 = σ3 := by
    by_cases h : σ2 = σ3
    · exact h
    · have a1 := k1 (fun s => @decide (s = σ2) (Classical.propDecidable _))
      have a2 := c1 (fun s => @decide (s = σ2) (Classical.propDecidable _))
      rw [a1] at a2
      simp at a2
      exact absurd a2.symm h
   rw [this]
   exact q3.trans c4
  exact ih (i + 1) m σ2 _ _ _ (by omega) (by omega) g2 (by rw [f4.same sb hsn hsW]; exact hso) hsW (Nat.lt_of_lt_of_le hsn f4.n)
theorem estep_whole (hm : 1024 < most) (k : Nat) (hk : k ≤ 100) (g : GE σ W C rr st b o e gr vs all ds j (List.replicate k .int ++ its) K) (next : ∀ v σ' st' vs' ds', GE σ' W C rr st' b o e gr vs' all ds' (j + k) its K → K0 v σ' = true) :
 (X most (n + 4)).C c_save_whole [eye rr, .slice (some ⟨σ.n, 0, none⟩) k k] (σ.new (.cells ((List.range k).map fun i => pt b (o + (j + i))) 146 .exact)) K0 = true := by
 rw [X_call (by rfl), f_save_whole]
 unfold r_save_whole
 rw [rLenS_s, X_most]
 have hx : GE (σ.new (.cells ((List.range k).map fun i => pt b (o + (j + i))) 146 .exact)) W C rr st b o e gr vs all ds (j + 0) (List.replicate k .int ++ its) K := by
  have f : Fr' W σ (σ.new (.cells ((List.range k).map fun i => pt b (o + (j + i))) 146 .exact)) W := .new W σ _
  refine ⟨g.eye.new _, g.own.keep (obj_new_old (Nat.ne_of_lt (g.eye.lt b g.own.inW))), g.sub, fun i hi => Nat.lt_succ_of_lt (g.lt i hi), g.le, g.dl, g.jle, g.rest, fun k it v d a p q => (g.done k it v d a p q).fr (f.up g.sub), g.zero, fun v σ' vs' a1 a2 a3 a4 a5 a6 a7 => g.hK v σ' vs' a1 a2 a3 a4 a5 a6 (f.trans a7)⟩
 exact ewhole_loop (n := n) hk next k 0 most _ st vs ds (by omega) (by omega) hx obj_new_same g.eye.nW (Nat.lt_succ_self _)
def EyeOk (most : Nat) (f : FuncId) (all : List It) (dp : Nat) : Prop := ∀ (n : Nat) {σ : St} {W C : Nat → Prop} {rr : Nat} {st : RS} {b o : Nat} {e : TypeId} {gr : Bool} {vs : List Value} {K : VK}, GE σ W C rr st b o e gr vs all [] 0 all K → (X most (n + dp)).C f [eye rr, pt b o] σ K = true
theorem decs_app : ∀ (a b : List It) (st : RS), decs (a ++ b) st = ((decs a st).1 ++ (decs b (decs a st).2).1, (decs b (decs a st).2).2) := by
 intro a
 induction a with
 | nil => intro b st; simp [decs]
 | cons x a ih => intro b st; simp only [List.cons_append, decs, ih]
theorem decs_len : ∀ (a : List It) (st : RS), (decs a st).1.length = a.length := by
 intro a
 induction a with
 | nil => intro st; rfl
 | cons x a ih => intro st; simp [decs, ih]
theorem estep_sub {f : FuncId} {dp : Nat} {its' : List It} (h : EyeOk most f its' dp) (g : GE σ W C rr st b o e gr vs all ds j (its' ++ its) K) (next : ∀ v σ' st' vs' ds', GE σ' W C rr st' b o e gr vs' all ds' (j + its'.length) its K → K0 v σ' = true) :
 (X most (n + dp)).C f [eye rr, pt b (o + j)] σ K0 = true := by
 have hr := g.rest
 have hal : all = all.take j ++ (its' ++ its) := by rw [hr]; exact (List.take_append_drop _ _).symm
 have hjl := g.jle
 have htl : (all.take j).length = j := by rw [List.length_take]; omega
 have hlen : all.length = j + its'.length + its.length := by rw [hal]; simp [htl]; omega
 have hat : ∀ k, k < its'.length → all[j + k]? = its'[k]? := fun k hk => by
  rw [hal, List.getElem?_append_right (by omega), htl, Nat.add_sub_cancel_left, List.getElem?_append_left hk]
 have hle := g.le
 refine h n ⟨g.eye, g.own, g.sub, g.lt, by omega, rfl, Nat.zero_le _, rfl, fun k it v d _ _ q => by simp at q, fun k it _ a => ?_, fun v σ' vs' o' l' s' n' r' e' f' => ?_⟩
 · have hk := (List.getElem?_eq_some_iff.1 a).1
   have := g.zero (j + k) it (by omega) (by rw [hat k hk]; exact a)
   rwa [← Nat.add_assoc] at this
 · simp only [List.nil_append] at n' r'
   refine next v σ' _ vs' (ds ++ (decs its' st).1) ⟨e', o', g.sub, fun i hi => Nat.lt_of_lt_of_le (g.lt i hi) f'.n, by omega, by rw [List.length_append, decs_len, g.dl], by omega, ?_, fun k it v d a p q => ?_, fun k it hk a => ?_, fun v2 σ2 vs2 o2 l2 s2 n2 r2 e2 f2 => ?_⟩
   · have e1 : all.drop (j + its'.length) = (all.drop j).drop its'.length := by rw [List.drop_drop]
     rw [e1, ← hr, List.drop_left]
   · by_cases hk : k < j
     · rw [s' _ (.inl (by omega))] at p
       rw [List.getElem?_append_left (by rw [g.dl]; exact hk)] at q
       exact (g.done k it v d a p q).fr (f'.up g.sub)
     · rw [List.getElem?_append_right (by rw [g.dl]; omega), g.dl] at q
       have hk2 : k - j < its'.length := by have := (List.getElem?_eq_some_iff.1 q).1; rw [decs_len] at this; exact this
       have ek : k = j + (k - j) := by omega
       rw [ek, hat _ hk2] at a
       rw [ek, ← Nat.add_assoc] at p
       exact r' (k - j) it v d a p q
   · rw [s' _ (.inr (by omega))]
     exact g.zero k it (by omega) a
   · have hd : ds ++ (decs (its' ++ its) st).1 = ds ++ (decs its' st).1 ++ (decs its (decs its' st).2).1 := by rw [decs_app]; simp
     refine g.hK v2 σ2 vs2 o2 (by omega) (fun q hq => ?_) (by rw [hd]; exact n2) (by rw [hd]; exact r2) (by rw [decs_app]; exact e2) (f'.trans f2)
     rw [s2 q hq, s' q (by omega)]
end
end Go.Am

namespace Go.Am
open Go.RowKit Go.MapKept Go.Proofs Go.Proofs.Rdr
variable {most : Nat}
def Lst (σ : St) (C : Nat → Prop) (n0 : Nat) (its : List It) (el : TypeId) (v : Value) (es : List (List D)) : Prop :=
 (v = .slice none 0 0 ∧ es = []) ∨ ∃ j vs olds, n0 ≤ j ∧ j < σ.n ∧ v = .slice (some ⟨j, 0, some 0⟩) es.length es.length ∧ σ.obj j = some (.cells vs el (.grown olds)) ∧ vs.length = es.length * its.length ∧ (∀ i ∈ olds, n0 ≤ i ∧ i < σ.n ∧ i ≠ j) ∧ (∀ ds ∈ es, ds.length = its.length) ∧
  ∀ (k : Nat) (ds : List D) (q : Nat) (it : It) (u : Value) (d : D), es[k]? = some ds → its[q]? = some it → vs[k * its.length + q]? = some u → ds[q]? = some d → Rd σ (fun i => C i ∨ i = j ∨ i ∈ olds) it u d
def Mid (σ : St) (C : Nat → Prop) (n0 : Nat) (its : List It) (el : TypeId) (jn : Nat) (es : List (List D)) : Prop :=
 ∃ vs olds, n0 ≤ jn ∧ jn < σ.n ∧ σ.obj jn = some (.cells vs el (.grown olds)) ∧ vs.length = (es.length + 1) * its.length ∧ (∀ i ∈ olds, n0 ≤ i ∧ i < σ.n ∧ i ≠ jn) ∧ (∀ ds ∈ es, ds.length = its.length) ∧
  (∀ (k : Nat) (ds : List D) (q : Nat) (it : It) (u : Value) (d : D), es[k]? = some ds → its[q]? = some it → vs[k * its.length + q]? = some u → ds[q]? = some d → Rd σ (fun i => C i ∨ i = jn ∨ i ∈ olds) it u d) ∧
  ∀ (q : Nat) (it : It), its[q]? = some it → vs[es.length * its.length + q]? = some (zeroI it)
theorem Lst.val {σ : St} {C : Nat → Prop} {n0 : Nat} {its : List It} {el : TypeId} {v : Value} {es : List (List D)} (h : Lst σ C n0 its el v es) : (∃ a, v = .slice a es.length es.length) ∧ sameV v v = true := by
 rcases h with ⟨rfl, rfl⟩ | ⟨j, vs, olds, _, _, rfl, _⟩
 · exact ⟨⟨_, rfl⟩, rfl⟩
 · refine ⟨⟨_, rfl⟩, ?_⟩
   show ((Nat.beq j j && Nat.beq 0 0) && (Nat.beq es.length es.length && Nat.beq es.length es.length)) = true
   simp
theorem Lst.fr {σ σ' : St} {W C : Nat → Prop} {n0 : Nat} {its : List It} {el : TypeId} {v : Value} {es : List (List D)} (h : Lst σ C n0 its el v es) (f : Fr' W σ σ' W) (hs : ∀ i, W i → C i) (hC : ∀ i, C i → i < n0) : Lst σ' C n0 its el v es := by
 rcases h with ⟨rfl, rfl⟩ | ⟨j, vs, olds, h1, h2, rfl, h3, h4, h5, h6, h7⟩
 · exact .inl ⟨rfl, rfl⟩
 · have hj : ¬ W j := fun w => by have := hC j (hs j w); omega
   exact .inr ⟨j, vs, olds, h1, Nat.lt_of_lt_of_le h2 f.n, rfl, by rw [f.same j h2 hj]; exact h3, h4, fun i hi => ⟨(h5 i hi).1, Nat.lt_of_lt_of_le (h5 i hi).2.1 f.n, (h5 i hi).2.2⟩, h6, fun k ds q it u d a b c g => (h7 k ds q it u d a b c g).fr (f.up fun i w => .inl (hs i w))⟩
theorem Mid.fr {σ σ' : St} {W C : Nat → Prop} {n0 : Nat} {its : List It} {el : TypeId} {jn : Nat} {es : List (List D)} (h : Mid σ C n0 its el jn es) (f : Fr' W σ σ' W) (hs : ∀ i, W i → C i) (hC : ∀ i, C i → i < n0) : Mid σ' C n0 its el jn es := by
 obtain ⟨vs, olds, h1, h2, h3, h4, h5, h6, h7, h8⟩ := h
 have hj : ¬ W jn := fun w => by have := hC jn (hs jn w); omega
 exact ⟨vs, olds, h1, Nat.lt_of_lt_of_le h2 f.n, by rw [f.same jn h2 hj]; exact h3, h4, fun i hi => ⟨(h5 i hi).1, Nat.lt_of_lt_of_le (h5 i hi).2.1 f.n, (h5 i hi).2.2⟩, h6, fun k ds q it u d a b c g => (h7 k ds q it u d a b c g).fr (f.up fun i w => .inl (hs i w)), h8⟩
theorem Lst.rd {σ : St} {C : Nat → Prop} {n0 : Nat} {its : List It} {el : TypeId} {v : Value} {es : List (List D)} (h : Lst σ C n0 its el v es) (hC : ∀ i, C i → i < n0) (hle : es.length ≤ 1048576) : Rd σ C (.list its) v (.l es) := by
 rcases h with ⟨rfl, rfl⟩ | ⟨j, vs, olds, h1, h2, rfl, h3, h4, h5, h6, h7⟩
 · exact .empty
 · refine .row rfl h2 (fun hc => by have := hC j hc; omega) h3 (.inr (.inr ⟨olds, rfl⟩)) rfl (by omega) h6 (by omega) fun k ds q it u d a b c g => ?_
   rw [Nat.zero_add] at c
   exact (h7 k ds q it u d a b c g).fr ⟨Nat.le_refl _, fun _ _ _ => rfl, fun i hi => .inl (.inl hi)⟩
structure Fn (n0 : Nat) (W : Nat → Prop) (σ σ' : St) : Prop where
 n : σ.n ≤ σ'.n
 same : ∀ i, i < n0 → ¬ W i → σ'.obj i = σ.obj i
theorem Fn.of {n0 : Nat} {W : Nat → Prop} {σ σ' : St} (f : Fr' W σ σ' W) (h : n0 ≤ σ.n) : Fn n0 W σ σ' := ⟨f.n, fun i hi hw => f.same i (by omega) hw⟩
theorem Fn.trans {n0 : Nat} {W : Nat → Prop} {a b c : St} (f : Fn n0 W a b) (g : Fn n0 W b c) : Fn n0 W a c := ⟨Nat.le_trans f.n g.n, fun i hi hw => by rw [g.same i hi hw, f.same i hi hw]⟩
theorem Fn.fr {W : Nat → Prop} {σ σ' : St} (f : Fn σ.n W σ σ') : Fr' W σ σ' W := ⟨f.n, fun i hi hw => f.same i hi hw, fun _ h => .inl h⟩
section
variable {σ : St} {W C : Nat → Prop} {n0 rr b q : Nat} {e0 : TypeId} {gr : Bool} {vs : List Value} {its : List It} {el : TypeId} {w v : Value} {es : List (List D)} {st : RS} {n : Nat}
structure LB (σ : St) (W C : Nat → Prop) (n0 rr b q : Nat) (e0 : TypeId) (gr : Bool) (vs : List Value) (w : Value) (st : RS) : Prop where
 eye : Eye σ W rr st
 own : Own σ W rr b e0 gr (vs.set q w)
 hq : q < vs.length
 sub : ∀ i, W i → C i
 lt : ∀ i, C i → i < n0
 n0 : n0 ≤ σ.n
theorem LB.ld (h : LB σ W C n0 rr b q e0 gr vs w st) (K : VK) : rLd (pt b q) σ K = K w σ := h.own.ld (by rw [List.getElem?_set_self h.hq]) K
theorem LB.read (h : LB σ W C n0 rr b q e0 gr vs w st) {σ1 : St} {st1 : RS} (e1 : Eye σ1 (fun i => i = rr) rr st1) (f1 : Fr' (fun i => i = rr) σ σ1 (fun i => i = rr)) : LB σ1 W C n0 rr b q e0 gr vs w st1 ∧ Fr' W σ σ1 W :=
 ⟨⟨h.eye.back e1 f1.n, h.own.keep (f1.same b (h.eye.lt b h.own.inW) h.own.ne), h.hq, h.sub, h.lt, Nat.le_trans h.n0 f1.n⟩, f1.up fun i hi => by rw [hi]; exact h.eye.inW⟩
theorem LB.new (h : LB σ W C n0 rr b q e0 gr vs w st) (o : AObj) : LB (σ.new o) W C n0 rr b q e0 gr vs w st :=
 ⟨h.eye.new o, h.own.keep (obj_new_old (Nat.ne_of_lt (h.eye.lt b h.own.inW))), h.hq, h.sub, h.lt, Nat.le_succ_of_le h.n0⟩
theorem LB.put (h : LB σ W C n0 rr b q e0 gr vs w st) (v : Value) (hv : oneCell v = true) : ∃ σ', (∀ k : St → Bool, rSt 1 (pt b q) v σ k = k σ') ∧ LB σ' W C n0 rr b q e0 gr vs v st ∧ Fr' W σ σ' W := by
 obtain ⟨σ', k1, k2, k3, k4⟩ := h.own.st h.eye (q := q) (v := v) (by rw [List.length_set]; exact h.hq) hv
 rw [List.set_set] at k2
 exact ⟨σ', k1, ⟨k3, k2, h.hq, h.sub, h.lt, Nat.le_trans h.n0 k4.n⟩, k4⟩
theorem LB.grow {bytes : Nat} {x : Value} {σ1 : St} (h : LB σ W C n0 rr b q e0 gr vs w st) (hl : Lst σ C n0 its el v es) (h1 : LB σ1 W C n0 rr b q e0 gr vs w st) (hx : Ext' σ σ1) (hx2 : Src σ1 its.length x 1 (its.map zeroI)) (hs : sizeT PP el = some its.length) (hb : (es.length + 1) * (bytes + 1) ≤ 1099511627776) {K : VK}
 (hK : ∀ σ' jn, LB σ' W C n0 rr b q e0 gr vs w st → Mid σ' C n0 its el jn es → Fn n0 W σ1 σ' → K (.slice (some ⟨jn, 0, some 0⟩) (es.length + 1) (es.length + 1)) σ' = true) : rApp PP el its.length bytes v x σ1 K = true := by
 have hn := hx.n
 rcases hl with ⟨rfl, rfl⟩ | ⟨j, ws, olds, h2, h3, rfl, h4, h5, h6, h7, h8⟩
 · rw [rApp_nil hx2 (by omega) (by simpa using hb)]
   refine hK _ σ1.n (h1.new _) ⟨its.map zeroI, [], h1.n0, Nat.lt_succ_self _, obj_new_same, by simp, fun i hi => (nomatch hi), fun ds hd => (nomatch hd), fun k ds q it u d a => by simp at a, fun q it a => ?_⟩ (.of (.new W σ1 _) h1.n0)
   simp [a]
 · have hj1 : σ1.obj j = some (.cells ws el (.grown olds)) := by rw [hx.same j h3]; exact h4
   rw [rApp_row hx2 (by omega) hb hj1 h5 hs]
   have hjW : ¬ W j := fun c => by have := h.lt j (h.sub j c); omega
   have hjr : rr ≠ j := fun c => hjW (c ▸ h.eye.inW)
   have hjb : b ≠ j := fun c => hjW (c ▸ h.own.inW)
   have ho : ∀ i, i ≠ j → i < σ1.n → ((σ1.set j (.cells ws el .stale)).new (.cells (ws ++ its.map zeroI) el (.grown (j :: olds)))).obj i = σ1.obj i := fun i hi hlt => by
    rw [obj_new_old (by rw [set_n]; omega), obj_set_other hi]
   have f : Fr' (fun i => C i ∨ i = j ∨ i ∈ olds) σ1 ((σ1.set j (.cells ws el .stale)).new (.cells (ws ++ its.map zeroI) el (.grown (j :: olds)))) (fun i => C i ∨ i = σ1.n ∨ i ∈ j :: olds) := by
    refine ⟨by rw [new_n, set_n]; omega, fun i hi hb => ho i (fun e => hb (.inr (.inl e))) hi, fun i hi => ?_⟩
    rcases hi with hi | hi | hi
    · exact .inl (.inl hi)
    · exact .inr (by omega)
    · rcases List.mem_cons.1 hi with e | hi
      · exact .inl (.inr (.inl e))
      · exact .inl (.inr (.inr hi))
   have hrl := h1.eye.lt1
   have hbl := h1.eye.lt b h1.own.inW
   refine hK _ σ1.n ⟨⟨h1.eye.inW, fun i hi => Nat.lt_succ_of_lt (h1.eye.lt i hi), by rw [ho rr hjr hrl]; exact h1.eye.obj, h1.eye.len⟩, h1.own.keep (ho b hjb hbl), h1.hq, h1.sub, h1.lt, Nat.le_succ_of_le h1.n0⟩
    ⟨ws ++ its.map zeroI, j :: olds, h1.n0, Nat.lt_succ_self _, ?_, ?_, fun i hi => ?_, h7, fun k d q it u d' a b c g => ?_, fun q it a => ?_⟩ ⟨by rw [new_n, set_n]; omega, fun i hi hb => ho i (by omega) (by have := h1.n0; omega)⟩
   · have : σ1.n = (σ1.set j (.cells ws el .stale)).n := rfl
     rw [this, obj_new_same]
   · simp [h5, Nat.add_mul]
   · rcases List.mem_cons.1 hi with e | hi
     · rw [e]; exact ⟨h2, by rw [new_n, set_n]; omega, by omega⟩
     · obtain ⟨a1, a2, a3⟩ := h6 i hi
       exact ⟨a1, by rw [new_n, set_n]; omega, by omega⟩
   · have hk := (List.getElem?_eq_some_iff.1 a).1
     have hq := (List.getElem?_eq_some_iff.1 b).1
     have hlt : k * its.length + its.length ≤ es.length * its.length := by
      have : (k + 1) * its.length ≤ es.length * its.length := Nat.mul_le_mul_right _ hk
      rwa [Nat.add_mul, Nat.one_mul] at this
     rw [List.getElem?_append_left (by omega)] at c
     exact ((h8 k d q it u d' a b c g).fr (hx.fr _)).fr f
   · rw [List.getElem?_append_right (by omega), h5, Nat.add_sub_cancel_left]
     simp [a]
theorem rBuildS_agg1 (el : TypeId) {k : Nat} {zero cs : List Value} (hz : zero.length = k) (hc : cs.length = k) (h1 : cs.all oneCell = true) (σ : St) (K : VK) : rBuildS el 1 zero [(0, k, .agg ⟨cs⟩)] σ K = K (.slice (some ⟨σ.n, 0, none⟩) 1 1) (σ.new (.cells cs el .exact)) := by
 show repK zero 1 (fun c0 => (match allB oneCell cs with | true => (lenK cs fun m => match Nat.beq m k with | true => spliceK 0 cs c0 (fun cs => newK σ (.cells cs el .exact) fun i σ => K (.slice (some ⟨i, 0, none⟩) 1 1) σ) | false => false) | false => false)) = _
 rw [repK_eq, allB_eq, h1, lenK_eq]
 simp only [hc, show Nat.beq k k = true from Nat.beq_refl _]
 rw [spliceK_eq, if_pos (by simp; omega), newK_eq]
 congr 3
 simp [splice]
 omega
theorem Mid.child {one : FuncId} {dp jn : Nat} {K : VK} (h : EyeOk most one its dp) (hb : LB σ W C n0 rr b q e0 gr vs w st) (hm : Mid σ C n0 its el jn es)
 (hK : ∀ v σ', LB σ' W C n0 rr b q e0 gr vs w (decs its st).2 → Lst σ' C n0 its el (.slice (some ⟨jn, 0, some 0⟩) (es.length + 1) (es.length + 1)) (es ++ [(decs its st).1]) → Fn n0 W σ σ' → K v σ' = true) :
 (X most (n + dp)).C one [eye rr, pt jn (0 + es.length * its.length)] σ K = true := by
 obtain ⟨ws, olds, h1, h2, h3, h4, h5, h6, h7, h8⟩ := hm
 have hrn : rr < n0 := hb.lt rr (hb.sub rr hb.eye.inW)
 have hbn : b < n0 := hb.lt b (hb.sub b hb.own.inW)
 let W1 : Nat → Prop := fun i => i = rr ∨ i = jn ∨ i ∈ olds
 let C1 : Nat → Prop := fun i => C i ∨ i = jn ∨ i ∈ olds
 have hs1 : ∀ i, W1 i → C1 i := fun i hi => by
  rcases hi with e | e | e
  · exact .inl (by rw [e]; exact hb.sub rr hb.eye.inW)
  · exact .inr (.inl e)
  · exact .inr (.inr e)
 have hl1 : ∀ i, C1 i → i < σ.n := fun i hi => by
  rcases hi with e | e | e
  · have := hb.lt i e; have := hb.n0; omega
  · omega
  · exact (h5 i e).2.1
 have e1 : Eye σ W1 rr st := ⟨.inl rfl, fun i hi => hl1 i (hs1 i hi), hb.eye.obj, hb.eye.len⟩
 have o1 : Own σ W1 rr jn el true ws := ⟨.inr (.inl rfl), by omega, _, h3, olds, rfl, fun i hi => ⟨.inr (.inr hi), by have := (h5 i hi).1; omega, (h5 i hi).2.2⟩⟩
 rw [Nat.zero_add]
 refine h n ⟨e1, o1, hs1, hl1, by rw [h4, Nat.add_mul]; omega, rfl, Nat.zero_le _, rfl, fun k it v d _ _ c => by simp at c, fun k it _ a => h8 k it a, fun v σ' vs' o2 l2 s2 n2 r2 e2 f2 => ?_⟩
 simp only [List.nil_append] at n2 r2
 have hbo : σ'.obj b = σ.obj b := f2.same b (by have := hb.n0; omega) (fun c => by
  rcases c with e | e | e
  · exact hb.own.ne e
  · omega
  · have := (h5 b e).1; omega)
 have hb2 : LB σ' W C n0 rr b q e0 gr vs w (decs its st).2 :=
  ⟨⟨hb.eye.inW, fun i hi => Nat.lt_of_lt_of_le (hb.eye.lt i hi) f2.n, e2.obj, e2.len⟩, hb.own.keep hbo, hb.hq, hb.sub, hb.lt, Nat.le_trans hb.n0 f2.n⟩
 refine hK v σ' hb2 ?_ ⟨f2.n, fun i hi hw => f2.same i (by have := hb.n0; omega) (fun c => by
  rcases c with e | e | e
  · exact hw (by rw [e]; exact hb.eye.inW)
  · omega
  · have := (h5 i e).1; omega)⟩
 obtain ⟨ck, p1, olds', p2, p3⟩ := o2.obj
 subst p2
 have hsub : ∀ i, i ∈ olds' → i ∈ olds := fun i hi => by
  obtain ⟨a1, a2, a3⟩ := p3 i hi
  rcases a1 with e | e | e
  · exact absurd e a2
  · exact absurd e a3
  · exact e
 have less : ∀ {it : It} {u : Value} {d : D}, Rd σ' C1 it u d → Rd σ' (fun i => C i ∨ i = jn ∨ i ∈ olds') it u d := fun hr => hr.fr ⟨Nat.le_refl _, fun _ _ _ => rfl, fun i hi => .inl (by
  rcases hi with e | e | e
  · exact .inl e
  · exact .inr (.inl e)
  · exact .inr (.inr (hsub i e)))⟩
 refine .inr ⟨jn, vs', olds', h1, Nat.lt_of_lt_of_le h2 f2.n, by simp, p1, by simp [l2, h4], fun i hi => ⟨(h5 i (hsub i hi)).1, Nat.lt_of_lt_of_le (h5 i (hsub i hi)).2.1 f2.n, (h5 i (hsub i hi)).2.2⟩, fun d hd => ?_, fun k d q it u d' a b c g => ?_⟩
 · rcases List.mem_append.1 hd with hd | hd
   · exact h6 d hd
   · simp at hd; subst hd; rw [decs_len]
 · have hq := (List.getElem?_eq_some_iff.1 b).1
   rcases Nat.lt_or_ge k es.length with hk | hk
   · rw [List.getElem?_append_left hk] at a
     have hlt : k * its.length + its.length ≤ es.length * its.length := by
      have : (k + 1) * its.length ≤ es.length * its.length := Nat.mul_le_mul_right _ hk
      rwa [Nat.add_mul, Nat.one_mul] at this
     rw [s2 _ (.inl (by omega))] at c
     exact less ((h7 k d q it u d' a b c g).fr (f2.up hs1))
   · have hk' : k = es.length := by
      have := (List.getElem?_eq_some_iff.1 a).1
      simp at this; omega
     subst hk'
     simp at a
     subst a
     exact less (r2 q it u d' b c g)
end
end Go.Am

namespace Go.Am
open Go.RowKit Go.MapKept Go.Proofs Go.Proofs.Rdr
variable {most : Nat}
theorem eye_text' (hM : 1048576 < most) : EyeOk most c_save_text itsText 5 := by
 intro n σ W C rr st b o e gr vs K g
 have hm : 1024 < most := by omega
 rw [X_call (by rfl), f_save_text]
 unfold r_save_text
 rw [rInv_i emeth_text]
 refine estep_text (n := n + 1) (its := []) g fun v σ st vs ds g => ?_
 exact g.fin _

theorem eye_nums' (hM : 1048576 < most) : EyeOk most c_save_nums itsNums 5 := by
 intro n σ W C rr st b o e gr vs K g
 have hm : 1024 < most := by omega
 rw [X_call (by rfl), f_save_nums]
 unfold r_save_nums
 rw [rInv_i emeth_nums]
 refine estep_nums (n := n + 1) (its := []) g fun v σ st vs ds g => ?_
 exact g.fin _

theorem eye_pair' (hM : 1048576 < most) : EyeOk most c_save_pair itsPair 5 := by
 intro n σ W C rr st b o e gr vs K g
 have hm : 1024 < most := by omega
 rw [X_call (by rfl), f_save_pair]
 unfold r_save_pair
 rw [rNil_p, rFld_p, rNil_m emeth_number, rInv_i emeth_number]
 refine estep_number (n := n + 1) (its := [.num]) g fun v σ st vs ds g => ?_
 rw [rNil_p, rFld_p, rNil_m emeth_number, rInv_i emeth_number]
 refine estep_number (n := n + 1) (its := []) g fun v σ st vs ds g => ?_
 exact g.fin _

theorem eye_message' (hM : 1048576 < most) : EyeOk most c_save_message itsMsg 5 := by
 intro n σ W C rr st b o e gr vs K g
 have hm : 1024 < most := by omega
 rw [X_call (by rfl), f_save_message]
 unfold r_save_message
 rw [rNil_p, rFld_p, rNil_m emeth_kind, rInv_i emeth_kind]
 refine estep_kind (n := n + 1) (its := [.int, .int, .int, .int, .int, .int, .int, .int, .text, .nums]) g fun v σ st vs ds g => ?_
 rw [rNil_p, rFld_p, rNil_p, rFld_p, rNil_p, rFld_p, rNil_p, rFld_p, rNil_p, rFld_p, rNil_p, rFld_p, rNil_p, rFld_p, rNil_p, rFld_p]
 rw [rB8, bcase_t, rB8]
 refine estep_whole (n := n + 0) (its := [.text, .nums]) hm 8 (by omega) g fun v σ st vs ds g => ?_
 rw [rNil_p, rFld_p, rNil_m emeth_text, rInv_i emeth_text]
 refine estep_text (n := n + 1) (its := [.nums]) g fun v σ st vs ds g => ?_
 rw [rNil_p, rFld_p, rNil_m emeth_nums, rInv_i emeth_nums]
 refine estep_nums (n := n + 1) (its := []) g fun v σ st vs ds g => ?_
 exact g.fin _

theorem eye_vote' (hM : 1048576 < most) : EyeOk most c_save_vote itsVote 5 := by
 intro n σ W C rr st b o e gr vs K g
 have hm : 1024 < most := by omega
 rw [X_call (by rfl), f_save_vote]
 unfold r_save_vote
 rw [rNil_p, rFld_p, rNil_p, rFld_p]
 rw [rB2, bcase_t, rB2]
 refine estep_whole (n := n + 0) (its := [.kind, .int, .text]) hm 2 (by omega) g fun v σ st vs ds g => ?_
 rw [rNil_p, rFld_p, rNil_m emeth_kind, rInv_i emeth_kind]
 refine estep_kind (n := n + 1) (its := [.int, .text]) g fun v σ st vs ds g => ?_
 rw [rNil_p, rFld_p]
 rw [rB1]
 refine estep_whole (n := n + 0) (its := [.text]) hm 1 (by omega) g fun v σ st vs ds g => ?_
 rw [rNil_p, rFld_p, rNil_m emeth_text, rInv_i emeth_text]
 refine estep_text (n := n + 1) (its := []) g fun v σ st vs ds g => ?_
 exact g.fin _

theorem eye_said' (hM : 1048576 < most) : EyeOk most c_save_said itsSaid 5 := by
 intro n σ W C rr st b o e gr vs K g
 have hm : 1024 < most := by omega
 rw [X_call (by rfl), f_save_said]
 unfold r_save_said
 rw [rNil_p, rFld_p]
 rw [rB1]
 refine estep_whole (n := n + 0) (its := [.text]) hm 1 (by omega) g fun v σ st vs ds g => ?_
 rw [rNil_p, rFld_p, rNil_m emeth_text, rInv_i emeth_text]
 refine estep_text (n := n + 1) (its := []) g fun v σ st vs ds g => ?_
 exact g.fin _

theorem eye_told' (hM : 1048576 < most) : EyeOk most c_save_told itsTold 5 := by
 intro n σ W C rr st b o e gr vs K g
 have hm : 1024 < most := by omega
 rw [X_call (by rfl), f_save_told]
 unfold r_save_told
 rw [rNil_p, rFld_p]
 rw [rB1]
 refine estep_whole (n := n + 0) (its := [.nums]) hm 1 (by omega) g fun v σ st vs ds g => ?_
 rw [rNil_p, rFld_p, rNil_m emeth_nums, rInv_i emeth_nums]
 refine estep_nums (n := n + 1) (its := []) g fun v σ st vs ds g => ?_
 exact g.fin _

theorem eye_done' (hM : 1048576 < most) : EyeOk most c_save_done itsDone 5 := by
 intro n σ W C rr st b o e gr vs K g
 have hm : 1024 < most := by omega
 rw [X_call (by rfl), f_save_done]
 unfold r_save_done
 rw [rNil_p, rFld_p, rNil_p, rFld_p]
 rw [rB2, bcase_t, rB2]
 refine estep_whole (n := n + 0) (its := [.nums]) hm 2 (by omega) g fun v σ st vs ds g => ?_
 rw [rNil_p, rFld_p, rNil_m emeth_nums, rInv_i emeth_nums]
 refine estep_nums (n := n + 1) (its := []) g fun v σ st vs ds g => ?_
 exact g.fin _

theorem rdC_max (m : Nat) (st : RS) : (rdC m st).1 ≤ m := by
 unfold rdC
 split
 · simp
 · split
   · split
     · rename_i h; exact h
     · simp
   · simp
theorem decL_len (f : RS → List D × RS) : ∀ (n : Nat) (st : RS), (decL f n st).1.length ≤ n := by
 intro n
 induction n with
 | zero => intro st; simp [decL]
 | succ n ih =>
  intro st
  simp only [decL]
  split
  · simp
  · have := ih (f st).2
    simp only [List.length_cons]
    omega

def GrOk (its : List It) (el : TypeId) (G : Value → (St → Bool) → St → Bool) : Prop := ∀ {σ : St} {W C : Nat → Prop} {n0 rr b q : Nat} {e0 : TypeId} {gr : Bool} {vs : List Value} {v : Value} {st : RS} {es : List (List D)} {j : St → Bool}, LB σ W C n0 rr b q e0 gr vs v st → Lst σ C n0 its el v es → es.length ≤ 1048576 →
 (∀ σ' jn, LB σ' W C n0 rr b q e0 gr vs (.slice (some ⟨jn, 0, some 0⟩) (es.length + 1) (es.length + 1)) st → Mid σ' C n0 its el jn es → Fn n0 W σ σ' → j σ' = true) → G (pt b q) j σ = true
theorem growB_ok {its : List It} {zs : List Value} {el sz bytes : Nat} (hsz : its.length = sz) (hz : its.map zeroI = zs) (ho : zs.all oneCell = true) (hsv : sameV (.agg ⟨zs⟩) (.agg ⟨zs⟩) = true) (hsT : sizeT PP el = some sz) (hby : bytes ≤ 1000) : GrOk its el (growB zs el sz bytes) := by
 intro σ W C n0 rr b q e0 gr vs v st es j hb hl hle hK
 subst hsz
 have hzl : zs.length = its.length := by rw [← hz, List.length_map]
 have hdt : (zs.drop 0).take its.length = zs := by rw [List.drop_zero, List.take_of_length_le (by omega)]
 obtain ⟨⟨a, ea⟩, hsame⟩ := hl.val
 unfold growB
 have hb2 := hb.new (.cells zs el .exact)
 have hx2 : Ext' σ (σ.new (.cells zs el .exact)) := .new σ _
 rw [rAlloc_h, rNil_p, hb2.ld, rLdN_h obj_new_same (by omega), hdt, rLdN_h obj_new_same (by omega), hdt, rSame_v hsv, hb2.ld, rSame_v hsame]
 have hbs : ∀ (σ : St) (K : VK), rBuildS el 1 zs [(0, its.length, .agg ⟨zs⟩)] σ K = K (.slice (some ⟨σ.n, 0, none⟩) 1 1) (σ.new (.cells zs el .exact)) := fun σ K => rBuildS_agg1 el (k := its.length) hzl hzl ho σ K
 rw [hbs, bcase_t, hbs]
 have hb3 := hb2.new (.cells zs el .exact)
 have hx3 := hx2.trans (Ext'.new (σ.new (.cells zs el .exact)) (.cells zs el .exact))
 have hsrc : Src ((σ.new (.cells zs el .exact)).new (.cells zs el .exact)) its.length (.slice (some ⟨(σ.new (.cells zs el .exact)).n, 0, none⟩) 1 1) 1 (its.map zeroI) := by
  have := Src.row (n := 1) (o := 0) (c := 1) (size := its.length) (obj_new_same (σ := σ.new (.cells zs el .exact)) (o := .cells zs el .exact)) (by omega) (fun v hv => List.all_eq_true.1 ho v (by rw [List.drop_zero] at hv; exact List.mem_of_mem_take hv))
  rw [Nat.one_mul, hdt] at this
  rw [hz]; exact this
 refine LB.grow (its := its) hb hl hb3 hx3 hsrc hsT (by have : (es.length + 1) * (bytes + 1) ≤ 1048577 * 1001 := Nat.mul_le_mul (by omega) (by omega); omega) fun σ3 jn hb4 hm4 f3 => ?_
 obtain ⟨σ4, k4, hb5, f4⟩ := hb4.put (.slice (some ⟨jn, 0, some 0⟩) (es.length + 1) (es.length + 1)) rfl
 rw [rNil_p, k4]
 exact hK σ4 jn hb5 (hm4.fr f4 hb4.sub hb4.lt) ((⟨hx3.n, fun i hi _ => hx3.same i (Nat.lt_of_lt_of_le hi hb.n0)⟩ : Fn n0 W σ _).trans (f3.trans (.of f4 hb4.n0)))
theorem grow1_ok {it : It} {z : Value} {el bytes : Nat} (hz : zeroI it = z) (ho : oneCell z = true) (hsT : sizeT PP el = some 1) (hby : bytes ≤ 1000) : GrOk [it] el (grow1 z el bytes) := by
 intro σ W C n0 rr b q e0 gr vs v st es j hb hl hle hK
 unfold grow1
 have hbs : ∀ (σ : St) (K : VK), rBuildS el 1 [z] [(0, 1, z)] σ K = K (.slice (some ⟨σ.n, 0, none⟩) 1 1) (σ.new (.cells [z] el .exact)) := fun σ K => rBuildS_ones el z [z] (by simp [ho]) σ K
 rw [rNil_p, hb.ld, hbs]
 have hb3 := hb.new (.cells [z] el .exact)
 have hx3 : Ext' σ (σ.new (.cells [z] el .exact)) := .new σ _
 refine LB.grow (its := [it]) hb hl hb3 hx3 (by rw [List.map_singleton, hz]; exact Src.row (n := 1) (o := 0) (size := 1) (vs := [z]) obj_new_same (by simp) (by simp [ho])) hsT (by have : (es.length + 1) * (bytes + 1) ≤ 1048577 * 1001 := Nat.mul_le_mul (by omega) (by omega); omega) fun σ3 jn hb4 hm4 f3 => ?_
 obtain ⟨σ4, k4, hb5, f4⟩ := hb4.put (.slice (some ⟨jn, 0, some 0⟩) (es.length + 1) (es.length + 1)) rfl
 rw [rNil_p, k4]
 exact hK σ4 jn hb5 (hm4.fr f4 hb4.sub hb4.lt) ((⟨hx3.n, fun i hi _ => hx3.same i (Nat.lt_of_lt_of_le hi hb.n0)⟩ : Fn n0 W σ _).trans (f3.trans (.of f4 hb4.n0)))
theorem eeach_loop {c one : FuncId} {sz d el : Nat} {its : List It} {G} (T : EachT c sz G) (hsz : its.length = sz) (hG : GrOk its el G) (hM : 1048576 < most) (hone : EyeOk most one its (d + 5)) {n N : Nat} {W C : Nat → Prop} {n0 rr b q : Nat} {e0 : TypeId} {gr : Bool} {vs : List Value} (hN : N ≤ 1048576) {K : VK} :
 ∀ (r m i : Nat) (σ : St) (st : RS) (v : Value) (es : List (List D)), r < m → es.length = i → i + r = N → LB σ W C n0 rr b q e0 gr vs v st → Lst σ C n0 its el v es →
  (∀ u σ' v', LB σ' W C n0 rr b q e0 gr vs v' (decL (decs its) r st).2 → Lst σ' C n0 its el v' (es ++ (decL (decs its) r st).1) → Fn n0 W σ σ' → K u σ' = true) →
  T.L (X most (n + d + 5)) m (eye rr) (pt b q) (.func (.func one) #[] #[]) (.int .i64 (.ofNat N)) (.int .i64 (.ofNat i)) σ K = true := by
 subst hsz
 intro r
 induction r with
 | zero =>
  intro m i σ st v es hm hi hr hb hl hK
  obtain ⟨m, rfl⟩ := Nat.exists_eq_succ_of_ne_zero (show m ≠ 0 by omega)
  rw [T.LE, rBin_lssN, show decide (i < N) = false from by simp; omega]
  simp only [shut_eq, rGuard_tf, rPick_f, rIf_f]
  exact hK _ σ v hb (by simpa [decL] using hl) ⟨Nat.le_refl _, fun _ _ _ => rfl⟩
 | succ r ih =>
  intro m i σ st v es hm hi hr hb hl hK
  obtain ⟨m, rfl⟩ := Nat.exists_eq_succ_of_ne_zero (show m ≠ 0 by omega)
  rw [T.LE, rBin_lssN, show decide (i < N) = true from by simp; omega]
  simp only [shut_eq, rGuard_tt, rInv_i emeth_wrong]
  refine eye_wrong (n := n + d + 3) hb.eye.self fun σ1 e1 f1 => ?_
  obtain ⟨hb1, f2⟩ := hb.read e1 f1
  have hl1 := hl.fr f2 hb.sub hb.lt
  rw [rBin_eqlN, rPick_t, rIf_b]
  by_cases he : st.2 = 0
  · rw [if_pos (by simpa using he), rNil_p, hb1.ld]
    obtain ⟨⟨a, ea⟩, hsame⟩ := hl1.val
    have hlen : ∀ K, rLenS v K = K (.int .i64 (.ofNat es.length)) := fun K => by rw [ea, rLenS_s]
    subst hi
    rw [hlen, rBin_eqlN, decide_eq_true rfl, rIf_t]
    refine hG hb1 hl1 (by omega) fun σ4 jn hb5 hm5 f4 => ?_
    rw [T.JE _ (by rw [X_most]; omega), rNil_p, hb5.ld, rIdx_z its.length jn 0 es.length _ _ (by omega), rCallV_0]
    refine hm5.child (n := n) hone hb5 fun u σ5 hb6 hl6 f5 => ?_
    rw [rBin_add _ _ _ _ (by omega)]
    have hF : Fn n0 W σ σ5 := (Fn.of f2 hb.n0).trans (f4.trans f5)
    have hd : decL (decs its) (r + 1) st = ((decs its st).1 :: (decL (decs its) r (decs its st).2).1, (decL (decs its) r (decs its st).2).2) := by simp only [decL]; rw [if_neg (by simp [he])]
    refine ih m (es.length + 1) σ5 _ _ _ (by omega) (by simp) (by omega) hb6 hl6 fun u2 σ6 v6 hb7 hl7 f6 => ?_
    refine hK u2 σ6 v6 (by rw [hd]; exact hb7) ?_ (hF.trans f6)
    rw [hd]
    simpa using hl7
  · rw [if_neg (by simpa using he)]
    have hd : decL (decs its) (r + 1) st = ([], st) := decL_err _ _ _ he
    refine hK _ σ1 v (by rw [hd]; exact hb1) (by rw [hd, List.append_nil]; exact hl1) (.of f2 hb.n0)
theorem eeach_all {c one : FuncId} {sz d el : Nat} {its' : List It} {G} (T : EachT c sz G) (hsz : its'.length = sz) (hG : GrOk its' el G) (hM : 1048576 < most) (hone : EyeOk most one its' (d + 5)) {n : Nat} {σ : St} {W C : Nat → Prop} {rr : Nat} {st : RS} {b o : Nat} {e : TypeId} {gr : Bool} {vs : List Value} {all : List It} {ds : List D} {j : Nat} {its : List It} {K K0 : VK}
 (g : GE σ W C rr st b o e gr vs all ds j (.list its' :: its) K) (next : ∀ v σ' st' vs' ds', GE σ' W C rr st' b o e gr vs' all ds' (j + 1) its K → K0 v σ' = true) :
 (X most (n + (d + 6))).C c [eye rr, pt b (o + j), .func (.func one) #[] #[]] σ K0 = true := by
 show (X most (n + d + 5 + 1)).C _ _ _ _ = true
 rw [X_call T.ov, T.R]
 obtain ⟨h1, _, hj⟩ := g.at
 have hz := g.zero j _ (Nat.le_refl _) h1
 have hle := g.le
 rw [rNil_p, g.own.ld hz]
 show rLenS zL _ = true
 rw [rLenS_s, rNil_m emeth_many, rInv_i emeth_many]
 refine eye_many (n := n + d + 2) g.eye.self _ fun σ1 e1 f1 => ?_
 obtain ⟨o1, e2, f2⟩ := g.read e1 f1
 rw [o1.ld hz, rSame_v (show sameV (zeroI (.list its')) (zeroI (.list its')) = true from rfl), X_most]
 have hcm := rdC_max 1048576 st
 refine eeach_loop T hsz hG hM hone (n := n) (n0 := σ1.n) (C := C) (vs := vs) hcm (rdC 1048576 st).1 most 0 σ1 _ zL [] (by omega) rfl (by omega) ⟨e2, by rw [set_self (by exact hz)]; exact o1, by omega, g.sub, fun i hi => Nat.lt_of_lt_of_le (g.lt i hi) f2.n, Nat.le_refl _⟩ (.inl ⟨rfl, rfl⟩) fun u σ' v' hb hl f => next u σ' _ _ _ (g.next (v' := v') hb.own ?_ hb.eye (f2.trans f.fr))
 have hlen := decL_len (decs its') (rdC 1048576 st).1 (rdC 1048576 st).2
 rw [List.nil_append] at hl
 exact hl.rd hb.lt (by omega)
theorem eeach_string (hM : 1048576 < most) (hone : EyeOk most c_save_text itsText 5) {n : Nat} {σ : St} {W C : Nat → Prop} {rr : Nat} {st : RS} {b o : Nat} {e : TypeId} {gr : Bool} {vs : List Value} {all : List It} {ds : List D} {j : Nat} {its : List It} {K K0 : VK}
 (g : GE σ W C rr st b o e gr vs all ds j (.list itsText :: its) K) (next : ∀ v σ' st' vs' ds', GE σ' W C rr st' b o e gr vs' all ds' (j + 1) its K → K0 v σ' = true) :
 (X most (n + 6)).C c_save_each_string [eye rr, pt b (o + j), .func (.func c_save_text) #[] #[]] σ K0 = true :=
 eeach_all (d := 0) eT_string rfl (grow1_ok rfl rfl (by kernel_rfl) (by omega)) hM hone g next
theorem eeach_list_uint64 (hM : 1048576 < most) (hone : EyeOk most c_save_nums itsNums 5) {n : Nat} {σ : St} {W C : Nat → Prop} {rr : Nat} {st : RS} {b o : Nat} {e : TypeId} {gr : Bool} {vs : List Value} {all : List It} {ds : List D} {j : Nat} {its : List It} {K K0 : VK}
 (g : GE σ W C rr st b o e gr vs all ds j (.list itsNums :: its) K) (next : ∀ v σ' st' vs' ds', GE σ' W C rr st' b o e gr vs' all ds' (j + 1) its K → K0 v σ' = true) :
 (X most (n + 6)).C c_save_each_list_uint64 [eye rr, pt b (o + j), .func (.func c_save_nums) #[] #[]] σ K0 = true :=
 eeach_all (d := 0) eT_list_uint64 rfl (grow1_ok rfl rfl (by kernel_rfl) (by omega)) hM hone g next
theorem eeach_api_Pair (hM : 1048576 < most) (hone : EyeOk most c_save_pair itsPair 5) {n : Nat} {σ : St} {W C : Nat → Prop} {rr : Nat} {st : RS} {b o : Nat} {e : TypeId} {gr : Bool} {vs : List Value} {all : List It} {ds : List D} {j : Nat} {its : List It} {K K0 : VK}
 (g : GE σ W C rr st b o e gr vs all ds j (.list itsPair :: its) K) (next : ∀ v σ' st' vs' ds', GE σ' W C rr st' b o e gr vs' all ds' (j + 1) its K → K0 v σ' = true) :
 (X most (n + 6)).C c_save_each_api_Pair [eye rr, pt b (o + j), .func (.func c_save_pair) #[] #[]] σ K0 = true :=
 eeach_all (d := 0) eT_api_Pair rfl (growB_ok rfl rfl rfl rfl (by kernel_rfl) (by omega)) hM hone g next
theorem eeach_api_Msg (hM : 1048576 < most) (hone : EyeOk most c_save_message itsMsg 5) {n : Nat} {σ : St} {W C : Nat → Prop} {rr : Nat} {st : RS} {b o : Nat} {e : TypeId} {gr : Bool} {vs : List Value} {all : List It} {ds : List D} {j : Nat} {its : List It} {K K0 : VK}
 (g : GE σ W C rr st b o e gr vs all ds j (.list itsMsg :: its) K) (next : ∀ v σ' st' vs' ds', GE σ' W C rr st' b o e gr vs' all ds' (j + 1) its K → K0 v σ' = true) :
 (X most (n + 6)).C c_save_each_api_Msg [eye rr, pt b (o + j), .func (.func c_save_message) #[] #[]] σ K0 = true :=
 eeach_all (d := 0) eT_api_Msg rfl (growB_ok rfl rfl rfl rfl (by kernel_rfl) (by omega)) hM hone g next
theorem eeach_tally_Vote (hM : 1048576 < most) (hone : EyeOk most c_save_vote itsVote 5) {n : Nat} {σ : St} {W C : Nat → Prop} {rr : Nat} {st : RS} {b o : Nat} {e : TypeId} {gr : Bool} {vs : List Value} {all : List It} {ds : List D} {j : Nat} {its : List It} {K K0 : VK}
 (g : GE σ W C rr st b o e gr vs all ds j (.list itsVote :: its) K) (next : ∀ v σ' st' vs' ds', GE σ' W C rr st' b o e gr vs' all ds' (j + 1) its K → K0 v σ' = true) :
 (X most (n + 6)).C c_save_each_tally_Vote [eye rr, pt b (o + j), .func (.func c_save_vote) #[] #[]] σ K0 = true :=
 eeach_all (d := 0) eT_tally_Vote rfl (growB_ok rfl rfl rfl rfl (by kernel_rfl) (by omega)) hM hone g next
theorem eeach_board_Told (hM : 1048576 < most) (hone : EyeOk most c_save_said itsSaid 5) {n : Nat} {σ : St} {W C : Nat → Prop} {rr : Nat} {st : RS} {b o : Nat} {e : TypeId} {gr : Bool} {vs : List Value} {all : List It} {ds : List D} {j : Nat} {its : List It} {K K0 : VK}
 (g : GE σ W C rr st b o e gr vs all ds j (.list itsSaid :: its) K) (next : ∀ v σ' st' vs' ds', GE σ' W C rr st' b o e gr vs' all ds' (j + 1) its K → K0 v σ' = true) :
 (X most (n + 6)).C c_save_each_board_Told [eye rr, pt b (o + j), .func (.func c_save_said) #[] #[]] σ K0 = true :=
 eeach_all (d := 0) eT_board_Told rfl (growB_ok rfl rfl rfl rfl (by kernel_rfl) (by omega)) hM hone g next
theorem eeach_avss_Told (hM : 1048576 < most) (hone : EyeOk most c_save_told itsTold 5) {n : Nat} {σ : St} {W C : Nat → Prop} {rr : Nat} {st : RS} {b o : Nat} {e : TypeId} {gr : Bool} {vs : List Value} {all : List It} {ds : List D} {j : Nat} {its : List It} {K K0 : VK}
 (g : GE σ W C rr st b o e gr vs all ds j (.list itsTold :: its) K) (next : ∀ v σ' st' vs' ds', GE σ' W C rr st' b o e gr vs' all ds' (j + 1) its K → K0 v σ' = true) :
 (X most (n + 6)).C c_save_each_avss_Told [eye rr, pt b (o + j), .func (.func c_save_told) #[] #[]] σ K0 = true :=
 eeach_all (d := 0) eT_avss_Told rfl (growB_ok rfl rfl rfl rfl (by kernel_rfl) (by omega)) hM hone g next
theorem eeach_node_Done (hM : 1048576 < most) (hone : EyeOk most c_save_done itsDone 5) {n : Nat} {σ : St} {W C : Nat → Prop} {rr : Nat} {st : RS} {b o : Nat} {e : TypeId} {gr : Bool} {vs : List Value} {all : List It} {ds : List D} {j : Nat} {its : List It} {K K0 : VK}
 (g : GE σ W C rr st b o e gr vs all ds j (.list itsDone :: its) K) (next : ∀ v σ' st' vs' ds', GE σ' W C rr st' b o e gr vs' all ds' (j + 1) its K → K0 v σ' = true) :
 (X most (n + 6)).C c_save_each_node_Done [eye rr, pt b (o + j), .func (.func c_save_done) #[] #[]] σ K0 = true :=
 eeach_all (d := 0) eT_node_Done rfl (growB_ok rfl rfl rfl rfl (by kernel_rfl) (by omega)) hM hone g next
theorem eye_dealing' (hM : 1048576 < most) : EyeOk most c_save_dealing itsDealing 7 := by
 intro n σ W C rr st b o e gr vs K g
 have hm : 1024 < most := by omega
 rw [X_call (by rfl), f_save_dealing]
 unfold r_save_dealing
 rw [rNil_p, rFld_p, rNil_p, rFld_p]
 rw [rB2, bcase_t, rB2]
 refine estep_whole (n := n + 2) (its := [.list itsNums, .nums, .list itsTold, .list itsTold, .nums, .is]) hm 2 (by omega) g fun v σ st vs ds g => ?_
 rw [rNil_p, rFld_p]
 refine eeach_list_uint64 (n := n + 0) (its := [.nums, .list itsTold, .list itsTold, .nums, .is]) hM (eye_nums' hM) g fun v σ st vs ds g => ?_
 rw [rNil_p, rFld_p, rNil_m emeth_nums, rInv_i emeth_nums]
 refine estep_nums (n := n + 3) (its := [.list itsTold, .list itsTold, .nums, .is]) g fun v σ st vs ds g => ?_
 rw [rNil_p, rFld_p]
 refine eeach_avss_Told (n := n + 0) (its := [.list itsTold, .nums, .is]) hM (eye_told' hM) g fun v σ st vs ds g => ?_
 rw [rNil_p, rFld_p]
 refine eeach_avss_Told (n := n + 0) (its := [.nums, .is]) hM (eye_told' hM) g fun v σ st vs ds g => ?_
 rw [rNil_p, rFld_p, rNil_m emeth_nums, rInv_i emeth_nums]
 refine estep_nums (n := n + 3) (its := [.is]) g fun v σ st vs ds g => ?_
 rw [rNil_p, rFld_p, rNil_m emeth_is, rInv_i emeth_is]
 refine estep_is (n := n + 3) (its := []) g fun v σ st vs ds g => ?_
 exact g.fin _

theorem eye_voting' (hM : 1048576 < most) : EyeOk most c_save_voting itsVoting 7 := by
 intro n σ W C rr st b o e gr vs K g
 have hm : 1024 < most := by omega
 rw [X_call (by rfl), f_save_voting]
 unfold r_save_voting
 rw [rNil_p, rFld_p, rNil_p, rFld_p, rNil_p, rFld_p, rNil_p, rFld_p, rNil_p, rFld_p, rNil_p, rFld_p, rNil_p, rFld_p]
 rw [rB7, bcase_t, rB7]
 refine estep_whole (n := n + 2) (its := [.text, .text, .int, .int, .is, .is, .text, .list itsVote]) hm 7 (by omega) g fun v σ st vs ds g => ?_
 rw [rNil_p, rFld_p, rNil_m emeth_text, rInv_i emeth_text]
 refine estep_text (n := n + 3) (its := [.text, .int, .int, .is, .is, .text, .list itsVote]) g fun v σ st vs ds g => ?_
 rw [rNil_p, rFld_p, rNil_m emeth_text, rInv_i emeth_text]
 refine estep_text (n := n + 3) (its := [.int, .int, .is, .is, .text, .list itsVote]) g fun v σ st vs ds g => ?_
 rw [rNil_p, rFld_p, rNil_p, rFld_p]
 rw [rB2, bcase_t, rB2]
 refine estep_whole (n := n + 2) (its := [.is, .is, .text, .list itsVote]) hm 2 (by omega) g fun v σ st vs ds g => ?_
 rw [rNil_p, rFld_p, rNil_m emeth_is, rInv_i emeth_is]
 refine estep_is (n := n + 3) (its := [.is, .text, .list itsVote]) g fun v σ st vs ds g => ?_
 rw [rNil_p, rFld_p, rNil_m emeth_is, rInv_i emeth_is]
 refine estep_is (n := n + 3) (its := [.text, .list itsVote]) g fun v σ st vs ds g => ?_
 rw [rNil_p, rFld_p, rNil_m emeth_text, rInv_i emeth_text]
 refine estep_text (n := n + 3) (its := [.list itsVote]) g fun v σ st vs ds g => ?_
 rw [rNil_p, rFld_p]
 refine eeach_tally_Vote (n := n + 0) (its := []) hM (eye_vote' hM) g fun v σ st vs ds g => ?_
 exact g.fin _

theorem eye_rows' (hM : 1048576 < most) : EyeOk most c_save_rows itsRows 8 := by
 intro n σ W C rr st b o e gr vs K g
 have hm : 1024 < most := by omega
 rw [X_call (by rfl), f_save_rows]
 unfold r_save_rows
 rw [rNil_p, rFld_p]
 rw [rB1]
 refine estep_whole (n := n + 3) (its := [.text, .is, .int, .int, .int, .int, .int, .int, .int, .text, .text, .int, .int, .is, .is, .text, .list itsVote, .list itsSaid, .list itsMsg]) hm 1 (by omega) g fun v σ st vs ds g => ?_
 rw [rNil_p, rFld_p, rNil_m emeth_text, rInv_i emeth_text]
 refine estep_text (n := n + 4) (its := [.is, .int, .int, .int, .int, .int, .int, .int, .text, .text, .int, .int, .is, .is, .text, .list itsVote, .list itsSaid, .list itsMsg]) g fun v σ st vs ds g => ?_
 rw [rNil_p, rFld_p, rNil_m emeth_is, rInv_i emeth_is]
 refine estep_is (n := n + 4) (its := [.int, .int, .int, .int, .int, .int, .int, .text, .text, .int, .int, .is, .is, .text, .list itsVote, .list itsSaid, .list itsMsg]) g fun v σ st vs ds g => ?_
 rw [rNil_p, rFld_p]
 refine estep_sub (n := n + 0) (its' := itsVoting) (its := [.list itsSaid, .list itsMsg]) (eye_voting' hM) g fun v σ st vs ds g => ?_
 rw [rNil_p, rFld_p]
 refine eeach_board_Told (n := n + 1) (its := [.list itsMsg]) hM (eye_said' hM) g fun v σ st vs ds g => ?_
 rw [rNil_p, rFld_p]
 refine eeach_api_Msg (n := n + 1) (its := []) hM (eye_message' hM) g fun v σ st vs ds g => ?_
 exact g.fin _

theorem eeach_avss_State (hM : 1048576 < most) (hone : EyeOk most c_save_dealing itsDealing 7) {n : Nat} {σ : St} {W C : Nat → Prop} {rr : Nat} {st : RS} {b o : Nat} {e : TypeId} {gr : Bool} {vs : List Value} {all : List It} {ds : List D} {j : Nat} {its : List It} {K K0 : VK}
 (g : GE σ W C rr st b o e gr vs all ds j (.list itsDealing :: its) K) (next : ∀ v σ' st' vs' ds', GE σ' W C rr st' b o e gr vs' all ds' (j + 1) its K → K0 v σ' = true) :
 (X most (n + 8)).C c_save_each_avss_State [eye rr, pt b (o + j), .func (.func c_save_dealing) #[] #[]] σ K0 = true :=
 eeach_all (d := 2) eT_avss_State rfl (growB_ok rfl rfl rfl rfl (by kernel_rfl) (by omega)) hM hone g next
theorem eye_all' (hM : 1048576 < most) : EyeOk most c_save_all itsAll 9 := by
 intro n σ W C rr st b o e gr vs K g
 have hm : 1024 < most := by omega
 rw [X_call (by rfl), f_save_all]
 unfold r_save_all
 rw [rNil_p, rFld_p]
 rw [rB1]
 refine estep_whole (n := n + 4) (its := [.list itsText, .int, .text, .is, .int, .int, .int, .int, .int, .int, .int, .text, .text, .int, .int, .is, .is, .text, .list itsVote, .list itsSaid, .list itsMsg, .list itsText, .list itsPair, .list itsPair, .is, .list itsDealing, .list itsDone, .list itsMsg, .list itsDealing]) hm 1 (by omega) g fun v σ st vs ds g => ?_
 rw [rNil_p, rFld_p]
 refine eeach_string (n := n + 2) (its := [.int, .text, .is, .int, .int, .int, .int, .int, .int, .int, .text, .text, .int, .int, .is, .is, .text, .list itsVote, .list itsSaid, .list itsMsg, .list itsText, .list itsPair, .list itsPair, .is, .list itsDealing, .list itsDone, .list itsMsg, .list itsDealing]) hM (eye_text' hM) g fun v σ st vs ds g => ?_
 rw [rNil_p, rFld_p]
 refine estep_sub (n := n + 0) (its' := itsRows) (its := [.list itsText, .list itsPair, .list itsPair, .is, .list itsDealing, .list itsDone, .list itsMsg, .list itsDealing]) (eye_rows' hM) g fun v σ st vs ds g => ?_
 rw [rNil_p, rFld_p]
 refine eeach_string (n := n + 2) (its := [.list itsPair, .list itsPair, .is, .list itsDealing, .list itsDone, .list itsMsg, .list itsDealing]) hM (eye_text' hM) g fun v σ st vs ds g => ?_
 rw [rNil_p, rFld_p]
 refine eeach_api_Pair (n := n + 2) (its := [.list itsPair, .is, .list itsDealing, .list itsDone, .list itsMsg, .list itsDealing]) hM (eye_pair' hM) g fun v σ st vs ds g => ?_
 rw [rNil_p, rFld_p]
 refine eeach_api_Pair (n := n + 2) (its := [.is, .list itsDealing, .list itsDone, .list itsMsg, .list itsDealing]) hM (eye_pair' hM) g fun v σ st vs ds g => ?_
 rw [rNil_p, rFld_p, rNil_m emeth_is, rInv_i emeth_is]
 refine estep_is (n := n + 5) (its := [.list itsDealing, .list itsDone, .list itsMsg, .list itsDealing]) g fun v σ st vs ds g => ?_
 rw [rNil_p, rFld_p]
 refine eeach_avss_State (n := n + 0) (its := [.list itsDone, .list itsMsg, .list itsDealing]) hM (eye_dealing' hM) g fun v σ st vs ds g => ?_
 rw [rNil_p, rFld_p]
 refine eeach_node_Done (n := n + 2) (its := [.list itsMsg, .list itsDealing]) hM (eye_done' hM) g fun v σ st vs ds g => ?_
 rw [rNil_p, rFld_p]
 refine eeach_api_Msg (n := n + 2) (its := [.list itsDealing]) hM (eye_message' hM) g fun v σ st vs ds g => ?_
 rw [rNil_p, rFld_p]
 refine eeach_avss_State (n := n + 0) (its := []) hM (eye_dealing' hM) g fun v σ st vs ds g => ?_
 exact g.fin _

end Go.Am

namespace Go.Am
open Go.RowKit Go.MapKept Go.Proofs Go.Proofs.Rdr
variable {most : Nat}
def loopF (f : Nat → List D → Nat) : List (List D) → Nat → Nat
 | [], n => n
 | ds :: es, n => if n < 9000 then loopF f es (f n ds) else n
def lenS : D → Nat
 | .s l => l.length
 | _ => 0
def lenL : D → Nat
 | .l es => es.length
 | _ => 0
def ats (ds : List D) (j : Nat) : D := (ds[j]?).getD (.b false)
def fTexts (n : Nat) (ds : List D) : Nat := n + 1 + lenS (ats ds 0) / 8
def fTold (n : Nat) (ds : List D) : Nat := n + 3 + lenL (ats ds 1)
def fMsgs (n : Nat) (ds : List D) : Nat := n + 10 + lenL (ats ds 10) + lenS (ats ds 9) / 8
theorem Stc.at {σ : St} {C : Nat → Prop} {its : List It} {b o : Nat} {ds : List D} (h : Stc σ C its b o ds) (j : Nat) {it : It} (hj : its[j]? = some it) : ∃ v, Rd σ C it v (ats ds j) ∧ ∀ K, rLd (pt b (o + j)) σ K = K v σ := by
 obtain ⟨d, hd, hc⟩ := h.cell j hj
 obtain ⟨v, hv, hld⟩ := hc.ld
 have : ats ds j = d := by unfold ats; rw [hd]; rfl
 exact ⟨v, by rw [this]; exact hv, hld⟩
theorem Rd.textL {σ : St} {C : Nat → Prop} {v : Value} {d : D} (h : Rd σ C .text v d) : lenS d ≤ 140737488355328 ∧ ∀ K, rLenT v K = K (.int .i64 (.ofNat (lenS d))) := by
 obtain ⟨l, rfl, rfl, hl⟩ := h.text_inv
 exact ⟨hl, fun K => rLenT_s l K⟩
theorem Rd.listL {σ : St} {C : Nat → Prop} {its : List It} {v : Value} {d : D} (h : Rd σ C (.list its) v d) : lenL d ≤ 140737488355328 ∧ ∀ K, rLenS v K = K (.int .i64 (.ofNat (lenL d))) := by
 obtain ⟨es, rfl⟩ := h.list_inv
 obtain ⟨⟨b, c, rfl⟩, hN⟩ := h.len
 exact ⟨hN, fun K => rfl⟩
theorem Rd.numsL {σ : St} {C : Nat → Prop} {v : Value} {d : D} (h : Rd σ C .nums v d) : lenL d ≤ 140737488355328 ∧ ∀ K, rLenS v K = K (.int .i64 (.ofNat (lenL d))) := by
 cases h with | nums h => exact h.listL
theorem Rd.at {σ : St} {C : Nat → Prop} {its : List It} {v : Value} {es : List (List D)} (h : Rd σ C (.list its) v (.l es)) {i : Nat} (hi : i < es.length) (sz : Nat) (hsz : its.length = sz) :
 ∃ b o, Stc σ C its b o es[i] ∧ ∀ K, rIdx sz v (.int .i64 (.ofNat i)) K = K (pt b o) := by
 obtain ⟨b, o, sp, c, rfl, hsp, hst⟩ := h.elem (k := i) (List.getElem?_eq_getElem hi)
 subst hsz
 exact ⟨b, o + i * its.length, hst, fun K => rIdx_sp _ b o i _ c sp hsp hi K⟩
theorem sizeTexts_loop {n : Nat} {σ : St} {C : Nat → Prop} {v : Value} {es : List (List D)} (hv : Rd σ C (.list itsText) v (.l es)) (K : VK) :
 ∀ (r i m N : Nat), i + r = es.length → r < m → l_law25_sizeTexts_rrlrd (X most n) m v (.int .i64 (.ofNat N)) (.int .i64 (.ofNat i)) σ K = K (.int .i64 (.ofNat (loopF fTexts (es.drop i) N))) σ := by
 obtain ⟨hN, hlen⟩ := hv.listL
 intro r
 induction r with
 | zero =>
  intro i m N hi hm
  obtain ⟨m, rfl⟩ := Nat.exists_eq_succ_of_ne_zero (show m ≠ 0 by omega)
  rw [l_law25_sizeTexts_rrlrdE]
  unfold l_law25_sizeTexts_rrlrdB
  rw [hlen, rBin_lssN, show decide (i < lenL (.l es)) = false from decide_eq_false (show ¬ i < es.length by omega)]
  simp only [shut_eq, rGuard_tf, rPick_f, rIf_f]
  rw [List.drop_of_length_le (by omega)]
  rfl
 | succ r ih =>
  intro i m N hi hm
  obtain ⟨m, rfl⟩ := Nat.exists_eq_succ_of_ne_zero (show m ≠ 0 by omega)
  have hlt : i < es.length := by omega
  rw [l_law25_sizeTexts_rrlrdE]
  unfold l_law25_sizeTexts_rrlrdB
  rw [hlen, rBin_lssN, show decide (i < lenL (.l es)) = true from decide_eq_true (show i < es.length from hlt)]
  simp only [shut_eq, rGuard_tt, rPick_t, rBin_lssN, rIf_b]
  rw [List.drop_eq_getElem_cons hlt]
  unfold loopF
  by_cases h9 : N < 9000
  · rw [if_pos h9, if_pos (by simpa using h9)]
    obtain ⟨b, o, hst, hix⟩ := hv.at hlt 1 rfl
    obtain ⟨u, hu, hld⟩ := hst.at 0 (it := .text) rfl
    obtain ⟨hL, hlt'⟩ := hu.textL
    have hlen2 : lenL (.l es) = es.length := rfl
    rw [Nat.add_zero] at hld
    rw [rBin_add _ _ _ _ (by omega), hix, hld, hlt', rBin_quo _ _ _ _ (by omega) (by omega), rBin_add _ _ _ _ (by omega), rBin_add _ _ _ _ (by omega)]
    exact ih (i + 1) m _ (by omega) (by omega)
  · rw [if_neg h9, if_neg (by simpa using h9)]
theorem sizeTexts_s {n : Nat} (hm : 140737488355328 < most) {σ : St} {C : Nat → Prop} {v : Value} {es : List (List D)} (hv : Rd σ C (.list itsText) v (.l es)) (K : VK) :
 (X most (n + 1)).C c_law25_sizeTexts [v] σ K = K (.int .i64 (.ofNat (loopF fTexts es 0))) σ := by
 rw [X_call (by rfl), f_law25_sizeTexts]
 unfold r_law25_sizeTexts
 obtain ⟨hN, hlen⟩ := hv.listL
 have hlen2 : lenL (.l es) = es.length := rfl
 rw [X_most]
 exact sizeTexts_loop hv K es.length 0 most 0 (by omega) (by omega)
theorem sizeTold_loop {n : Nat} {σ : St} {C : Nat → Prop} {v : Value} {es : List (List D)} (hv : Rd σ C (.list itsTold) v (.l es)) (K : VK) :
 ∀ (r i m N : Nat), i + r = es.length → r < m → l_law25_sizeTold_rrlrd (X most n) m v (.int .i64 (.ofNat N)) (.int .i64 (.ofNat i)) σ K = K (.int .i64 (.ofNat (loopF fTold (es.drop i) N))) σ := by
 obtain ⟨hN, hlen⟩ := hv.listL
 intro r
 induction r with
 | zero =>
  intro i m N hi hm
  obtain ⟨m, rfl⟩ := Nat.exists_eq_succ_of_ne_zero (show m ≠ 0 by omega)
  rw [l_law25_sizeTold_rrlrdE]
  unfold l_law25_sizeTold_rrlrdB
  rw [hlen, rBin_lssN, show decide (i < lenL (.l es)) = false from decide_eq_false (show ¬ i < es.length by omega)]
  simp only [shut_eq, rGuard_tf, rPick_f, rIf_f]
  rw [List.drop_of_length_le (by omega)]
  rfl
 | succ r ih =>
  intro i m N hi hm
  obtain ⟨m, rfl⟩ := Nat.exists_eq_succ_of_ne_zero (show m ≠ 0 by omega)
  have hlt : i < es.length := by omega
  rw [l_law25_sizeTold_rrlrdE]
  unfold l_law25_sizeTold_rrlrdB
  rw [hlen, rBin_lssN, show decide (i < lenL (.l es)) = true from decide_eq_true (show i < es.length from hlt)]
  simp only [shut_eq, rGuard_tt, rPick_t, rBin_lssN, rIf_b]
  rw [List.drop_eq_getElem_cons hlt]
  unfold loopF
  by_cases h9 : N < 9000
  · rw [if_pos h9, if_pos (by simpa using h9)]
    obtain ⟨b, o, hst, hix⟩ := hv.at hlt 2 rfl
    obtain ⟨u, hu, hld⟩ := hst.at 1 (it := .nums) rfl
    obtain ⟨hL, hlt'⟩ := hu.numsL
    have hlen2 : lenL (.l es) = es.length := rfl
    rw [rBin_add _ _ _ _ (by omega), hix, rFld_p, hld, hlt', rBin_add _ _ _ _ (by omega), rBin_add _ _ _ _ (by omega)]
    exact ih (i + 1) m _ (by omega) (by omega)
  · rw [if_neg h9, if_neg (by simpa using h9)]
theorem sizeTold_s {n : Nat} (hm : 140737488355328 < most) {σ : St} {C : Nat → Prop} {v : Value} {es : List (List D)} (hv : Rd σ C (.list itsTold) v (.l es)) (K : VK) :
 (X most (n + 1)).C c_law25_sizeTold [v] σ K = K (.int .i64 (.ofNat (loopF fTold es 0))) σ := by
 rw [X_call (by rfl), f_law25_sizeTold]
 unfold r_law25_sizeTold
 obtain ⟨hN, hlen⟩ := hv.listL
 have hlen2 : lenL (.l es) = es.length := rfl
 rw [X_most]
 exact sizeTold_loop hv K es.length 0 most 0 (by omega) (by omega)
theorem sizeMsgs_loop {n : Nat} {σ : St} {C : Nat → Prop} {v : Value} {es : List (List D)} (hv : Rd σ C (.list itsMsg) v (.l es)) (K : VK) :
 ∀ (r i m N : Nat), i + r = es.length → r < m → l_law25_sizeMsgs_rrlrd (X most n) m v (.int .i64 (.ofNat N)) (.int .i64 (.ofNat i)) σ K = K (.int .i64 (.ofNat (loopF fMsgs (es.drop i) N))) σ := by
 obtain ⟨hN, hlen⟩ := hv.listL
 intro r
 induction r with
 | zero =>
  intro i m N hi hm
  obtain ⟨m, rfl⟩ := Nat.exists_eq_succ_of_ne_zero (show m ≠ 0 by omega)
  rw [l_law25_sizeMsgs_rrlrdE]
  unfold l_law25_sizeMsgs_rrlrdB
  rw [hlen, rBin_lssN, show decide (i < lenL (.l es)) = false from decide_eq_false (show ¬ i < es.length by omega)]
  simp only [shut_eq, rGuard_tf, rPick_f, rIf_f]
  rw [List.drop_of_length_le (by omega)]
  rfl
 | succ r ih =>
  intro i m N hi hm
  obtain ⟨m, rfl⟩ := Nat.exists_eq_succ_of_ne_zero (show m ≠ 0 by omega)
  have hlt : i < es.length := by omega
  rw [l_law25_sizeMsgs_rrlrdE]
  unfold l_law25_sizeMsgs_rrlrdB
  rw [hlen, rBin_lssN, show decide (i < lenL (.l es)) = true from decide_eq_true (show i < es.length from hlt)]
  simp only [shut_eq, rGuard_tt, rPick_t, rBin_lssN, rIf_b]
  rw [List.drop_eq_getElem_cons hlt]
  unfold loopF
  by_cases h9 : N < 9000
  · rw [if_pos h9, if_pos (by simpa using h9)]
    obtain ⟨b, o, hst, hix⟩ := hv.at hlt 11 rfl
    obtain ⟨u, hu, hld⟩ := hst.at 10 (it := .nums) rfl
    obtain ⟨hL, hlt'⟩ := hu.numsL
    obtain ⟨u2, hu2, hld2⟩ := hst.at 9 (it := .text) rfl
    obtain ⟨hL2, hlt2⟩ := hu2.textL
    have hlen2 : lenL (.l es) = es.length := rfl
    rw [rBin_add _ _ _ _ (by omega), hix, rFld_p, hld, hlt', rBin_add _ _ _ _ (by omega), hix, rFld_p, hld2, hlt2, rBin_quo _ _ _ _ (by omega) (by omega), rBin_add _ _ _ _ (by omega), rBin_add _ _ _ _ (by omega)]
    exact ih (i + 1) m _ (by omega) (by omega)
  · rw [if_neg h9, if_neg (by simpa using h9)]
theorem sizeMsgs_s {n : Nat} (hm : 140737488355328 < most) {σ : St} {C : Nat → Prop} {v : Value} {es : List (List D)} (hv : Rd σ C (.list itsMsg) v (.l es)) (K : VK) :
 (X most (n + 1)).C c_law25_sizeMsgs [v] σ K = K (.int .i64 (.ofNat (loopF fMsgs es 0))) σ := by
 rw [X_call (by rfl), f_law25_sizeMsgs]
 unfold r_law25_sizeMsgs
 obtain ⟨hN, hlen⟩ := hv.listL
 have hlen2 : lenL (.l es) = es.length := rfl
 rw [X_most]
 exact sizeMsgs_loop hv K es.length 0 most 0 (by omega) (by omega)
end Go.Am

namespace Go.Am
open Go.RowKit Go.MapKept Go.Proofs Go.Proofs.Rdr
variable {most : Nat}
def esOf : D → List (List D)
 | .l es => es
 | _ => []
def fComs (n : Nat) (ds : List D) : Nat := n + 1 + lenL (ats ds 0)
def fDealt (n : Nat) (ds : List D) : Nat := loopF fComs (esOf (ats ds 2)) (n + 9 + lenL (ats ds 3) + lenL (ats ds 6) + loopF fTold (esOf (ats ds 4)) 0 + loopF fTold (esOf (ats ds 5)) 0)
theorem loopF_le (f : Nat → List D → Nat) (M : Nat) : ∀ (es : List (List D)) (n : Nat), (∀ ds ∈ es, ∀ n, n < 9000 → f n ds ≤ 9000 + M) → n ≤ 9000 + M → loopF f es n ≤ 9000 + M := by
 intro es
 induction es with
 | nil => intro n _ h; exact h
 | cons ds es ih =>
  intro n h hn
  unfold loopF
  split
  · rename_i h9
    exact ih _ (fun d hd => h d (.tail _ hd)) (h ds (.head _) n h9)
  · exact hn
theorem Rd.mem {σ : St} {C : Nat → Prop} {its : List It} {v : Value} {es : List (List D)} (h : Rd σ C (.list its) v (.l es)) {ds : List D} (hd : ds ∈ es) : ∃ b o, Stc σ C its b o ds := by
 obtain ⟨i, hi⟩ := List.getElem?_of_mem hd
 obtain ⟨b, o, sp, c, _, _, hst⟩ := h.elem hi
 exact ⟨b, _, hst⟩
theorem told_le {σ : St} {C : Nat → Prop} {v : Value} {es : List (List D)} (h : Rd σ C (.list itsTold) v (.l es)) : loopF fTold es 0 ≤ 9000 + 140737488355332 := by
 refine loopF_le _ _ es 0 (fun ds hd n hn => ?_) (by omega)
 obtain ⟨b, o, hst⟩ := h.mem hd
 obtain ⟨u, hu, _⟩ := hst.at 1 (it := .nums) rfl
 have := hu.numsL.1
 unfold fTold; omega
theorem texts_le {σ : St} {C : Nat → Prop} {v : Value} {es : List (List D)} (h : Rd σ C (.list itsText) v (.l es)) : loopF fTexts es 0 ≤ 9000 + 140737488355332 := by
 refine loopF_le _ _ es 0 (fun ds hd n hn => ?_) (by omega)
 obtain ⟨b, o, hst⟩ := h.mem hd
 obtain ⟨u, hu, _⟩ := hst.at 0 (it := .text) rfl
 have := hu.textL.1
 unfold fTexts; omega
theorem msgs_le {σ : St} {C : Nat → Prop} {v : Value} {es : List (List D)} (h : Rd σ C (.list itsMsg) v (.l es)) : loopF fMsgs es 0 ≤ 9000 + 422212465065990 := by
 refine loopF_le _ _ es 0 (fun ds hd n hn => ?_) (by omega)
 obtain ⟨b, o, hst⟩ := h.mem hd
 obtain ⟨u, hu, _⟩ := hst.at 10 (it := .nums) rfl
 obtain ⟨u2, hu2, _⟩ := hst.at 9 (it := .text) rfl
 have := hu.numsL.1
 have := hu2.textL.1
 unfold fMsgs; omega
theorem coms_le {σ : St} {C : Nat → Prop} {v : Value} {es : List (List D)} (h : Rd σ C (.list itsNums) v (.l es)) (N : Nat) (hN : N ≤ 9000 + 1125899906842624) : loopF fComs es N ≤ 9000 + 1125899906842624 := by
 refine loopF_le _ _ es N (fun ds hd n hn => ?_) hN
 obtain ⟨b, o, hst⟩ := h.mem hd
 obtain ⟨u, hu, _⟩ := hst.at 0 (it := .nums) rfl
 have := hu.numsL.1
 unfold fComs; omega
theorem esOf_eq {σ : St} {C : Nat → Prop} {its : List It} {v : Value} {d : D} (h : Rd σ C (.list its) v d) : d = .l (esOf d) := by
 obtain ⟨es, rfl⟩ := h.list_inv; rfl
theorem dealt_le {σ : St} {C : Nat → Prop} {v : Value} {es : List (List D)} (h : Rd σ C (.list itsDealing) v (.l es)) : loopF fDealt es 0 ≤ 9000 + 1125899906842624 := by
 refine loopF_le _ _ es 0 (fun ds hd n hn => ?_) (by omega)
 obtain ⟨b, o, hst⟩ := h.mem hd
 obtain ⟨u2, h2, _⟩ := hst.at 2 (it := .list itsNums) rfl
 obtain ⟨u3, h3, _⟩ := hst.at 3 (it := .nums) rfl
 obtain ⟨u4, h4, _⟩ := hst.at 4 (it := .list itsTold) rfl
 obtain ⟨u5, h5, _⟩ := hst.at 5 (it := .list itsTold) rfl
 obtain ⟨u6, h6, _⟩ := hst.at 6 (it := .nums) rfl
 have a3 := h3.numsL.1
 have a6 := h6.numsL.1
 rw [esOf_eq h4] at h4
 rw [esOf_eq h5] at h5
 rw [esOf_eq h2] at h2
 have a4 := told_le h4
 have a5 := told_le h5
 unfold fDealt
 exact coms_le h2 _ (by omega)
theorem sameV_nums {σ : St} {C : Nat → Prop} {v : Value} {d : D} (h : Rd σ C .nums v d) : sameV v v = true := by
 cases h with | nums h => exact sameV_list h
theorem coms_loop {n : Nat} {σ : St} {C : Nat → Prop} {v : Value} {es : List (List D)} (hv : Rd σ C (.list itsDealing) v (.l es)) {i : Nat} (hi : i < es.length) (m0 : Nat) (K : VK) :
 ∀ (r k m N : Nat), k + r = lenL (ats es[i] 2) → r < m → l_law25_sizeDealt_rrlrddrldrrd (X most n) m m0 v (.int .i64 (.ofNat N)) (.int .i64 (.ofNat i)) (.int .i64 (.ofNat k)) σ K =
  l_law25_sizeDealt_rrlrd (X most n) m0 v (.int .i64 (.ofNat (loopF fComs ((esOf (ats es[i] 2)).drop k) N))) (.int .i64 (.ofNat (i + 1))) σ K := by
 obtain ⟨hN, _⟩ := hv.listL
 obtain ⟨b, o, hst, hix⟩ := hv.at hi 8 rfl
 obtain ⟨u, hu, hld⟩ := hst.at 2 (it := .list itsNums) rfl
 have hes : lenL (.l es) = es.length := rfl
 have hu' := hu
 rw [esOf_eq hu] at hu'
 obtain ⟨hL, hlen⟩ := hu.listL
 have hLe : lenL (ats es[i] 2) = (esOf (ats es[i] 2)).length := by conv => lhs; rw [esOf_eq hu]
                                                                   rfl
 intro r
 induction r with
 | zero =>
  intro k m N hk hm
  obtain ⟨m, rfl⟩ := Nat.exists_eq_succ_of_ne_zero (show m ≠ 0 by omega)
  rw [l_law25_sizeDealt_rrlrddrldrrdE]
  unfold l_law25_sizeDealt_rrlrddrldrrdB
  rw [hix, rFld_p, hld, hlen, rBin_lssN, show decide (k < lenL (ats es[i] 2)) = false from decide_eq_false (by omega)]
  simp only [shut_eq, rGuard_tf, rPick_f, rIf_f]
  rw [List.drop_of_length_le (by omega), rBin_add _ _ _ _ (by omega)]
  rfl
 | succ r ih =>
  intro k m N hk hm
  obtain ⟨m, rfl⟩ := Nat.exists_eq_succ_of_ne_zero (show m ≠ 0 by omega)
  have hlt : k < (esOf (ats es[i] 2)).length := by omega
  rw [l_law25_sizeDealt_rrlrddrldrrdE]
  unfold l_law25_sizeDealt_rrlrddrldrrdB
  rw [hix, rFld_p, hld, hlen, rBin_lssN, show decide (k < lenL (ats es[i] 2)) = true from decide_eq_true (by omega)]
  simp only [shut_eq, rGuard_tt, rPick_t, rBin_lssN, rIf_b]
  rw [List.drop_eq_getElem_cons hlt]
  unfold loopF
  by_cases h9 : N < 9000
  · rw [if_pos h9, if_pos (by simpa using h9)]
    obtain ⟨b2, o2, hst2, hix2⟩ := hu'.at hlt 1 rfl
    obtain ⟨u2, hu2, hld2⟩ := hst2.at 0 (it := .nums) rfl
    obtain ⟨hL2, hlt2⟩ := hu2.numsL
    rw [Nat.add_zero] at hld2
    rw [rBin_add _ _ _ _ (by omega), hix, rFld_p, hld, hix2, hld2, hlt2, rBin_add _ _ _ _ (by omega), rBin_add _ _ _ _ (by omega)]
    exact ih (k + 1) m _ (by omega) (by omega)
  · rw [if_neg h9, if_neg (by simpa using h9), rBin_add _ _ _ _ (by omega)]
theorem sizeDealt_loop {n : Nat} (hmost : 140737488355328 < most) {σ : St} {C : Nat → Prop} {v : Value} {es : List (List D)} (hv : Rd σ C (.list itsDealing) v (.l es)) (K : VK) :
 ∀ (r i m N : Nat), i + r = es.length → r < m → l_law25_sizeDealt_rrlrd (X most (n + 1)) m v (.int .i64 (.ofNat N)) (.int .i64 (.ofNat i)) σ K = K (.int .i64 (.ofNat (loopF fDealt (es.drop i) N))) σ := by
 obtain ⟨hN, hlen⟩ := hv.listL
 intro r
 induction r with
 | zero =>
  intro i m N hi hm
  obtain ⟨m, rfl⟩ := Nat.exists_eq_succ_of_ne_zero (show m ≠ 0 by omega)
  rw [l_law25_sizeDealt_rrlrdE]
  unfold l_law25_sizeDealt_rrlrdB
  rw [hlen, rBin_lssN, show decide (i < lenL (.l es)) = false from decide_eq_false (show ¬ i < es.length by omega)]
  simp only [shut_eq, rGuard_tf, rPick_f, rIf_f]
  rw [List.drop_of_length_le (by omega)]
  rfl
 | succ r ih =>
  intro i m N hi hm
  obtain ⟨m, rfl⟩ := Nat.exists_eq_succ_of_ne_zero (show m ≠ 0 by omega)
  have hlt : i < es.length := by omega
  rw [l_law25_sizeDealt_rrlrdE]
  unfold l_law25_sizeDealt_rrlrdB
  rw [hlen, rBin_lssN, show decide (i < lenL (.l es)) = true from decide_eq_true (show i < es.length from hlt)]
  simp only [shut_eq, rGuard_tt, rPick_t, rBin_lssN, rIf_b]
  rw [List.drop_eq_getElem_cons hlt]
  unfold loopF
  by_cases h9 : N < 9000
  · rw [if_pos h9, if_pos (by simpa using h9)]
    obtain ⟨b, o, hst, hix⟩ := hv.at hlt 8 rfl
    obtain ⟨u2, h2, l2⟩ := hst.at 2 (it := .list itsNums) rfl
    obtain ⟨u3, h3, l3⟩ := hst.at 3 (it := .nums) rfl
    obtain ⟨u4, h4, l4⟩ := hst.at 4 (it := .list itsTold) rfl
    obtain ⟨u5, h5, l5⟩ := hst.at 5 (it := .list itsTold) rfl
    obtain ⟨u6, h6, l6⟩ := hst.at 6 (it := .nums) rfl
    obtain ⟨a3, b3⟩ := h3.numsL
    obtain ⟨a6, b6⟩ := h6.numsL
    have h4' := h4
    have h5' := h5
    rw [esOf_eq h4] at h4'
    rw [esOf_eq h5] at h5'
    have a4 := told_le h4'
    have a5 := told_le h5'
    have hlen2 : lenL (.l es) = es.length := rfl
    have a2 := h2.listL.1
    rw [rBin_add _ _ _ _ (by omega), hix, rFld_p, l3, b3, rBin_add _ _ _ _ (by omega), hix, rFld_p, l6, b6, rBin_add _ _ _ _ (by omega), hix, rFld_p, l4, hix, rFld_p, l5]
    rw [sizeTold_s (n := n) hmost h4', l5, rSame_v (sameV_list h5), l6, rSame_v (sameV_nums h6), l3, rSame_v (sameV_nums h3), rBin_add _ _ _ _ (by omega)]
    rw [sizeTold_s (n := n) hmost h5', l6, rSame_v (sameV_nums h6), l3, rSame_v (sameV_nums h3), rBin_add _ _ _ _ (by omega), X_most]
    rw [coms_loop hv hlt m K (lenL (ats es[i] 2)) 0 most _ (by omega) (by omega), List.drop_zero]
    exact ih (i + 1) m _ (by omega) (by omega)
  · rw [if_neg h9, if_neg (by simpa using h9)]
theorem sizeDealt_s {n : Nat} (hm : 140737488355328 < most) {σ : St} {C : Nat → Prop} {v : Value} {es : List (List D)} (hv : Rd σ C (.list itsDealing) v (.l es)) (K : VK) :
 (X most (n + 2)).C c_law25_sizeDealt [v] σ K = K (.int .i64 (.ofNat (loopF fDealt es 0))) σ := by
 rw [X_call (by rfl), f_law25_sizeDealt]
 unfold r_law25_sizeDealt
 obtain ⟨hN, hlen⟩ := hv.listL
 have hlen2 : lenL (.l es) = es.length := rfl
 rw [X_most]
 exact sizeDealt_loop hm hv K es.length 0 most 0 (by omega) (by omega)
end Go.Am

namespace Go.Am
open Go.RowKit Go.MapKept Go.Proofs Go.Proofs.Rdr
variable {most : Nat}
def fDones (n : Nat) (ds : List D) : Nat := n + 3 + lenL (ats ds 2)
def fVotes (n : Nat) (ds : List D) : Nat := n + 4 + lenS (ats ds 4) / 8
def fSaid (n : Nat) (ds : List D) : Nat := n + 2 + lenS (ats ds 1) / 8
def N1 (ds : List D) : Nat := loopF fTexts (esOf (ats ds 1)) 0 + loopF fTexts (esOf (ats ds 22)) 0 + 2 * lenL (ats ds 23) + 2 * lenL (ats ds 24) + loopF fDealt (esOf (ats ds 26)) 0 + loopF fDealt (esOf (ats ds 29)) 0 + loopF fMsgs (esOf (ats ds 28)) 0 + loopF fMsgs (esOf (ats ds 21)) 0
def N3 (ds : List D) (n : Nat) : Nat := n + (lenS (ats ds 3) + lenS (ats ds 12) + lenS (ats ds 13) + lenS (ats ds 18)) / 8
def largeN (ds : List D) : Nat := loopF fSaid (esOf (ats ds 20)) (loopF fVotes (esOf (ats ds 19)) (N3 ds (loopF fDones (esOf (ats ds 27)) (N1 ds))))
theorem loopF_lt {f : Nat → List D → Nat} {ds : List D} {es : List (List D)} {n : Nat} (h : n < 9000) : loopF f (ds :: es) n = loopF f es (f n ds) := if_pos h
theorem loopF_ge {f : Nat → List D → Nat} {ds : List D} {es : List (List D)} {n : Nat} (h : ¬ n < 9000) : loopF f (ds :: es) n = n := if_neg h
theorem rSt_all {σ : St} {i : Nat} {vs cs : List Value} {e : TypeId} (h : σ.obj i = some (.cells vs e .exact)) (hl : cs.length = vs.length) (h1 : cs.all oneCell = true) (n : Nat) (hn : n = cs.length) (k : St → Bool) :
 rSt n (pt i 0) (.agg ⟨cs⟩) σ k = k (σ.set i (.cells cs e .exact)) := by
 show (match allB oneCell cs with | true => (lenK cs fun m => match Nat.beq m n with | true => writeK σ i 0 cs k | false => false) | false => false) = _
 rw [allB_eq, h1, lenK_eq, hn]
 simp only [show Nat.beq cs.length cs.length = true from Nat.beq_refl _]
 unfold writeK
 rw [cellsK_h h]
 show spliceK 0 cs vs (fun vs => setK σ i (.cells vs e .exact) k) = _
 rw [spliceK_eq, if_pos (by omega), setK_eq]
 have : splice 0 cs vs = cs := by
  unfold splice
  rw [List.take_zero, List.nil_append, List.drop_of_length_le (by omega), List.append_nil]
 rw [this]
theorem said_loop {n : Nat} {σ : St} {C : Nat → Prop} {b : Nat} {ds : List D} (hs : Stc σ C itsAll b 0 ds) (K : VK) :
 ∀ (r i m N : Nat), i + r = lenL (ats ds 20) → r < m → N ≤ 72057594037927936 → l_law25_large_rrrrrrlrd (X most n) m (pt b 0) (.int .i64 (.ofNat N)) (.int .i64 (.ofNat i)) σ K = K (.bool (decide (9000 ≤ loopF fSaid ((esOf (ats ds 20)).drop i) N))) σ := by
 obtain ⟨u, hu, hld⟩ := hs.at 20 (it := .list itsSaid) rfl
 have hu' := hu
 rw [esOf_eq hu] at hu'
 obtain ⟨hL, hlen⟩ := hu.listL
 have hLe : lenL (ats ds 20) = (esOf (ats ds 20)).length := by
  conv => lhs; rw [esOf_eq hu]
  rfl
 have hld : ∀ K, rLd (pt b (0 + 2 + 18)) σ K = K u σ := hld
 intro r
 induction r with
 | zero =>
  intro i m N hi hm _
  obtain ⟨m, rfl⟩ := Nat.exists_eq_succ_of_ne_zero (show m ≠ 0 by omega)
  rw [l_law25_large_rrrrrrlrdE]
  unfold l_law25_large_rrrrrrlrdB
  rw [rFld_p, rFld_p, hld, hlen, rBin_lssN, show decide (i < lenL (ats ds 20)) = false from decide_eq_false (by omega)]
  simp only [shut_eq, rGuard_tf, rPick_f, rIf_f]
  rw [List.drop_of_length_le (by omega), rBin_geqN]
  rfl
 | succ r ih =>
  intro i m N hi hm hNb
  obtain ⟨m, rfl⟩ := Nat.exists_eq_succ_of_ne_zero (show m ≠ 0 by omega)
  have hlt : i < (esOf (ats ds 20)).length := by omega
  rw [l_law25_large_rrrrrrlrdE]
  unfold l_law25_large_rrrrrrlrdB
  rw [rFld_p, rFld_p, hld, hlen, rBin_lssN, show decide (i < lenL (ats ds 20)) = true from decide_eq_true (by omega)]
  simp only [shut_eq, rGuard_tt, rPick_t, rBin_lssN, rIf_b]
  rw [List.drop_eq_getElem_cons hlt]
  unfold loopF
  by_cases h9 : N < 9000
  · rw [if_pos h9, if_pos (by simpa using h9)]
    obtain ⟨b2, o2, hst2, hix2⟩ := hu'.at hlt 2 rfl
    obtain ⟨u2, hu2, hld2⟩ := hst2.at 1 (it := .text) rfl
    obtain ⟨hL2, hlt2⟩ := hu2.textL
    rw [rBin_add _ _ _ _ (by omega), rFld_p, rFld_p, hld, hix2, rFld_p, hld2, hlt2, rBin_quo _ _ _ _ (by omega) (by omega), rBin_add _ _ _ _ (by omega), rBin_add _ _ _ _ (by omega)]
    exact ih (i + 1) m _ (by omega) (by omega) (by omega)
  · rw [if_neg h9, if_neg (by simpa using h9), rBin_geqN]
theorem votes_loop {n : Nat} {σ : St} {C : Nat → Prop} {b b2 : Nat} {ds vs : List D} (hs : Stc σ C itsAll b 0 ds) (hv : Stc σ C itsVoting b2 0 vs) (hmost : 140737488355328 < most) (K : VK) :
 ∀ (r i m N : Nat), i + r = lenL (ats vs 14) → r < m → N ≤ 72057594037927936 → l_law25_large_rrrrrlrd (X most n) m (pt b 0) (.int .i64 (.ofNat N)) (pt b2 0) (.int .i64 (.ofNat i)) σ K = K (.bool (decide (9000 ≤ loopF fSaid (esOf (ats ds 20)) (loopF fVotes ((esOf (ats vs 14)).drop i) N)))) σ := by
 obtain ⟨u, hu, hld⟩ := hv.at 14 (it := .list itsVote) rfl
 obtain ⟨us, hus, _⟩ := hs.at 20 (it := .list itsSaid) rfl
 have hu' := hu
 rw [esOf_eq hu] at hu'
 obtain ⟨hL, hlen⟩ := hu.listL
 have hLe : lenL (ats vs 14) = (esOf (ats vs 14)).length := by
  conv => lhs; rw [esOf_eq hu]
  rfl
 have hLs := hus.listL.1
 intro r
 induction r with
 | zero =>
  intro i m N hi hm hNb
  obtain ⟨m, rfl⟩ := Nat.exists_eq_succ_of_ne_zero (show m ≠ 0 by omega)
  rw [l_law25_large_rrrrrlrdE]
  unfold l_law25_large_rrrrrlrdB
  rw [rFld_p, hld, hlen, rBin_lssN, show decide (i < lenL (ats vs 14)) = false from decide_eq_false (by omega)]
  simp only [shut_eq, rGuard_tf, rPick_f, rIf_f]
  rw [List.drop_of_length_le (by omega), X_most, said_loop hs K (lenL (ats ds 20)) 0 most N (by omega) (by omega) hNb, List.drop_zero]
  rfl
 | succ r ih =>
  intro i m N hi hm hNb
  obtain ⟨m, rfl⟩ := Nat.exists_eq_succ_of_ne_zero (show m ≠ 0 by omega)
  have hlt : i < (esOf (ats vs 14)).length := by omega
  rw [l_law25_large_rrrrrlrdE]
  unfold l_law25_large_rrrrrlrdB
  rw [rFld_p, hld, hlen, rBin_lssN, show decide (i < lenL (ats vs 14)) = true from decide_eq_true (by omega)]
  simp only [shut_eq, rGuard_tt, rPick_t, rBin_lssN, rIf_b]
  rw [List.drop_eq_getElem_cons hlt]
  by_cases h9 : N < 9000
  · rw [if_pos (by simpa using h9), loopF_lt h9]
    obtain ⟨b3, o3, hst3, hix3⟩ := hu'.at hlt 5 rfl
    obtain ⟨u3, hu3, hld3⟩ := hst3.at 4 (it := .text) rfl
    obtain ⟨hL3, hlt3⟩ := hu3.textL
    rw [rBin_add _ _ _ _ (by omega), rFld_p, hld, hix3, rFld_p, hld3, hlt3, rBin_quo _ _ _ _ (by omega) (by omega), rBin_add _ _ _ _ (by omega), rBin_add _ _ _ _ (by omega)]
    exact ih (i + 1) m _ (by omega) (by omega) (by omega)
  · rw [if_neg (by simpa using h9), loopF_ge h9, X_most, said_loop hs K (lenL (ats ds 20)) 0 most N (by omega) (by omega) hNb, List.drop_zero]
theorem ats_part (ds : List D) (k m j : Nat) (h : j < m) : ats ((ds.drop k).take m) j = ats ds (k + j) := by
 unfold ats
 rw [List.getElem?_take, if_pos h, List.getElem?_drop]
theorem dones_loop {n : Nat} {σ : St} {C : Nat → Prop} {b : Nat} {ds : List D} (hs : Stc σ C itsAll b 0 ds) (hmost : 140737488355328 < most) {K : VK} :
 ∀ (r i m N : Nat), i + r = lenL (ats ds 27) → r < m → N ≤ 36028797018963968 → (∀ σ', Ext' σ σ' → K (.bool (decide (9000 ≤ loopF fSaid (esOf (ats ds 20)) (loopF fVotes (esOf (ats ds 19)) (N3 ds (loopF fDones ((esOf (ats ds 27)).drop i) N)))))) σ' = true) →
  l_law25_large_rrlrd (X most n) m (pt b 0) (.int .i64 (.ofNat N)) (.int .i64 (.ofNat i)) σ K = true := by
 obtain ⟨u, hu, hld⟩ := hs.at 27 (it := .list itsDone) rfl
 obtain ⟨v3, h3, l3⟩ := hs.at 3 (it := .text) rfl
 obtain ⟨v12, h12, l12⟩ := hs.at 12 (it := .text) rfl
 obtain ⟨v13, h13, l13⟩ := hs.at 13 (it := .text) rfl
 obtain ⟨v18, h18, l18⟩ := hs.at 18 (it := .text) rfl
 obtain ⟨v19, h19, l19⟩ := hs.at 19 (it := .list itsVote) rfl
 have a3 := h3.textL.1
 have a12 := h12.textL.1
 have a13 := h13.textL.1
 have a18 := h18.textL.1
 have a19 := h19.listL.1
 have hu' := hu
 rw [esOf_eq hu] at hu'
 obtain ⟨hL, hlen⟩ := hu.listL
 have hLe : lenL (ats ds 27) = (esOf (ats ds 27)).length := by
  conv => lhs; rw [esOf_eq hu]
  rfl
 -- behind the loop
 have behind : ∀ N, N ≤ 36028797018963968 → (∀ σ', Ext' σ σ' → K (.bool (decide (9000 ≤ loopF fSaid (esOf (ats ds 20)) (loopF fVotes (esOf (ats ds 19)) (N3 ds N))))) σ' = true) →
  (rFld 2 (pt b 0) fun v17 => rFld 3 v17 fun v18 => rLdN 15 v18 σ fun v19 σ =>
   rAlloc [zI, zI, zI, zI, zI, zI, zI, zS, zS, zI, zI, zF, zF, zS, zL] 25 σ fun v20 σ =>
   rSt 15 v20 v19 σ fun σ => rFld 2 (pt b 0) fun v21 => rFld 1 v21 fun v22 => rLd v22 σ fun v23 σ => rLenT v23 fun v24 => rFld 7 v20 fun v25 => rLd v25 σ fun v26 σ => rLenT v26 fun v27 => rBin PP .add 3 v24 v27 fun v28 =>
   rFld 8 v20 fun v29 => rLd v29 σ fun v30 σ => rLenT v30 fun v31 => rBin PP .add 3 v28 v31 fun v32 => rFld 13 v20 fun v33 => rLd v33 σ fun v34 σ => rLenT v34 fun v35 => rBin PP .add 3 v32 v35 fun v36 =>
   rBin PP .quo 3 v36 (.int .i64 (.ofNat 8)) fun v37 => rBin PP .add 3 (.int .i64 (.ofNat N)) v37 fun v38 => l_law25_large_rrrrrlrd (X most n) (X most n).most (pt b 0) v38 v20 zI σ K) = true := by
  intro N hN hKN
  obtain ⟨vs, e, ck, g1, g2, g3, g4⟩ := hs.row
  have g3 : 0 + 30 ≤ vs.length := g3
  have hone : ((vs.drop 5).take 15).all oneCell = true := by
   refine List.all_eq_true.2 fun v hv => ?_
   obtain ⟨j, hj⟩ := List.getElem?_of_mem hv
   rw [List.getElem?_take] at hj
   split at hj
   · rename_i hj15
     rw [List.getElem?_drop] at hj
     have hlt : 5 + j < itsAll.length := by show 5 + j < 30; omega
     exact (g4 (5 + j) _ v _ (List.getElem?_eq_getElem hlt) (by rw [Nat.zero_add]; exact hj) (List.getElem?_eq_getElem (by rw [hs.len]; exact hlt))).one
   · cases hj
  rw [rFld_p, rFld_p, rLdN_h (n := 15) (o := 0 + 2 + 3) g1 (by omega), rAlloc_h, rSt_all obj_new_same (by simp; omega) hone 15 (by simp; omega)]
  let σ2 := (σ.new (.cells [zI, zI, zI, zI, zI, zI, zI, zS, zS, zI, zI, zF, zF, zS, zL] 25 .exact)).set σ.n (.cells ((vs.drop (0 + 2 + 3)).take 15) 25 .exact)
  have hx : Ext' σ σ2 := ⟨Nat.le_succ _, fun i hi => by rw [obj_set_other (show i ≠ σ.n by omega), obj_new_old (by omega)]⟩
  have f : Fr' C σ σ2 (fun _ => False) := ⟨hx.n, fun i hi _ => hx.same i hi, fun _ h => h.elim⟩
  have hs2 := hs.fr f
  have hv2 : Stc σ2 (fun _ => False) itsVoting σ.n 0 ((ds.drop 5).take 15) := by
   refine ⟨⟨_, 25, .exact, obj_set_same, .inr (.inl rfl), by show 0 + 15 ≤ _; rw [List.length_take, List.length_drop]; omega, fun j it v d a1 a2 a3 => ?_⟩, by show σ.n < σ.n + 1; omega, fun h => h, by rw [List.length_take, List.length_drop, hs.len]; rfl⟩
   have hj : j < 15 := (List.getElem?_eq_some_iff.1 a1).1
   have a1' : itsAll[5 + j]? = some it := by
    have : itsVoting = (itsAll.drop 5).take 15 := rfl
    rw [this, List.getElem?_take, if_pos hj, List.getElem?_drop] at a1
    exact a1
   have a2 : ((vs.drop 5).take 15)[0 + j]? = some v := a2
   rw [Nat.zero_add, List.getElem?_take, if_pos hj, List.getElem?_drop] at a2
   rw [List.getElem?_take, if_pos hj, List.getElem?_drop] at a3
   exact (g4 (5 + j) it v d a1' (by rw [Nat.zero_add]; exact a2) a3).fr f
  obtain ⟨w3, k3, m3⟩ := hs2.at 3 (it := .text) rfl
  obtain ⟨w7, k7, m7⟩ := hv2.at 7 (it := .text) rfl
  obtain ⟨w8, k8, m8⟩ := hv2.at 8 (it := .text) rfl
  obtain ⟨w13, k13, m13⟩ := hv2.at 13 (it := .text) rfl
  have e14 : ats ((ds.drop 5).take 15) 14 = ats ds 19 := ats_part ds 5 15 14 (by omega)
  rw [ats_part ds 5 15 7 (by omega)] at k7
  rw [ats_part ds 5 15 8 (by omega)] at k8
  rw [ats_part ds 5 15 13 (by omega)] at k13
  obtain ⟨p3, q3⟩ := k3.textL
  obtain ⟨p7, q7⟩ := k7.textL
  obtain ⟨p8, q8⟩ := k8.textL
  obtain ⟨p13, q13⟩ := k13.textL
  have m3 : ∀ K, rLd (pt b (0 + 2 + 1)) σ2 K = K w3 σ2 := m3
  rw [rFld_p, rFld_p, m3, q3, rFld_p, m7, q7, rBin_add _ _ _ _ (by omega), rFld_p, m8, q8, rBin_add _ _ _ _ (by omega), rFld_p, m13, q13, rBin_add _ _ _ _ (by omega), rBin_quo _ _ _ _ (by omega) (by omega), rBin_add _ _ _ _ (by omega), X_most]
  rw [votes_loop hs2 hv2 hmost K (lenL (ats ds 19)) 0 most _ (by rw [e14]; omega) (by omega) (by omega), List.drop_zero, e14]
  exact hKN σ2 hx
 intro r
 induction r with
 | zero =>
  intro i m N hi hm hNb hKN
  obtain ⟨m, rfl⟩ := Nat.exists_eq_succ_of_ne_zero (show m ≠ 0 by omega)
  rw [l_law25_large_rrlrdE]
  unfold l_law25_large_rrlrdB
  rw [rFld_p, hld, hlen, rBin_lssN, show decide (i < lenL (ats ds 27)) = false from decide_eq_false (by omega)]
  simp only [shut_eq, rGuard_tf, rPick_f, rIf_f]
  rw [List.drop_of_length_le (by omega)] at hKN
  exact behind N hNb hKN
 | succ r ih =>
  intro i m N hi hm hNb hKN
  obtain ⟨m, rfl⟩ := Nat.exists_eq_succ_of_ne_zero (show m ≠ 0 by omega)
  have hlt : i < (esOf (ats ds 27)).length := by omega
  rw [l_law25_large_rrlrdE]
  unfold l_law25_large_rrlrdB
  rw [rFld_p, hld, hlen, rBin_lssN, show decide (i < lenL (ats ds 27)) = true from decide_eq_true (by omega)]
  simp only [shut_eq, rGuard_tt, rPick_t, rBin_lssN, rIf_b]
  rw [List.drop_eq_getElem_cons hlt] at hKN
  by_cases h9 : N < 9000
  · rw [if_pos (by simpa using h9)]
    rw [loopF_lt h9] at hKN
    obtain ⟨b3, o3, hst3, hix3⟩ := hu'.at hlt 3 rfl
    obtain ⟨u3, hu3, hld3⟩ := hst3.at 2 (it := .nums) rfl
    obtain ⟨hL3, hlt3⟩ := hu3.numsL
    rw [rBin_add _ _ _ _ (by omega), rFld_p, hld, hix3, rFld_p, hld3, hlt3, rBin_add _ _ _ _ (by omega), rBin_add _ _ _ _ (by omega)]
    exact ih (i + 1) m _ (by omega) (by omega) (by omega) hKN
  · rw [if_neg (by simpa using h9)]
    rw [loopF_ge h9] at hKN
    exact behind N hNb hKN
theorem large_s {n : Nat} (hmost : 140737488355328 < most) {σ : St} {C : Nat → Prop} {cs : List Value} {ds : List D} (h : RdA σ C itsAll cs ds) {K : VK}
 (hK : ∀ σ', Ext' σ σ' → K (.bool (decide (9000 ≤ largeN ds))) σ' = true) : (X most (n + 3)).C c_law25_large [.agg ⟨cs⟩] σ K = true := by
 rw [X_call (by rfl), f_law25_large]
 unfold r_law25_large
 rw [boxK_agg (List.all_eq_true.2 h.one)]
 have hs := h.stc 34
 obtain ⟨u1, h1, l1⟩ := hs.at 1 (it := .list itsText) rfl
 obtain ⟨u21, h21, l21⟩ := hs.at 21 (it := .list itsMsg) rfl
 obtain ⟨u22, h22, l22⟩ := hs.at 22 (it := .list itsText) rfl
 obtain ⟨u23, h23, l23⟩ := hs.at 23 (it := .list itsPair) rfl
 obtain ⟨u24, h24, l24⟩ := hs.at 24 (it := .list itsPair) rfl
 obtain ⟨u26, h26, l26⟩ := hs.at 26 (it := .list itsDealing) rfl
 obtain ⟨u27, h27, l27⟩ := hs.at 27 (it := .list itsDone) rfl
 obtain ⟨u28, h28, l28⟩ := hs.at 28 (it := .list itsMsg) rfl
 obtain ⟨u29, h29, l29⟩ := hs.at 29 (it := .list itsDealing) rfl
 have l21 : ∀ K, rLd (pt σ.n (0 + 2 + 19)) (σ.new (.cells cs 34 .exact)) K = K u21 (σ.new (.cells cs 34 .exact)) := l21
 obtain ⟨a23, b23⟩ := h23.listL
 obtain ⟨a24, b24⟩ := h24.listL
 have a27 := h27.listL.1
 have s1 := sameV_list h1
 have s21 := rSame_v (sameV_list h21)
 have s22 := rSame_v (sameV_list h22)
 have s23 := rSame_v (sameV_list h23)
 have s24 := rSame_v (sameV_list h24)
 have s26 := rSame_v (sameV_list h26)
 have s28 := rSame_v (sameV_list h28)
 have s29 := rSame_v (sameV_list h29)
 rw [esOf_eq h1] at h1
 rw [esOf_eq h21] at h21
 rw [esOf_eq h22] at h22
 rw [esOf_eq h26] at h26
 rw [esOf_eq h28] at h28
 rw [esOf_eq h29] at h29
 have e1 := texts_le h1
 have e22 := texts_le h22
 have e21 := msgs_le h21
 have e28 := msgs_le h28
 have e26 := dealt_le h26
 have e29 := dealt_le h29
 rw [rFld_p, l1, rFld_p, l22, rFld_p, l23, b23, rBin_mul _ _ _ _ (by omega), rFld_p, l24, b24, rBin_mul _ _ _ _ (by omega), rFld_p, l26, rFld_p, l29, rFld_p, l28, rFld_p, rFld_p, l21]
 rw [sizeTexts_s (n := n + 1) hmost h1, l21, s21, l28, s28, l29, s29, l26, s26, l24, s24, l23, s23, l22, s22]
 rw [sizeTexts_s (n := n + 1) hmost h22, l21, s21, l28, s28, l29, s29, l26, s26, l24, s24, l23, s23, rBin_add _ _ _ _ (by omega), rBin_add _ _ _ _ (by omega), rBin_add _ _ _ _ (by omega)]
 rw [sizeDealt_s (n := n) hmost h26, l21, s21, l28, s28, l29, s29, l24, s24, l23, s23, rBin_add _ _ _ _ (by omega)]
 rw [sizeDealt_s (n := n) hmost h29, l21, s21, l28, s28, l24, s24, l23, s23, rBin_add _ _ _ _ (by omega)]
 rw [sizeMsgs_s (n := n + 1) hmost h28, l21, s21, l24, s24, l23, s23, rBin_add _ _ _ _ (by omega)]
 rw [sizeMsgs_s (n := n + 1) hmost h21, l24, s24, l23, s23, rBin_add _ _ _ _ (by omega), X_most]
 refine dones_loop hs hmost (lenL (ats ds 27)) 0 most _ (by omega) (by omega) (by omega) fun σ' hx => ?_
 exact hK σ' ((Ext'.new σ _).trans hx)
end Go.Am

namespace Go.Am
open Go.RowKit Go.MapKept Go.Proofs Go.Proofs.Rdr
def costsA : List It → List D → Nat → Nat
 | [], _, _ => 0
 | it :: its, ds, j => cost it (ats ds j) + costsA its ds (j + 1)
theorem costs_drop : ∀ (its : List It) (ds : List D) (j : Nat), j + its.length = ds.length → costs its (ds.drop j) = costsA its ds j := by
 intro its
 induction its with
 | nil => intro ds j _; rfl
 | cons it its ih =>
  intro ds j h
  have hlt : j < ds.length := by rw [List.length_cons] at h; omega
  rw [List.drop_eq_getElem_cons hlt]
  simp only [costs, costsA]
  rw [ih ds (j + 1) (by rw [List.length_cons] at h; omega)]
  congr 2
  unfold ats
  rw [List.getElem?_eq_getElem hlt]
  rfl
theorem costs_eq {its : List It} {ds : List D} (h : ds.length = its.length) : costs its ds = costsA its ds 0 := by
 have := costs_drop its ds 0 (by omega)
 rwa [List.drop_zero] at this
theorem cost_num (d : D) : cost .num d = 8 := by cases d <;> rfl
theorem cost_kind (d : D) : cost .kind d = 1 := by cases d <;> rfl
theorem cost_int (d : D) : cost .int d = 8 := by cases d <;> rfl
theorem cost_is (d : D) : cost .is d = 8 := by cases d <;> rfl
theorem cost_text (d : D) : cost .text d = 2050 := by cases d <;> rfl
theorem cost_nums (d : D) : cost .nums d = 8194 := by cases d <;> rfl
theorem cost_list (its : List It) (d : D) : cost (.list its) d = 8 + (esOf d).foldl (fun c x => c + costs its x) 0 := by
 rw [← foldl_cost]
 cases d <;> simp [cost, esOf]
theorem list_cost (f : Nat → List D → Nat) (its : List It) (M : Nat) : ∀ (es : List (List D)), (∀ ds ∈ es, ∀ n, n ≤ f n ds ∧ (f n ds < 9000 → M * n + costs its ds ≤ M * f n ds)) →
 ∀ n, n ≤ loopF f es n ∧ (loopF f es n < 9000 → M * n + es.foldl (fun c x => c + costs its x) 0 ≤ M * loopF f es n) := by
 intro es
 induction es with
 | nil => intro _ n; exact ⟨Nat.le_refl _, fun _ => Nat.le_refl _⟩
 | cons ds es ih =>
  intro h n
  obtain ⟨h1, h2⟩ := h ds (.head _) n
  obtain ⟨i1, i2⟩ := ih (fun d hd => h d (.tail _ hd)) (f n ds)
  by_cases h9 : n < 9000
  · rw [loopF_lt h9]
    refine ⟨Nat.le_trans h1 i1, fun hl => ?_⟩
    have a := i2 hl
    have b := h2 (by omega)
    rw [List.foldl_cons, foldl_cost]
    omega
  · rw [loopF_ge h9]
    exact ⟨Nat.le_refl _, fun hl => absurd hl h9⟩
section
variable {σ : St} {C : Nat → Prop} {v : Value} {es : List (List D)}
theorem texts_cost (h : Rd σ C (.list itsText) v (.l es)) (n : Nat) : n ≤ loopF fTexts es n ∧ (loopF fTexts es n < 9000 → 10400 * n + es.foldl (fun c x => c + costs itsText x) 0 ≤ 10400 * loopF fTexts es n) := by
 refine list_cost fTexts itsText 10400 es (fun ds hd n => ?_) n
 obtain ⟨b, o, hst⟩ := h.mem hd
 refine ⟨by unfold fTexts; omega, fun _ => ?_⟩
 rw [costs_eq hst.len]
 simp only [itsText, costsA, cost_text, fTexts]
 omega
theorem coms_cost (h : Rd σ C (.list itsNums) v (.l es)) (n : Nat) : n ≤ loopF fComs es n ∧ (loopF fComs es n < 9000 → 10400 * n + es.foldl (fun c x => c + costs itsNums x) 0 ≤ 10400 * loopF fComs es n) := by
 refine list_cost fComs itsNums 10400 es (fun ds hd n => ?_) n
 obtain ⟨b, o, hst⟩ := h.mem hd
 refine ⟨by unfold fComs; omega, fun _ => ?_⟩
 rw [costs_eq hst.len]
 simp only [itsNums, costsA, cost_nums, fComs]
 omega
theorem told_cost (h : Rd σ C (.list itsTold) v (.l es)) (n : Nat) : n ≤ loopF fTold es n ∧ (loopF fTold es n < 9000 → 10400 * n + es.foldl (fun c x => c + costs itsTold x) 0 ≤ 10400 * loopF fTold es n) := by
 refine list_cost fTold itsTold 10400 es (fun ds hd n => ?_) n
 obtain ⟨b, o, hst⟩ := h.mem hd
 refine ⟨by unfold fTold; omega, fun _ => ?_⟩
 rw [costs_eq hst.len]
 simp only [itsTold, costsA, cost_int, cost_nums, fTold]
 omega
theorem said_cost (h : Rd σ C (.list itsSaid) v (.l es)) (n : Nat) : n ≤ loopF fSaid es n ∧ (loopF fSaid es n < 9000 → 10400 * n + es.foldl (fun c x => c + costs itsSaid x) 0 ≤ 10400 * loopF fSaid es n) := by
 refine list_cost fSaid itsSaid 10400 es (fun ds hd n => ?_) n
 obtain ⟨b, o, hst⟩ := h.mem hd
 refine ⟨by unfold fSaid; omega, fun _ => ?_⟩
 rw [costs_eq hst.len]
 simp only [itsSaid, costsA, cost_int, cost_text, fSaid]
 omega
theorem votes_cost (h : Rd σ C (.list itsVote) v (.l es)) (n : Nat) : n ≤ loopF fVotes es n ∧ (loopF fVotes es n < 9000 → 10400 * n + es.foldl (fun c x => c + costs itsVote x) 0 ≤ 10400 * loopF fVotes es n) := by
 refine list_cost fVotes itsVote 10400 es (fun ds hd n => ?_) n
 obtain ⟨b, o, hst⟩ := h.mem hd
 refine ⟨by unfold fVotes; omega, fun _ => ?_⟩
 rw [costs_eq hst.len]
 simp only [itsVote, costsA, cost_kind, cost_int, cost_text, fVotes]
 omega
theorem dones_cost (h : Rd σ C (.list itsDone) v (.l es)) (n : Nat) : n ≤ loopF fDones es n ∧ (loopF fDones es n < 9000 → 10400 * n + es.foldl (fun c x => c + costs itsDone x) 0 ≤ 10400 * loopF fDones es n) := by
 refine list_cost fDones itsDone 10400 es (fun ds hd n => ?_) n
 obtain ⟨b, o, hst⟩ := h.mem hd
 refine ⟨by unfold fDones; omega, fun _ => ?_⟩
 rw [costs_eq hst.len]
 simp only [itsDone, costsA, cost_int, cost_nums, fDones]
 omega
theorem msgs_cost (h : Rd σ C (.list itsMsg) v (.l es)) (n : Nat) : n ≤ loopF fMsgs es n ∧ (loopF fMsgs es n < 9000 → 10400 * n + es.foldl (fun c x => c + costs itsMsg x) 0 ≤ 10400 * loopF fMsgs es n) := by
 refine list_cost fMsgs itsMsg 10400 es (fun ds hd n => ?_) n
 obtain ⟨b, o, hst⟩ := h.mem hd
 refine ⟨by unfold fMsgs; omega, fun _ => ?_⟩
 rw [costs_eq hst.len]
 simp only [itsMsg, costsA, cost_kind, cost_int, cost_text, cost_nums, fMsgs]
 omega
theorem dealt_cost (h : Rd σ C (.list itsDealing) v (.l es)) (n : Nat) : n ≤ loopF fDealt es n ∧ (loopF fDealt es n < 9000 → 10400 * n + es.foldl (fun c x => c + costs itsDealing x) 0 ≤ 10400 * loopF fDealt es n) := by
 refine list_cost fDealt itsDealing 10400 es (fun ds hd n => ?_) n
 obtain ⟨b, o, hst⟩ := h.mem hd
 obtain ⟨u2, h2, _⟩ := hst.at 2 (it := .list itsNums) rfl
 obtain ⟨u4, h4, _⟩ := hst.at 4 (it := .list itsTold) rfl
 obtain ⟨u5, h5, _⟩ := hst.at 5 (it := .list itsTold) rfl
 rw [esOf_eq h4] at h4
 rw [esOf_eq h5] at h5
 rw [esOf_eq h2] at h2
 obtain ⟨a4, b4⟩ := told_cost h4 0
 obtain ⟨a5, b5⟩ := told_cost h5 0
 obtain ⟨a2, b2⟩ := coms_cost h2 (n + 9 + lenL (ats ds 3) + lenL (ats ds 6) + loopF fTold (esOf (ats ds 4)) 0 + loopF fTold (esOf (ats ds 5)) 0)
 refine ⟨by unfold fDealt; omega, fun hl => ?_⟩
 unfold fDealt at hl ⊢
 have c2 := b2 hl
 have c4 := b4 (by omega)
 have c5 := b5 (by omega)
 rw [costs_eq hst.len]
 simp only [itsDealing, costsA, cost_list, cost_int, cost_is, cost_nums, Nat.zero_add, Nat.reduceAdd]
 omega
theorem pairs_cost (h : Rd σ C (.list itsPair) v (.l es)) : es.foldl (fun c x => c + costs itsPair x) 0 = 16 * es.length := by
 have : ∀ (es : List (List D)), (∀ ds ∈ es, ds.length = 2) → es.foldl (fun c x => c + costs itsPair x) 0 = 16 * es.length := by
  intro es
  induction es with
  | nil => intro _; rfl
  | cons ds es ih =>
   intro h
   rw [List.foldl_cons, foldl_cost, ih fun d hd => h d (.tail _ hd), costs_eq (its := itsPair) (h ds (.head _))]
   simp only [itsPair, costsA, cost_num, List.length_cons]
   omega
 exact this es fun ds hd => by obtain ⟨b, o, hst⟩ := h.mem hd; exact hst.len
end
theorem costs_all (ds : List D) : costsA itsAll ds 0 = 8 * 11 + 8 * 4 + 4 * 2050 + (cost (.list itsText) (ats ds 1) + cost (.list itsVote) (ats ds 19) + cost (.list itsSaid) (ats ds 20) + cost (.list itsMsg) (ats ds 21) + cost (.list itsText) (ats ds 22) + cost (.list itsPair) (ats ds 23) + cost (.list itsPair) (ats ds 24) + cost (.list itsDealing) (ats ds 26) + cost (.list itsDone) (ats ds 27) + cost (.list itsMsg) (ats ds 28) + cost (.list itsDealing) (ats ds 29)) := by
 simp only [itsAll, costsA, cost_is, cost_int, cost_text, Nat.zero_add, Nat.reduceAdd]
 omega
theorem small {σ : St} {C : Nat → Prop} {cs : List Value} {ds : List D} (h : RdA σ C itsAll cs ds) (hl : largeN ds < 9000) : costs itsAll ds ≤ LIM := by
 have hs := h.stc 34
 obtain ⟨u1, h1, _⟩ := hs.at 1 (it := .list itsText) rfl
 obtain ⟨u19, h19, _⟩ := hs.at 19 (it := .list itsVote) rfl
 obtain ⟨u20, h20, _⟩ := hs.at 20 (it := .list itsSaid) rfl
 obtain ⟨u21, h21, _⟩ := hs.at 21 (it := .list itsMsg) rfl
 obtain ⟨u22, h22, _⟩ := hs.at 22 (it := .list itsText) rfl
 obtain ⟨u23, h23, _⟩ := hs.at 23 (it := .list itsPair) rfl
 obtain ⟨u24, h24, _⟩ := hs.at 24 (it := .list itsPair) rfl
 obtain ⟨u26, h26, _⟩ := hs.at 26 (it := .list itsDealing) rfl
 obtain ⟨u27, h27, _⟩ := hs.at 27 (it := .list itsDone) rfl
 obtain ⟨u28, h28, _⟩ := hs.at 28 (it := .list itsMsg) rfl
 obtain ⟨u29, h29, _⟩ := hs.at 29 (it := .list itsDealing) rfl
 have e23 : lenL (ats ds 23) = (esOf (ats ds 23)).length := by
  conv => lhs; rw [esOf_eq h23]
  rfl
 have e24 : lenL (ats ds 24) = (esOf (ats ds 24)).length := by
  conv => lhs; rw [esOf_eq h24]
  rfl
 rw [esOf_eq h1] at h1
 rw [esOf_eq h19] at h19
 rw [esOf_eq h20] at h20
 rw [esOf_eq h21] at h21
 rw [esOf_eq h22] at h22
 rw [esOf_eq h23] at h23
 rw [esOf_eq h24] at h24
 rw [esOf_eq h26] at h26
 rw [esOf_eq h27] at h27
 rw [esOf_eq h28] at h28
 rw [esOf_eq h29] at h29
 unfold largeN at hl
 obtain ⟨a20, b20⟩ := said_cost h20 (loopF fVotes (esOf (ats ds 19)) (N3 ds (loopF fDones (esOf (ats ds 27)) (N1 ds))))
 obtain ⟨a19, b19⟩ := votes_cost h19 (N3 ds (loopF fDones (esOf (ats ds 27)) (N1 ds)))
 obtain ⟨a27, b27⟩ := dones_cost h27 (N1 ds)
 have fin : ∀ (n F L : Nat), (10400 * n + F ≤ 10400 * L) → L < 9000 → F ≤ 93600000 := fun n F L h1 h2 => by omega
 have l19 : loopF fVotes (esOf (ats ds 19)) (N3 ds (loopF fDones (esOf (ats ds 27)) (N1 ds))) < 9000 := Nat.lt_of_le_of_lt a20 hl
 have l3 : N3 ds (loopF fDones (esOf (ats ds 27)) (N1 ds)) < 9000 := Nat.lt_of_le_of_lt a19 l19
 have hN3 : loopF fDones (esOf (ats ds 27)) (N1 ds) ≤ N3 ds (loopF fDones (esOf (ats ds 27)) (N1 ds)) := by unfold N3; exact Nat.le_add_right _ _
 have l27 : loopF fDones (esOf (ats ds 27)) (N1 ds) < 9000 := Nat.lt_of_le_of_lt hN3 l3
 have hN1 : N1 ds < 9000 := Nat.lt_of_le_of_lt a27 l27
 have d20 := fin _ _ _ (b20 hl) hl
 have d19 := fin _ _ _ (b19 l19) l19
 have d27 := fin _ _ _ (b27 l27) l27
 unfold N1 at hN1
 obtain ⟨_, b1⟩ := texts_cost h1 0
 obtain ⟨_, b22⟩ := texts_cost h22 0
 obtain ⟨_, b26⟩ := dealt_cost h26 0
 obtain ⟨_, b29⟩ := dealt_cost h29 0
 obtain ⟨_, b28⟩ := msgs_cost h28 0
 obtain ⟨_, b21⟩ := msgs_cost h21 0
 have c23 := pairs_cost h23
 have c24 := pairs_cost h24
 have split : ∀ a b c d e f g i : Nat, a + b + c + d + e + f + g + i < 9000 → a < 9000 ∧ b < 9000 ∧ c < 9000 ∧ d < 9000 ∧ e < 9000 ∧ f < 9000 ∧ g < 9000 ∧ i < 9000 := fun a b c d e f g i h => by omega
 obtain ⟨q1, q2, q3, q4, q5, q6, q7, q8⟩ := split _ _ _ _ _ _ _ _ hN1
 have d1 := fin _ _ _ (b1 q1) q1
 have d22 := fin _ _ _ (b22 q2) q2
 have d26 := fin _ _ _ (b26 q5) q5
 have d29 := fin _ _ _ (b29 q6) q6
 have d28 := fin _ _ _ (b28 q7) q7
 have d21 := fin _ _ _ (b21 q8) q8
 have d23 : 16 * (esOf (ats ds 23)).length ≤ 93600000 := by rw [← e23]; omega
 have d24 : 16 * (esOf (ats ds 24)).length ≤ 93600000 := by rw [← e24]; omega
 rw [costs_eq h.dlen, costs_all]
 simp only [cost_list, c23, c24]
 have tot : ∀ a b c d e f g i j k l : Nat, a ≤ 93600000 → b ≤ 93600000 → c ≤ 93600000 → d ≤ 93600000 → e ≤ 93600000 → f ≤ 93600000 → g ≤ 93600000 → i ≤ 93600000 → j ≤ 93600000 → k ≤ 93600000 → l ≤ 93600000 →
  8 * 11 + 8 * 4 + 4 * 2050 + (8 + a + (8 + b) + (8 + c) + (8 + d) + (8 + e) + (8 + f) + (8 + g) + (8 + i) + (8 + j) + (8 + k) + (8 + l)) ≤ LIM := by
  intro a b c d e f g i j k l; unfold LIM; omega
 exact tot _ _ _ _ _ _ _ _ _ _ _ d1 d19 d20 d21 d22 d23 d24 d26 d27 d28 d29
end Go.Am

namespace Go.Am
open Go.RowKit Go.MapKept Go.Proofs Go.Proofs.Rdr
variable {most : Nat}
def rdE (st : RS) : RS := if st.2 ≠ 0 then st else if st.1 = [] then ([], 0) else ([], 10)
theorem endP_eq (st : RS) (h0 : st.2 = 0) (ok : Value → List UInt8 → Bool) (no : Int → Bool) : endP st.1 st.1.length ok no = if (rdE st).2 = 0 then ok (.bool true) (rdE st).1 else no (.ofNat (rdE st).2) := by
 unfold endP rdE
 have e0 : ¬ st.2 ≠ 0 := by simp [h0]
 simp only [if_neg e0]
 cases hl : st.1 with
 | nil => simp
 | cons a l => simp
theorem End_s {n : Nat} {σ : St} {W : Nat → Prop} {rr : Nat} {st : RS} {K : VK} (h : Eye σ W rr st) (hK : ∀ σ', Eye σ' W rr (rdE st) → Fr' W σ σ' W → K (.int .i64 (.ofNat (rdE st).2)) σ' = true) :
 (X most (n + 2)).C c_wire_Reader_End [pt rr 0] σ K = true := by
 rw [X_call (by rfl), f_wire_Reader_End]
 unfold r_wire_Reader_End
 rw [X_ov (show ovS1 c_wire_read_bool = some (ovRd c_wire_Reader_End_1 zF endP) from by kernel_rfl)]
 show ovRd c_wire_Reader_End_1 zF endP [pt rr 0, .func (.func c_wire_Reader_End_1) ⟨[]⟩ ⟨[]⟩] σ _ = true
 unfold ovRd
 simp only []
 refine rdK_s h (v := .bool (decide ((rdE st).2 = 0))) (st' := rdE st) (fun he => ?_) (fun h0 ok no => ?_) (fun hz => by rw [decide_eq_false hz]) (fun h0 hz => ?_) ?_ fun σ' h1 f => ?_
 · have : rdE st = st := by unfold rdE; rw [if_pos he]
   rw [this, decide_eq_false he]; exact ⟨rfl, rfl⟩
 · rw [endP_eq st h0]
   by_cases hz : (rdE st).2 = 0
   · rw [if_pos hz, if_pos hz, decide_eq_true hz]
   · rw [if_neg hz, if_neg hz]
 · unfold rdE at hz ⊢
   have e0 : ¬ st.2 ≠ 0 := by simp [h0]
   rw [if_neg e0] at hz ⊢
   split <;> rfl
 · unfold rdE
   split
   · exact Nat.le_refl _
   · split <;> simp
 · exact hK σ' h1 f
def zeroD : It → D
 | .num => .n 0
 | .kind => .n 0
 | .int => .n 0
 | .is => .b false
 | .text => .s []
 | .nums => .l []
 | .list _ => .l []
theorem zero_rd (σ : St) (C : Nat → Prop) (it : It) : Rd σ C it (zeroI it) (zeroD it) := by
 cases it with
 | num => exact .num (z := 0) (by omega)
 | kind => exact .kind (z := 0) (by omega)
 | int => exact .int (by decide) (by decide)
 | is => exact .is
 | text => exact .text (by simp)
 | nums => exact .nums .empty
 | list its => exact .empty
theorem zero_rda (σ : St) (C : Nat → Prop) (its : List It) : RdA σ C its (its.map zeroI) (its.map zeroD) := by
 refine ⟨by simp, by simp, fun j it v d a b c => ?_⟩
 rw [List.getElem?_map, a] at b c
 injection b with b; injection c with c
 subst b c
 exact zero_rd σ C it
def decode (l : List UInt8) : List D × Nat := if (rdE (decs itsAll (l, 0)).2).2 = 0 then ((decs itsAll (l, 0)).1, 0) else (itsAll.map zeroD, (rdE (decs itsAll (l, 0)).2).2)
theorem rSt_one {σ : St} {i : Nat} {u v : Value} {e : TypeId} (h : σ.obj i = some (.cells [u] e .exact)) (h1 : oneCell v = true) (k : St → Bool) : rSt 1 (pt i 0) (.agg ⟨[v]⟩) σ k = k (σ.set i (.cells [v] e .exact)) :=
 rSt_all (cs := [v]) h rfl (by simp [h1]) 1 rfl k
def zs30 : List Value := itsAll.map zeroI
theorem zeros_all : ([zI, zL, zI, zS, zF, zI, zI, zI, zI, zI, zI, zI, zS, zS, zI, zI, zF, zF, zS, zL, zL, zL, zL, zL, zL, zF, zL, zL, zL, zL] : List Value) = zs30 := rfl
theorem zs30_len : zs30.length = 30 := rfl
theorem zs30_one : zs30.all oneCell = true := rfl
theorem rBuild_none (z : List Value) (K : Value → Bool) : rBuild z [] K = K (.agg ⟨z⟩) := rfl
theorem Decode_s (hM : 1048576 < most) {n : Nat} {σ : St} {l : List UInt8} (hl : l.length < 9223372036854775808) {K : VK}
 (hK : ∀ σ' cs, Ext' σ σ' → RdA σ' (fun _ => False) itsAll cs (decode l).1 → K (.tuple ⟨[.agg ⟨cs⟩, .int .i64 (.ofNat (decode l).2)]⟩) σ' = true) : (X most (n + 10)).C c_save_Decode [.string ⟨⟨l⟩⟩] σ K = true := by
 rw [X_call (by rfl), f_save_Decode]
 unfold r_save_Decode
 rw [zeros_all, rAlloc_h]
 let σ1 := σ.new (.cells zs30 34 .exact)
 have hop : ∀ (σ : St) (K : VK), (X most (n + 9)).C c_wire_Open [.string ⟨⟨l⟩⟩] σ K = K (pt σ.n 0) (σ.new (.cells [.string ⟨⟨l⟩⟩, .int .i64 (.ofNat 0)] 168 .exact)) := fun σ K => by
  rw [X_call (by rfl), f_wire_Open]
  unfold r_wire_Open
  have hb : ∀ K : Value → Bool, rBuild [.string ⟨⟨[]⟩⟩, .int .i64 (.ofNat 0)] [(0, 1, .string ⟨⟨l⟩⟩)] K = K (.agg ⟨[.string ⟨⟨l⟩⟩, .int .i64 (.ofNat 0)]⟩) := fun K => rfl
  rw [hb, boxK_agg rfl]
 rw [hop]
 have hb : ∀ (a : Value) (K : Value → Bool), oneCell a = true → rBuild [.pointer none] [(0, 1, a)] K = K (.agg ⟨[a]⟩) := fun a K ha => by
  show cellsOfK a (fun new => lenK new fun m => match Nat.beq m 1 with | true => spliceK 0 new [.pointer none] (fun cs => K (.agg ⟨cs⟩)) | false => false) = _
  rw [cellsOf_one ha]
  rfl
 rw [hb _ _ rfl, rAlloc_h, rSt_one obj_new_same rfl, rAlloc_h]
 let σ2 := σ1.new (.cells [.string ⟨⟨l⟩⟩, .int .i64 (.ofNat 0)] 168 .exact)
 let σ3 := (σ2.new (.cells [.pointer none] 103 .exact)).set σ2.n (.cells [pt σ1.n 0] 103 .exact)
 let σ4 := σ3.new (.cells zs30 34 .exact)
 have n1 : σ1.n = σ.n + 1 := rfl
 have n2 : σ2.n = σ.n + 2 := rfl
 have n3 : σ3.n = σ.n + 3 := rfl
 have n4 : σ4.n = σ.n + 4 := rfl
 have o3 : σ4.obj σ2.n = some (.cells [pt σ1.n 0] 103 .exact) := by
  show (σ3.new _).obj σ2.n = _
  rw [obj_new_old (by omega)]; exact obj_set_same
 have o1 : σ4.obj σ.n = some (.cells zs30 34 .exact) := by
  show (σ3.new _).obj σ.n = _
  rw [obj_new_old (by omega)]
  show ((σ2.new _).set σ2.n _).obj σ.n = _
  rw [obj_set_other (by omega), obj_new_old (by omega)]
  show (σ1.new _).obj σ.n = _
  rw [obj_new_old (by omega)]
  exact obj_new_same
 have o2 : σ4.obj σ1.n = some (.cells [.string ⟨⟨l⟩⟩, .int .i64 (.ofNat 0)] 168 .exact) := by
  show (σ3.new _).obj σ1.n = _
  rw [obj_new_old (by omega)]
  show ((σ2.new _).set σ2.n _).obj σ1.n = _
  rw [obj_set_other (by omega), obj_new_old (by omega)]
  exact obj_new_same
 have x4 : Ext' σ σ4 := ⟨by omega, fun i hi => by
  show (σ3.new _).obj i = _
  rw [obj_new_old (by omega)]
  show ((σ2.new _).set σ2.n _).obj i = _
  rw [obj_set_other (by omega), obj_new_old (by omega)]
  show (σ1.new _).obj i = _
  rw [obj_new_old (by omega)]
  exact obj_new_old (by omega)⟩
 let W : Nat → Prop := fun i => i = σ1.n ∨ i = σ3.n
 let C : Nat → Prop := fun i => W i ∨ i = σ.n
 have e4 : Eye σ4 W σ1.n (l, 0) := ⟨.inl rfl, fun i hi => by rcases hi with h | h <;> omega, o2, hl⟩
 have w4 : Own σ4 W σ1.n σ3.n 34 false zs30 := ⟨.inr rfl, by omega, .exact, obj_new_same, rfl⟩
 have hC4 : ∀ i, C i → i < σ4.n := fun i hi => by
  rcases hi with h | h
  · exact e4.lt i h
  · omega
 show (rLdN 1 (pt σ2.n 0) σ4 fun v5 σ => (X most (n + 9)).C c_save_all [.iface 103 v5, pt σ3.n 0] σ _) = true
 rw [rLdN_h o3 (by simp)]
 refine eye_all' hM n (W := W) (C := C) (b := σ3.n) (o := 0) (gr := false) ⟨e4, w4, fun _ h => .inl h, hC4, by rw [zs30_len]; exact Nat.le_refl 30, rfl, Nat.zero_le _, rfl, fun k it v d _ _ c => by simp at c, fun k it _ a => by unfold zs30; rw [Nat.zero_add, List.getElem?_map, a]; rfl, fun v σ5 vs o5 l5 _ n5 r5 e5 f5 => ?_⟩
 simp only [List.nil_append] at n5 r5
 have x5 : Ext' σ σ5 := f5.ext x4 fun i hi => by rcases hi with h | h <;> omega
 have hW2 : ∀ i, i < σ4.n → i ≠ σ1.n → i ≠ σ3.n → σ5.obj i = σ4.obj i := fun i hi h1 h2 => f5.same i hi (fun c => by rcases c with c | c <;> contradiction)
 rw [rFld_p, Nat.zero_add]
 show rLd (pt σ2.n 0) σ5 _ = true
 rw [rLd_h ((hW2 σ2.n (by omega) (by omega) (by omega)).trans o3) rfl]
 refine End_s (n := n + 7) e5.self fun σ6 e6 f6 => ?_
 have x6 : Ext' σ σ6 := f6.ext x5 fun i hi => by omega
 have q5 := f5.n
 have q6 := f6.n
 have hv0 : σ6.obj σ.n = some (.cells zs30 34 .exact) := by
  rw [f6.same σ.n (by omega) (by show ¬ σ.n = σ1.n; omega), hW2 σ.n (by omega) (by omega) (by omega)]; exact o1
 obtain ⟨ck, p1, p2⟩ := o5.obj
 have p2 : ck = .exact := p2
 subst p2
 have hv4 : σ6.obj σ3.n = some (.cells vs 34 .exact) := by
  rw [f6.same σ3.n (by omega) (by show ¬ σ3.n = σ1.n; omega)]; exact p1
 have hvl : vs.length = 30 := by rw [l5, zs30_len]
 rw [rBin_neqN]
 have hfin : ∀ (cs : List Value) (ds : List D), RdA σ6 C itsAll cs ds → RdA (σ6.set σ.n (.cells cs 34 .exact)) (fun _ => False) itsAll cs ds ∧ Ext' σ (σ6.set σ.n (.cells cs 34 .exact)) := fun cs ds h =>
  ⟨h.fr ⟨Nat.le_refl _, fun i _ hi => obj_set_other fun c => hi (.inr c), fun _ h => h.elim⟩, ⟨x6.n, fun i hi => by rw [obj_set_other (by omega)]; exact x6.same i hi⟩⟩
 unfold decode at hK
 by_cases he : (rdE (decs itsAll (l, 0)).2).2 = 0
 · rw [decide_eq_true he]
   show rIf zF _ _ = true
   rw [rIf_f]
   rw [if_pos he] at hK
   have hra : RdA σ6 C itsAll vs (decs itsAll (l, 0)).1 :=
    ⟨by rw [hvl]; rfl, by rw [n5], fun k it v d a b c => (r5 k it v d a (by rw [Nat.zero_add]; exact b) c).fr (f6.up fun i hi => .inl (.inl hi))⟩
   show rLdN 30 (pt σ3.n 0) σ6 _ = true
   rw [rLdN_h hv4 (by omega), List.drop_zero, List.take_of_length_le (by omega), rSt_all hv0 (by rw [hvl, zs30_len]) (List.all_eq_true.2 hra.one) 30 hvl.symm, rLdN_h obj_set_same (by omega), List.drop_zero, List.take_of_length_le (by omega)]
   obtain ⟨a1, a2⟩ := hfin vs _ hra
   exact hK _ vs a2 a1
 · rw [decide_eq_false he]
   show rIf (.bool true) _ _ = true
   rw [rIf_t]
   rw [if_neg he] at hK
   rw [rBuild_none]
   have h30 : zs30.length = 30 := zs30_len
   have h1c : zs30.all oneCell = true := zs30_one
   rw [rSt_all (cs := zs30) hv0 (by rw [h30]) h1c 30 h30.symm, rLdN_h obj_set_same (by omega), List.drop_zero, List.take_of_length_le (by omega)]
   obtain ⟨a1, a2⟩ := hfin zs30 (itsAll.map zeroD) (zero_rda σ6 C itsAll)
   have hk := hK _ zs30 a2 (by simp only; exact a1)
   simp only at hk
   exact hk
end Go.Am

namespace Go.Am
open Go.RowKit Go.MapKept Go.Proofs Go.Proofs.Rdr
mutual
def eqD : D → D → Bool
 | .n a, .n b => decide (a = b)
 | .b a, .b b => decide (a = b)
 | .s a, .s b => decide (a = b)
 | .l a, .l b => eqLL a b
 | _, _ => false
def eqL : List D → List D → Bool
 | [], [] => true
 | a :: l, b :: m => eqD a b && eqL l m
 | _, _ => false
def eqLL : List (List D) → List (List D) → Bool
 | [], [] => true
 | a :: l, b :: m => eqL a b && eqLL l m
 | _, _ => false
end
mutual
theorem eqD_iff : ∀ a b : D, eqD a b = true ↔ a = b
 | .n a, .n b => by simp [eqD]
 | .b a, .b b => by simp [eqD]
 | .s a, .s b => by simp [eqD]
 | .l a, .l b => by simp only [eqD, D.l.injEq]; exact eqLL_iff a b
 | .n _, .b _ => by simp [eqD]
 | .n _, .s _ => by simp [eqD]
 | .n _, .l _ => by simp [eqD]
 | .b _, .n _ => by simp [eqD]
 | .b _, .s _ => by simp [eqD]
 | .b _, .l _ => by simp [eqD]
 | .s _, .n _ => by simp [eqD]
 | .s _, .b _ => by simp [eqD]
 | .s _, .l _ => by simp [eqD]
 | .l _, .n _ => by simp [eqD]
 | .l _, .b _ => by simp [eqD]
 | .l _, .s _ => by simp [eqD]
theorem eqL_iff : ∀ a b : List D, eqL a b = true ↔ a = b
 | [], [] => by simp [eqL]
 | [], _ :: _ => by simp [eqL]
 | _ :: _, [] => by simp [eqL]
 | a :: l, b :: m => by simp only [eqL, Bool.and_eq_true, List.cons.injEq]; rw [eqD_iff a b, eqL_iff l m]
theorem eqLL_iff : ∀ a b : List (List D), eqLL a b = true ↔ a = b
 | [], [] => by simp [eqLL]
 | [], _ :: _ => by simp [eqLL]
 | _ :: _, [] => by simp [eqLL]
 | a :: l, b :: m => by simp only [eqLL, Bool.and_eq_true, List.cons.injEq]; rw [eqL_iff a b, eqLL_iff l m]
end
end Go.Am

namespace Go.Am
open Go.RowKit Go.MapKept Go.Proofs Go.Proofs.Rdr
variable {most : Nat}
theorem awakeX_c {n : Nat} (σ : St) (K : VK) : (X most (n + 1)).C c_law25_awake [] σ K = K (.bool true) σ := (X_ov (by rfl) [] σ K).trans rfl
theorem rBin_eqlS {P : Program} (t : TypeId) (a b : List UInt8) (K : Value → Bool) : rBin P .eql t (.string ⟨⟨a⟩⟩) (.string ⟨⟨b⟩⟩) K = K (.bool (decide (a = b))) := by
 rw [rBin_eq]
 show boolK (eqL8 a b) K = _
 rw [boolK_eq, eqL8_eq]
 congr 2
 by_cases h : a = b
 · subst h; simp
 · rw [decide_eq_false h]; simpa using h
theorem rBin_neqS {P : Program} (t : TypeId) (a b : List UInt8) (K : Value → Bool) : rBin P .neq t (.string ⟨⟨a⟩⟩) (.string ⟨⟨b⟩⟩) K = K (.bool (!decide (a = b))) := by
 rw [rBin_eq]
 show boolK (!eqL8 a b) K = _
 rw [boolK_eq, eqL8_eq]
 congr 3
 by_cases h : a = b
 · subst h; simp
 · rw [decide_eq_false h]; simpa using h
theorem encode_ok {ds : List D} (e : (encode ds).2 = 0) : (encs itsAll ds ([], 0)).2 = 0 ∧ (encode ds).1 = (encs itsAll ds ([], 0)).1 := by
 unfold encode at e ⊢
 by_cases a : (encs itsAll ds ([], 0)).2 = 0
 · simp only [if_pos a] at e ⊢; exact ⟨a, trivial⟩
 · simp only [if_neg a] at e; exact absurd e a
theorem rdE_end (r : List UInt8) : rdE (r, 0) = if r = [] then ([], 0) else ([], 10) := by unfold rdE; simp
theorem decode_of {l r : List UInt8} {ds : List D} (h : decs itsAll (l, 0) = (ds, r, 0)) : (r = [] → decode l = (ds, 0)) ∧ (r ≠ [] → decode l = (itsAll.map zeroD, 10)) := by
 refine ⟨fun hr => ?_, fun hr => ?_⟩
 · unfold decode; rw [h]; simp only [rdE_end, if_pos hr, if_true]
 · unfold decode; rw [h]; simp only [rdE_end, if_neg hr]; rw [if_neg (by decide)]
theorem decode_enc {ds : List D} (w : WFs itsAll ds) (e : (encode ds).2 = 0) (r : List UInt8) : (r = [] → decode ((encode ds).1 ++ r) = (ds, 0)) ∧ (r ≠ [] → decode ((encode ds).1 ++ r) = (itsAll.map zeroD, 10)) := by
 obtain ⟨e1, e2⟩ := encode_ok e
 rw [e2]
 exact decode_of (readss_of itsAll (fun it _ => reads_it it) ds w e1 r)
theorem encode_len {ds : List D} (h : costs itsAll ds ≤ LIM) : (encode ds).1.length ≤ LIM := by
 unfold encode
 have := encs_len itsAll ds ([], 0)
 simp only
 split
 · show (encs itsAll ds ([], 0)).1.length ≤ LIM
   simp at this; omega
 · simp
end Go.Am

namespace Go.Am
open Go.RowKit Go.MapKept Go.Proofs Go.Proofs.Rdr
variable {most : Nat}
def flatI : It → Nat
 | .num => 0
 | .kind => 0
 | .int => 0
 | .text => 1
 | .is => 2
 | _ => 3
theorem rBin_eqlB (a b : Bool) (K : Value → Bool) : rBin PP .eql 4 (.bool a) (.bool b) K = K (.bool (a == b)) := by
 cases a <;> cases b <;> kernel_rfl
theorem rBin_neqB (a b : Bool) (K : Value → Bool) : rBin PP .neq 4 (.bool a) (.bool b) K = K (.bool (!(a == b))) := by
 cases a <;> cases b <;> kernel_rfl
theorem rBin_neqI {P : Program} (t : TypeId) (k : IntKind) (a b : Int) (K : Value → Bool) : rBin P .neq t (.int k a) (.int k b) K = K (.bool (!(a == b))) := by
 rw [rBin_i _ _ _ _ _ _ (by simp) (by simp)]; simp only [intBinK, boolK_eq, eqI_eq]
theorem beq_dec (a b : Int) : (a == b) = decide (a = b) := by
 by_cases h : a = b
 · subst h; simp
 · rw [decide_eq_false h]; simpa using h
theorem beq_decB (a b : Bool) : (a == b) = decide (a = b) := by cases a <;> cases b <;> rfl
section
variable {σ σ' : St} {C C' : Nat → Prop} {u v : Value} {d e : D}
theorem cmp_num (h : Rd σ C .num u d) (k : Rd σ' C' .num v e) (t : TypeId) (K : Value → Bool) : rBin PP .eql t u v K = K (.bool (eqD d e)) ∧ rBin PP .neq t u v K = K (.bool (!eqD d e)) := by
 obtain ⟨x, rfl, rfl, _⟩ := h.num_inv
 obtain ⟨y, rfl, rfl, _⟩ := k.num_inv
 rw [rBin_eql, rBin_neqI, beq_dec]; exact ⟨rfl, rfl⟩
theorem cmp_kind (h : Rd σ C .kind u d) (k : Rd σ' C' .kind v e) (t : TypeId) (K : Value → Bool) : rBin PP .eql t u v K = K (.bool (eqD d e)) ∧ rBin PP .neq t u v K = K (.bool (!eqD d e)) := by
 obtain ⟨x, rfl, rfl, _⟩ := h.kind_inv
 obtain ⟨y, rfl, rfl, _⟩ := k.kind_inv
 rw [rBin_eql, rBin_neqI, beq_dec]; exact ⟨rfl, rfl⟩
theorem cmp_int (h : Rd σ C .int u d) (k : Rd σ' C' .int v e) (t : TypeId) (K : Value → Bool) : rBin PP .eql t u v K = K (.bool (eqD d e)) ∧ rBin PP .neq t u v K = K (.bool (!eqD d e)) := by
 obtain ⟨x, rfl, rfl, _⟩ := h.int_inv
 obtain ⟨y, rfl, rfl, _⟩ := k.int_inv
 rw [rBin_eql, rBin_neqI, beq_dec]; exact ⟨rfl, rfl⟩
theorem cmp_text (h : Rd σ C .text u d) (k : Rd σ' C' .text v e) (t : TypeId) (K : Value → Bool) : rBin PP .eql t u v K = K (.bool (eqD d e)) ∧ rBin PP .neq t u v K = K (.bool (!eqD d e)) := by
 obtain ⟨x, rfl, rfl, _⟩ := h.text_inv
 obtain ⟨y, rfl, rfl, _⟩ := k.text_inv
 rw [rBin_eqlS, rBin_neqS]; exact ⟨rfl, rfl⟩
theorem cmp_is (h : Rd σ C .is u d) (k : Rd σ' C' .is v e) (K : Value → Bool) : rBin PP .eql 4 u v K = K (.bool (eqD d e)) ∧ rBin PP .neq 4 u v K = K (.bool (!eqD d e)) := by
 obtain ⟨x, rfl, rfl⟩ := h.is_inv
 obtain ⟨y, rfl, rfl⟩ := k.is_inv
 rw [rBin_eqlB, rBin_neqB, beq_decB]; exact ⟨rfl, rfl⟩
end
noncomputable def clsF (f : Field) : Nat := match PP.underlying f.type with
 | some (.int _) => 0
 | some .string => 1
 | some .bool => 2
 | _ => 3
theorem eqCellsK_cons (P : Program) (f : Field) (fs : List Field) (a b : Value) (va vb : List Value) (k : Bool → Bool) : eqCellsK P (f :: fs) (a :: va) (b :: vb) k = eqCellK P f.type a b (fun e => match e with | true => eqCellsK P fs va vb k | false => k false) := rfl
theorem eqCells_s : ∀ {its : List It} {fs : List Field} {va vb : List Value} {da db : List D} {σ σ' : St} {C C' : Nat → Prop} (k : Bool → Bool), fs.map clsF = its.map flatI → (∀ it ∈ its, flatI it < 3) → RdA σ C its va da → RdA σ' C' its vb db → eqCellsK PP fs va vb k = k (eqL da db) := by
 intro its
 induction its with
 | nil =>
  intro fs va vb da db σ σ' C C' k h _ ha hb
  have e1 : fs = [] := by simpa using h
  have e2 : va = [] := List.eq_nil_of_length_eq_zero ha.len
  have e4 : da = [] := List.eq_nil_of_length_eq_zero ha.dlen
  have e5 : db = [] := List.eq_nil_of_length_eq_zero hb.dlen
  subst e1 e2 e4 e5
  rfl
 | cons it its ih =>
  intro fs va vb da db σ σ' C C' k h h3 ha hb
  have l1 := congrArg List.length h
  have l2 := ha.len
  have l3 := hb.len
  have l4 := ha.dlen
  have l5 := hb.dlen
  simp only [List.length_map, List.length_cons] at l1 l2 l3 l4 l5
  cases fs with
  | nil => simp at l1
  | cons f fs =>
  cases va with
  | nil => simp at l2
  | cons a va =>
  cases vb with
  | nil => simp at l3
  | cons b vb =>
  cases da with
  | nil => simp at l4
  | cons d da =>
  cases db with
  | nil => simp at l5
  | cons e db =>
   simp only [List.map_cons, List.cons.injEq] at h
   obtain ⟨h0, h⟩ := h
   have ra := ha.rd 0 it a d rfl rfl rfl
   have rb := hb.rd 0 it b e rfl rfl rfl
   have ta : RdA σ C its va da := ⟨by simpa using ha.len, by simpa using ha.dlen, fun j it v d p q r => ha.rd (j + 1) it v d p q r⟩
   have tb : RdA σ' C' its vb db := ⟨by simpa using hb.len, by simpa using hb.dlen, fun j it v d p q r => hb.rd (j + 1) it v d p q r⟩
   have hi := ih (fs := fs) k h (fun it hit => h3 it (.tail _ hit)) ta tb
   have hf := h3 it (.head _)
   have step : ∀ b0 : Bool, (match b0 with | true => eqCellsK PP fs va vb k | false => k false) = k (b0 && eqL da db) := fun b0 => by cases b0 with | true => rw [hi]; simp | false => rfl
   rw [eqCellsK_cons]
   simp only [eqL]
   unfold clsF at h0
   unfold eqCellK
   cases it with
   | num =>
    obtain ⟨x, rfl, rfl, _⟩ := ra.num_inv
    obtain ⟨y, rfl, rfl, _⟩ := rb.num_inv
    split at h0 <;> first | (rename_i hu; rw [hu]; simp only [show kindEq .u64 .u64 = true from rfl, forceB_eq, eqI_eq, beq_dec]; exact step _) | cases h0
   | kind =>
    obtain ⟨x, rfl, rfl, _⟩ := ra.kind_inv
    obtain ⟨y, rfl, rfl, _⟩ := rb.kind_inv
    split at h0 <;> first | (rename_i hu; rw [hu]; simp only [show kindEq .u8 .u8 = true from rfl, forceB_eq, eqI_eq, beq_dec]; exact step _) | cases h0
   | int =>
    obtain ⟨x, rfl, rfl, _⟩ := ra.int_inv
    obtain ⟨y, rfl, rfl, _⟩ := rb.int_inv
    split at h0 <;> first | (rename_i hu; rw [hu]; simp only [show kindEq .i64 .i64 = true from rfl, forceB_eq, eqI_eq, beq_dec]; exact step _) | cases h0
   | is =>
    obtain ⟨x, rfl, rfl⟩ := ra.is_inv
    obtain ⟨y, rfl, rfl⟩ := rb.is_inv
    split at h0 <;> first | (rename_i hu; rw [hu]; simp only [forceB_eq, beq_decB]; exact step _) | cases h0
   | text =>
    obtain ⟨x, rfl, rfl, _⟩ := ra.text_inv
    obtain ⟨y, rfl, rfl, _⟩ := rb.text_inv
    have e8 : eqL8 x y = decide (x = y) := by
     rw [eqL8_eq]
     by_cases h : x = y
     · subst h; simp
     · rw [decide_eq_false h]; simpa using h
    split at h0 <;> first | (rename_i hu; rw [hu]; simp only [forceB_eq, e8]; exact step _) | cases h0
   | nums => exact absurd hf (by decide)
   | list l => exact absurd hf (by simp [flatI])
theorem cmp_agg {its : List It} {t : TypeId} (h : (plainS PP t).map (fun l => l.map clsF) = some (its.map flatI)) (h3 : ∀ it ∈ its, flatI it < 3) {σ σ' : St} {C C' : Nat → Prop} {va vb : List Value} {da db : List D} (ha : RdA σ C its va da) (hb : RdA σ' C' its vb db) (K : Value → Bool) :
 rBin PP .eql t (.agg ⟨va⟩) (.agg ⟨vb⟩) K = K (.bool (eqL da db)) ∧ rBin PP .neq t (.agg ⟨va⟩) (.agg ⟨vb⟩) K = K (.bool (!eqL da db)) := by
 cases hp : plainS PP t with
 | none => rw [hp] at h; cases h
 | some fs =>
  rw [hp] at h
  simp only [Option.map_some, Option.some.injEq] at h
  rw [rBin_eq, rBin_eq]
  refine ⟨?_, ?_⟩
  · show equalK PP t (.agg ⟨va⟩) (.agg ⟨vb⟩) (fun e => boolK e K) = _
    unfold equalK
    rw [hp]
    show eqCellsK PP fs va vb _ = _
    rw [eqCells_s _ h h3 ha hb, boolK_eq]
  · show equalK PP t (.agg ⟨va⟩) (.agg ⟨vb⟩) (fun e => boolK (!e) K) = _
    unfold equalK
    rw [hp]
    show eqCellsK PP fs va vb _ = _
    rw [eqCells_s _ h h3 ha hb, boolK_eq]
theorem Stc.lda {σ : St} {C : Nat → Prop} {its : List It} {b o : Nat} {ds : List D} (h : Stc σ C its b o ds) (n : Nat) (hn : n = its.length) : ∃ cs, RdA σ C its cs ds ∧ ∀ σ', Ext' σ σ' → ∀ K, rLdN n (pt b o) σ' K = K (.agg ⟨cs⟩) σ' := by
 obtain ⟨vs, e, ck, h1, h2, h3, h4⟩ := h.row
 subst hn
 refine ⟨(vs.drop o).take its.length, ⟨by rw [List.length_take, List.length_drop]; omega, h.len, fun j it v d a b c => ?_⟩, fun σ' hx K => rLdN_h (by rw [hx.same b h.lt]; exact h1) h3 K⟩
 have hj := (List.getElem?_eq_some_iff.1 a).1
 rw [List.getElem?_take, if_pos hj, List.getElem?_drop] at b
 exact h4 j it v d a b c
theorem Stc.val' {σ : St} {C : Nat → Prop} {its : List It} {b o : Nat} {ds : List D} (h : Stc σ C its b o ds) (j : Nat) {it : It} (hj : its[j]? = some it) : ∃ v, Rd σ C it v (ats ds j) ∧ ∀ σ', Ext' σ σ' → ∀ K, rLd (pt b (o + j)) σ' K = K v σ' := by
 obtain ⟨d, hd, hc⟩ := h.cell j hj
 obtain ⟨vs, e, ck, v, g1, g2, g3, g4⟩ := hc.row
 have : ats ds j = d := by unfold ats; rw [hd]; rfl
 exact ⟨v, by rw [this]; exact g4, fun σ' hx K => rLd_h (by rw [hx.same b h.lt]; exact g1) g3 K⟩
def CmpS (most : Nat) (f : FuncId) (its : List It) (dp : Nat) : Prop := ∀ (n : Nat) {σ : St} {C C' : Nat → Prop} {va vb : List Value} {da db : List D} {K : VK}, RdA σ C its va da → RdA σ C' its vb db → (∀ σ', Ext' σ σ' → K (.bool (eqL da db)) σ' = true) → (X most (n + dp)).C f [.agg ⟨va⟩, .agg ⟨vb⟩] σ K = true
def CmpL (most : Nat) (f : FuncId) (its : List It) (dp : Nat) : Prop := ∀ (n : Nat) {σ : St} {C C' : Nat → Prop} {a b : Value} {es fs : List (List D)} {K : VK}, Rd σ C (.list its) a (.l es) → Rd σ C' (.list its) b (.l fs) → (∀ σ', Ext' σ σ' → K (.bool (eqLL es fs)) σ' = true) → (X most (n + dp)).C f [a, b] σ K = true
theorem eqLL_len {es fs : List (List D)} (h : es.length ≠ fs.length) : eqLL es fs = false := by
 cases hq : eqLL es fs with
 | false => rfl
 | true => exact absurd (congrArg List.length ((eqLL_iff es fs).1 hq)) h
theorem eqLL_drop {es fs : List (List D)} {i : Nat} (h1 : i < es.length) (h2 : i < fs.length) : eqLL (es.drop i) (fs.drop i) = (eqL es[i] fs[i] && eqLL (es.drop (i + 1)) (fs.drop (i + 1))) := by
 rw [List.drop_eq_getElem_cons h1, List.drop_eq_getElem_cons h2]; simp only [eqLL]
theorem eqLL_end {es fs : List (List D)} {i : Nat} (h1 : es.length ≤ i) (h2 : fs.length ≤ i) : eqLL (es.drop i) (fs.drop i) = true := by
 rw [List.drop_of_length_le h1, List.drop_of_length_le h2]; rfl
theorem ats_of {ds : List D} {j : Nat} {d : D} (h : ds[j]? = some d) : ats ds j = d := by unfold ats; rw [h]; rfl
theorem eqL_one {ds es : List D} (h1 : ds.length = 1) (h2 : es.length = 1) : eqL ds es = eqD (ats ds 0) (ats es 0) := by
 match ds, es, h1, h2 with
 | [d], [e], _, _ => simp [eqL, ats]
end Go.Am

namespace Go.Am
open Go.RowKit Go.MapKept Go.Proofs Go.Proofs.Rdr
variable {most : Nat}
def Acc (σ : St) (C : Nat → Prop) (n0 : Nat) (its : List It) (e : TypeId) (v : Value) (es : List (List D)) : Prop :=
 (v = .slice none 0 0 ∧ es = []) ∨ ∃ j vs olds, n0 ≤ j ∧ j < σ.n ∧ v = .slice (some ⟨j, 0, some 0⟩) es.length es.length ∧ σ.obj j = some (.cells vs e (.grown olds)) ∧ vs.length = es.length * its.length ∧ (∀ ds ∈ es, ds.length = its.length) ∧
  ∀ (k : Nat) (ds : List D) (q : Nat) (it : It) (u : Value) (d : D), es[k]? = some ds → its[q]? = some it → vs[k * its.length + q]? = some u → ds[q]? = some d → Rd σ (fun i => i = j ∨ C i) it u d
theorem Rd.less {σ : St} {C C' : Nat → Prop} (hC : ∀ i, C' i → C i) {it : It} {v : Value} {d : D} (h : Rd σ C it v d) : Rd σ C' it v d :=
 h.fr ⟨Nat.le_refl _, fun _ _ _ => rfl, fun i hi => .inl (hC i hi)⟩
theorem Acc.rd {σ : St} {C : Nat → Prop} {n0 : Nat} {its : List It} {e : TypeId} {v : Value} {es : List (List D)} (h : Acc σ C n0 its e v es) (hC : ∀ i, C i → i < n0) (hle : es.length ≤ 140737488355328) : Rd σ C (.list its) v (.l es) := by
 rcases h with ⟨rfl, rfl⟩ | ⟨j, vs, olds, h1, h2, rfl, h3, h4, h5, h6⟩
 · exact .empty
 · refine .row rfl h2 (fun hc => by have := hC j hc; omega) h3 (.inr (.inr ⟨olds, rfl⟩)) rfl (by omega) h5 hle fun k ds q it u d a b c g => ?_
   rw [Nat.zero_add] at c
   exact (h6 k ds q it u d a b c g).less fun i hi => .inr hi
theorem Acc.app {σ σ1 : St} {C : Nat → Prop} {n0 : Nat} {its : List It} {e bytes : Nat} {v x : Value} {es : List (List D)} {ds : List D} {new : List Value} (h : Acc σ C n0 its e v es) (hx1 : Ext' σ σ1) (hn0 : n0 ≤ σ.n) (hx : Src σ1 its.length x 1 new)
 (hnew : ∀ C' : Nat → Prop, (∀ i, C' i → C i ∨ (n0 ≤ i ∧ i < σ.n)) → RdA σ1 C' its new ds) (hs : sizeT PP e = some its.length) (hb : (es.length + 1) * (bytes + 1) ≤ 1099511627776) {K : VK}
 (hK : ∀ σ' v', (∀ i, i < n0 → σ'.obj i = σ1.obj i) → σ1.n ≤ σ'.n → Acc σ' C n0 its e v' (es ++ [ds]) → K v' σ' = true) : rApp PP e its.length bytes v x σ1 K = true := by
 have hn := hx1.n
 rcases h with ⟨rfl, rfl⟩ | ⟨j, vs, olds, h1, h2, rfl, h3, h4, h5, h6⟩
 · rw [rApp_nil hx (by omega) (by simpa using hb)]
   have hr := hnew C fun i hi => .inl hi
   refine hK _ _ (fun i hi => obj_new_old (by omega)) (Nat.le_succ _) (.inr ⟨σ1.n, new, [], by omega, Nat.lt_succ_self _, rfl, obj_new_same, by simp [hr.len], fun x hx => ?_, fun k d q it u d' a b c g => ?_⟩)
   · simp at hx; subst hx; exact hr.dlen
   · have hk : k = 0 := by
      have := (List.getElem?_eq_some_iff.1 a).1
      simp at this; exact this
     subst hk
     simp at a c
     subst a
     exact (hr.rd q it u d' b c g).fr ⟨Nat.le_succ _, fun i hi _ => obj_new_old (by omega), fun i hi => by
      rcases hi with hi | hi
      · exact .inr (by omega)
      · exact .inl hi⟩
 · have hj1 : σ1.obj j = some (.cells vs e (.grown olds)) := by rw [hx1.same j h2]; exact h3
   rw [rApp_row hx (by omega) hb hj1 h4 hs]
   have hr := hnew (fun i => i = j ∨ C i) fun i hi => by
    rcases hi with hi | hi
    · subst hi; exact .inr ⟨h1, h2⟩
    · exact .inl hi
   have f : Fr' (fun i => i = j ∨ C i) σ1 ((σ1.set j (.cells vs e .stale)).new (.cells (vs ++ new) e (.grown (j :: olds)))) (fun i => i = σ1.n ∨ C i) := by
    refine ⟨by rw [new_n, set_n]; omega, fun i hi hb => ?_, fun i hi => ?_⟩
    · rw [obj_new_old (by rw [set_n]; omega), obj_set_other fun e => hb (.inl e)]
    · rcases hi with hi | hi
      · exact .inr (by omega)
      · exact .inl (.inr hi)
   refine hK _ _ (fun i hi => ?_) (by rw [new_n, set_n]; omega) (.inr ⟨σ1.n, vs ++ new, j :: olds, by omega, by rw [new_n, set_n]; omega, by simp, ?_, ?_, fun x hx => ?_, fun k d q it u d' a b c g => ?_⟩)
   · rw [obj_new_old (by rw [set_n]; omega), obj_set_other (by omega)]
   · have : σ1.n = (σ1.set j (.cells vs e .stale)).n := rfl
     rw [this, obj_new_same]
   · simp [h4, hr.len, Nat.add_mul]
   · rcases List.mem_append.1 hx with hx | hx
     · exact h5 x hx
     · simp at hx; subst hx; exact hr.dlen
   · have hq := (List.getElem?_eq_some_iff.1 b).1
     rcases Nat.lt_or_ge k es.length with hk | hk
     · rw [List.getElem?_append_left hk] at a
       have hlt : k * its.length + its.length ≤ es.length * its.length := by
        have : (k + 1) * its.length ≤ es.length * its.length := Nat.mul_le_mul_right _ hk
        rwa [Nat.add_mul, Nat.one_mul] at this
       rw [List.getElem?_append_left (by omega)] at c
       exact ((h6 k d q it u d' a b c g).fr (hx1.fr _)).fr f
     · have hk' : k = es.length := by
        have := (List.getElem?_eq_some_iff.1 a).1
        simp at this; omega
       subst hk'
       simp at a
       subst a
       rw [List.getElem?_append_right (by omega), h4, Nat.add_sub_cancel_left] at c
       exact (hr.rd q it u d' b c g).fr f
theorem rBuildS_1 (el : TypeId) {k : Nat} {zero cs : List Value} (hz : zero.length = k) (hc : cs.length = k) (h1 : cs.all oneCell = true) (σ : St) (K : VK) : rBuildS el 1 zero [(0, k, .agg ⟨cs⟩)] σ K = K (.slice (some ⟨σ.n, 0, none⟩) 1 1) (σ.new (.cells cs el .exact)) := by
 show repK zero 1 (fun c0 => (match allB oneCell cs with | true => (lenK cs fun m => match Nat.beq m k with | true => spliceK 0 cs c0 (fun cs => newK σ (.cells cs el .exact) fun i σ => K (.slice (some ⟨i, 0, none⟩) 1 1) σ) | false => false) | false => false)) = _
 rw [repK_eq, allB_eq, h1, lenK_eq]
 simp only [hc, show Nat.beq k k = true from Nat.beq_refl _]
 rw [spliceK_eq, if_pos (by simp; omega), newK_eq]
 congr 3
 simp [splice]
 omega
theorem sameV_text {σ : St} {C : Nat → Prop} {v : Value} {d : D} (h : Rd σ C .text v d) : sameV v v = true := by
 obtain ⟨l, rfl, _, _⟩ := h.text_inv
 show eqL8 l l = true
 rw [eqL8_eq]
 simp
variable {σ σ' : St} {ds : List D}
theorem RdA.at {C : Nat → Prop} {its : List It} {cs : List Value} (h : RdA σ C its cs ds) {j : Nat} {it : It} (hj : its[j]? = some it) : ∃ u, cs[j]? = some u ∧ Rd σ C it u (ats ds j) := by
 have hlt := (List.getElem?_eq_some_iff.1 hj).1
 have hc : cs[j]? = some (cs[j]'(by rw [h.len]; exact hlt)) := List.getElem?_eq_getElem _
 have hd : ds[j]? = some (ds[j]'(by rw [h.dlen]; exact hlt)) := List.getElem?_eq_getElem _
 refine ⟨_, hc, ?_⟩
 have : ats ds j = ds[j]'(by rw [h.dlen]; exact hlt) := by unfold ats; rw [hd]; rfl
 rw [this]
 exact h.rd j it _ _ hj hc hd
theorem loopF_up {f : Nat → List D → Nat} (hf : ∀ n ds, n ≤ f n ds) : ∀ (es : List (List D)) (n : Nat), n ≤ loopF f es n := by
 intro es
 induction es with
 | nil => intro n; exact Nat.le_refl _
 | cons ds es ih =>
  intro n
  by_cases h : n < 9000
  · rw [loopF_lt h]; exact Nat.le_trans (hf n ds) (ih _)
  · rw [loopF_ge h]; exact Nat.le_refl _
theorem loopF_bd {f : Nat → List D → Nat} (g : List D → Nat) (hf : ∀ n ds, n + 1 + g ds ≤ f n ds) : ∀ (es : List (List D)) (n : Nat), loopF f es n < 9000 → n + es.length ≤ loopF f es n ∧ ∀ ds ∈ es, g ds ≤ 9000 := by
 intro es
 induction es with
 | nil => intro n _; exact ⟨Nat.le_refl _, fun _ h => by cases h⟩
 | cons ds es ih =>
  intro n hl
  by_cases h : n < 9000
  · rw [loopF_lt h] at hl ⊢
    obtain ⟨h1, h2⟩ := ih _ hl
    have := hf n ds
    refine ⟨by rw [List.length_cons]; omega, fun x hx => ?_⟩
    rcases List.mem_cons.1 hx with e | hx
    · subst e; omega
    · exact h2 x hx
  · rw [loopF_ge h] at hl; exact absurd hl h
end Go.Am

namespace Go.Am
open Go.RowKit Go.MapKept Go.Proofs Go.Proofs.Rdr
variable {most : Nat}
abbrev Row1 (b : Nat) : Nat → Prop := fun i => i = b
theorem Rd.same0 {σ : St} {C : Nat → Prop} {it : It} {v : Value} {d : D} (h : Rd σ C it v d) : Am.same0 v v = true := by
 cases h with
 | @num z _ => exact sameV_int .u64 (.ofNat z)
 | @kind z _ => exact sameV_int .u8 (.ofNat z)
 | @int z _ _ => exact sameV_int .i64 z
 | @is b => cases b <;> rfl
 | text h => exact sameV_text (.text (σ := σ) (C := C) h)
 | nums h =>
  have := sameV_list h
  cases h <;> exact this
 | empty => rfl
 | emptyR => exact sameV_list (.emptyR (σ := σ) (C := C) (its := []))
 | row a b c d e f g h i j =>
  exact sameV_list (.row a b c d e f g h i j)
theorem RdA.sameV {σ : St} {C : Nat → Prop} : ∀ {its : List It} {cs : List Value} {ds : List D}, RdA σ C its cs ds → Am.sameV (.agg ⟨cs⟩) (.agg ⟨cs⟩) = true := by
 intro its cs ds h
 show sameL cs cs = true
 have h0 : ∀ v ∈ cs, Am.same0 v v = true := by
  intro v hv
  obtain ⟨j, hj⟩ := List.getElem?_of_mem hv
  have hlt := (List.getElem?_eq_some_iff.1 hj).1
  exact (h.rd j _ v _ (List.getElem?_eq_getElem (by rw [← h.len]; exact hlt)) hj (List.getElem?_eq_getElem (by rw [h.dlen, ← h.len]; exact hlt))).same0
 clear h
 induction cs with
 | nil => rfl
 | cons v cs ih =>
  show (Am.same0 v v && sameL cs cs) = true
  rw [h0 v (.head _), ih fun x hx => h0 x (.tail _ hx)]
  rfl
theorem Stc.ldf {σ : St} {C : Nat → Prop} {its : List It} {b o : Nat} {ds : List D} (h : Stc σ C its b o ds) (n : Nat) (hn : n = its.length) : ∃ cs, RdA σ C its cs ds ∧ ∀ σ', Fr' C σ σ' C → ∀ K, rLdN n (pt b o) σ' K = K (.agg ⟨cs⟩) σ' := by
 obtain ⟨vs, e, ck, h1, h2, h3, h4⟩ := h.row
 subst hn
 refine ⟨(vs.drop o).take its.length, ⟨by rw [List.length_take, List.length_drop]; omega, h.len, fun j it v d a b c => ?_⟩, fun σ' f K => rLdN_h (by rw [f.same b h.lt h.nC]; exact h1) h3 K⟩
 have hj := (List.getElem?_eq_some_iff.1 a).1
 rw [List.getElem?_take, if_pos hj, List.getElem?_drop] at b
 exact h4 j it v d a b c
theorem Stc.valf {σ : St} {C : Nat → Prop} {its : List It} {b o : Nat} {ds : List D} (h : Stc σ C its b o ds) (j : Nat) {it : It} (hj : its[j]? = some it) : ∃ v, Rd σ C it v (ats ds j) ∧ ∀ σ', Fr' C σ σ' C → ∀ K, rLd (pt b (o + j)) σ' K = K v σ' := by
 obtain ⟨d, hd, hc⟩ := h.cell j hj
 obtain ⟨vs, e, ck, v, g1, g2, g3, g4⟩ := hc.row
 have : ats ds j = d := by unfold ats; rw [hd]; rfl
 exact ⟨v, by rw [this]; exact g4, fun σ' f K => rLd_h (by rw [f.same b h.lt h.nC]; exact g1) g3 K⟩
theorem Acc.fr {σ σ1 : St} {C : Nat → Prop} {n0 : Nat} {its : List It} {e : TypeId} {v : Value} {es : List (List D)} (h : Acc σ C n0 its e v es) (f : Fr' C σ σ1 C) (hC : ∀ i, C i → i < n0) : Acc σ1 C n0 its e v es := by
 rcases h with ⟨rfl, rfl⟩ | ⟨j, vs, olds, h1, h2, rfl, h3, h4, h5, h6⟩
 · exact .inl ⟨rfl, rfl⟩
 · refine .inr ⟨j, vs, olds, h1, Nat.lt_of_lt_of_le h2 f.n, rfl, by rw [f.same j h2 (fun hc => by have := hC j hc; omega)]; exact h3, h4, h5, fun k ds q it u d a b c g => (h6 k ds q it u d a b c g).fr ⟨f.n, fun i hi hn => f.same i hi fun hc => hn (.inr hc), fun i hi => ?_⟩⟩
   rcases hi with hi | hi
   · exact .inl (.inl hi)
   · exact .inl (.inr hi)
theorem Src.single {σ : St} {i size : Nat} {cs : List Value} {e : TypeId} {ck : CK} (h : σ.obj i = some (.cells cs e ck)) (hn : cs.length = size) (h1 : ∀ v ∈ cs, oneCell v = true) : Src σ size (.slice (some ⟨i, 0, none⟩) 1 1) 1 cs := by
 have := Src.row (n := 1) (o := 0) (c := 1) (size := size) h (by omega) (fun v hv => h1 v (by rw [List.drop_zero] at hv; exact List.mem_of_mem_take hv))
 rwa [List.drop_zero, List.take_of_length_le (by omega)] at this
theorem Acc.more {σ0 σ σ1 : St} {C : Nat → Prop} {n0 : Nat} {its : List It} {e bytes sz : Nat} {v : Value} {es : List (List D)} {ds : List D} {cs : List Value} (hsz : its.length = sz) (h : Acc σ C n0 its e v es) (f : Fr' C σ0 σ C) (hn0 : n0 = σ0.n) (hx : Ext' σ σ1)
 (hr : RdA σ0 C its cs ds) (hs : sizeT PP e = some sz) (hb : (es.length + 1) * (bytes + 1) ≤ 1099511627776) {K : VK}
 (hK : ∀ σ' v', σ1.n ≤ σ'.n → (∀ i, i < n0 → σ'.obj i = σ1.obj i) → Acc σ' C n0 its e v' (es ++ [ds]) → K v' σ' = true) :
 rApp PP e sz bytes v (.slice (some ⟨σ1.n, 0, none⟩) 1 1) (σ1.new (.cells cs e .exact)) K = true := by
 subst hsz
 have hx' : Ext' σ (σ1.new (.cells cs e .exact)) := hx.trans (.new σ1 _)
 have q := f.n
 have q1 := hx.n
 refine Acc.app (its := its) h hx' (by omega) (Src.single obj_new_same hr.len hr.one) (fun C' hC' => hr.fr ⟨by rw [new_n]; omega, fun i hi hb => ?_, fun i hi => ?_⟩) hs hb fun σ' v' h1 h2 h3 => ?_
 · rw [obj_new_old (by omega), hx.same i (by omega)]; exact f.same i hi hb
 · rcases hC' i hi with h | h
   · exact .inl h
   · exact .inr (by omega)
 · exact hK σ' v' (by rw [new_n] at h2; omega) (fun i hi => by rw [h1 i hi, obj_new_old (by omega)]) h3
end Go.Am

set_option linter.unusedVariables false
set_option maxRecDepth 100000
namespace Go.Am

/-! consistory/consistorylaw25.back -/
noncomputable def l_law25_back_rrlrd (x : EV) (m : Nat) (t1 t2 t3 t4 : Value) (σ : St) (K : VK) : Bool := jmpL PP tbS c_law25_back (x.E PP) [.r, .r, .l, .r, .d] m [] [t1, t2, t3, t4] σ K
noncomputable def r_law25_back (x : EV) (a0 : Value) (σ : St) (K : VK) : Bool :=
 boxK 34 a0 σ fun v0 σ =>
 rAlloc [zI, zL, zI, zS, zF, zI, zI, zI, zI, zI, zI, zI, zS, zS, zI, zI, zF, zF, zS, zL, zL, zL, zL, zL, zL, zF, zL, zL, zL, zL] 49 σ fun v1 σ =>
 rFld 0 v0 fun v2 =>
 rLd v2 σ fun v3 σ =>
 rFld 1 v0 fun v4 =>
 rLd v4 σ fun v5 σ =>
 rFld 2 v0 fun v6 =>
 rLdN 20 v6 σ fun v7 σ =>
 rFld 22 v0 fun v8 =>
 rLd v8 σ fun v9 σ =>
 rFld 23 v0 fun v10 =>
 rLd v10 σ fun v11 σ =>
 rFld 24 v0 fun v12 =>
 rLd v12 σ fun v13 σ =>
 rFld 25 v0 fun v14 =>
 rLd v14 σ fun v15 σ =>
 rFld 26 v0 fun v16 =>
 rLd v16 σ fun v17 σ =>
 rFld 28 v0 fun v18 =>
 rLd v18 σ fun v19 σ =>
 rFld 29 v0 fun v20 =>
 rLd v20 σ fun v21 σ =>
 rLd v20 σ fun v22 σ =>
 rSame v22 v21 (rLd v18 σ fun v23 σ =>
 rSame v23 v19 (rLd v16 σ fun v24 σ =>
 rSame v24 v17 (rLd v14 σ fun v25 σ =>
 rSame v25 v15 (rLd v12 σ fun v26 σ =>
 rSame v26 v13 (rLd v10 σ fun v27 σ =>
 rSame v27 v11 (rLd v8 σ fun v28 σ =>
 rSame v28 v9 (rLdN 20 v6 σ fun v29 σ =>
 rSame v29 v7 (rLd v4 σ fun v30 σ =>
 rSame v30 v5 (rLd v2 σ fun v31 σ =>
 rSame v31 v3 (bcase (rAlloc [zI, zL, zI, zS, zF, zI, zI, zI, zI, zI, zI, zI, zS, zS, zI, zI, zF, zF, zS, zL, zL, zL, zL, zL, zL, zF, zL, zL, zL, zL] 49 σ fun v32 σ =>
 true) (x.C c_law25_boarded [v7] σ fun v33 σ =>
 rLd v20 σ fun v34 σ =>
 rSame v34 v21 (rLd v18 σ fun v35 σ =>
 rSame v35 v19 (rLd v16 σ fun v36 σ =>
 rSame v36 v17 (rLd v14 σ fun v37 σ =>
 rSame v37 v15 (rLd v12 σ fun v38 σ =>
 rSame v38 v13 (rLd v10 σ fun v39 σ =>
 rSame v39 v11 (rLd v8 σ fun v40 σ =>
 rSame v40 v9 (rLd v4 σ fun v41 σ =>
 rSame v41 v5 (rLd v2 σ fun v42 σ =>
 rSame v42 v3 (rLd v20 σ fun v43 σ =>
 rSame v43 v21 (rLd v18 σ fun v44 σ =>
 rSame v44 v19 (rLd v16 σ fun v45 σ =>
 rSame v45 v17 (rLd v14 σ fun v46 σ =>
 rSame v46 v15 (rLd v12 σ fun v47 σ =>
 rSame v47 v13 (rLd v10 σ fun v48 σ =>
 rSame v48 v11 (rLd v8 σ fun v49 σ =>
 rSame v49 v9 (rLd v4 σ fun v50 σ =>
 rSame v50 v5 (rLd v2 σ fun v51 σ =>
 rSame v51 v3 (bcase (rAlloc [zI, zL, zI, zS, zF, zI, zI, zI, zI, zI, zI, zI, zS, zS, zI, zI, zF, zF, zS, zL, zL, zL, zL, zL, zL, zF, zL, zL, zL, zL] 49 σ fun v52 σ =>
 true) (x.C c_law25_dealings [v17] σ fun v53 σ =>
 rLd v20 σ fun v54 σ =>
 rSame v54 v21 (rLd v18 σ fun v55 σ =>
 rSame v55 v19 (rLd v14 σ fun v56 σ =>
 rSame v56 v15 (rLd v12 σ fun v57 σ =>
 rSame v57 v13 (rLd v10 σ fun v58 σ =>
 rSame v58 v11 (rLd v8 σ fun v59 σ =>
 rSame v59 v9 (rLd v4 σ fun v60 σ =>
 rSame v60 v5 (rLd v2 σ fun v61 σ =>
 rSame v61 v3 (rLd v20 σ fun v62 σ =>
 rSame v62 v21 (rLd v18 σ fun v63 σ =>
 rSame v63 v19 (rLd v14 σ fun v64 σ =>
 rSame v64 v15 (rLd v12 σ fun v65 σ =>
 rSame v65 v13 (rLd v10 σ fun v66 σ =>
 rSame v66 v11 (rLd v8 σ fun v67 σ =>
 rSame v67 v9 (rLd v4 σ fun v68 σ =>
 rSame v68 v5 (rLd v2 σ fun v69 σ =>
 rSame v69 v3 (bcase (rAlloc [zI, zL, zI, zS, zF, zI, zI, zI, zI, zI, zI, zI, zS, zS, zI, zI, zF, zF, zS, zL, zL, zL, zL, zL, zL, zF, zL, zL, zL, zL] 49 σ fun v70 σ =>
 true) (x.C c_law25_dealings [v21] σ fun v71 σ =>
 rLd v18 σ fun v72 σ =>
 rSame v72 v19 (rLd v14 σ fun v73 σ =>
 rSame v73 v15 (rLd v12 σ fun v74 σ =>
 rSame v74 v13 (rLd v10 σ fun v75 σ =>
 rSame v75 v11 (rLd v8 σ fun v76 σ =>
 rSame v76 v9 (rLd v4 σ fun v77 σ =>
 rSame v77 v5 (rLd v2 σ fun v78 σ =>
 rSame v78 v3 (rBuild [zI, zL, zI, zS, zF, zI, zI, zI, zI, zI, zI, zI, zS, zS, zI, zI, zF, zF, zS, zL, zL, zL, zL, zL, zL, zF, zL, zL, zL, zL] [(0, 1, v3), (1, 1, v5), (2, 20, v33), (22, 1, v9), (23, 1, v11), (24, 1, v13), (25, 1, v15), (26, 1, v53), (28, 1, v19), (29, 1, v71)] fun v79 =>
 rLd v18 σ fun v80 σ =>
 rSame v80 v19 (rLd v14 σ fun v81 σ =>
 rSame v81 v15 (rLd v12 σ fun v82 σ =>
 rSame v82 v13 (rLd v10 σ fun v83 σ =>
 rSame v83 v11 (rLd v8 σ fun v84 σ =>
 rSame v84 v9 (rLd v4 σ fun v85 σ =>
 rSame v85 v5 (rLd v2 σ fun v86 σ =>
 rSame v86 v3 (bcase (rAlloc [zI, zL, zI, zS, zF, zI, zI, zI, zI, zI, zI, zI, zS, zS, zI, zI, zF, zF, zS, zL, zL, zL, zL, zL, zL, zF, zL, zL, zL, zL] 49 σ fun v87 σ =>
 true) (rAlloc [zI, zL, zI, zS, zF, zI, zI, zI, zI, zI, zI, zI, zS, zS, zI, zI, zF, zF, zS, zL, zL, zL, zL, zL, zL, zF, zL, zL, zL, zL] 49 σ fun v88 σ =>
 rSt 30 v88 v79 σ fun σ =>
 l_law25_back_rrlrd x x.most v0 v1 v88 zI σ K) false))))))))))))))) false))))))))))))))))) false))))))))))))))))))) false))))))))))
theorem f_law25_back (x : EV) (a0 : Value) (σ : St) (K : VK) : fnX PP tbS c_law25_back (x.E PP) [a0] σ K = r_law25_back x a0 σ K := by kernel_rfl
noncomputable def l_law25_back_rrlrdB (x : EV) (m0 : Nat) (t1 t2 t3 t4 : Value) (σ : St) (K : VK) : Bool :=
 rFld 27 t1 fun v0 =>
 rLd v0 σ fun v1 σ =>
 rLenS v1 fun v2 =>
 rBin PP .lss 3 t4 v2 fun v3 =>
 rIf v3 (rFld 27 t3 fun v4 =>
 rLd v4 σ fun v5 σ =>
 rFld 27 t1 fun v6 =>
 rLd v6 σ fun v7 σ =>
 rIdx 3 v7 t4 fun v8 =>
 rLdN 3 v8 σ fun v9 σ =>
 rLdN 3 v8 σ fun v10 σ =>
 rSame v10 v9 (rLd v6 σ fun v11 σ =>
 rSame v11 v7 (rLd v4 σ fun v12 σ =>
 rSame v12 v5 (bcase (rBuildS 85 1 [zI, zI, zL] [(0, 3, v9)] σ fun v13 σ =>
 true) (rBuildS 85 1 [zI, zI, zL] [(0, 3, v9)] σ fun v14 σ =>
 rApp PP 85 3 40 v5 v14 σ fun v15 σ =>
 rLd v6 σ fun v16 σ =>
 rSame v16 v7 (rFld 27 t3 fun v17 =>
 rSt 1 v17 v15 σ fun σ =>
 rBin PP .add 3 t4 (.int .i64 (.ofNat 1)) fun v18 =>
 l_law25_back_rrlrd x m0 t1 t2 t3 v18 σ K)) false)))) (rLdN 30 t3 σ fun v19 σ =>
 rSt 30 t2 v19 σ fun σ =>
 rLdN 30 t2 σ fun v20 _ =>
 K v20 σ)
theorem l_law25_back_rrlrdE (x : EV) (m0 : Nat) (t1 t2 t3 t4 : Value) (σ : St) (K : VK) : l_law25_back_rrlrd x (m0 + 1) t1 t2 t3 t4 σ K = l_law25_back_rrlrdB x m0 t1 t2 t3 t4 σ K := by kernel_rfl

/-! consistory/consistorylaw25.boarded -/
noncomputable def l_law25_boarded_rrrrlrd (x : EV) (m : Nat) (t1 t2 t3 t4 t5 : Value) (σ : St) (K : VK) : Bool := jmpL PP tbS c_law25_boarded (x.E PP) [.r, .r, .r, .r, .l, .r, .d] m [] [t1, t2, t3, t4, t5] σ K
noncomputable def l_law25_boarded_rrrrrlrd (x : EV) (m : Nat) (t1 t2 t4 t6 : Value) (σ : St) (K : VK) : Bool := jmpL PP tbS c_law25_boarded (x.E PP) [.r, .r, .r, .r, .r, .l, .r, .d] m [] [t1, t2, t4, t6] σ K
noncomputable def r_law25_boarded (x : EV) (a0 : Value) (σ : St) (K : VK) : Bool :=
 boxK 29 a0 σ fun v0 σ =>
 rAlloc [zI, zS, zF, zI, zI, zI, zI, zI, zI, zI, zS, zS, zI, zI, zF, zF, zS, zL, zL, zL] 45 σ fun v1 σ =>
 rFld 3 v0 fun v2 =>
 rLdN 15 v2 σ fun v3 σ =>
 rAlloc [zI, zI, zI, zI, zI, zI, zI, zS, zS, zI, zI, zF, zF, zS, zL] 25 σ fun v4 σ =>
 rSt 15 v4 v3 σ fun σ =>
 rFld 0 v0 fun v5 =>
 rLd v5 σ fun v6 σ =>
 rFld 1 v0 fun v7 =>
 rLd v7 σ fun v8 σ =>
 rFld 2 v0 fun v9 =>
 rLd v9 σ fun v10 σ =>
 rFld 19 v0 fun v11 =>
 rLd v11 σ fun v12 σ =>
 rBuild [zI, zS, zF, zI, zI, zI, zI, zI, zI, zI, zS, zS, zI, zI, zF, zF, zS, zL, zL, zL] [(0, 1, v6), (1, 1, v8), (2, 1, v10), (19, 1, v12)] fun v13 =>
 rAlloc [zI, zS, zF, zI, zI, zI, zI, zI, zI, zI, zS, zS, zI, zI, zF, zF, zS, zL, zL, zL] 45 σ fun v14 σ =>
 rSt 20 v14 v13 σ fun σ =>
 rFld 0 v4 fun v15 =>
 rLd v15 σ fun v16 σ =>
 rFld 1 v4 fun v17 =>
 rLd v17 σ fun v18 σ =>
 rFld 2 v4 fun v19 =>
 rLd v19 σ fun v20 σ =>
 rFld 3 v4 fun v21 =>
 rLd v21 σ fun v22 σ =>
 rFld 4 v4 fun v23 =>
 rLd v23 σ fun v24 σ =>
 rFld 5 v4 fun v25 =>
 rLd v25 σ fun v26 σ =>
 rFld 6 v4 fun v27 =>
 rLd v27 σ fun v28 σ =>
 rFld 7 v4 fun v29 =>
 rLd v29 σ fun v30 σ =>
 rFld 8 v4 fun v31 =>
 rLd v31 σ fun v32 σ =>
 rFld 9 v4 fun v33 =>
 rLd v33 σ fun v34 σ =>
 rFld 10 v4 fun v35 =>
 rLd v35 σ fun v36 σ =>
 rFld 11 v4 fun v37 =>
 rLd v37 σ fun v38 σ =>
 rFld 12 v4 fun v39 =>
 rLd v39 σ fun v40 σ =>
 rFld 13 v4 fun v41 =>
 rLd v41 σ fun v42 σ =>
 rBuild [zI, zI, zI, zI, zI, zI, zI, zS, zS, zI, zI, zF, zF, zS, zL] [(0, 1, v16), (1, 1, v18), (2, 1, v20), (3, 1, v22), (4, 1, v24), (5, 1, v26), (6, 1, v28), (7, 1, v30), (8, 1, v32), (9, 1, v34), (10, 1, v36), (11, 1, v38), (12, 1, v40), (13, 1, v42)] fun v43 =>
 rFld 3 v14 fun v44 =>
 rSt 15 v44 v43 σ fun σ =>
 l_law25_boarded_rrrrlrd x x.most v0 v1 v4 v14 zI σ K
theorem f_law25_boarded (x : EV) (a0 : Value) (σ : St) (K : VK) : fnX PP tbS c_law25_boarded (x.E PP) [a0] σ K = r_law25_boarded x a0 σ K := by kernel_rfl
noncomputable def l_law25_boarded_rrrrlrdB (x : EV) (m0 : Nat) (t1 t2 t3 t4 t5 : Value) (σ : St) (K : VK) : Bool :=
 rFld 14 t3 fun v0 =>
 rLd v0 σ fun v1 σ =>
 rLenS v1 fun v2 =>
 rBin PP .lss 3 t5 v2 fun v3 =>
 rIf v3 (rFld 3 t4 fun v4 =>
 rFld 14 v4 fun v5 =>
 rLd v5 σ fun v6 σ =>
 rFld 14 t3 fun v7 =>
 rLd v7 σ fun v8 σ =>
 rIdx 5 v8 t5 fun v9 =>
 rLdN 5 v9 σ fun v10 σ =>
 rLdN 5 v9 σ fun v11 σ =>
 rSame v11 v10 (rLd v7 σ fun v12 σ =>
 rSame v12 v8 (rLd v5 σ fun v13 σ =>
 rSame v13 v6 (bcase (rBuildS 130 1 [zI, zI, (.int .u8 (.ofNat 0)), zI, zS] [(0, 5, v10)] σ fun v14 σ =>
 true) (rBuildS 130 1 [zI, zI, (.int .u8 (.ofNat 0)), zI, zS] [(0, 5, v10)] σ fun v15 σ =>
 rApp PP 130 5 48 v6 v15 σ fun v16 σ =>
 rLd v7 σ fun v17 σ =>
 rSame v17 v8 (rFld 3 t4 fun v18 =>
 rFld 14 v18 fun v19 =>
 rSt 1 v19 v16 σ fun σ =>
 rBin PP .add 3 t5 (.int .i64 (.ofNat 1)) fun v20 =>
 l_law25_boarded_rrrrlrd x m0 t1 t2 t3 t4 v20 σ K)) false)))) (l_law25_boarded_rrrrrlrd x x.most t1 t2 t4 zI σ K)
theorem l_law25_boarded_rrrrlrdE (x : EV) (m0 : Nat) (t1 t2 t3 t4 t5 : Value) (σ : St) (K : VK) : l_law25_boarded_rrrrlrd x (m0 + 1) t1 t2 t3 t4 t5 σ K = l_law25_boarded_rrrrlrdB x m0 t1 t2 t3 t4 t5 σ K := by kernel_rfl
noncomputable def l_law25_boarded_rrrrrlrdB (x : EV) (m0 : Nat) (t1 t2 t4 t6 : Value) (σ : St) (K : VK) : Bool :=
 rFld 18 t1 fun v0 =>
 rLd v0 σ fun v1 σ =>
 rLenS v1 fun v2 =>
 rBin PP .lss 3 t6 v2 fun v3 =>
 rIf v3 (rFld 18 t4 fun v4 =>
 rLd v4 σ fun v5 σ =>
 rFld 18 t1 fun v6 =>
 rLd v6 σ fun v7 σ =>
 rIdx 2 v7 t6 fun v8 =>
 rLdN 2 v8 σ fun v9 σ =>
 rLdN 2 v8 σ fun v10 σ =>
 rSame v10 v9 (rLd v6 σ fun v11 σ =>
 rSame v11 v7 (rLd v4 σ fun v12 σ =>
 rSame v12 v5 (bcase (rBuildS 132 1 [zI, zS] [(0, 2, v9)] σ fun v13 σ =>
 true) (rBuildS 132 1 [zI, zS] [(0, 2, v9)] σ fun v14 σ =>
 rApp PP 132 2 24 v5 v14 σ fun v15 σ =>
 rLd v6 σ fun v16 σ =>
 rSame v16 v7 (rFld 18 t4 fun v17 =>
 rSt 1 v17 v15 σ fun σ =>
 rBin PP .add 3 t6 (.int .i64 (.ofNat 1)) fun v18 =>
 l_law25_boarded_rrrrrlrd x m0 t1 t2 t4 v18 σ K)) false)))) (rLdN 20 t4 σ fun v19 σ =>
 rSt 20 t2 v19 σ fun σ =>
 rLdN 20 t2 σ fun v20 _ =>
 K v20 σ)
theorem l_law25_boarded_rrrrrlrdE (x : EV) (m0 : Nat) (t1 t2 t4 t6 : Value) (σ : St) (K : VK) : l_law25_boarded_rrrrrlrd x (m0 + 1) t1 t2 t4 t6 σ K = l_law25_boarded_rrrrrlrdB x m0 t1 t2 t4 t6 σ K := by kernel_rfl

/-! consistory/consistorylaw25.dealings -/
noncomputable def l_law25_dealings_rrlrd (x : EV) (m : Nat) (t0 t3 t4 : Value) (σ : St) (K : VK) : Bool := jmpL PP tbS c_law25_dealings (x.E PP) [.r, .r, .l, .r, .d] m [] [t0, t3, t4] σ K
noncomputable def l_law25_dealings_rrlrddrldrlrd (x : EV) (m : Nat) (m0 : Nat) (t0 t3 t4 t5 t6 : Value) (σ : St) (K : VK) : Bool := jmpL PP tbS c_law25_dealings (x.E PP) [.r, .r, .l, .r, .d, .d, .r, .l, .d, .r, .l, .r, .d] m [m0] [t0, t3, t4, t5, t6] σ K
noncomputable def l_law25_dealings_rrlrddrldrrlrd (x : EV) (m : Nat) (m0 : Nat) (t0 t3 t4 t5 t7 : Value) (σ : St) (K : VK) : Bool := jmpL PP tbS c_law25_dealings (x.E PP) [.r, .r, .l, .r, .d, .d, .r, .l, .d, .r, .r, .l, .r, .d] m [m0] [t0, t3, t4, t5, t7] σ K
noncomputable def r_law25_dealings (x : EV) (a0 : Value) (σ : St) (K : VK) : Bool :=
 l_law25_dealings_rrlrd x x.most a0 zL zI σ K
theorem f_law25_dealings (x : EV) (a0 : Value) (σ : St) (K : VK) : fnX PP tbS c_law25_dealings (x.E PP) [a0] σ K = r_law25_dealings x a0 σ K := by kernel_rfl
noncomputable def l_law25_dealings_rrlrdB (x : EV) (m0 : Nat) (t0 t3 t4 : Value) (σ : St) (K : VK) : Bool :=
 rLenS t0 fun v0 =>
 rBin PP .lss 3 t4 v0 fun v1 =>
 rIf v1 (rIdx 8 t0 t4 fun v2 =>
 rFld 0 v2 fun v3 =>
 rLd v3 σ fun v4 σ =>
 rIdx 8 t0 t4 fun v5 =>
 rFld 1 v5 fun v6 =>
 rLd v6 σ fun v7 σ =>
 rIdx 8 t0 t4 fun v8 =>
 rFld 2 v8 fun v9 =>
 rLd v9 σ fun v10 σ =>
 rIdx 8 t0 t4 fun v11 =>
 rFld 3 v11 fun v12 =>
 rLd v12 σ fun v13 σ =>
 rIdx 8 t0 t4 fun v14 =>
 rFld 6 v14 fun v15 =>
 rLd v15 σ fun v16 σ =>
 rIdx 8 t0 t4 fun v17 =>
 rFld 7 v17 fun v18 =>
 rLd v18 σ fun v19 σ =>
 rBuild [zI, zI, zL, zL, zL, zL, zL, zF] [(0, 1, v4), (1, 1, v7), (2, 1, v10), (3, 1, v13), (6, 1, v16), (7, 1, v19)] fun v20 =>
 rLd v18 σ fun v21 σ =>
 rSame v21 v19 (rLd v15 σ fun v22 σ =>
 rSame v22 v16 (rLd v12 σ fun v23 σ =>
 rSame v23 v13 (rLd v9 σ fun v24 σ =>
 rSame v24 v10 (rLd v6 σ fun v25 σ =>
 rSame v25 v7 (rLd v3 σ fun v26 σ =>
 rSame v26 v4 (bcase (rAlloc [zI, zI, zL, zL, zL, zL, zL, zF] 137 σ fun v27 σ =>
 true) (rAlloc [zI, zI, zL, zL, zL, zL, zL, zF] 137 σ fun v28 σ =>
 rSt 8 v28 v20 σ fun σ =>
 l_law25_dealings_rrlrddrldrlrd x x.most m0 t0 t3 t4 v28 zI σ K) false))))))) (K t3 σ)
theorem l_law25_dealings_rrlrdE (x : EV) (m0 : Nat) (t0 t3 t4 : Value) (σ : St) (K : VK) : l_law25_dealings_rrlrd x (m0 + 1) t0 t3 t4 σ K = l_law25_dealings_rrlrdB x m0 t0 t3 t4 σ K := by kernel_rfl
noncomputable def l_law25_dealings_rrlrddrldrlrdB (x : EV) (m1 : Nat) (m0 : Nat) (t0 t3 t4 t5 t6 : Value) (σ : St) (K : VK) : Bool :=
 rIdx 8 t0 t4 fun v0 =>
 rFld 4 v0 fun v1 =>
 rLd v1 σ fun v2 σ =>
 rLenS v2 fun v3 =>
 rBin PP .lss 3 t6 v3 fun v4 =>
 rIf v4 (rFld 4 t5 fun v5 =>
 rLd v5 σ fun v6 σ =>
 rIdx 8 t0 t4 fun v7 =>
 rFld 4 v7 fun v8 =>
 rLd v8 σ fun v9 σ =>
 rIdx 2 v9 t6 fun v10 =>
 rLdN 2 v10 σ fun v11 σ =>
 rLdN 2 v10 σ fun v12 σ =>
 rSame v12 v11 (rLd v8 σ fun v13 σ =>
 rSame v13 v9 (rLd v5 σ fun v14 σ =>
 rSame v14 v6 (bcase (rBuildS 141 1 [zI, zL] [(0, 2, v11)] σ fun v15 σ =>
 true) (rBuildS 141 1 [zI, zL] [(0, 2, v11)] σ fun v16 σ =>
 rApp PP 141 2 32 v6 v16 σ fun v17 σ =>
 rLd v8 σ fun v18 σ =>
 rSame v18 v9 (rFld 4 t5 fun v19 =>
 rSt 1 v19 v17 σ fun σ =>
 rBin PP .add 3 t6 (.int .i64 (.ofNat 1)) fun v20 =>
 l_law25_dealings_rrlrddrldrlrd x m1 m0 t0 t3 t4 t5 v20 σ K)) false)))) (l_law25_dealings_rrlrddrldrrlrd x x.most m0 t0 t3 t4 t5 zI σ K)
theorem l_law25_dealings_rrlrddrldrlrdE (x : EV) (m1 : Nat) (m0 : Nat) (t0 t3 t4 t5 t6 : Value) (σ : St) (K : VK) : l_law25_dealings_rrlrddrldrlrd x (m1 + 1) m0 t0 t3 t4 t5 t6 σ K = l_law25_dealings_rrlrddrldrlrdB x m1 m0 t0 t3 t4 t5 t6 σ K := by kernel_rfl
noncomputable def l_law25_dealings_rrlrddrldrrlrdB (x : EV) (m1 : Nat) (m0 : Nat) (t0 t3 t4 t5 t7 : Value) (σ : St) (K : VK) : Bool :=
 rIdx 8 t0 t4 fun v0 =>
 rFld 5 v0 fun v1 =>
 rLd v1 σ fun v2 σ =>
 rLenS v2 fun v3 =>
 rBin PP .lss 3 t7 v3 fun v4 =>
 rIf v4 (rFld 5 t5 fun v5 =>
 rLd v5 σ fun v6 σ =>
 rIdx 8 t0 t4 fun v7 =>
 rFld 5 v7 fun v8 =>
 rLd v8 σ fun v9 σ =>
 rIdx 2 v9 t7 fun v10 =>
 rLdN 2 v10 σ fun v11 σ =>
 rLdN 2 v10 σ fun v12 σ =>
 rSame v12 v11 (rLd v8 σ fun v13 σ =>
 rSame v13 v9 (rLd v5 σ fun v14 σ =>
 rSame v14 v6 (bcase (rBuildS 141 1 [zI, zL] [(0, 2, v11)] σ fun v15 σ =>
 true) (rBuildS 141 1 [zI, zL] [(0, 2, v11)] σ fun v16 σ =>
 rApp PP 141 2 32 v6 v16 σ fun v17 σ =>
 rLd v8 σ fun v18 σ =>
 rSame v18 v9 (rFld 5 t5 fun v19 =>
 rSt 1 v19 v17 σ fun σ =>
 rBin PP .add 3 t7 (.int .i64 (.ofNat 1)) fun v20 =>
 l_law25_dealings_rrlrddrldrrlrd x m1 m0 t0 t3 t4 t5 v20 σ K)) false)))) (rLdN 8 t5 σ fun v21 σ =>
 rBuildS 137 1 [zI, zI, zL, zL, zL, zL, zL, zF] [(0, 8, v21)] σ fun v22 σ =>
 rApp PP 137 8 144 t3 v22 σ fun v23 σ =>
 rBin PP .add 3 t4 (.int .i64 (.ofNat 1)) fun v24 =>
 l_law25_dealings_rrlrd x m0 t0 v23 v24 σ K)
theorem l_law25_dealings_rrlrddrldrrlrdE (x : EV) (m1 : Nat) (m0 : Nat) (t0 t3 t4 t5 t7 : Value) (σ : St) (K : VK) : l_law25_dealings_rrlrddrldrrlrd x (m1 + 1) m0 t0 t3 t4 t5 t7 σ K = l_law25_dealings_rrlrddrldrrlrdB x m1 m0 t0 t3 t4 t5 t7 σ K := by kernel_rfl

end Go.Am

namespace Go.Am
open Go.RowKit Go.MapKept Go.Proofs Go.Proofs.Rdr
variable {most : Nat}

theorem back_dones {n : Nat} {σ1 : St} {C : Nat → Prop} {p1 b : Nat} {t2 : Value} {cs ws : List Value} {tw : TypeId} {v : Value} {es : List (List D)} {K : VK} (hCb : C b) (hC : ∀ i, C i → i < σ1.n) (hv : Rd σ1 C (.list itsDone) v (.l es))
 (hp : ∀ σ', Fr' (Row1 b) σ1 σ' (Row1 b) → ∀ K, rLd (pt p1 27) σ' K = K v σ') (hcs : 27 < cs.length) (hle : es.length ≤ 2000000)
 (hK : ∀ σ' a, Fr' (Row1 b) σ1 σ' (Row1 b) → σ'.obj b = some (.cells (cs.set 27 a) 49 .exact) → Rd σ' C (.list itsDone) a (.l es) → (rLdN 30 (pt b 0) σ' fun v19 σ => rSt 30 t2 v19 σ fun σ => rLdN 30 t2 σ fun v20 _ => K v20 σ) = true) :
 ∀ (r i m : Nat) (σ : St) (a : Value), i + r = es.length → r < m → Fr' (Row1 b) σ1 σ (Row1 b) → σ.obj b = some (.cells (cs.set 27 a) 49 .exact) → Acc σ C σ1.n itsDone 85 a (es.take i) → l_law25_back_rrlrd (X most n) m (pt p1 0) t2 (pt b 0) (.int .i64 (.ofNat i)) σ K = true := by
 have hbn : b < σ1.n := hC b hCb
 have up : ∀ {σ σ' : St}, Fr' (Row1 b) σ σ' (Row1 b) → Fr' C σ σ' C := fun f => f.up fun i hi => by rw [show i = b from hi]; exact hCb
 intro r
 induction r with
 | zero =>
  intro i m σ a hi hm f hb ha
  obtain ⟨m, rfl⟩ := Nat.exists_eq_succ_of_ne_zero (show m ≠ 0 by omega)
  rw [l_law25_back_rrlrdE]
  unfold l_law25_back_rrlrdB
  rw [rFld_p, Nat.zero_add, hp σ f, hv.listL.2, rBin_lssN, show decide (i < lenL (.l es)) = false from decide_eq_false (show ¬ i < es.length by omega), rIf_f]
  rw [List.take_of_length_le (by omega)] at ha
  exact hK σ a f hb (ha.rd hC (by omega))
 | succ r ih =>
  intro i m σ a hi hm f hb ha
  obtain ⟨m, rfl⟩ := Nat.exists_eq_succ_of_ne_zero (show m ≠ 0 by omega)
  have hlt : i < es.length := by omega
  have q := f.n
  rw [l_law25_back_rrlrdE]
  unfold l_law25_back_rrlrdB
  obtain ⟨b2, o2, hst, hix⟩ := hv.at hlt 3 rfl
  obtain ⟨us, hra, hld⟩ := hst.ldf 3 rfl
  have ha0 : (cs.set 27 a)[27]? = some a := by simp [hcs]
  have hld := hld σ (up f)
  have ld2 : ∀ K, rLd (pt b 27) σ K = K a σ := fun K => rLd_h hb ha0 K
  have hsa : sameV a a = true := by
   rcases ha with ⟨rfl, _⟩ | ⟨j, vs, olds, h1, h2, rfl, h3⟩
   · rfl
   · show ((Nat.beq j j && Nat.beq 0 0) && (Nat.beq _ _ && Nat.beq _ _)) = true
     simp
  have hbs : ∀ K, rBuildS 85 1 [zI, zI, zL] [(0, 3, .agg ⟨us⟩)] σ K = K (.slice (some ⟨σ.n, 0, none⟩) 1 1) (σ.new (.cells us 85 .exact)) := fun K => rBuildS_1 85 (k := 3) rfl hra.len (List.all_eq_true.2 hra.one) σ K
  rw [rFld_p, Nat.zero_add, hp σ f, hv.listL.2, rBin_lssN, show decide (i < lenL (.l es)) = true from decide_eq_true (show i < es.length from hlt), rIf_t, rFld_p, Nat.zero_add, ld2, rFld_p, Nat.zero_add, hp σ f, hix, hld, hld, rSame_v hra.sameV, hp σ f, rSame_v (sameV_list hv), ld2, rSame_v hsa, hbs, hbs, bcase_t]
  refine Acc.more (σ0 := σ1) (its := itsDone) rfl ha (up f) rfl (.refl σ) hra (by kernel_rfl) (by rw [List.length_take]; omega) fun σ' a' h1 h2 h3 => ?_
  have f' : Fr' (Row1 b) σ1 σ' (Row1 b) := ⟨by omega, fun k hk hkb => by rw [h2 k hk]; exact f.same k hk hkb, fun k hk => .inl hk⟩
  have hb' : σ'.obj b = some (.cells (cs.set 27 a) 49 .exact) := by rw [h2 b hbn]; exact hb
  have h1c : oneCell a' = true := by
   rcases h3 with ⟨rfl, _⟩ | ⟨j, vs, olds, g1, g2, rfl, g3⟩ <;> rfl
  have fs : Fr' (Row1 b) σ' (σ'.set b (.cells (cs.set 27 a') 49 .exact)) (Row1 b) := ⟨Nat.le_refl _, fun k _ hkb => obj_set_other hkb, fun k hk => .inl hk⟩
  rw [hp σ' f', rSame_v (sameV_list hv), rFld_p, Nat.zero_add, rSt_exact hb' (by simp [hcs]) h1c, List.set_set, rBin_add _ _ _ _ (by omega)]
  refine ih (i + 1) m _ a' (by omega) (by omega) (f'.trans fs) obj_set_same ?_
  rw [List.take_succ_eq_append_getElem hlt]
  exact h3.fr (up fs) hC

theorem boarded_told {n : Nat} {σ1 : St} {C : Nat → Prop} {p1 b : Nat} {t2 : Value} {cs ws : List Value} {tw : TypeId} {v : Value} {es : List (List D)} {K : VK} (hCb : C b) (hC : ∀ i, C i → i < σ1.n) (hv : Rd σ1 C (.list itsSaid) v (.l es))
 (hp : ∀ σ', Fr' (Row1 b) σ1 σ' (Row1 b) → ∀ K, rLd (pt p1 18) σ' K = K v σ') (hcs : 18 < cs.length) (hle : es.length ≤ 2000000)
 (hK : ∀ σ' a, Fr' (Row1 b) σ1 σ' (Row1 b) → σ'.obj b = some (.cells (cs.set 18 a) 45 .exact) → Rd σ' C (.list itsSaid) a (.l es) → (rLdN 20 (pt b 0) σ' fun v19 σ => rSt 20 t2 v19 σ fun σ => rLdN 20 t2 σ fun v20 _ => K v20 σ) = true) :
 ∀ (r i m : Nat) (σ : St) (a : Value), i + r = es.length → r < m → Fr' (Row1 b) σ1 σ (Row1 b) → σ.obj b = some (.cells (cs.set 18 a) 45 .exact) → Acc σ C σ1.n itsSaid 132 a (es.take i) → l_law25_boarded_rrrrrlrd (X most n) m (pt p1 0) t2 (pt b 0) (.int .i64 (.ofNat i)) σ K = true := by
 have hbn : b < σ1.n := hC b hCb
 have up : ∀ {σ σ' : St}, Fr' (Row1 b) σ σ' (Row1 b) → Fr' C σ σ' C := fun f => f.up fun i hi => by rw [show i = b from hi]; exact hCb
 intro r
 induction r with
 | zero =>
  intro i m σ a hi hm f hb ha
  obtain ⟨m, rfl⟩ := Nat.exists_eq_succ_of_ne_zero (show m ≠ 0 by omega)
  rw [l_law25_boarded_rrrrrlrdE]
  unfold l_law25_boarded_rrrrrlrdB
  rw [rFld_p, Nat.zero_add, hp σ f, hv.listL.2, rBin_lssN, show decide (i < lenL (.l es)) = false from decide_eq_false (show ¬ i < es.length by omega), rIf_f]
  rw [List.take_of_length_le (by omega)] at ha
  exact hK σ a f hb (ha.rd hC (by omega))
 | succ r ih =>
  intro i m σ a hi hm f hb ha
  obtain ⟨m, rfl⟩ := Nat.exists_eq_succ_of_ne_zero (show m ≠ 0 by omega)
  have hlt : i < es.length := by omega
  have q := f.n
  rw [l_law25_boarded_rrrrrlrdE]
  unfold l_law25_boarded_rrrrrlrdB
  obtain ⟨b2, o2, hst, hix⟩ := hv.at hlt 2 rfl
  obtain ⟨us, hra, hld⟩ := hst.ldf 2 rfl
  have ha0 : (cs.set 18 a)[18]? = some a := by simp [hcs]
  have hld := hld σ (up f)
  have ld2 : ∀ K, rLd (pt b 18) σ K = K a σ := fun K => rLd_h hb ha0 K
  have hsa : sameV a a = true := by
   rcases ha with ⟨rfl, _⟩ | ⟨j, vs, olds, h1, h2, rfl, h3⟩
   · rfl
   · show ((Nat.beq j j && Nat.beq 0 0) && (Nat.beq _ _ && Nat.beq _ _)) = true
     simp
  have hbs : ∀ K, rBuildS 132 1 [zI, zS] [(0, 2, .agg ⟨us⟩)] σ K = K (.slice (some ⟨σ.n, 0, none⟩) 1 1) (σ.new (.cells us 132 .exact)) := fun K => rBuildS_1 132 (k := 2) rfl hra.len (List.all_eq_true.2 hra.one) σ K
  rw [rFld_p, Nat.zero_add, hp σ f, hv.listL.2, rBin_lssN, show decide (i < lenL (.l es)) = true from decide_eq_true (show i < es.length from hlt), rIf_t, rFld_p, Nat.zero_add, ld2, rFld_p, Nat.zero_add, hp σ f, hix, hld, hld, rSame_v hra.sameV, hp σ f, rSame_v (sameV_list hv), ld2, rSame_v hsa, hbs, hbs, bcase_t]
  refine Acc.more (σ0 := σ1) (its := itsSaid) rfl ha (up f) rfl (.refl σ) hra (by kernel_rfl) (by rw [List.length_take]; omega) fun σ' a' h1 h2 h3 => ?_
  have f' : Fr' (Row1 b) σ1 σ' (Row1 b) := ⟨by omega, fun k hk hkb => by rw [h2 k hk]; exact f.same k hk hkb, fun k hk => .inl hk⟩
  have hb' : σ'.obj b = some (.cells (cs.set 18 a) 45 .exact) := by rw [h2 b hbn]; exact hb
  have h1c : oneCell a' = true := by
   rcases h3 with ⟨rfl, _⟩ | ⟨j, vs, olds, g1, g2, rfl, g3⟩ <;> rfl
  have fs : Fr' (Row1 b) σ' (σ'.set b (.cells (cs.set 18 a') 45 .exact)) (Row1 b) := ⟨Nat.le_refl _, fun k _ hkb => obj_set_other hkb, fun k hk => .inl hk⟩
  rw [hp σ' f', rSame_v (sameV_list hv), rFld_p, Nat.zero_add, rSt_exact hb' (by simp [hcs]) h1c, List.set_set, rBin_add _ _ _ _ (by omega)]
  refine ih (i + 1) m _ a' (by omega) (by omega) (f'.trans fs) obj_set_same ?_
  rw [List.take_succ_eq_append_getElem hlt]
  exact h3.fr (up fs) hC

theorem boarded_votes {n : Nat} {σ1 : St} {C : Nat → Prop} {p1 b : Nat} {t1 t2 : Value} {cs ws : List Value} {tw : TypeId} {v : Value} {es : List (List D)} {K : VK} (hCb : C b) (hC : ∀ i, C i → i < σ1.n) (hv : Rd σ1 C (.list itsVote) v (.l es))
 (hp : ∀ σ', Fr' (Row1 b) σ1 σ' (Row1 b) → ∀ K, rLd (pt p1 14) σ' K = K v σ') (hcs : 17 < cs.length) (hle : es.length ≤ 2000000)
 (hK : ∀ σ' a, Fr' (Row1 b) σ1 σ' (Row1 b) → σ'.obj b = some (.cells (cs.set 17 a) 45 .exact) → Rd σ' C (.list itsVote) a (.l es) → (l_law25_boarded_rrrrrlrd (X most n) (X most n).most t1 t2 (pt b 0) zI σ' K) = true) :
 ∀ (r i m : Nat) (σ : St) (a : Value), i + r = es.length → r < m → Fr' (Row1 b) σ1 σ (Row1 b) → σ.obj b = some (.cells (cs.set 17 a) 45 .exact) → Acc σ C σ1.n itsVote 130 a (es.take i) → l_law25_boarded_rrrrlrd (X most n) m t1 t2 (pt p1 0) (pt b 0) (.int .i64 (.ofNat i)) σ K = true := by
 have hbn : b < σ1.n := hC b hCb
 have up : ∀ {σ σ' : St}, Fr' (Row1 b) σ σ' (Row1 b) → Fr' C σ σ' C := fun f => f.up fun i hi => by rw [show i = b from hi]; exact hCb
 intro r
 induction r with
 | zero =>
  intro i m σ a hi hm f hb ha
  obtain ⟨m, rfl⟩ := Nat.exists_eq_succ_of_ne_zero (show m ≠ 0 by omega)
  rw [l_law25_boarded_rrrrlrdE]
  unfold l_law25_boarded_rrrrlrdB
  rw [rFld_p, Nat.zero_add, hp σ f, hv.listL.2, rBin_lssN, show decide (i < lenL (.l es)) = false from decide_eq_false (show ¬ i < es.length by omega), rIf_f]
  rw [List.take_of_length_le (by omega)] at ha
  exact hK σ a f hb (ha.rd hC (by omega))
 | succ r ih =>
  intro i m σ a hi hm f hb ha
  obtain ⟨m, rfl⟩ := Nat.exists_eq_succ_of_ne_zero (show m ≠ 0 by omega)
  have hlt : i < es.length := by omega
  have q := f.n
  rw [l_law25_boarded_rrrrlrdE]
  unfold l_law25_boarded_rrrrlrdB
  obtain ⟨b2, o2, hst, hix⟩ := hv.at hlt 5 rfl
  obtain ⟨us, hra, hld⟩ := hst.ldf 5 rfl
  have ha0 : (cs.set 17 a)[17]? = some a := by simp [hcs]
  have hld := hld σ (up f)
  have ld2 : ∀ K, rLd (pt b 17) σ K = K a σ := fun K => rLd_h hb ha0 K
  have hsa : sameV a a = true := by
   rcases ha with ⟨rfl, _⟩ | ⟨j, vs, olds, h1, h2, rfl, h3⟩
   · rfl
   · show ((Nat.beq j j && Nat.beq 0 0) && (Nat.beq _ _ && Nat.beq _ _)) = true
     simp
  have hbs : ∀ K, rBuildS 130 1 [zI, zI, (.int .u8 (.ofNat 0)), zI, zS] [(0, 5, .agg ⟨us⟩)] σ K = K (.slice (some ⟨σ.n, 0, none⟩) 1 1) (σ.new (.cells us 130 .exact)) := fun K => rBuildS_1 130 (k := 5) rfl hra.len (List.all_eq_true.2 hra.one) σ K
  rw [rFld_p, Nat.zero_add, hp σ f, hv.listL.2, rBin_lssN, show decide (i < lenL (.l es)) = true from decide_eq_true (show i < es.length from hlt), rIf_t, rFld_p, Nat.zero_add, rFld_p, ld2, rFld_p, Nat.zero_add, hp σ f, hix, hld, hld, rSame_v hra.sameV, hp σ f, rSame_v (sameV_list hv), ld2, rSame_v hsa, hbs, hbs, bcase_t]
  refine Acc.more (σ0 := σ1) (its := itsVote) rfl ha (up f) rfl (.refl σ) hra (by kernel_rfl) (by rw [List.length_take]; omega) fun σ' a' h1 h2 h3 => ?_
  have f' : Fr' (Row1 b) σ1 σ' (Row1 b) := ⟨by omega, fun k hk hkb => by rw [h2 k hk]; exact f.same k hk hkb, fun k hk => .inl hk⟩
  have hb' : σ'.obj b = some (.cells (cs.set 17 a) 45 .exact) := by rw [h2 b hbn]; exact hb
  have h1c : oneCell a' = true := by
   rcases h3 with ⟨rfl, _⟩ | ⟨j, vs, olds, g1, g2, rfl, g3⟩ <;> rfl
  have fs : Fr' (Row1 b) σ' (σ'.set b (.cells (cs.set 17 a') 45 .exact)) (Row1 b) := ⟨Nat.le_refl _, fun k _ hkb => obj_set_other hkb, fun k hk => .inl hk⟩
  rw [hp σ' f', rSame_v (sameV_list hv), rFld_p, Nat.zero_add, rFld_p, rSt_exact hb' (by simp [hcs]) h1c, List.set_set, rBin_add _ _ _ _ (by omega)]
  refine ih (i + 1) m _ a' (by omega) (by omega) (f'.trans fs) obj_set_same ?_
  rw [List.take_succ_eq_append_getElem hlt]
  exact h3.fr (up fs) hC

theorem dealings_readies {n : Nat} {σ1 : St} {C : Nat → Prop} {p1 o1 b : Nat} {m0 p0 : Nat} {t0 t3 : Value} {cs ws : List Value} {tw : TypeId} {v : Value} {es : List (List D)} {K : VK} (hCb : C b) (hC : ∀ i, C i → i < σ1.n) (hv : Rd σ1 C (.list itsTold) v (.l es))
 (h0 : ∀ K, rIdx 8 t0 (.int .i64 (.ofNat p0)) K = K (pt p1 o1)) (hp : ∀ σ', Fr' (Row1 b) σ1 σ' (Row1 b) → ∀ K, rLd (pt p1 (o1 + 5)) σ' K = K v σ') (hcs : 5 < cs.length) (hle : es.length ≤ 2000000)
 (hK : ∀ σ' a, Fr' (Row1 b) σ1 σ' (Row1 b) → σ'.obj b = some (.cells (cs.set 5 a) 137 .exact) → Rd σ' C (.list itsTold) a (.l es) → (rLdN 8 (pt b 0) σ' fun v21 σ => rBuildS 137 1 [zI, zI, zL, zL, zL, zL, zL, zF] [(0, 8, v21)] σ fun v22 σ => rApp PP 137 8 144 t3 v22 σ fun v23 σ => rBin PP .add 3 (.int .i64 (.ofNat p0)) (.int .i64 (.ofNat 1)) fun v24 => l_law25_dealings_rrlrd (X most n) m0 t0 v23 v24 σ K) = true) :
 ∀ (r i m : Nat) (σ : St) (a : Value), i + r = es.length → r < m → Fr' (Row1 b) σ1 σ (Row1 b) → σ.obj b = some (.cells (cs.set 5 a) 137 .exact) → Acc σ C σ1.n itsTold 141 a (es.take i) → l_law25_dealings_rrlrddrldrrlrd (X most n) m m0 t0 t3 (.int .i64 (.ofNat p0)) (pt b 0) (.int .i64 (.ofNat i)) σ K = true := by
 have hbn : b < σ1.n := hC b hCb
 have up : ∀ {σ σ' : St}, Fr' (Row1 b) σ σ' (Row1 b) → Fr' C σ σ' C := fun f => f.up fun i hi => by rw [show i = b from hi]; exact hCb
 intro r
 induction r with
 | zero =>
  intro i m σ a hi hm f hb ha
  obtain ⟨m, rfl⟩ := Nat.exists_eq_succ_of_ne_zero (show m ≠ 0 by omega)
  rw [l_law25_dealings_rrlrddrldrrlrdE]
  unfold l_law25_dealings_rrlrddrldrrlrdB
  rw [h0, rFld_p, hp σ f, hv.listL.2, rBin_lssN, show decide (i < lenL (.l es)) = false from decide_eq_false (show ¬ i < es.length by omega), rIf_f]
  rw [List.take_of_length_le (by omega)] at ha
  exact hK σ a f hb (ha.rd hC (by omega))
 | succ r ih =>
  intro i m σ a hi hm f hb ha
  obtain ⟨m, rfl⟩ := Nat.exists_eq_succ_of_ne_zero (show m ≠ 0 by omega)
  have hlt : i < es.length := by omega
  have q := f.n
  rw [l_law25_dealings_rrlrddrldrrlrdE]
  unfold l_law25_dealings_rrlrddrldrrlrdB
  obtain ⟨b2, o2, hst, hix⟩ := hv.at hlt 2 rfl
  obtain ⟨us, hra, hld⟩ := hst.ldf 2 rfl
  have ha0 : (cs.set 5 a)[5]? = some a := by simp [hcs]
  have hld := hld σ (up f)
  have ld2 : ∀ K, rLd (pt b 5) σ K = K a σ := fun K => rLd_h hb ha0 K
  have hsa : sameV a a = true := by
   rcases ha with ⟨rfl, _⟩ | ⟨j, vs, olds, h1, h2, rfl, h3⟩
   · rfl
   · show ((Nat.beq j j && Nat.beq 0 0) && (Nat.beq _ _ && Nat.beq _ _)) = true
     simp
  have hbs : ∀ K, rBuildS 141 1 [zI, zL] [(0, 2, .agg ⟨us⟩)] σ K = K (.slice (some ⟨σ.n, 0, none⟩) 1 1) (σ.new (.cells us 141 .exact)) := fun K => rBuildS_1 141 (k := 2) rfl hra.len (List.all_eq_true.2 hra.one) σ K
  rw [h0, rFld_p, hp σ f, hv.listL.2, rBin_lssN, show decide (i < lenL (.l es)) = true from decide_eq_true (show i < es.length from hlt), rIf_t, rFld_p, Nat.zero_add, ld2, h0, rFld_p, hp σ f, hix, hld, hld, rSame_v hra.sameV, hp σ f, rSame_v (sameV_list hv), ld2, rSame_v hsa, hbs, hbs, bcase_t]
  refine Acc.more (σ0 := σ1) (its := itsTold) rfl ha (up f) rfl (.refl σ) hra (by kernel_rfl) (by rw [List.length_take]; omega) fun σ' a' h1 h2 h3 => ?_
  have f' : Fr' (Row1 b) σ1 σ' (Row1 b) := ⟨by omega, fun k hk hkb => by rw [h2 k hk]; exact f.same k hk hkb, fun k hk => .inl hk⟩
  have hb' : σ'.obj b = some (.cells (cs.set 5 a) 137 .exact) := by rw [h2 b hbn]; exact hb
  have h1c : oneCell a' = true := by
   rcases h3 with ⟨rfl, _⟩ | ⟨j, vs, olds, g1, g2, rfl, g3⟩ <;> rfl
  have fs : Fr' (Row1 b) σ' (σ'.set b (.cells (cs.set 5 a') 137 .exact)) (Row1 b) := ⟨Nat.le_refl _, fun k _ hkb => obj_set_other hkb, fun k hk => .inl hk⟩
  rw [hp σ' f', rSame_v (sameV_list hv), rFld_p, Nat.zero_add, rSt_exact hb' (by simp [hcs]) h1c, List.set_set, rBin_add _ _ _ _ (by omega)]
  refine ih (i + 1) m _ a' (by omega) (by omega) (f'.trans fs) obj_set_same ?_
  rw [List.take_succ_eq_append_getElem hlt]
  exact h3.fr (up fs) hC

theorem dealings_echos {n : Nat} {σ1 : St} {C : Nat → Prop} {p1 o1 b : Nat} {m0 p0 : Nat} {t0 t3 : Value} {cs ws : List Value} {tw : TypeId} {v : Value} {es : List (List D)} {K : VK} (hCb : C b) (hC : ∀ i, C i → i < σ1.n) (hv : Rd σ1 C (.list itsTold) v (.l es))
 (h0 : ∀ K, rIdx 8 t0 (.int .i64 (.ofNat p0)) K = K (pt p1 o1)) (hp : ∀ σ', Fr' (Row1 b) σ1 σ' (Row1 b) → ∀ K, rLd (pt p1 (o1 + 4)) σ' K = K v σ') (hcs : 4 < cs.length) (hle : es.length ≤ 2000000)
 (hK : ∀ σ' a, Fr' (Row1 b) σ1 σ' (Row1 b) → σ'.obj b = some (.cells (cs.set 4 a) 137 .exact) → Rd σ' C (.list itsTold) a (.l es) → (l_law25_dealings_rrlrddrldrrlrd (X most n) (X most n).most m0 t0 t3 (.int .i64 (.ofNat p0)) (pt b 0) zI σ' K) = true) :
 ∀ (r i m : Nat) (σ : St) (a : Value), i + r = es.length → r < m → Fr' (Row1 b) σ1 σ (Row1 b) → σ.obj b = some (.cells (cs.set 4 a) 137 .exact) → Acc σ C σ1.n itsTold 141 a (es.take i) → l_law25_dealings_rrlrddrldrlrd (X most n) m m0 t0 t3 (.int .i64 (.ofNat p0)) (pt b 0) (.int .i64 (.ofNat i)) σ K = true := by
 have hbn : b < σ1.n := hC b hCb
 have up : ∀ {σ σ' : St}, Fr' (Row1 b) σ σ' (Row1 b) → Fr' C σ σ' C := fun f => f.up fun i hi => by rw [show i = b from hi]; exact hCb
 intro r
 induction r with
 | zero =>
  intro i m σ a hi hm f hb ha
  obtain ⟨m, rfl⟩ := Nat.exists_eq_succ_of_ne_zero (show m ≠ 0 by omega)
  rw [l_law25_dealings_rrlrddrldrlrdE]
  unfold l_law25_dealings_rrlrddrldrlrdB
  rw [h0, rFld_p, hp σ f, hv.listL.2, rBin_lssN, show decide (i < lenL (.l es)) = false from decide_eq_false (show ¬ i < es.length by omega), rIf_f]
  rw [List.take_of_length_le (by omega)] at ha
  exact hK σ a f hb (ha.rd hC (by omega))
 | succ r ih =>
  intro i m σ a hi hm f hb ha
  obtain ⟨m, rfl⟩ := Nat.exists_eq_succ_of_ne_zero (show m ≠ 0 by omega)
  have hlt : i < es.length := by omega
  have q := f.n
  rw [l_law25_dealings_rrlrddrldrlrdE]
  unfold l_law25_dealings_rrlrddrldrlrdB
  obtain ⟨b2, o2, hst, hix⟩ := hv.at hlt 2 rfl
  obtain ⟨us, hra, hld⟩ := hst.ldf 2 rfl
  have ha0 : (cs.set 4 a)[4]? = some a := by simp [hcs]
  have hld := hld σ (up f)
  have ld2 : ∀ K, rLd (pt b 4) σ K = K a σ := fun K => rLd_h hb ha0 K
  have hsa : sameV a a = true := by
   rcases ha with ⟨rfl, _⟩ | ⟨j, vs, olds, h1, h2, rfl, h3⟩
   · rfl
   · show ((Nat.beq j j && Nat.beq 0 0) && (Nat.beq _ _ && Nat.beq _ _)) = true
     simp
  have hbs : ∀ K, rBuildS 141 1 [zI, zL] [(0, 2, .agg ⟨us⟩)] σ K = K (.slice (some ⟨σ.n, 0, none⟩) 1 1) (σ.new (.cells us 141 .exact)) := fun K => rBuildS_1 141 (k := 2) rfl hra.len (List.all_eq_true.2 hra.one) σ K
  rw [h0, rFld_p, hp σ f, hv.listL.2, rBin_lssN, show decide (i < lenL (.l es)) = true from decide_eq_true (show i < es.length from hlt), rIf_t, rFld_p, Nat.zero_add, ld2, h0, rFld_p, hp σ f, hix, hld, hld, rSame_v hra.sameV, hp σ f, rSame_v (sameV_list hv), ld2, rSame_v hsa, hbs, hbs, bcase_t]
  refine Acc.more (σ0 := σ1) (its := itsTold) rfl ha (up f) rfl (.refl σ) hra (by kernel_rfl) (by rw [List.length_take]; omega) fun σ' a' h1 h2 h3 => ?_
  have f' : Fr' (Row1 b) σ1 σ' (Row1 b) := ⟨by omega, fun k hk hkb => by rw [h2 k hk]; exact f.same k hk hkb, fun k hk => .inl hk⟩
  have hb' : σ'.obj b = some (.cells (cs.set 4 a) 137 .exact) := by rw [h2 b hbn]; exact hb
  have h1c : oneCell a' = true := by
   rcases h3 with ⟨rfl, _⟩ | ⟨j, vs, olds, g1, g2, rfl, g3⟩ <;> rfl
  have fs : Fr' (Row1 b) σ' (σ'.set b (.cells (cs.set 4 a') 137 .exact)) (Row1 b) := ⟨Nat.le_refl _, fun k _ hkb => obj_set_other hkb, fun k hk => .inl hk⟩
  rw [hp σ' f', rSame_v (sameV_list hv), rFld_p, Nat.zero_add, rSt_exact hb' (by simp [hcs]) h1c, List.set_set, rBin_add _ _ _ _ (by omega)]
  refine ih (i + 1) m _ a' (by omega) (by omega) (f'.trans fs) obj_set_same ?_
  rw [List.take_succ_eq_append_getElem hlt]
  exact h3.fr (up fs) hC
end Go.Am

namespace Go.Am
open Go.RowKit Go.MapKept Go.Proofs Go.Proofs.Rdr
variable {most : Nat}
theorem rBuild_one {z : List Value} {o : Nat} {v : Value} {ps : List (Nat × Nat × Value)} (h : oneCell v = true) (ho : o < z.length) (K : Value → Bool) : rBuild z ((o, 1, v) :: ps) K = rBuild (z.set o v) ps K := by
 show cellsOfK v (fun new => lenK new fun m => match Nat.beq m 1 with | true => spliceK o new z (fun cs => rFill ps cs fun cs => K (.agg ⟨cs⟩)) | false => false) = _
 rw [cellsOf_one h, lenK_eq]
 show spliceK o [v] z _ = _
 rw [spliceK_eq, if_pos (by simp; omega)]
 unfold splice
 rw [List.set_eq_take_append_cons_drop, if_pos ho]
 simp only [List.append_assoc, List.singleton_append, List.length_singleton]
 rfl
theorem rBuild_agg {z cs : List Value} {o n : Nat} {ps : List (Nat × Nat × Value)} (h : cs.all oneCell = true) (hn : cs.length = n) (ho : o + n ≤ z.length) (K : Value → Bool) : rBuild z ((o, n, .agg ⟨cs⟩) :: ps) K = rBuild (splice o cs z) ps K := by
 show (match allB oneCell cs with | true => (lenK cs fun m => match Nat.beq m n with | true => spliceK o cs z (fun cs => rFill ps cs fun cs => K (.agg ⟨cs⟩)) | false => false) | false => false) = _
 rw [allB_eq, h, lenK_eq, hn]
 simp only [show Nat.beq n n = true from Nat.beq_refl _]
 rw [spliceK_eq, if_pos (by omega)]
 rfl
theorem RdA.of {σ : St} {C : Nat → Prop} {its : List It} {cs : List Value} {ds : List D} (hl : cs.length = its.length) (hd : ds.length = its.length) (h : ∀ (j : Nat) (it : It) (u : Value), its[j]? = some it → cs[j]? = some u → Rd σ C it u (ats ds j)) : RdA σ C its cs ds :=
 ⟨hl, hd, fun j it v d a b c => by have := h j it v a b; rwa [ats_of c] at this⟩
theorem Rd.list_es {σ : St} {C : Nat → Prop} {its : List It} {v : Value} {d : D} (h : Rd σ C (.list its) v d) : Rd σ C (.list its) v (.l (esOf d)) ∧ d = .l (esOf d) := by
 obtain ⟨es, rfl⟩ := h.list_inv
 exact ⟨h, rfl⟩
theorem Rd.sameV' {σ : St} {C : Nat → Prop} {it : It} {v : Value} {d : D} (h : Rd σ C it v d) : Am.sameV v v = true := by
 have := h.same0
 cases v <;> first | exact this | (cases h; rename_i h; cases h)

theorem dealings_loop (hM : 2000000 < most) {n : Nat} {σ0 : St} {C : Nat → Prop} {v : Value} {es : List (List D)} {K : VK} (hC : ∀ i, C i → i < σ0.n) (hv : Rd σ0 C (.list itsDealing) v (.l es)) (hle : es.length ≤ 2000000)
 (hin : ∀ x ∈ es, (esOf (ats x 4)).length ≤ 2000000 ∧ (esOf (ats x 5)).length ≤ 2000000) (hK : ∀ σ' a, Ext' σ0 σ' → Rd σ' C (.list itsDealing) a (.l es) → K a σ' = true) :
 ∀ (r i m : Nat) (σ : St) (a : Value), i + r = es.length → r < m → Ext' σ0 σ → Acc σ C σ0.n itsDealing 137 a (es.take i) → l_law25_dealings_rrlrd (X most n) m v a (.int .i64 (.ofNat i)) σ K = true := by
 intro r
 induction r with
 | zero =>
  intro i m σ a hi hm hx ha
  obtain ⟨m, rfl⟩ := Nat.exists_eq_succ_of_ne_zero (show m ≠ 0 by omega)
  rw [l_law25_dealings_rrlrdE]
  unfold l_law25_dealings_rrlrdB
  rw [hv.listL.2, rBin_lssN, show decide (i < lenL (.l es)) = false from decide_eq_false (show ¬ i < es.length by omega), rIf_f]
  rw [List.take_of_length_le (by omega)] at ha
  exact hK σ a hx (ha.rd hC (by omega))
 | succ r ih =>
  intro i m σ a hi hm hx ha
  obtain ⟨m, rfl⟩ := Nat.exists_eq_succ_of_ne_zero (show m ≠ 0 by omega)
  have hlt : i < es.length := by omega
  have q := hx.n
  obtain ⟨hin4, hin5⟩ := hin _ (List.getElem_mem hlt)
  rw [l_law25_dealings_rrlrdE]
  unfold l_law25_dealings_rrlrdB
  obtain ⟨p1, o1, hst, hix⟩ := hv.at hlt 8 rfl
  have hdl : es[i].length = 8 := hst.len
  obtain ⟨u0, r0, l0⟩ := hst.valf 0 (it := .int) rfl
  obtain ⟨u1, r1, l1⟩ := hst.valf 1 (it := .int) rfl
  obtain ⟨u2, r2, l2⟩ := hst.valf 2 (it := .list itsNums) rfl
  obtain ⟨u3, r3, l3⟩ := hst.valf 3 (it := .nums) rfl
  obtain ⟨u4, r4, l4⟩ := hst.valf 4 (it := .list itsTold) rfl
  obtain ⟨u5, r5, l5⟩ := hst.valf 5 (it := .list itsTold) rfl
  obtain ⟨u6, r6, l6⟩ := hst.valf 6 (it := .nums) rfl
  obtain ⟨u7, r7, l7⟩ := hst.valf 7 (it := .is) rfl
  have fx : Fr' C σ0 σ C := hx.fr C
  have e4 := r4.list_es
  have e5 := r5.list_es
  have hb : ∀ K, rBuild [zI, zI, zL, zL, zL, zL, zL, zF] [(0, 1, u0), (1, 1, u1), (2, 1, u2), (3, 1, u3), (6, 1, u6), (7, 1, u7)] K = K (.agg ⟨[u0, u1, u2, u3, .slice none 0 0, .slice none 0 0, u6, u7]⟩) := fun K => by
   rw [rBuild_one r0.one (by simp), rBuild_one r1.one (by simp), rBuild_one r2.one (by simp), rBuild_one r3.one (by simp), rBuild_one r6.one (by simp), rBuild_one r7.one (by simp), rBuild_none]
   rfl
  rw [hv.listL.2, rBin_lssN, show decide (i < lenL (.l es)) = true from decide_eq_true (show i < es.length from hlt), rIf_t]
  rw [hix, rFld_p, l0 σ fx, hix, rFld_p, l1 σ fx, hix, rFld_p, l2 σ fx, hix, rFld_p, l3 σ fx, hix, rFld_p, l6 σ fx, hix, rFld_p, l7 σ fx, hb]
  rw [l7 σ fx, rSame_v r7.sameV', l6 σ fx, rSame_v r6.sameV', l3 σ fx, rSame_v r3.sameV', l2 σ fx, rSame_v r2.sameV', l1 σ fx, rSame_v r1.sameV', l0 σ fx, rSame_v r0.sameV', rAlloc_h, bcase_t, rAlloc_h]
  let cs8 : List Value := [u0, u1, u2, u3, .slice none 0 0, .slice none 0 0, u6, u7]
  have one8 : cs8.all oneCell = true := by simp [cs8, r0.one, r1.one, r2.one, r3.one, r6.one, r7.one]; rfl
  rw [rSt_all (vs := [zI, zI, zL, zL, zL, zL, zL, zF]) (cs := cs8) obj_new_same rfl one8 8 rfl]
  generalize hσ1 : (σ.new (.cells [zI, zI, zL, zL, zL, zL, zL, zF] 137 .exact)).set σ.n (.cells cs8 137 .exact) = σ1
  have n1 : σ1.n = σ.n + 1 := by rw [← hσ1]; rfl
  have o1b : σ1.obj σ.n = some (.cells (cs8.set 4 zL) 137 .exact) := by rw [← hσ1]; exact obj_set_same
  have x1 : Ext' σ σ1 := ⟨by omega, fun k hk => by rw [← hσ1, obj_set_other (by omega), obj_new_old (by omega)]⟩
  let C1 : Nat → Prop := fun k => k = σ.n ∨ C k ∨ (σ0.n ≤ k ∧ k < σ.n)
  have hC1 : ∀ k, C1 k → k < σ1.n := fun k hk => by
   rcases hk with h | h | h
   · omega
   · have := hC k h; omega
   · omega
  have hC1b : C1 σ.n := .inl rfl
  have fC1 : ∀ {σ' : St}, Ext' σ0 σ' → Fr' C σ0 σ' C1 := fun h => ⟨h.n, fun k hk _ => h.same k hk, fun k hk => by
   rcases hk with h | h | h
   · exact .inr (by omega)
   · exact .inl h
   · exact .inr h.1⟩
  have xb : ∀ {σ' : St}, Fr' (Row1 σ.n) σ1 σ' (Row1 σ.n) → Ext' σ σ' := fun f => f.ext x1 (fun k hk => by rw [show k = σ.n from hk]; exact Nat.le_refl _)
  have hst0 : ∀ {σ' : St}, Ext' σ σ' → Fr' C σ0 σ' C := fun h => (hx.trans h).fr C
  refine dealings_echos (n := n) (σ1 := σ1) (C := C1) (p1 := p1) (o1 := o1) (b := σ.n) (m0 := m) (p0 := i) (t0 := v) (t3 := a) (cs := cs8) (ws := []) (tw := 0) hC1b hC1 (e4.1.fr (fC1 (hx.trans x1))) hix (fun σ' f => l4 σ' (hst0 (xb f))) (by simp [cs8]) hin4 (fun σ2 a4 f2 hb2 h4 => ?_) _ 0 _ σ1 zL (Nat.zero_add _) (by rw [X_most]; omega) (.refl _ _) o1b (.inl ⟨rfl, by simp⟩)
  have x2 : Ext' σ σ2 := xb f2
  have q2 := f2.n
  have xb2 : ∀ {σ' : St}, Fr' (Row1 σ.n) σ2 σ' (Row1 σ.n) → Ext' σ σ' := fun f => f.ext x2 (fun k hk => by rw [show k = σ.n from hk]; exact Nat.le_refl _)
  refine dealings_readies (n := n) (σ1 := σ2) (C := C1) (p1 := p1) (o1 := o1) (b := σ.n) (m0 := m) (p0 := i) (t0 := v) (t3 := a) (cs := cs8.set 4 a4) (ws := []) (tw := 0) hC1b (fun k hk => by have := hC1 k hk; omega) (e5.1.fr (fC1 (hx.trans x2))) hix (fun σ' f => l5 σ' (hst0 (xb2 f))) (by simp [cs8]) hin5 (fun σ3 a5 f3 hb3 h5 => ?_) _ 0 _ σ2 zL (Nat.zero_add _) (by rw [X_most]; omega) (.refl _ _) hb2 (.inl ⟨rfl, by simp⟩)
  have x3 : Ext' σ σ3 := xb2 f3
  have q3 := f3.n
  have h4' : Rd σ3 C1 (.list itsTold) a4 (.l (esOf (ats es[i] 4))) := h4.fr (f3.up fun k hk => by rw [show k = σ.n from hk]; exact hC1b)
  let cs9 : List Value := [u0, u1, u2, u3, a4, a5, u6, u7]
  have hb3 : σ3.obj σ.n = some (.cells cs9 137 .exact) := hb3
  have r9 : ∀ C' : Nat → Prop, (∀ k, C' k → C k ∨ (σ0.n ≤ k ∧ k < σ.n)) → RdA (σ3.new (.cells cs9 137 .exact)) C' itsDealing cs9 es[i] := fun C' hC' => by
   have F : Fr' C σ0 (σ3.new (.cells cs9 137 .exact)) C' := ⟨by have := x3.n; rw [new_n]; omega, fun k hk _ => by rw [obj_new_old (by have := x3.n; omega)]; exact (hx.trans x3).same k hk, fun k hk => by
    rcases hC' k hk with h | h
    · exact .inl h
    · exact .inr h.1⟩
   have G : Fr' C1 σ3 (σ3.new (.cells cs9 137 .exact)) C' := ⟨Nat.le_succ _, fun k hk _ => obj_new_old (by omega), fun k hk => .inl (.inr (hC' k hk))⟩
   refine RdA.of rfl hdl fun j it u a b => ?_
   match j, a, b with
   | 0, a, b => injection a with a; injection b with b; subst a b; exact r0.fr F
   | 1, a, b => injection a with a; injection b with b; subst a b; exact r1.fr F
   | 2, a, b => injection a with a; injection b with b; subst a b; exact r2.fr F
   | 3, a, b => injection a with a; injection b with b; subst a b; exact r3.fr F
   | 4, a, b => injection a with a; injection b with b; subst a b; rw [e4.2]; exact h4'.fr G
   | 5, a, b => injection a with a; injection b with b; subst a b; rw [e5.2]; exact h5.fr G
   | 6, a, b => injection a with a; injection b with b; subst a b; exact r6.fr F
   | 7, a, b => injection a with a; injection b with b; subst a b; exact r7.fr F
   | j + 8, a, _ => cases a
  have one9 : ∀ w ∈ cs9, oneCell w = true := (r9 C fun k hk => .inl hk).one
  have hbs : ∀ K, rBuildS 137 1 [zI, zI, zL, zL, zL, zL, zL, zF] [(0, 8, .agg ⟨cs9⟩)] σ3 K = K (.slice (some ⟨σ3.n, 0, none⟩) 1 1) (σ3.new (.cells cs9 137 .exact)) := fun K => rBuildS_1 137 (k := 8) rfl rfl (List.all_eq_true.2 one9) σ3 K
  rw [rLdN_h hb3 (by simp [cs9])]
  show rBuildS 137 1 _ [(0, 8, .agg ⟨cs9⟩)] σ3 _ = true
  rw [hbs]
  refine Acc.app (its := itsDealing) (bytes := 144) ha (x3.trans (.new σ3 _)) q (Src.single obj_new_same rfl one9) r9 (by kernel_rfl) (by rw [List.length_take]; omega) fun σ4 a' h1 h2 h3 => ?_
  rw [rBin_add _ _ _ _ (by omega)]
  have q4 := x3.n
  refine ih (i + 1) m σ4 a' (by omega) (by omega) ⟨by rw [new_n] at h2; omega, fun k hk => by rw [h1 k hk, obj_new_old (by omega)]; exact (hx.trans x3).same k hk⟩ ?_
  rw [List.take_succ_eq_append_getElem hlt]
  exact h3
theorem dealings_s (hM : 2000000 < most) {n : Nat} {σ0 : St} {C : Nat → Prop} {v : Value} {es : List (List D)} {K : VK} (hC : ∀ i, C i → i < σ0.n) (hv : Rd σ0 C (.list itsDealing) v (.l es)) (hle : es.length ≤ 2000000)
 (hin : ∀ x ∈ es, (esOf (ats x 4)).length ≤ 2000000 ∧ (esOf (ats x 5)).length ≤ 2000000) (hK : ∀ σ' a, Ext' σ0 σ' → Rd σ' C (.list itsDealing) a (.l es) → K a σ' = true) : (X most (n + 1)).C c_law25_dealings [v] σ0 K = true := by
 rw [X_call (by rfl), f_law25_dealings]
 unfold r_law25_dealings
 exact dealings_loop hM hC hv hle hin hK es.length 0 _ σ0 _ (Nat.zero_add _) (by rw [X_most]; omega) (.refl σ0) (.inl ⟨rfl, by simp⟩)
end Go.Am
