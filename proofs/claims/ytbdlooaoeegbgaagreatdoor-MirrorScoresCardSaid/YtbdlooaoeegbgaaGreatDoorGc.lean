/- AM: late operations: what the plan's closing says. -/
import Derived.Test.YtbdlooaoeegbgaaGreatDoorGb

namespace Go.Am
open Go.RowKit Go.MapKept

def On (t : Array Bool) (j : Nat) : Prop := t.getD j false = true
theorem On.lt {t : Array Bool} {j : Nat} (h : On t j) : j < t.size := by
 unfold On at h
 rcases Nat.lt_or_ge j t.size with h' | h'
 · exact h'
 · simp [h'] at h
theorem un_iff {t : Array Bool} {j : Nat} : t.getD j true = false ↔ j < t.size ∧ ¬ On t j := by
 unfold On
 rcases Nat.lt_or_ge j t.size with h | h
 · simp [h]
 · simp [h]
theorem On.set {t : Array Bool} {i j : Nat} (hi : i < t.size) : On (t.setIfInBounds i true) j ↔ On t j ∨ j = i := by
 unfold On
 by_cases e : j = i
 · subst e; simp [hi]
 · have h1 : (t.setIfInBounds i true)[j]? = t[j]? := by rw [Array.getElem?_setIfInBounds_ne (Ne.symm e)]
   simp [e, h1]
section plan
variable {P : Program} {ops : Array Oper}
def Waits (ops : Array Oper) (j e : Nat) : Prop := ∃ o, ops[j]? = some o ∧ ∃ x ∈ o.after, Region.binds .any x = true ∧ x.on = e
theorem ready_iff {j : Nat} {t : Array Bool} : j ∈ Region.ready .any ops t ↔ (j < t.size ∧ ¬ On t j) ∧ j < ops.size ∧ ∀ e, Waits ops j e → On t e := by
 rw [mem_ready, un_iff]
 constructor
 · rintro ⟨h1, o, ho, h2⟩
   refine ⟨h1, (Array.getElem?_eq_some_iff.1 ho).1, ?_⟩
   rintro e ⟨o', ho', x, hx, hb, rfl⟩
   rw [ho] at ho'; injection ho' with ho'; subst ho'
   exact h2 x hx hb
 · rintro ⟨h1, h2, h3⟩
   exact ⟨h1, _, Array.getElem?_eq_getElem h2, fun x hx hb => h3 _ ⟨_, Array.getElem?_eq_getElem h2, x, hx, hb, rfl⟩⟩
theorem dep_iff {j e : Nat} : dep ops j e = true ↔ Waits ops j e := by
 unfold dep Waits
 cases h : ops[j]? with
 | none => simp
 | some o =>
  simp only [Array.any_eq_true']
  constructor
  · rintro ⟨x, hx, hb⟩
    simp only [Bool.and_eq_true, beq_iff_eq] at hb
    exact ⟨o, rfl, x, hx, hb.1, hb.2⟩
  · rintro ⟨o', ho', x, hx, hb, he⟩
    injection ho' with ho'; subst ho'
    exact ⟨x, hx, by simp [hb, he]⟩
def Rowed (ops : Array Oper) (t : Array Bool) : List Nat → List Nat → Prop
 | _, [] => True
 | pre, d :: l => (∀ e, Waits ops d e → On t e ∨ e ∈ pre) ∧ Rowed ops t (d :: pre) l
theorem Rowed.mono {t : Array Bool} : ∀ {l pre pre' : List Nat}, Rowed ops t pre l → (∀ e ∈ pre, e ∈ pre') → Rowed ops t pre' l := by
 intro l
 induction l with
 | nil => intro _ _ _ _; trivial
 | cons d l ih =>
  intro pre pre' h hs
  refine ⟨fun e he => (h.1 e he).imp id (hs e), ih h.2 fun e he => ?_⟩
  rcases List.mem_cons.1 he with rfl | he
  · exact .head _
  · exact .tail _ (hs e he)
theorem Rowed.step {t : Array Bool} {i : Nat} (hi : i < t.size) : ∀ {l pre : List Nat}, Rowed ops (t.setIfInBounds i true) pre l → Rowed ops t (i :: pre) l := by
 intro l
 induction l with
 | nil => intro _ _; trivial
 | cons d l ih =>
  intro pre h
  refine ⟨fun e he => ?_, (ih h.2).mono fun e he => ?_⟩
  · rcases h.1 e he with h1 | h1
    · rcases (On.set hi).1 h1 with h1 | h1
      · exact .inl h1
      · subst h1; exact .inr (.head _)
    · exact .inr (.tail _ h1)
  · simp only [List.mem_cons] at he ⊢
    rcases he with h | h | h
    · exact .inr (.inl h)
    · exact .inl h
    · exact .inr (.inr h)
theorem readyAt_iff {t : Array Bool} {i : Nat} : readyAt ops t i = true ↔ i ∈ Region.ready .any ops t := by
 rw [ready_iff]
 unfold readyAt
 cases ho : ops[i]? with
 | none =>
  simp only [Bool.false_eq_true, false_iff]
  rintro ⟨_, h2, _⟩
  have := Array.getElem?_eq_none_iff.1 ho
  omega
 | some o =>
  have hlt := (Array.getElem?_eq_some_iff.1 ho).1
  simp only [Bool.and_eq_true, Bool.not_eq_true', List.all_eq_true, Bool.or_eq_true]
  constructor
  · rintro ⟨h1, h2⟩
    refine ⟨un_iff.1 h1, hlt, ?_⟩
    rintro e ⟨o', ho', x, hx, hb, rfl⟩
    rw [ho] at ho'; injection ho' with ho'; subst ho'
    rcases h2 x (by simpa using hx) with h3 | h3
    · rw [hb] at h3; cases h3
    · exact h3
  · rintro ⟨h1, _, h3⟩
    refine ⟨un_iff.2 h1, fun x hx => ?_⟩
    cases hb : Region.binds .any x with
    | false => exact .inl rfl
    | true => exact .inr (h3 _ ⟨o, ho, x, by simpa using hx, hb, rfl⟩)
theorem closeP_spec : ∀ (is : List Nat) (t : Array Bool) (l : List Nat) {c : Array Bool × List Nat}, closeP P ops is t l = c →
 ∃ m, c.2 = l ++ m ∧ c.1.size = t.size ∧ (∀ j, On c.1 j ↔ On t j ∨ j ∈ m) ∧ (∀ i ∈ m, isLate P ops i = true ∧ i < t.size ∧ ¬ On t i) ∧ m.Nodup ∧ Rowed ops t [] m := by
 intro is
 induction is with
 | nil => intro t l c h; subst h; exact ⟨[], by simp [closeP], rfl, by simp [closeP], by simp, .nil, trivial⟩
 | cons i is ih =>
  intro t l c h
  unfold closeP at h
  split at h
  · rename_i hb
    rw [Bool.and_eq_true] at hb
    obtain ⟨hlate, hrd⟩ := hb
    obtain ⟨⟨hi, hun⟩, _, hw⟩ := ready_iff.1 (readyAt_iff.1 hrd)
    obtain ⟨m, h1, h2, h3, h4, h5, h6⟩ := ih _ _ h
    have hs : (t.setIfInBounds i true).size = t.size := Array.size_setIfInBounds
    refine ⟨i :: m, by rw [h1]; simp, h2.trans hs, fun j => ?_, fun j hj => ?_, List.nodup_cons.2 ⟨fun him => ?_, h5⟩, fun e he => .inl (hw e he), h6.step hi⟩
    · rw [h3, On.set hi, List.mem_cons]
      constructor
      · rintro ((h | h) | h)
        · exact .inl h
        · exact .inr (.inl h)
        · exact .inr (.inr h)
      · rintro (h | h | h)
        · exact .inl (.inl h)
        · exact .inl (.inr h)
        · exact .inr h
    · rcases List.mem_cons.1 hj with rfl | hj
      · exact ⟨hlate, hi, hun⟩
      · obtain ⟨g1, g2, g3⟩ := h4 j hj
        exact ⟨g1, by rw [hs] at g2; exact g2, fun h => g3 ((On.set hi).2 (.inl h))⟩
    · exact (h4 i him).2.2 ((On.set hi).2 (.inr rfl))
  · exact ih t l h
theorem closeT_spec (f : Nat) (t : Array Bool) (l : List Nat) {c : Array Bool × List Nat} (h : closeT P ops f t l = c) :
 ∃ m, c.2 = l ++ m ∧ c.1.size = t.size ∧ (∀ j, On c.1 j ↔ On t j ∨ j ∈ m) ∧ (∀ i ∈ m, isLate P ops i = true ∧ i < t.size ∧ ¬ On t i) ∧ m.Nodup ∧ Rowed ops t [] m := closeP_spec _ t l h
theorem Rowed.snoc {t : Array Bool} {d : Nat} : ∀ {l pre : List Nat}, Rowed ops t pre l → (∀ e, Waits ops d e → On t e ∨ e ∈ pre ∨ e ∈ l) → Rowed ops t pre (l ++ [d]) := by
 intro l
 induction l with
 | nil => intro pre _ hd; exact ⟨fun e he => (hd e he).imp id fun h => h.elim id (fun h => by cases h), trivial⟩
 | cons i l ih =>
  intro pre h hd
  refine ⟨h.1, ih h.2 fun e he => ?_⟩
  rcases hd e he with h1 | h1 | h1
  · exact .inl h1
  · exact .inr (.inl (.tail _ h1))
  · rcases List.mem_cons.1 h1 with rfl | h1
    · exact .inr (.inl (.head _))
    · exact .inr (.inr h1)
theorem Rowed.filter {t t2 : Array Bool} {q : Nat → Bool} (ht : ∀ e, On t e → On t2 e) : ∀ {l pre pre2 : List Nat}, Rowed ops t pre l → (∀ e ∈ pre, On t2 e ∨ e ∈ pre2) → (∀ e ∈ l, q e = false → On t2 e) → Rowed ops t2 pre2 (l.filter q) := by
 intro l
 induction l with
 | nil => intro _ _ _ _ _; trivial
 | cons i l ih =>
  intro pre pre2 h hp hl
  cases hq : q i with
  | true =>
   rw [List.filter_cons_of_pos hq]
   refine ⟨fun e he => (h.1 e he).elim (fun h => .inl (ht e h)) (hp e), ih h.2 (fun e he => ?_) fun e he => hl e (.tail _ he)⟩
   rcases List.mem_cons.1 he with rfl | he
   · exact .inr (.head _)
   · exact (hp e he).imp id (.tail _)
  | false =>
   rw [List.filter_cons_of_neg (by simp [hq])]
   refine ih h.2 (fun e he => ?_) fun e he => hl e (.tail _ he)
   rcases List.mem_cons.1 he with rfl | he
   · exact .inl (hl _ (.head _) hq)
   · exact hp e he
theorem Rowed.ready {t t' : Array Bool} (hsz : t'.size = ops.size) (hsub : ∀ j, On t j → On t' j) : ∀ {l pre : List Nat}, Rowed ops t pre l → (∀ e ∈ pre, On t' e) → (∀ i ∈ l, i < ops.size) → (∃ i ∈ l, ¬ On t' i) → ∃ i ∈ l, i ∈ Region.ready .any ops t' := by
 intro l
 induction l with
 | nil => rintro _ _ _ _ ⟨i, hi, _⟩; cases hi
 | cons d l ih =>
  rintro pre h hpre hlt ⟨i, hi, hn⟩
  by_cases hd : On t' d
  · have hi' : i ∈ l := by
     rcases List.mem_cons.1 hi with rfl | h'
     · exact absurd hd hn
     · exact h'
    obtain ⟨j, hj, hr⟩ := ih h.2 (fun e he => by
     rcases List.mem_cons.1 he with rfl | he
     · exact hd
     · exact hpre e he) (fun i hi => hlt i (.tail _ hi)) ⟨i, hi', hn⟩
    exact ⟨j, .tail _ hj, hr⟩
  · have hds := hlt d (.head _)
    exact ⟨d, .head _, ready_iff.2 ⟨⟨by omega, hd⟩, hds, fun e he => (h.1 e he).elim (hsub e) (hpre e)⟩⟩
def Down (ops : Array Oper) (t : Array Bool) : Prop := ∀ j, On t j → ∀ e, Waits ops j e → On t e
theorem Down.set {t : Array Bool} (h : Down ops t) {i : Nat} (hr : i ∈ Region.ready .any ops t) : Down ops (t.setIfInBounds i true) := by
 obtain ⟨⟨hi, _⟩, _, hw⟩ := ready_iff.1 hr
 intro j hj e he
 rcases (On.set hi).1 hj with hj | rfl
 · exact (On.set hi).2 (.inl (h j hj e he))
 · exact (On.set hi).2 (.inl (hw e he))
def MaskOk (ops : Array Oper) (t : Array Bool) (acc : List Nat) : Prop := ∀ r m, acc[r]? = some m → (∀ e, Waits ops r e → On t e) → ∀ i, Nat.testBit m i = true → On t i
theorem maskOf_ok {t : Array Bool} {acc : List Nat} (h : Down ops t) (hacc : MaskOk ops t acc) {r : Nat} {o : Oper} (ho : ops[r]? = some o) (hr : ∀ e, Waits ops r e → On t e) {i : Nat} (hi : Nat.testBit (maskOf acc o) i = true) : On t i := by
 unfold maskOf at hi
 have key : ∀ (l : List Edge) (m : Nat), (∀ e ∈ l, e ∈ o.after ∧ Region.binds .any e = true) → (Nat.testBit m i = true → On t i) →
  Nat.testBit (l.foldl (fun m e => Nat.lor m (Nat.lor (Nat.shiftLeft 1 e.on) (acc.getD e.on 0))) m) i = true → On t i := by
  intro l
  induction l with
  | nil => intro m _ hm hi; exact hm hi
  | cons e l ih =>
   intro m hl hm hi
   refine ih _ (fun x hx => hl x (.tail _ hx)) (fun hb => ?_) hi
   have hb : Nat.testBit (m ||| (1 <<< e.on ||| acc.getD e.on 0)) i = true := hb
   obtain ⟨h1, h2⟩ := hl e (.head _)
   have hon : On t e.on := hr _ ⟨o, ho, e, h1, h2, rfl⟩
   simp only [Nat.testBit_or, Bool.or_eq_true] at hb
   rcases hb with hb | hb | hb
   · exact hm hb
   · rw [Nat.one_shiftLeft, Nat.testBit_two_pow] at hb
     have : e.on = i := by simpa using hb
     rw [← this]; exact hon
   · cases ha : acc[e.on]? with
     | none => rw [List.getD_eq_getElem?_getD, ha] at hb; simp at hb
     | some m' =>
      rw [List.getD_eq_getElem?_getD, ha] at hb
      exact hacc _ _ ha (h _ hon) _ hb
 refine key _ 0 (fun e he => ?_) (fun h => by simp at h) hi
 obtain ⟨h1, h2⟩ := List.mem_filter.1 he
 exact ⟨by simpa using h1, h2⟩
theorem masksL_ok {t : Array Bool} (h : Down ops t) : MaskOk ops t (masksL ops) := by
 unfold masksL
 have key : ∀ (l pre : List Oper) (acc : List Nat), ops.toList = pre ++ l → acc.length = pre.length → MaskOk ops t acc → MaskOk ops t (l.foldl (fun acc o => acc ++ [maskOf acc o]) acc) := by
  intro l
  induction l with
  | nil => intro pre acc _ _ hacc; exact hacc
  | cons o l ih =>
   intro pre acc he hlen hacc
   refine ih (pre ++ [o]) _ (by rw [he]; simp) (by simp [hlen]) ?_
   intro r m hr hw i hi
   by_cases hlt : r < acc.length
   · rw [List.getElem?_append_left hlt] at hr
     exact hacc r m hr hw i hi
   · rw [List.getElem?_append_right (by omega)] at hr
     have hr0 : r = acc.length := by
      rcases Nat.lt_or_ge (r - acc.length) 1 with h1 | h1
      · omega
      · rw [List.getElem?_eq_none (by simpa using h1)] at hr; cases hr
     subst hr0
     simp at hr
     subst hr
     refine maskOf_ok h hacc ?_ hw hi
     have : ops.toList[acc.length]? = some o := by rw [he, hlen]; simp
     simpa using this
 exact key _ [] [] rfl rfl (fun r m hr => by simp at hr)
theorem Down.needs {t : Array Bool} (h : Down ops t) : ∀ (f r i : Nat), (∀ e, Waits ops r e → On t e) → needs ops f r i = true → On t i := by
 intro f r i hr hn
 unfold Am.needs at hn
 cases ha : (masksL ops)[r]? with
 | none => rw [List.getD_eq_getElem?_getD, ha] at hn; simp at hn
 | some m =>
  rw [List.getD_eq_getElem?_getD, ha] at hn
  exact masksL_ok h r m ha hr i hn
end plan
end Go.Am

namespace Go.Am
open Go.RowKit Go.MapKept
section sound
variable {P : Program} {ops : Array Oper} {n0 : Nat} {ρ : Rn} {a : Act} {w : World}
theorem EF.put (hpl : Plain ops) {p : Nat × Option Nat} (h : EF P ops n0 ρ a w p) {d : Option Tmp} {v : Value} (hd : ∀ o, ops[p.1]? = some o → ∀ t, d = some t → t ∉ o.looksAt ops ∧ o.dst ≠ some t)
 (hd2 : ∀ j q, convSrc P ops p.1 = some j → ops[j]? = some q → ∀ t, d = some t → t ∉ q.looksAt ops ∧ q.dst ≠ some t) : EF P ops n0 ρ (a.put d v) w p := by
 cases h with
 | @pure i o e v' ho he hp ha hr =>
  refine .pure ho he hp (fun u hu => ha u ?_) fun w' => ?_
  · rw [put_tmps_ne] at hu
    · exact hu
    · intro h; exact (hd o ho e h).2 he
  · rw [execOp_put o (hpl _ o ho).1 a d v (fun t ht => (hd o ho t ht).1)]; exact hr w'
 | @mk i o e ob mkv b ho he hp ha hr hb hw hf =>
  refine .mk ho he hp (fun u hu => ha u ?_) (fun w' => ?_) hb hw hf
  · rw [put_tmps_ne] at hu
    · exact hu
    · intro h; exact (hd o ho e h).2 he
  · rw [execOp_put o (hpl _ o ho).1 a d v (fun t ht => (hd o ho t ht).1)]; exact hr w'
 | @conv i j o q e t v' ob mkv b ho he hc hq hqd ha hat hrq hr hb hw hf =>
  refine .conv ho he hc hq hqd (fun u hu => ha u ?_) (fun u hu => hat u ?_) (fun w' => ?_) (fun w' hw' => ?_) hb hw hf
  · rw [put_tmps_ne] at hu
    · exact hu
    · intro h; exact (hd o ho e h).2 he
  · rw [put_tmps_ne] at hu
    · exact hu
    · intro h; exact (hd2 j q hc hq t h).2 hqd
  · rw [execOp_put q (hpl _ q hq).1 a d v (fun t ht => (hd2 j q hc hq t ht).1)]; exact hrq w'
  · rw [execOp_put o (hpl _ o ho).1 a d v (fun t ht => (hd o ho t ht).1)]; exact hr w' hw'
theorem EF.stp {p : Nat × Option Nat} (h : EF P ops n0 ρ a w p) {ρ' : Rn} {w' : World} (hs : Stp ρ w ρ' w') : EF P ops n0 ρ' a w' p := by
 have key : ∀ {b : Nat} {ob : Obj}, w.heap[b]? = some ob → (∀ i L, ρ i = some L → L.b ≠ b) → w'.heap[b]? = some ob ∧ ∀ i L, ρ' i = some L → L.b ≠ b := by
  intro b ob hw hf
  have hlt : b < w.heap.size := (Array.getElem?_eq_some_iff.1 hw).1
  refine ⟨(hs.fr.2 b hlt hf).trans hw, fun i L hi => ?_⟩
  rcases hs.nw i L hi with h1 | h1 | ⟨j, M, h1, h2⟩
  · exact hf i L h1
  · omega
  · rw [← h2]; exact hf j M h1
 cases h with
 | pure ho he hp ha hr => exact .pure ho he hp ha hr
 | mk ho he hp ha hr hb hw hf => exact .mk ho he hp ha hr hb (key hw hf).1 (key hw hf).2
 | conv ho he hc hq hqd ha hat hrq hr hb hw hf => exact .conv ho he hc hq hqd ha hat hrq hr hb (key hw hf).1 (key hw hf).2
theorem Rel.grow {w0 : World} {σ : St} (h : Rel P w0 ρ σ w) (ob : Obj) : Rel P w0 ρ σ (w.alloc ob) := by
 have hold : ∀ k, k < w.heap.size → (w.alloc ob).heap[k]? = w.heap[k]? := fun k hk => by show (w.heap.push ob)[k]? = _; rw [Array.getElem?_push, if_neg (by omega)]
 have hsz : (w.alloc ob).heap.size = w.heap.size + 1 := Array.size_push _
 exact ⟨h.glob, fun i o hi => (h.objs i o hi).frame (.refl ρ) fun L hL => hold _ (h.loc i L hL), h.dom, h.lt, fun i L hL => by have := h.loc i L hL; omega, h.sep, h.old,
  ⟨h.base.os, h.base.tape, h.base.output, by have := h.base.size; omega, fun k hk => (hold k (Nat.lt_of_lt_of_le hk h.base.size)).trans (h.base.block k hk)⟩⟩
theorem Stp.grow {ρ0 : Rn} {wa : World} (h : Stp ρ0 wa ρ w) (ob : Obj) : Stp ρ0 wa ρ (w.alloc ob) := by
 have hsz : (w.alloc ob).heap.size = w.heap.size + 1 := Array.size_push _
 refine ⟨h.ext, ⟨by have := h.fr.1; omega, fun c hc hn => ?_⟩, h.nw⟩
 rw [← h.fr.2 c hc hn]
 show (w.heap.push ob)[c]? = _
 rw [Array.getElem?_push, if_neg (by have := h.fr.1; omega)]
theorem EF.grow {p : Nat × Option Nat} (h : EF P ops n0 ρ a w p) (ob : Obj) : EF P ops n0 ρ a (w.alloc ob) p := by
 refine h.stp ⟨.refl ρ, ⟨by have : (w.alloc ob).heap.size = w.heap.size + 1 := Array.size_push _; omega, fun c hc _ => ?_⟩, fun _ _ h => .inl h⟩
 show (w.heap.push ob)[c]? = _
 rw [Array.getElem?_push, if_neg (by omega)]
theorem ARel.putAbs {A : AAct} (h : ARel P ρ A a) {d : Tmp} (hd : A.tmps.t.get d = none) (v : Value) : ARel P ρ A (a.put (some d) v) := by
 refine ⟨⟨?_, fun k x hx => ?_⟩, h.g⟩
 · show _ = (a.tmps.setIfInBounds d v).toList.length
   rw [Array.toList_setIfInBounds, List.length_set]; exact h.tmps.1
 · obtain ⟨y, hy, hr⟩ := h.tmps.2 k x hx
   refine ⟨y, ?_, hr⟩
   show (a.tmps.setIfInBounds d v).toList[k]? = _
   rw [Array.toList_setIfInBounds, List.getElem?_set_ne (fun e => by subst e; rw [hd] at hx; cases hx)]
   exact hy
theorem absK_true {A : AAct} {o : Oper} {k : Bool} (h : absK A o k = true) : ∃ d, o.dst = some d ∧ A.tmps.t.get d = none ∧ k = true := by
 unfold absK at h
 split at h
 · rename_i d hd
   refine ⟨d, hd, ?_⟩
   rw [getK_eq] at h
   cases hg : A.tmps.t.get d with
   | none => rw [hg] at h; exact ⟨rfl, h⟩
   | some x => rw [hg] at h; cases h
 · cases h
end sound
end Go.Am

namespace Go.Am
open Go.RowKit Go.MapKept
section sound
variable {E : Env} {w0 : World} {ops : Array Oper}
theorem preK_true {A : AAct} {σ : St} : ∀ {l : List (Nat × List Nat)} {k : Bool}, preK E ops A σ l k = true →
 k = true ∧ ∀ p ∈ l, ∃ o d, ops[p.1]? = some o ∧ o.dst = some d ∧ A.tmps.t.get d = none ∧ lateK E ops p.2 A σ (fun A σ => lopK E ops p.1 o A σ fun _ _ => true) = true := by
 intro l
 induction l with
 | nil => intro k h; exact ⟨h, by simp⟩
 | cons p l ih =>
  intro k h
  unfold preK at h
  rw [lrec_cons] at h
  split at h
  · rename_i o ho
    obtain ⟨d, hd, hg, h⟩ := absK_true h
    cases hb : lateK E ops p.2 A σ (fun A σ => lopK E ops p.1 o A σ fun _ _ => true) with
    | false => rw [hb] at h; cases h
    | true =>
     rw [hb] at h
     obtain ⟨h1, h2⟩ := ih h
     refine ⟨h1, fun q hq => ?_⟩
     rcases List.mem_cons.1 hq with rfl | hq
     · exact ⟨o, d, ho, hd, hg, hb⟩
     · exact h2 q hq
  · cases h

theorem isLate_guard {P : Program} {i : Nat} {o : Oper} (ho : ops[i]? = some o) (h : isLate P ops i = true) : o.guard = none := by
 unfold isLate at h
 rw [ho] at h
 simp only [Bool.or_eq_true] at h
 rcases h with h | h
 · unfold lateOp at h
   simp only [Bool.and_eq_true, Option.isNone_iff_eq_none] at h
   exact h.1
 · obtain ⟨j, hj⟩ := Option.isSome_iff_exists.1 h
   obtain ⟨o2, _, _, ho2, _, hg, _⟩ := convSrc_spec hj
   rw [ho] at ho2; injection ho2 with ho2; subst ho2
   exact hg
theorem early_run {ρ : Rn} {a : Act} {σ : St} {A : AAct} {w wa : World} (hpl : Plain ops) (_hs : SR E.P w0 ρ A a σ w) (hw0 : w0.heap.size ≤ wa.heap.size) (hwa : wa.heap.size ≤ w.heap.size) (hloc : ∀ i L, ρ i = some L → L.b < w.heap.size)
 {i : Nat} {o : Oper} {d : Tmp} (ho : ops[i]? = some o) (hd : o.dst = some d) (hself : d ∉ o.looksAt ops) (hlate : isLate E.P ops i = true) {X : List (Nat × Option Nat)}
 {ρ1 : Rn} {A1 : AAct} {σ1 : St} (hs1 : SR E.P w0 ρ1 A1 a σ1 w) (hsrc : ∀ j, convSrc E.P ops i = some j → ∃ b, (j, some b) ∈ X ∧ EF E.P ops wa.heap.size ρ a w (j, some b) ∧ EF E.P ops wa.heap.size ρ1 a w (j, some b) ∧ ∀ q, ops[j]? = some q → d ∉ q.looksAt ops ∧ q.dst ≠ some d)
 (hk : lopK E ops i o A1 σ1 (fun _ _ => true) = true) {ρ0 : Rn} (_hstp : Stp ρ0 wa ρ w) :
 ∃ v' wn ob, (execOp a.eval o).run E.P w = .ok (.value v') wn ∧ (wn = w ∨ ∃ x, wn = w.alloc x) ∧ EF E.P ops wa.heap.size ρ (a.put o.dst v') wn (i, ob) ∧ (∀ b, ob = some b → (convSrc E.P ops i = none ∧ b = w.heap.size) ∨ ∃ j, convSrc E.P ops i = some j ∧ (j, some b) ∈ X) := by
 have hput : ∀ v', execOp (a.put o.dst v').eval o = execOp a.eval o := fun v' => execOp_put o (hpl _ o ho).1 a o.dst v' (fun t ht => by rw [hd] at ht; injection ht with ht; subst ht; exact hself)
 cases hcv : convSrc E.P ops i with
 | some j =>
  obtain ⟨b, hX, he0, he1, hap⟩ := hsrc j hcv
  obtain ⟨o2, q2, t, ho2, hco, hg, _, hq2, hm, hg2, hqd2, _⟩ := convSrc_spec hcv
  rw [ho] at ho2; injection ho2 with ho2; subst ho2
  have nocv : convSrc E.P ops j = none := by
   cases h : convSrc E.P ops j with
   | none => rfl
   | some j2 =>
    obtain ⟨o3, _, t3, ho3, hco3, _⟩ := convSrc_spec h
    rw [hq2] at ho3; injection ho3 with ho3; subst ho3
    rw [(convOp_pure hco3).2.2.2] at hm; cases hm
  generalize hp0 : (j, some b) = p0 at he0 he1
  cases he0 with
  | pure => injection hp0 with _ h; cases h
  | conv _ _ hc => injection hp0 with h _; subst h; rw [nocv] at hc; cases hc
  | @mk j' q t' ob mkv b' hq hqd hp ha hr hb hw hf =>
   injection hp0 with h1 h2; injection h2 with h2; subst h1 h2
   rw [hq2] at hq; injection hq with hq; subst hq
   rw [hqd2] at hqd; injection hqd with hqd; subst hqd
   have hf1 : ∀ i L, ρ1 i = some L → L.b ≠ b := by
    cases he1 with
    | mk _ _ _ _ _ _ _ hf => exact hf
    | conv _ _ hc => rw [nocv] at hc; cases hc
   obtain ⟨v', _, hfl, hrun⟩ := lop_conv hs1 ho hcv hq2 hqd2 ha hr (Nat.le_trans hw0 hb) hw hf1 hk
   refine ⟨v', w, some b, hrun w hw, .inl rfl, .conv ho hd hcv hq2 hqd2 (fun u hu => ?_) (fun u hu => ha u ?_) (fun w' => ?_) (fun w' hw' => by rw [hput]; exact hrun w' hw') hb hw hf, fun b' hb' => .inr ⟨j, rfl, by injection hb' with hb'; subst hb'; exact hX⟩⟩
   · rw [hd] at hu
     exact put_tmps_same u hu
   · rw [put_tmps_ne] at hu
     · exact hu
     · rw [hd]; intro e; injection e with e; subst e; exact (hap _ hq2).2 hqd2
   · rw [execOp_put q2 (hpl _ q2 hq2).1 a o.dst v' (fun t ht => by rw [hd] at ht; injection ht with ht; subst ht; exact (hap _ hq2).1)]; exact hr w'
 | none =>
 have hlate : lateOp E.P o = true := by
  unfold isLate at hlate
  rw [ho] at hlate
  simp only [hcv, Option.isSome_none, Bool.or_false] at hlate
  exact hlate
 unfold lopK at hk
 rw [hcv] at hk
 have hk : opK E o A1 σ1 (fun _ _ => true) = true := hk
 cases hp : pureOp E.P o with
 | true =>
  obtain ⟨v, v', _, _, hr⟩ := pureOp_sound hs1.rel hs1.act hp hk
  refine ⟨v', w, none, hr w, .inl rfl, .pure ho hd hp (fun u hu => ?_) (fun w' => by rw [hput]; exact hr w'), fun b h => by cases h⟩
  rw [hd] at hu
  exact put_tmps_same u hu
 | false =>
  have hal : allocOp o = true := by
   unfold lateOp at hlate
   rw [hp] at hlate
   simp only [Bool.and_eq_true, Bool.false_and, Bool.false_or] at hlate
   exact hlate.2.2
  obtain ⟨v, obj, ob, mk, _, M⟩ := allocOp_mk hs1.rel hs1.act hal hk
  refine ⟨mk w.heap.size, w.alloc ob, some w.heap.size, M.run w, .inr ⟨ob, rfl⟩, .mk ho hd hal (fun u hu => ?_) (fun w' => by rw [hput]; exact M.run w') hwa ?_ (fun i L hi => ?_), fun b h => .inl ⟨rfl, by injection h with h; exact h.symm⟩⟩
  · rw [hd] at hu
    exact put_tmps_same u hu
  · show (w.heap.push ob)[w.heap.size]? = _; simp
  · have := hloc i L hi; omega
theorem late_wp {ro : Option Nat} {P : Program} {Q : Exit → Act → World → Prop} {i : Nat} {o : Oper} {v : Value} {a : Act} {w wn : World} (hpl : Plain ops) (hi : ops[i]? = some o) (hg : o.guard = none) (hr : (execOp a.eval o).run P w = .ok (.value v) wn)
 {K : Act → World → Prop} (hk : K (a.put o.dst v) wn) : wpOpIn (fnc ro) 0 P ops Q i K a w := by
 have hw : Region.wanted o (yielded ops a.tmps) = true := by unfold Region.wanted; rw [hg]
 unfold wpOpIn
 simp only [hi, hw, if_true, Oper.wpIn, Oper.semAt_eq _ _ _ (hpl i o hi).2, hr, Oper.uponIn]
 exact ⟨fun _ _ => trivial, hk⟩
end sound
end Go.Am

namespace Go.Am
open Go.RowKit Go.MapKept
section sound
variable {E : Env} {w0 : World} {ops : Array Oper}
theorem lateFree_spec {d : Nat} {o : Oper} (h : lateFree ops d = true) (ho : ops[d]? = some o) {j : Nat} {q : Oper} {e : Tmp} (hj : j ≠ d) (hq : ops[j]? = some q) (he : q.dst = some e) :
 o.dst ≠ some e ∧ (e ∈ o.looksAt ops → needs ops ops.size d j = true) := by
 unfold lateFree at h
 rw [ho] at h
 have hlt : j < ops.size := (Array.getElem?_eq_some_iff.1 hq).1
 have h1 := List.all_eq_true.1 h j (List.mem_range.2 hlt)
 simp only [hq, he, Bool.or_eq_true, beq_iff_eq, Bool.and_eq_true, bne_iff_ne, Bool.not_eq_true', ne_eq] at h1
 rcases h1 with h1 | ⟨h1, h2⟩
 · exact absurd h1 hj
 · refine ⟨h1, fun hm => ?_⟩
   rcases h2 with h2 | h2
   · exfalso
     revert h2
     simp [hm]
   · exact h2
def rem (t : Array Bool) : Nat := (List.range t.size).countP fun j => !t.getD j false
theorem rem_set {t : Array Bool} {i m : Nat} (hi : i < t.size) (hn : ¬ On t i) (h : rem t ≤ m + 1) : rem (t.setIfInBounds i true) ≤ m := by
 have hlt : rem (t.setIfInBounds i true) < rem t := by
  unfold rem
  rw [show (t.setIfInBounds i true).size = t.size from Array.size_setIfInBounds]
  have key : ∀ l : List Nat, (l.countP fun j => !(t.setIfInBounds i true).getD j false) ≤ (l.countP fun j => !t.getD j false) ∧ (i ∈ l → (l.countP fun j => !(t.setIfInBounds i true).getD j false) < (l.countP fun j => !t.getD j false)) := by
   intro l
   induction l with
   | nil => exact ⟨Nat.le_refl _, fun h => by cases h⟩
   | cons j l ih =>
    by_cases e : j = i
    · subst e
      have h1 : (t.setIfInBounds j true).getD j false = true := (On.set hi).2 (.inr rfl)
      have h2 : t.getD j false = false := by simpa [On] using hn
      simp only [List.countP_cons, h1, h2]
      have h3 := ih.1
      simp only [Bool.not_true, Bool.not_false, if_true, Bool.false_eq_true, if_false]
      exact ⟨by omega, fun _ => by omega⟩
    · have h1 : (t.setIfInBounds i true).getD j false = t.getD j false := by
       have h1 : (t.setIfInBounds i true)[j]? = t[j]? := by rw [Array.getElem?_setIfInBounds_ne (Ne.symm e)]
       simp [h1]
      simp only [List.countP_cons, h1]
      refine ⟨by have := ih.1; omega, fun hm => ?_⟩
      rcases List.mem_cons.1 hm with h | h
      · exact absurd h.symm e
      · have := ih.2 h; omega
  exact (key _).2 (List.mem_range.2 hi)
 omega
theorem rem_zero {t : Array Bool} (h : rem t ≤ 0) {i : Nat} (hi : i < t.size) : On t i := by
 unfold rem at h
 have h0 := List.countP_eq_zero.1 (Nat.le_zero.1 h) i (List.mem_range.2 hi)
 simpa [On] using h0

structure Inv (E : Env) (w0 : World) (ops : Array Oper) (ρ0 : Rn) (wa : World) (L : Array Bool) (taken : List Nat) (m : Nat) (L' : Array Bool) (X : List (Nat × Option Nat)) (J : List (Nat × Value)) (ρ : Rn) (A : AAct) (a : Act) (σ : St) (w : World) : Prop where
 hs : SR E.P w0 ρ A a σ w
 stp : Stp ρ0 wa ρ w
 szL : L.size = ops.size
 sz : L'.size = ops.size
 on : ∀ j, On L' j ↔ On L j ∨ ∃ p ∈ X, p.1 = j
 down : Down ops L'
 xf : ∀ p ∈ X, EF E.P ops wa.heap.size ρ a w p
 xl : ∀ p ∈ X, lateFree ops p.1 = true ∧ isLate E.P ops p.1 = true ∧ ¬ On L p.1
 xd : ∀ p ∈ X, ∀ q ∈ X, p.1 = q.1 → p = q
 xb : ∀ p ∈ X, ∀ q ∈ X, ∀ b, p.2 = some b → q.2 = some b → garb E.P ops p.1 = false → convSrc E.P ops p.1 = none → p = q
 xs : ∀ p ∈ X, ∀ j, convSrc E.P ops p.1 = some j → ∃ q ∈ X, q.1 = j
 lg : ∀ j, On L j → garb E.P ops j = false
 jf : ∀ p ∈ J, p.1 ∈ taken ∧ Kn E.P ops a w p
 fuel : rem L' ≤ m
 xr : Rowed ops L [] (X.map Prod.fst).reverse
 jx : ∀ p ∈ J, ∀ q ∈ X, dep ops q.1 p.1 = false

theorem Inv.apart {ρ0 : Rn} {wa : World} {L : Array Bool} {taken : List Nat} {m : Nat} {L' : Array Bool} {X : List (Nat × Option Nat)} {J : List (Nat × Value)} {ρ : Rn} {A : AAct} {a : Act} {σ : St} {w : World}
 (h : Inv E w0 ops ρ0 wa L taken m L' X J ρ A a σ w) {j : Nat} {q : Oper} (hq : ops[j]? = some q) (hj : ¬ On L' j) {p : Nat × Option Nat} (hp : p ∈ X) :
 ∀ o, ops[p.1]? = some o → ∀ t, q.dst = some t → t ∉ o.looksAt ops ∧ o.dst ≠ some t := by
 intro o ho t ht
 have hon : On L' p.1 := (h.on _).2 (.inr ⟨p, hp, rfl⟩)
 have hne : j ≠ p.1 := fun e => hj (e ▸ hon)
 obtain ⟨h1, h2⟩ := lateFree_spec (h.xl p hp).1 ho hne hq ht
 exact ⟨fun hm => hj (h.down.needs _ _ _ (h.down _ hon) (h2 hm)), h1⟩
theorem Inv.apart2 {ρ0 : Rn} {wa : World} {L : Array Bool} {taken : List Nat} {m : Nat} {L' : Array Bool} {X : List (Nat × Option Nat)} {J : List (Nat × Value)} {ρ : Rn} {A : AAct} {a : Act} {σ : St} {w : World}
 (h : Inv E w0 ops ρ0 wa L taken m L' X J ρ A a σ w) {j : Nat} {q : Oper} (hq : ops[j]? = some q) (hj : ¬ On L' j) {p : Nat × Option Nat} (hp : p ∈ X) :
 ∀ i r, convSrc E.P ops p.1 = some i → ops[i]? = some r → ∀ t, q.dst = some t → t ∉ r.looksAt ops ∧ r.dst ≠ some t := by
 intro i r hi hr
 obtain ⟨p', hp', rfl⟩ := h.xs p hp i hi
 exact h.apart hq hj hp' r hr
theorem neutral_garb {P : Program} {i : Nat} {o : Oper} (ho : ops[i]? = some o) (h : neutral P o = true) : garb P ops i = false ∧ convSrc P ops i = none := by
 constructor
 · cases hg : garb P ops i with
   | false => rfl
   | true =>
    obtain ⟨q, hq, hm⟩ := garb_spec hg
    rw [ho] at hq; injection hq with hq; subst hq
    unfold neutral at h
    rw [isMake_pure hm] at h
    have : loadOp o = false := by
     unfold isMake at hm
     unfold loadOp
     split at hm
     · rename_i h1; rw [h1]
     · cases hm
    rw [this] at h
    cases h
 · cases hc : convSrc P ops i with
   | none => rfl
   | some j =>
    obtain ⟨o2, _, t, ho2, hco, _⟩ := convSrc_spec hc
    rw [ho] at ho2; injection ho2 with ho2; subst ho2
    unfold neutral at h
    rw [(convOp_pure hco).1, (convOp_pure hco).2.2.1] at h
    cases h
theorem garb_late {P : Program} {j : Nat} (h : garb P ops j = true) : isLate P ops j = true := by
 unfold garb at h
 simp only [Bool.and_eq_true] at h
 obtain ⟨i, _, hi⟩ := List.any_eq_true.1 h.2
 have hi : convSrc P ops i = some j := by simpa using hi
 obtain ⟨_, q, t, _, _, _, _, hq, hm, hg, hd, _⟩ := convSrc_spec hi
 unfold isLate
 rw [hq]
 unfold lateOp
 simp [hg, hd, isMake_alloc hm]
end sound
end Go.Am

namespace Go.Am
open Go.RowKit Go.MapKept
section sound
variable {E : Env} {w0 : World} {ops : Array Oper}
theorem Inv.early {ro : Option Nat} {Q : Exit → Act → World → Prop} {ρ0 : Rn} {wa : World} {L : Array Bool} {taken : List Nat} {m : Nat} {L' : Array Bool} {X : List (Nat × Option Nat)} {J : List (Nat × Value)} {ρ : Rn} {A : AAct} {a : Act} {σ : St} {w : World}
 (hpl : Plain ops) (hwa : w0.heap.size ≤ wa.heap.size) (h : Inv E w0 ops ρ0 wa L taken (m + 1) L' X J ρ A a σ w) {d : Nat} {o : Oper} (ho : ops[d]? = some o) (hready : d ∈ Region.ready .any ops L') (hlate : isLate E.P ops d = true)
 (hfree : lateFree ops d = true) (hself : selfOk ops o = true) (hleave : ∀ p ∈ taken, dep ops d p = false → leaves ops o p = true) {chk : List Nat} {k : Bool} (hchk : chkK E ops A σ chk k = true) (hload : ∀ i ∈ chk, isLoad ops i = true)
 (hall : ∀ i ∈ taken, isLoad ops i = true → i ∈ chk) {e : Tmp} (hd : o.dst = some e) (habs : A.tmps.t.get e = none) {c : List Nat} (hpre : lateK E ops c A σ (fun A σ => lopK E ops d o A σ fun _ _ => true) = true)
 (hc : ∀ i ∈ c, ∃ p ∈ X, p.1 = i) (hcg : ∀ i ∈ c, garb E.P ops i = false) (hcn : c.Nodup) {K : Act → World → Prop}
 (hK : ∀ a' w' X', Inv E w0 ops ρ0 wa L taken m (L'.setIfInBounds d true) X' (J.filter fun p => !dep ops d p.1) ρ A a' σ w' → K a' w') : wpOpIn (fnc ro) 0 E.P ops Q d K a w := by
 obtain ⟨ρ1, A1, σ1, hk1, hs1, _, hX1, _⟩ := late_sound hwa c hpre h.hs h.stp hc hcg h.xf h.xb hcn
 obtain ⟨⟨hdlt, hdn⟩, _, hdw⟩ := ready_iff.1 hready
 have hsrc : ∀ j, convSrc E.P ops d = some j → ∃ b, (j, some b) ∈ X ∧ EF E.P ops wa.heap.size ρ a w (j, some b) ∧ EF E.P ops wa.heap.size ρ1 a w (j, some b) ∧ ∀ q, ops[j]? = some q → e ∉ q.looksAt ops ∧ q.dst ≠ some e := by
  intro j hj
  obtain ⟨_, q, t, _, _, _, _, hq, hm, _, _, hdep⟩ := convSrc_spec hj
  have hon : On L' j := hdw j (dep_iff.1 hdep)
  have hgj := garb_of hj
  rcases (h.on j).1 hon with h1 | ⟨⟨j', ob⟩, hp, h1⟩
  · rw [h.lg j h1] at hgj; cases hgj
  · have h1 : j' = j := h1
    subst h1
    have hef := h.xf _ hp
    have hap := h.apart ho hdn hp
    have hjc : j' ∉ c := fun hm => by rw [hcg _ hm] at hgj; cases hgj
    cases ob with
    | none =>
     exfalso
     cases hef with
     | pure hq2 _ hpu _ _ =>
      rw [hq] at hq2; injection hq2 with hq2; subst hq2
      rw [isMake_pure hm] at hpu; cases hpu
    | some b => exact ⟨b, hp, hef, hX1 _ hp hjc, fun q hq => hap q hq e hd⟩
 obtain ⟨v', wn, ob, hr, hwn, hef, hob⟩ := early_run hpl h.hs hwa h.stp.fr.1 h.hs.rel.loc ho hd (selfOk_spec hself e hd) hlate (X := X) hs1 hsrc hk1 h.stp
 have hg : o.guard = none := isLate_guard ho hlate
 have hdef : (a.put o.dst v').defers = a.defers := by rw [hd]; rfl
 have hsr : SR E.P w0 ρ A (a.put o.dst v') σ wn := by
  refine ⟨by rw [hd]; exact h.hs.act.putAbs habs v', ?_, by rw [hdef]; exact h.hs.marks⟩
  rcases hwn with rfl | ⟨x, rfl⟩
  · exact h.hs.rel
  · exact h.hs.rel.grow x
 refine late_wp hpl ho hg hr (hK _ _ ((d, ob) :: X) ⟨hsr, ?_, h.szL, Array.size_setIfInBounds.trans h.sz, fun j => ?_, h.down.set hready, fun p hp => ?_, fun p hp => ?_, fun p hp q hq hpq => ?_, fun p hp q hq b hb1 hb2 hg1 hc1 => ?_, fun p hp j hj => ?_, h.lg, fun p hp => ?_, rem_set hdlt hdn h.fuel, ?_, fun p hp q hq => ?_⟩)
 · rcases hwn with rfl | ⟨x, rfl⟩
   · exact h.stp
   · exact h.stp.grow x
 · rw [On.set hdlt, h.on]
   constructor
   · rintro ((h1 | ⟨p, hp, h1⟩) | h1)
     · exact .inl h1
     · exact .inr ⟨p, .tail _ hp, h1⟩
     · exact .inr ⟨_, .head _, h1.symm⟩
   · rintro (h1 | ⟨p, hp, h1⟩)
     · exact .inl (.inl h1)
     · rcases List.mem_cons.1 hp with rfl | hp
       · exact .inr h1.symm
       · exact .inl (.inr ⟨p, hp, h1⟩)
 · rcases List.mem_cons.1 hp with rfl | hp
   · exact hef
   · have h1 := (h.xf p hp).put hpl (d := o.dst) (v := v') (h.apart ho hdn hp) (h.apart2 ho hdn hp)
     rcases hwn with rfl | ⟨x, rfl⟩
     · exact h1
     · exact h1.grow x
 · rcases List.mem_cons.1 hp with rfl | hp
   · refine ⟨hfree, hlate, fun h1 => hdn ((h.on _).2 (.inl h1))⟩
   · exact h.xl p hp
 · have hX : ∀ p ∈ X, p.1 ≠ d := fun p hp e => hdn ((h.on _).2 (.inr ⟨p, hp, e⟩))
   rcases List.mem_cons.1 hp with rfl | hp <;> rcases List.mem_cons.1 hq with rfl | hq
   · rfl
   · exact absurd hpq.symm (hX q hq)
   · exact absurd hpq (hX p hp)
   · exact h.xd p hp q hq hpq
 · have hX : ∀ p ∈ X, ∀ b, p.2 = some b → b < w.heap.size := fun p hp b hb => by
    have := h.xf p hp
    cases this with
    | pure => cases hb
    | mk _ _ _ _ _ _ hw _ => injection hb with hb; subst hb; exact (Array.getElem?_eq_some_iff.1 hw).1
    | conv _ _ _ _ _ _ _ _ _ _ hw _ => injection hb with hb; subst hb; exact (Array.getElem?_eq_some_iff.1 hw).1
   rcases List.mem_cons.1 hp with rfl | hp <;> rcases List.mem_cons.1 hq with rfl | hq
   · rfl
   · rcases hob b hb1 with ⟨_, e1⟩ | ⟨j, hj, _⟩
     · have := hX q hq b hb2; omega
     · have hc1 : convSrc E.P ops d = none := hc1
       rw [hj] at hc1; cases hc1
   · rcases hob b hb2 with ⟨_, e1⟩ | ⟨j, hj, hjX⟩
     · have := hX p hp b hb1; omega
     · have e2 := h.xb p hp _ hjX b hb1 rfl hg1 hc1
       rw [e2] at hg1
       have hg1 : garb E.P ops j = false := hg1
       rw [garb_of hj] at hg1; cases hg1
   · exact h.xb p hp q hq b hb1 hb2 hg1 hc1
 · rcases List.mem_cons.1 hp with rfl | hp
   · obtain ⟨b, hb, _⟩ := hsrc j hj
     exact ⟨_, .tail _ hb, rfl⟩
   · obtain ⟨q, hq, e1⟩ := h.xs p hp j hj
     exact ⟨q, .tail _ hq, e1⟩
 · obtain ⟨hp, hdp⟩ := List.mem_filter.1 hp
   obtain ⟨hpt, hkn⟩ := h.jf p hp
   refine ⟨hpt, ?_⟩
   have hlv := hleave p.1 hpt (by simpa using hdp)
   rcases hkn with ⟨q, k1, k2, k3⟩ | ⟨q, d', k1, k2, k3, k4, k5⟩
   · exact .inl ⟨q, k1, k2, fun w => (Yl.put hpl (fun q hq t ht => (leaves_spec hlv hq t ht).1)).2 (k3 w)⟩
   · have hil : isLoad ops p.1 = true := by unfold isLoad; rw [k1]; simp [k2, k4]
     obtain ⟨_, h2⟩ := chkK_sound hsr hchk hload
     obtain ⟨o2, d2, u', z1, z2, z3, z4⟩ := h2 p.1 (hall _ hpt hil)
     rw [k1] at z1; injection z1 with z1; subst z1
     rw [k4] at z2; injection z2 with z2; subst z2
     have hne : o.dst ≠ some d' := fun e => (leaves_spec hlv k1 d' e).2 k4
     have hu : u' = p.2 := k5 u' (by rw [← z3, put_tmps_ne hne])
     subst hu
     refine .inr ⟨q, d', k1, k2, z4, k4, fun u hu => ?_⟩
     rw [z3] at hu; injection hu with hu; exact hu.symm
 · rw [List.map_cons, List.reverse_cons]
   refine h.xr.snoc fun e he => ?_
   rcases (h.on e).1 (hdw e he) with h1 | ⟨p, hp, h1⟩
   · exact .inl h1
   · exact .inr (.inr (List.mem_reverse.2 (List.mem_map.2 ⟨p, hp, h1⟩)))
 · obtain ⟨hp, hdp⟩ := List.mem_filter.1 hp
   rcases List.mem_cons.1 hq with rfl | hq
   · simpa using hdp
   · exact h.jx p hp q hq
end sound
end Go.Am

namespace Go.Am
open Go.RowKit Go.MapKept
section sound
variable {E : Env} {w0 : World} {ops : Array Oper}
theorem Inv.takeStep {ro : Option Nat} {Q : Exit → Act → World → Prop} (hQp : ∀ c a w, ¬ Q (.panic c) a w) {ρ0 : Rn} {wa : World} {L : Array Bool} {taken : List Nat} {m : Nat} {L' : Array Bool} {X : List (Nat × Option Nat)} {J : List (Nat × Value)} {ρ : Rn} {A : AAct} {a : Act} {σ : St} {w : World}
 (hpl : Plain ops) (hwa : w0.heap.size ≤ wa.heap.size) {i : Nat} {o : Oper} (ho : ops[i]? = some o) (hmem : i ∈ Region.ready .any ops L) (hneu : neutral E.P o = true) (hfree : Region.free .any ops L i = true) (hself : selfOk ops o = true)
 (hleave : taken.all (leaves ops o) = true) (hkind : (pureOp E.P o || isLoad ops i) = true) {rest : AAct → St → Bool} (hk : doK E ops o A σ rest = true)
 (ih : ∀ {m : Nat} {L' : Array Bool} {X : List (Nat × Option Nat)} {J : List (Nat × Value)} {ρ : Rn} {A : AAct} {a : Act} {σ : St} {w : World}, rest A σ = true → Inv E w0 ops ρ0 wa (L.setIfInBounds i true) (i :: taken) m L' X J ρ A a σ w → AnyJ ro E.P ops Q m J L' a w)
 (h : Inv E w0 ops ρ0 wa L taken m L' X J ρ A a σ w) : AnyJ ro E.P ops Q m J L' a w := by
 obtain ⟨⟨hilt, hin⟩, _, hiw⟩ := ready_iff.1 hmem
 by_cases hon : On L' i
 · -- the model has done it
   rcases (h.on i).1 hon with h1 | ⟨p, hp, hpi⟩
   · exact absurd h1 hin
   · have hlate : isLate E.P ops i = true := by
      have := (h.xl p hp).2.1
      rw [hpi] at this
      exact this
     have hg : o.guard = none := isLate_guard ho hlate
     obtain ⟨hng, hnc⟩ := neutral_garb ho hneu
     have hk : lateK E ops [i] A σ rest = true := by
      unfold doK wantK at hk
      rw [hg] at hk
      unfold lateK
      rw [lrec_cons]
      simp only [ho]
      unfold lopK
      rw [hnc]
      exact hk
     obtain ⟨ρ', A', σ', g1, g2, g3, g4, g5⟩ := late_sound hwa [i] hk h.hs h.stp (fun j hj => ⟨p, hp, hpi.trans (List.mem_singleton.1 hj).symm⟩) (fun j hj => by rw [List.mem_singleton.1 hj]; exact hng) h.xf h.xb (by simp)
     have hX : ∀ q, q ∈ X.filter (fun q => q.1 != i) ↔ q ∈ X ∧ q.1 ≠ i := fun q => by rw [List.mem_filter]; simp
     refine ih g1 (X := X.filter fun q => q.1 != i) ⟨g2, g3, Array.size_setIfInBounds.trans h.szL, h.sz, fun j => ?_, h.down, fun q hq => ?_, fun q hq => ?_, fun q hq r hr => h.xd q ((hX q).1 hq).1 r ((hX r).1 hr).1, fun q hq r hr => h.xb q ((hX q).1 hq).1 r ((hX r).1 hr).1, fun q hq j hj => ?_, fun j hj => ?_, fun q hq => ⟨.tail _ (h.jf q hq).1, (h.jf q hq).2⟩, h.fuel, ?_, fun q hq r hr => h.jx q hq r ((hX r).1 hr).1⟩
     · rw [h.on, On.set hilt]
       constructor
       · rintro (h1 | ⟨q, hq, h1⟩)
         · exact .inl (.inl h1)
         · by_cases e : j = i
           · exact .inl (.inr e)
           · exact .inr ⟨q, (hX q).2 ⟨hq, by rw [h1]; exact e⟩, h1⟩
       · rintro ((h1 | h1) | ⟨q, hq, h1⟩)
         · exact .inl h1
         · exact .inr ⟨p, hp, hpi.trans h1.symm⟩
         · exact .inr ⟨q, ((hX q).1 hq).1, h1⟩
     · exact g4 q ((hX q).1 hq).1 (by simpa using ((hX q).1 hq).2)
     · obtain ⟨x1, x2, x3⟩ := h.xl q ((hX q).1 hq).1
       refine ⟨x1, x2, fun hh => ?_⟩
       rcases (On.set hilt).1 hh with hh | hh
       · exact x3 hh
       · exact ((hX q).1 hq).2 hh
     · obtain ⟨r, hr, hrj⟩ := h.xs q ((hX q).1 hq).1 j hj
       refine ⟨r, (hX r).2 ⟨hr, fun e => ?_⟩, hrj⟩
       have := garb_of hj
       rw [← hrj, e, hng] at this; cases this
     · rcases (On.set hilt).1 hj with hj | hj
       · exact h.lg j hj
       · rw [hj]; exact hng
     · have e1 : ((X.filter fun q => q.1 != i).map Prod.fst).reverse = (X.map Prod.fst).reverse.filter fun j => j != i := by
        rw [List.filter_reverse, List.filter_map]; rfl
       rw [e1]
       refine h.xr.filter (fun e he => (On.set hilt).2 (.inl he)) (fun e he => by cases he) fun e _ he => (On.set hilt).2 (.inr (by simpa using he))
 · have hilt' : i < L'.size := by rw [h.sz, ← h.szL]; exact hilt
   have hmem' : i ∈ Region.ready .any ops L' := ready_iff.2 ⟨⟨hilt', hon⟩, by rw [← h.szL]; exact hilt, fun e he => (h.on e).2 (.inl (hiw e he))⟩
   cases m with
   | zero => exact absurd (rem_zero h.fuel hilt') hon
   | succ m =>
    have hs := h.hs
    unfold doK at hk
    have hk := wantK_true hs.act hk
    have hselfY : ∀ (v : Value) (w : World), Yl E.P ops i v a w → Yl E.P ops i v (a.put o.dst v) w := fun v w h => (Yl.put hpl (fun o' ho' t ht => by rw [ho] at ho'; injection ho' with ho'; subst ho'; exact selfOk_spec hself t ht)).2 h
    have hold : ∀ (v : Value), ∀ p ∈ J, Kn E.P ops a w p → Kn E.P ops (a.put o.dst v) w p := by
     intro v p hp hh
     have hlv := List.all_eq_true.1 hleave p.1 (h.jf p hp).1
     have hput : ∀ w, Yl E.P ops p.1 p.2 a w → Yl E.P ops p.1 p.2 (a.put o.dst v) w := fun w h => (Yl.put hpl (fun q hq t ht => (leaves_spec hlv hq t ht).1)).2 h
     rcases hh with ⟨q, h1, h2, h3⟩ | ⟨q, d, h1, h2, h3, h4, h5⟩
     · exact .inl ⟨q, h1, h2, fun w => hput w (h3 w)⟩
     · refine .inr ⟨q, d, h1, h2, hput w h3, h4, fun u hu => h5 u ?_⟩
       rw [put_tmps_ne] at hu
       · exact hu
       · intro e; exact (leaves_spec hlv h1 d e).2 h4
    have go : ∀ (v v' : Value), putAK A o.dst v (fun A => rest A σ) = true → VR ρ v v' → Kn E.P ops (a.put o.dst v') w (i, v') → AnyJ ro E.P ops Q (m + 1) J L' a w := by
     intro v v' hk hv hkn
     obtain ⟨ρ', A', σ', g1, g2, g3⟩ := put_next (k := rest) hs ⟨ρ, v, σ, hk, hv, hs.rel, .refl ρ w⟩
     refine AnyJ.take hpl hQp ho (selfOk_spec hself) m J L' a w (fun j oj hj hji hun hno => Region.free_spec ho hfree j oj hj hji ?_ hno) (fun p hp q hq t ht => ?_) hmem' (v := v') ?_
     · have h1 := un_iff.1 hun
       exact un_iff.2 ⟨by rw [h.szL, ← h.sz]; exact h1.1, fun hh => h1.2 ((h.on _).2 (.inl hh))⟩
     · exact (leaves_spec (List.all_eq_true.1 hleave p.1 (h.jf p hp).1) hq t ht).1
     · refine ih g1 (X := X) ⟨g2, h.stp.trans g3, Array.size_setIfInBounds.trans h.szL, Array.size_setIfInBounds.trans h.sz, fun j => ?_, h.down.set hmem', fun q hq => ((h.xf q hq).put hpl (h.apart ho hon hq) (h.apart2 ho hon hq)).stp g3, fun q hq => ?_, h.xd, h.xb, h.xs, fun j hj => ?_, fun p hp => ?_, rem_set hilt' hon h.fuel, ?_, fun p hp q hq => ?_⟩
       · rw [On.set hilt', On.set hilt, h.on]
         constructor
         · rintro ((h1 | h1) | h1)
           · exact .inl (.inl h1)
           · exact .inr h1
           · exact .inl (.inr h1)
         · rintro ((h1 | h1) | h1)
           · exact .inl (.inl h1)
           · exact .inr h1
           · exact .inl (.inr h1)
       · obtain ⟨x1, x2, x3⟩ := h.xl q hq
         refine ⟨x1, x2, fun hh => ?_⟩
         rcases (On.set hilt).1 hh with hh | hh
         · exact x3 hh
         · exact hon (hh ▸ (h.on _).2 (.inr ⟨q, hq, rfl⟩))
       · rcases (On.set hilt).1 hj with hj | hj
         · exact h.lg j hj
         · rw [hj]; exact (neutral_garb ho hneu).1
       · rcases List.mem_cons.1 hp with rfl | hp
         · exact ⟨.head _, hkn⟩
         · exact ⟨.tail _ (h.jf p hp).1, hold v' p hp (h.jf p hp).2⟩
       · have := h.xr.filter (t2 := L.setIfInBounds i true) (pre2 := []) (q := fun _ => true) (fun e he => (On.set hilt).2 (.inl he)) (fun e he => by cases he) (fun e _ he => by cases he)
         rwa [List.filter_eq_self.2 (fun _ _ => rfl)] at this
       · rcases List.mem_cons.1 hp with rfl | hp
         · cases hdq : dep ops q.1 i with
           | false => rfl
           | true => exact absurd (h.down q.1 ((h.on _).2 (.inr ⟨q, hq, rfl⟩)) i (dep_iff.1 hdq)) hon
         · exact h.jx p hp q hq
    have kn : ∀ (v' : Value), (pureOp E.P o = true → ∀ w, Yl E.P ops i v' a w) → Yl E.P ops i v' a w → Kn E.P ops (a.put o.dst v') w (i, v') := by
     intro v' h1 h2
     cases hpu : pureOp E.P o with
     | true => exact .inl ⟨o, ho, hpu, fun w => hselfY v' w (h1 hpu w)⟩
     | false =>
      have hl : isLoad ops i = true := by rw [hpu] at hkind; simpa using hkind
      unfold isLoad at hl
      rw [ho] at hl
      simp only [Bool.and_eq_true] at hl
      obtain ⟨d, hd⟩ := Option.isSome_iff_exists.1 hl.2
      refine .inr ⟨o, d, ho, hl.1, hselfY v' w h2, hd, ?_⟩
      rw [hd]
      exact put_tmps_same
    cases hw : Region.wanted o (yielded ops a.tmps) with
    | true =>
     rw [hw] at hk
     have hk : opK E o A σ (fun v σ => putAK A o.dst v fun A => rest A σ) = true := hk
     cases hpu : pureOp E.P o with
     | true =>
      obtain ⟨v, v', hk, hv, hrun⟩ := pureOp_sound hs.rel hs.act hpu hk
      exact go v v' hk hv (kn v' (fun _ w => ⟨o, ho, .inl ⟨hw, hrun w⟩⟩) ⟨o, ho, .inl ⟨hw, hrun w⟩⟩)
     | false =>
      have hl : loadOp o = true := by
       unfold neutral at hneu
       rw [hpu] at hneu
       simpa using hneu
      obtain ⟨v, v', hk, hv, hrun⟩ := loadOp_sound hs.rel hs.act hl hk
      exact go v v' hk hv (kn v' (fun h => by rw [hpu] at h; cases h) ⟨o, ho, .inl ⟨hw, hrun⟩⟩)
    | false =>
     rw [hw] at hk
     have hk : putAK A o.dst undef (fun A => rest A σ) = true := hk
     exact go undef undef hk .undef (kn undef (fun _ w => ⟨o, ho, .inr ⟨hw, rfl⟩⟩) ⟨o, ho, .inr ⟨hw, rfl⟩⟩)
end sound
end Go.Am

namespace Go.Am
open Go.RowKit Go.MapKept
section sound
variable {E : Env} {w0 : World} {ops : Array Oper}
theorem mem_chainOf {P : Program} {l : List Nat} {d i : Nat} : i ∈ chainOf P ops l d ↔ (i ∈ l ∧ needs ops ops.size d i = true) ∧ garb P ops i = false := by
 unfold chainOf; rw [List.mem_filter, List.mem_filter]; simp
structure Ask (E : Env) (ops : Array Oper) (L : Array Bool) (taken : List Nat) (A : AAct) (σ : St) (c : Array Bool × List Nat) : Prop where
 close : closeT E.P ops ops.size L [] = c
 ok : ∀ d ∈ c.2, lateFree ops d = true ∧ ∃ o, ops[d]? = some o ∧ selfOk ops o = true ∧ ∀ p ∈ taken, dep ops d p = false → leaves ops o p = true
 chk : ∃ (chk : List Nat) (k : Bool), chkK E ops A σ chk k = true ∧ (∀ i ∈ chk, isLoad ops i = true) ∧ (c.2 ≠ [] → ∀ i ∈ taken, isLoad ops i = true → i ∈ chk)
 pre : ∀ d ∈ c.2, ∃ o e, ops[d]? = some o ∧ o.dst = some e ∧ A.tmps.t.get e = none ∧ lateK E ops (chainOf E.P ops c.2 d) A σ (fun A σ => lopK E ops d o A σ fun _ _ => true) = true

theorem Inv.pick {ro : Option Nat} {Q : Exit → Act → World → Prop} {ρ0 : Rn} {wa : World} {L : Array Bool} {taken : List Nat} {m : Nat} {L' : Array Bool} {X : List (Nat × Option Nat)} {J : List (Nat × Value)} {ρ : Rn} {A : AAct} {a : Act} {σ : St} {w : World} {c : Array Bool × List Nat}
 (hpl : Plain ops) (hwa : w0.heap.size ≤ wa.heap.size) (hask : Ask E ops L taken A σ c) (h : Inv E w0 ops ρ0 wa L taken (m + 1) L' X J ρ A a σ w) {d : Nat} (hd : d ∈ c.2) (hready : d ∈ Region.ready .any ops L')
 {K : Act → World → Prop} (hK : ∀ a' w' X', Inv E w0 ops ρ0 wa L taken m (L'.setIfInBounds d true) X' (J.filter fun p => !dep ops d p.1) ρ A a' σ w' → K a' w') : wpOpIn (fnc ro) 0 E.P ops Q d K a w := by
 obtain ⟨mm, h1, _, _, h4, h5, _⟩ := closeT_spec _ _ _ hask.close
 have e2 : c.2 = mm := by rw [h1]; rfl
 rw [← e2] at h4 h5
 obtain ⟨hfree, o, ho, hself, hleave⟩ := hask.ok d hd
 obtain ⟨chk, k, hchk, hload, hall⟩ := hask.chk
 obtain ⟨o', e, ho', hde, habs, hpre⟩ := hask.pre d hd
 rw [ho] at ho'; injection ho' with ho'; subst ho'
 have hlate : isLate E.P ops d = true := (h4 d hd).1
 refine Inv.early hpl hwa h ho hready hlate hfree hself hleave hchk hload (hall (fun e => by rw [e] at hd; cases hd)) hde habs hpre (fun i hi => ?_) (fun i hi => (mem_chainOf.1 hi).2) ((h5.filter _).filter _) hK
 obtain ⟨⟨hi1, hi2⟩, _⟩ := mem_chainOf.1 hi
 have hon : On L' i := h.down.needs _ _ _ (ready_iff.1 hready).2.2 hi2
 rcases (h.on i).1 hon with h6 | h6
 · exact absurd h6 (h4 i hi1).2.2
 · exact h6
end sound
end Go.Am

namespace Go.Am
open Go.RowKit Go.MapKept
section sound
variable {E : Env} {w0 : World} {ops : Array Oper}
theorem early_in {P : Program} {L : Array Bool} {c : Array Bool × List Nat} (hsz : L.size = ops.size) (hc : closeT P ops ops.size L [] = c) (hno : ∀ i ∈ Region.ready .any ops c.1, isLate P ops i = false) :
 ∀ (l pre : List Nat), Rowed ops L pre l → (∀ e ∈ pre, On c.1 e) → (∀ i ∈ l, isLate P ops i = true ∧ i < ops.size) → ∀ i ∈ l, On c.1 i := by
 obtain ⟨mm, h1, h2, h3, _⟩ := closeT_spec _ _ _ hc
 intro l
 induction l with
 | nil => intro _ _ _ _ i hi; cases hi
 | cons d l ih =>
  intro pre h hpre hl
  have hd : On c.1 d := by
   by_cases hon : On c.1 d
   · exact hon
   · obtain ⟨hl1, hl2⟩ := hl d (.head _)
     have hr : d ∈ Region.ready .any ops c.1 := ready_iff.2 ⟨⟨by rw [h2, hsz]; exact hl2, hon⟩, hl2, fun e he => (h.1 e he).elim (fun h => (h3 e).2 (.inl h)) (hpre e)⟩
     rw [hno d hr] at hl1; cases hl1
  intro i hi
  rcases List.mem_cons.1 hi with rfl | hi
  · exact hd
  · exact ih (d :: pre) h.2 (fun e he => by
     rcases List.mem_cons.1 he with rfl | he
     · exact hd
     · exact hpre e he) (fun i hi => hl i (.tail _ hi)) i hi
theorem late_lt {P : Program} {i : Nat} (h : isLate P ops i = true) : i < ops.size := by
 unfold isLate at h
 split at h
 · rename_i o ho; exact (Array.getElem?_eq_some_iff.1 ho).1
 · cases h
section inv
variable {ρ0 : Rn} {wa : World} {L : Array Bool} {taken : List Nat} {m : Nat} {L' : Array Bool} {X : List (Nat × Option Nat)} {J : List (Nat × Value)} {ρ : Rn} {A : AAct} {a : Act} {σ : St} {w : World} {c : Array Bool × List Nat}
theorem Inv.readyIn (h : Inv E w0 ops ρ0 wa L taken m L' X J ρ A a σ w) (hc : closeT E.P ops ops.size L [] = c) (hno : ∀ i ∈ Region.ready .any ops c.1, isLate E.P ops i = false) {j : Nat} (hj : j ∈ Region.ready .any ops L') : j ∈ c.2 ∨ j ∈ Region.ready .any ops c.1 := by
 obtain ⟨mm, h1, h2, h3, h4, h5, h6⟩ := closeT_spec _ _ _ hc
 have e2 : c.2 = mm := by rw [h1]; rfl
 obtain ⟨⟨hj1, hj2⟩, hj3, hj4⟩ := ready_iff.1 hj
 have hX : ∀ p ∈ X, On c.1 p.1 := fun p hp => early_in h.szL hc hno _ [] h.xr (by simp) (fun i hi => by
  rw [List.mem_reverse, List.mem_map] at hi
  obtain ⟨p, hp, rfl⟩ := hi
  exact ⟨(h.xl p hp).2.1, late_lt (h.xl p hp).2.1⟩) p.1 (by rw [List.mem_reverse, List.mem_map]; exact ⟨p, hp, rfl⟩)
 have hsub : ∀ e, On L' e → On c.1 e := fun e he => by
  rcases (h.on e).1 he with h' | ⟨p, hp, rfl⟩
  · exact (h3 e).2 (.inl h')
  · exact hX p hp
 by_cases hon : On c.1 j
 · rcases (h3 j).1 hon with h' | h'
   · exact absurd ((h.on j).2 (.inl h')) hj2
   · exact .inl (by rw [e2]; exact h')
 · exact .inr (ready_iff.2 ⟨⟨by rw [h2, h.szL]; exact hj3, hon⟩, hj3, fun e he => hsub e (hj4 e he)⟩)
theorem Inv.yl (h : Inv E w0 ops ρ0 wa L taken m L' X J ρ A a σ w) : ∀ p ∈ J, Yl E.P ops p.1 p.2 a w := fun p hp => (h.jf p hp).2.yl

theorem Inv.reqStep {ro : Option Nat} {Q : Exit → Act → World → Prop} (hc : CallOk E.P w0 E.call) (hr : RoundOk E.P w0 E.round) (hpl : Plain ops) (hwa : w0.heap.size ≤ wa.heap.size) (hask : Ask E ops L taken A σ c) {r : Nat} {o : Oper} (ho : ops[r]? = some o)
 (hready : Region.ready .any ops c.1 = [r]) (hnl : isLate E.P ops r = false) {D taken' : List Nat} (hD : D = chainOf E.P ops c.2 r) (ht' : taken' = taken.filter fun p => !dep ops r p && D.all fun d => !dep ops d p) (hleave : taken'.all (leaves ops o) = true)
 {rest : AAct → St → Bool} (hk : lateK E ops D A σ (fun A σ => doK E ops o A σ fun A σ => chkK E ops A σ (taken'.filter (isLoad ops)) (rest A σ)) = true)
 (ih : ∀ {m : Nat} {L' : Array Bool} {X : List (Nat × Option Nat)} {J : List (Nat × Value)} {ρ : Rn} {A : AAct} {a : Act} {σ : St} {w : World}, rest A σ = true → Inv E w0 ops ρ0 wa ((D.foldl (fun t i => t.setIfInBounds i true) L).setIfInBounds r true) taken' m L' X J ρ A a σ w → AnyJ ro E.P ops Q m J L' a w) :
 ∀ (m : Nat) {L' : Array Bool} {X : List (Nat × Option Nat)} {J : List (Nat × Value)} {a : Act} {w : World}, Inv E w0 ops ρ0 wa L taken m L' X J ρ A a σ w → AnyJ ro E.P ops Q m J L' a w := by
 obtain ⟨mm, h1, h2, h3, h4, h5, h6⟩ := closeT_spec _ _ _ hask.close
 have e2 : c.2 = mm := by rw [h1]; rfl
 rw [← e2] at h3 h4 h5 h6
 have hrc : r ∈ Region.ready .any ops c.1 := by rw [hready]; exact .head _
 obtain ⟨⟨hr1, hr2⟩, hr3, hr4⟩ := ready_iff.1 hrc
 have hno : ∀ i ∈ Region.ready .any ops c.1, isLate E.P ops i = false := fun i hi => by
  rw [hready] at hi
  rw [List.mem_singleton.1 hi]; exact hnl
 have hrL : ¬ On L r := fun h => hr2 ((h3 r).2 (.inl h))
 have hrow : Rowed ops L [] (c.2 ++ [r]) := h6.snoc fun e he => ((h3 e).1 (hr4 e he)).imp id fun h => .inr h
 have hrn : ∀ {m : Nat} {L' : Array Bool} {X : List (Nat × Option Nat)} {J : List (Nat × Value)} {a : Act} {w : World}, Inv E w0 ops ρ0 wa L taken m L' X J ρ A a σ w → ¬ On L' r := fun h hon => by
  rcases (h.on r).1 hon with h' | ⟨p, hp, e⟩
  · exact hrL h'
  · have := (h.xl p hp).2.1
    rw [e, hnl] at this; cases this
 intro m
 induction m with
 | zero =>
  intro L' X J a w h
  exact absurd (rem_zero h.fuel (by rw [h.sz]; exact hr3)) (hrn h)
 | succ m ihm =>
  intro L' X J a w h
  have hrn := hrn h
  refine ⟨h.yl, fun hnil => ?_, fun j hj => ?_⟩
  · obtain ⟨i, _, hi⟩ := hrow.ready h.sz (fun j hj => (h.on j).2 (.inl hj)) (by simp) (fun i hi => by
     rcases List.mem_append.1 hi with hi | hi
     · exact late_lt (h4 i hi).1
     · rw [List.mem_singleton.1 hi]; exact hr3) ⟨r, by simp, hrn⟩
    rw [hnil] at hi; cases hi
  · rcases h.readyIn hask.close hno hj with hj2 | hj2
    · exact Inv.pick hpl hwa hask h hj2 hj fun a' w' X' h' => ihm h'
    · rw [hready] at hj2
      have e := List.mem_singleton.1 hj2
      subst e
      obtain ⟨⟨hjlt, _⟩, _, hjw⟩ := ready_iff.1 hj
      have hDX : ∀ i ∈ D, ∃ p ∈ X, p.1 = i := fun i hi => by
       rw [hD] at hi
       obtain ⟨⟨hi1, hi2⟩, _⟩ := mem_chainOf.1 hi
       have hon : On L' i := h.down.needs _ _ _ hjw hi2
       rcases (h.on i).1 hon with h7 | h7
       · exact absurd h7 (h4 i hi1).2.2
       · exact h7
      have hDn : D.Nodup := by rw [hD]; exact (h5.filter _).filter _
      have hDg : ∀ i ∈ D, garb E.P ops i = false := fun i hi => by rw [hD] at hi; exact (mem_chainOf.1 hi).2
      obtain ⟨ρ1, A1, σ1, k1, k2, k3, k4, k5⟩ := late_sound hwa D hk h.hs h.stp hDX hDg h.xf h.xb hDn
      have hX : ∀ q, q ∈ X.filter (fun q => !D.contains q.1) ↔ q ∈ X ∧ q.1 ∉ D := fun q => by rw [List.mem_filter]; simp
      have hfold : ∀ (D : List Nat) (t : Array Bool), t.size = ops.size → (∀ i ∈ D, i < ops.size) → (D.foldl (fun t i => t.setIfInBounds i true) t).size = ops.size ∧ ∀ j, On (D.foldl (fun t i => t.setIfInBounds i true) t) j ↔ On t j ∨ j ∈ D := by
       intro D
       induction D with
       | nil => intro t ht _; exact ⟨ht, fun j => by simp⟩
       | cons d D ihD =>
        intro t ht hl
        have hdl : d < t.size := by rw [ht]; exact hl d (.head _)
        obtain ⟨g1, g2⟩ := ihD (t.setIfInBounds d true) (Array.size_setIfInBounds.trans ht) fun i hi => hl i (.tail _ hi)
        refine ⟨g1, fun j => (g2 j).trans ?_⟩
        rw [On.set hdl, List.mem_cons]
        constructor
        · rintro ((h | h) | h)
          · exact .inl h
          · exact .inr (.inl h)
          · exact .inr (.inr h)
        · rintro (h | h | h)
          · exact .inl (.inl h)
          · exact .inl (.inr h)
          · exact .inr h
      obtain ⟨f1, f2⟩ := hfold D L h.szL fun i hi => by
       rw [hD] at hi
       exact late_lt (h4 i (mem_chainOf.1 hi).1.1).1
      have hjlt2 : j < (D.foldl (fun t i => t.setIfInBounds i true) L).size := by rw [f1]; exact hr3
      have go : ∀ v' w', Next E.P w0 ρ1 w (fun A σ => chkK E ops A σ (taken'.filter (isLoad ops)) (rest A σ)) (a.put o.dst v') w' →
       AnyJ ro E.P ops Q m (J.filter fun p => !dep ops j p.1) (L'.setIfInBounds j true) (a.put o.dst v') w' := by
       rintro v' w' ⟨ρ', A', σ', g1, g2, g3⟩
       obtain ⟨z1, z2⟩ := chkK_sound g2 g1 (fun i hi => (List.mem_filter.1 hi).2)
       have hap : ∀ p ∈ X, ∀ q, ops[p.1]? = some q → ∀ t, o.dst = some t → t ∉ q.looksAt ops ∧ q.dst ≠ some t := fun p hp => h.apart ho hrn hp
       have hap2 : ∀ p ∈ X, ∀ i q, convSrc E.P ops p.1 = some i → ops[i]? = some q → ∀ t, o.dst = some t → t ∉ q.looksAt ops ∧ q.dst ≠ some t := fun p hp => h.apart2 ho hrn hp
       refine ih z1 (X := X.filter fun q => !D.contains q.1) ⟨g2, k3.trans g3, Array.size_setIfInBounds.trans f1, Array.size_setIfInBounds.trans h.sz, fun i => ?_, h.down.set hj, fun q hq => ?_, fun q hq => ?_, fun q hq r hr => h.xd q ((hX q).1 hq).1 r ((hX r).1 hr).1, fun q hq r hr => h.xb q ((hX q).1 hq).1 r ((hX r).1 hr).1, fun q hq i hi => ?_, fun i hi => ?_, fun p hp => ?_, rem_set hjlt hrn h.fuel, ?_, fun q hq r hr => h.jx q (List.mem_filter.1 hq).1 r ((hX r).1 hr).1⟩
       · rw [On.set hjlt, On.set hjlt2, h.on, f2]
         constructor
         · rintro ((h' | ⟨p, hp, h'⟩) | h')
           · exact .inl (.inl (.inl h'))
           · by_cases e : i ∈ D
             · exact .inl (.inl (.inr e))
             · exact .inr ⟨p, (hX p).2 ⟨hp, by rw [h']; exact e⟩, h'⟩
           · exact .inl (.inr h')
         · rintro (((h' | h') | h') | ⟨p, hp, h'⟩)
           · exact .inl (.inl h')
           · exact .inl (.inr (hDX i h'))
           · exact .inr h'
           · exact .inl (.inr ⟨p, ((hX p).1 hp).1, h'⟩)
       · obtain ⟨q1, q2⟩ := (hX q).1 hq
         exact ((k4 q q1 q2).put hpl (hap q q1) (hap2 q q1)).stp g3
       · obtain ⟨q1, q2⟩ := (hX q).1 hq
         obtain ⟨x1, x2, x3⟩ := h.xl q q1
         refine ⟨x1, x2, fun hh => ?_⟩
         rcases (On.set hjlt2).1 hh with hh | hh
         · rcases (f2 _).1 hh with hh | hh
           · exact x3 hh
           · exact q2 hh
         · exact hrn (hh ▸ (h.on _).2 (.inr ⟨q, q1, rfl⟩))
       · obtain ⟨r, hr, hri⟩ := h.xs q ((hX q).1 hq).1 i hi
         refine ⟨r, (hX r).2 ⟨hr, fun e => ?_⟩, hri⟩
         have := garb_of hi
         rw [← hri, hDg _ e] at this; cases this
       · rcases (On.set hjlt2).1 hi with hi | hi
         · rcases (f2 i).1 hi with hi | hi
           · exact h.lg i hi
           · exact hDg i hi
         · rw [hi]
           cases hgj : garb E.P ops j with
           | false => rfl
           | true => rw [garb_late hgj] at hnl; cases hnl
       · obtain ⟨hp, hdp⟩ := List.mem_filter.1 hp
         obtain ⟨hpt, hkn⟩ := h.jf p hp
         have hpt' : p.1 ∈ taken' := by
          rw [ht', List.mem_filter]
          refine ⟨hpt, ?_⟩
          simp only [hdp, Bool.true_and, List.all_eq_true]
          intro d hd
          obtain ⟨q, hq, rfl⟩ := hDX d hd
          rw [h.jx p hp q hq]; rfl
         refine ⟨hpt', ?_⟩
         have hlv := List.all_eq_true.1 hleave p.1 hpt'
         rcases hkn with ⟨q, k1, k2, k3⟩ | ⟨q, d, k1, k2, k3, k4, k5⟩
         · exact .inl ⟨q, k1, k2, fun w => (Yl.put hpl (fun q hq t ht => (leaves_spec hlv hq t ht).1)).2 (k3 w)⟩
         · obtain ⟨o2, d2, u', y1, y2, y3, y4⟩ := z2 p.1 (by
            rw [List.mem_filter]
            refine ⟨hpt', ?_⟩
            unfold isLoad
            rw [k1]
            simp [k2, k4])
           rw [k1] at y1; injection y1 with y1; subst y1
           rw [k4] at y2; injection y2 with y2; subst y2
           have hne : o.dst ≠ some d := fun e => (leaves_spec hlv k1 d e).2 k4
           have hu : u' = p.2 := k5 u' (by rw [← y3, put_tmps_ne hne])
           subst hu
           refine .inr ⟨q, d, k1, k2, y4, k4, fun u hu => ?_⟩
           rw [y3] at hu; injection hu with hu; exact hu.symm
       · have e1 : ((X.filter fun q => !D.contains q.1).map Prod.fst).reverse = (X.map Prod.fst).reverse.filter fun i => !D.contains i := by
          rw [List.filter_reverse, List.filter_map]; rfl
         rw [e1]
         refine h.xr.filter (fun e he => (On.set hjlt2).2 (.inl ((f2 e).2 (.inl he)))) (fun e he => by cases he) fun e _ he => (On.set hjlt2).2 (.inl ((f2 e).2 (.inr (by simpa using he))))
      unfold doK at k1
      have k1 := wantK_true k2.act k1
      unfold wpOpIn
      simp only [ho]
      cases hw : Region.wanted o (yielded ops a.tmps) with
      | true =>
       rw [hw] at k1
       have k1 : opK E o A1 σ1 (fun v σ => putAK A1 o.dst v fun A => chkK E ops A σ (taken'.filter (isLoad ops)) (rest A σ)) = true := k1
       simp only [if_true]
       exact opK_wp hc hr k2.rel k2.act k1 fun v' w' hg => go v' w' (put_next (k := fun A σ => chkK E ops A σ (taken'.filter (isLoad ops)) (rest A σ)) k2 hg)
      | false =>
       rw [hw] at k1
       have k1 : putAK A1 o.dst undef (fun A => chkK E ops A σ1 (taken'.filter (isLoad ops)) (rest A σ1)) = true := k1
       simp only [Bool.false_eq_true, if_false]
       exact ⟨fun _ _ => trivial, go undef w (put_next (k := fun A σ => chkK E ops A σ (taken'.filter (isLoad ops)) (rest A σ)) k2 ⟨ρ1, undef, σ1, k1, .undef, k2.rel, .refl ρ1 w⟩)⟩

theorem Inv.finStep {ro : Option Nat} {Q : Exit → Act → World → Prop} (hpl : Plain ops) (hwa : w0.heap.size ≤ wa.heap.size) (hask : Ask E ops L taken A σ c) (hready : Region.ready .any ops c.1 = []) {k : AAct → St → Bool} (hk : lateK E ops (c.2.filter fun i => !garb E.P ops i) A σ k = true)
 (hQ : ∀ a' w', Next E.P w0 ρ0 wa k a' w' → Q .normal a' w') :
 ∀ (m : Nat) {L' : Array Bool} {X : List (Nat × Option Nat)} {J : List (Nat × Value)} {a : Act} {w : World}, Inv E w0 ops ρ0 wa L taken m L' X J ρ A a σ w → AnyJ ro E.P ops Q m J L' a w := by
 obtain ⟨mm, h1, h2, h3, h4, h5, h6⟩ := closeT_spec _ _ _ hask.close
 have e2 : c.2 = mm := by rw [h1]; rfl
 rw [← e2] at h3 h4 h5 h6
 have hno : ∀ i ∈ Region.ready .any ops c.1, isLate E.P ops i = false := fun i hi => by rw [hready] at hi; cases hi
 have end_ : ∀ {m : Nat} {L' : Array Bool} {X : List (Nat × Option Nat)} {J : List (Nat × Value)} {a : Act} {w : World}, Inv E w0 ops ρ0 wa L taken m L' X J ρ A a σ w → Region.ready .any ops L' = [] → Q .normal a w := by
  intro m L' X J a w h hnil
  have hX : ∀ i ∈ c.2, ∃ p ∈ X, p.1 = i := fun i hi => by
   have hon : On L' i := by
    by_cases hon : On L' i
    · exact hon
    · obtain ⟨j, _, hj⟩ := h6.ready h.sz (fun j hj => (h.on j).2 (.inl hj)) (by simp) (fun i hi => late_lt (h4 i hi).1) ⟨i, hi, hon⟩
      rw [hnil] at hj; cases hj
   rcases (h.on i).1 hon with h7 | h7
   · exact absurd h7 (h4 i hi).2.2
   · exact h7
  obtain ⟨ρ1, A1, σ1, k1, k2, k3, _⟩ := late_sound hwa _ hk h.hs h.stp (fun i hi => hX i (List.mem_filter.1 hi).1) (fun i hi => by simpa using (List.mem_filter.1 hi).2) h.xf h.xb (h5.filter _)
  exact hQ a w ⟨ρ1, A1, σ1, k1, k2, k3⟩
 intro m
 induction m with
 | zero =>
  intro L' X J a w h
  have hnil : Region.ready .any ops L' = [] := by
   cases hl : Region.ready .any ops L' with
   | nil => rfl
   | cons j l =>
    have hj : j ∈ Region.ready .any ops L' := by rw [hl]; exact .head _
    obtain ⟨⟨hj1, hj2⟩, _⟩ := ready_iff.1 hj
    exact absurd (rem_zero h.fuel hj1) hj2
  exact ⟨h.yl, hnil, end_ h hnil⟩
 | succ m ihm =>
  intro L' X J a w h
  refine ⟨h.yl, end_ h, fun j hj => ?_⟩
  rcases h.readyIn hask.close hno hj with hj2 | hj2
  · exact Inv.pick hpl hwa hask h hj2 hj fun a' w' X' h' => ihm h'
  · rw [hready] at hj2; cases hj2
end inv
end sound
end Go.Am

namespace Go.Am
open Go.RowKit Go.MapKept
section sound
variable {E : Env} {w0 : World} {ops : Array Oper}
theorem ask_of {ρ : Rn} {a : Act} {w : World} {L : Array Bool} {taken : List Nat} {A : AAct} {σ : St} {c : Array Bool × List Nat} (hs : SR E.P w0 ρ A a σ w) (hc : closeT E.P ops ops.size L [] = c)
 (hok : (c.2.all fun d => lateFree ops d && (match ops[d]? with | some o => selfOk ops o && (taken.filter fun p => !dep ops d p).all (leaves ops o) | none => false)) = true) {K : Bool}
 (hk : chkK E ops A σ (match c.2 with | [] => [] | _ => taken.filter (isLoad ops)) (preK E ops A σ (c.2.map fun d => (d, chainOf E.P ops c.2 d)) K) = true) : Ask E ops L taken A σ c ∧ K = true := by
 have hl : ∀ i ∈ (match c.2 with | [] => [] | _ => taken.filter (isLoad ops)), isLoad ops i = true := by
  intro i hi
  cases h : c.2 with
  | nil => rw [h] at hi; cases hi
  | cons d l => rw [h] at hi; exact (List.mem_filter.1 hi).2
 obtain ⟨h1, _⟩ := chkK_sound hs hk hl
 obtain ⟨h2, h3⟩ := preK_true h1
 refine ⟨⟨hc, fun d hd => ?_, ⟨_, _, hk, hl, fun hne i hi hil => ?_⟩, fun d hd => ?_⟩, h2⟩
 · have := List.all_eq_true.1 hok d hd
   simp only [Bool.and_eq_true] at this
   refine ⟨this.1, ?_⟩
   have h4 := this.2
   split at h4
   · rename_i o ho
     simp only [Bool.and_eq_true] at h4
     exact ⟨o, ho, h4.1, fun p hp hdp => List.all_eq_true.1 h4.2 p (List.mem_filter.2 ⟨hp, by rw [hdp]; rfl⟩)⟩
   · cases h4
 · cases h : c.2 with
   | nil => exact absurd h hne
   | cons d l => exact List.mem_filter.2 ⟨hi, hil⟩
 · obtain ⟨o, e, q1, q2, q3, q4⟩ := h3 (d, chainOf E.P ops c.2 d) (List.mem_map.2 ⟨d, hd, rfl⟩)
   exact ⟨o, e, q1, q2, q3, q4⟩

theorem delsK_true {ρ : Rn} {a : Act} : ∀ {l : List Nat} {A : AAct} {k : AAct → Bool}, ARel E.P ρ A a → delsK ops l A k = true → ∃ A', k A' = true ∧ ARel E.P ρ A' a ∧ A'.marks = A.marks := by
 intro l
 induction l with
 | nil => intro A k hA hk; exact ⟨A, hk, hA, rfl⟩
 | cons i l ih =>
  intro A k hA hk
  unfold delsK at hk
  rw [lrec_cons] at hk
  split at hk
  · split at hk
    · rename_i o ho d hd
      rw [delK_eq] at hk
      obtain ⟨A', h1, h2, h3⟩ := ih (A := { A with tmps := ⟨A.tmps.t.del d, A.tmps.n⟩ }) ⟨⟨hA.tmps.1, fun j v hj => hA.tmps.2 j v (by
       have hj : (A.tmps.t.del d).get j = some v := hj
       rw [get_del] at hj
       split at hj
       · cases hj
       · exact hj)⟩, hA.g⟩ hk
      exact ⟨A', h1, h2, h3⟩
    · cases hk
  · cases hk
end sound
end Go.Am

namespace Go.Am
open Go.RowKit Go.MapKept
section
variable {β : Type}
noncomputable def forceBs (l : List Bool) (k : List Bool → β) : β :=
 lrec (β := (List Bool → β) → β) (fun k => k []) (fun b _ ih k => bcase b (ih fun t => k (true :: t)) (ih fun t => k (false :: t))) l k
theorem forceBs_eq : ∀ (l : List Bool) (k : List Bool → β), forceBs l k = k l := by
 intro l
 induction l with
 | nil => intro k; rfl
 | cons b l ih =>
  intro k
  show bcase b (forceBs l fun t => k (true :: t)) (forceBs l fun t => k (false :: t)) = _
  rw [ih, ih]
  cases b <;> rfl
noncomputable def forceA (t : Array Bool) (k : Array Bool → β) : β := forceBs t.toList fun l => k ⟨l⟩
theorem forceA_eq (t : Array Bool) (k : Array Bool → β) : forceA t k = k t := forceBs_eq _ _
noncomputable def closeF (P : Program) (ops : Array Oper) : List Nat → Array Bool → List Nat → (Array Bool → List Nat → β) → β
 | [], t, l, k => k t l
 | i :: is, t, l, k => match isLate P ops i && readyAt ops t i with
  | true => forceA (t.setIfInBounds i true) fun t => closeF P ops is t (l ++ [i]) k
  | false => closeF P ops is t l k
theorem closeF_eq (P : Program) (ops : Array Oper) : ∀ (is : List Nat) (t : Array Bool) (l : List Nat) (k : Array Bool → List Nat → β), closeF P ops is t l k = k (closeP P ops is t l).1 (closeP P ops is t l).2 := by
 intro is
 induction is with
 | nil => intro t l k; rfl
 | cons i is ih =>
  intro t l k
  unfold closeF closeP
  cases isLate P ops i && readyAt ops t i with
  | true => simp only [forceA_eq, ih]
  | false => simp only [ih]
end
def maskT (l : List Nat) : Nat := l.foldl (fun m t => Nat.lor m (Nat.shiftLeft 1 t)) 0
theorem maskT_bit {l : List Nat} {t : Nat} (h : t ∈ l) : Nat.testBit (maskT l) t = true := by
 unfold maskT
 have key : ∀ (l : List Nat) (m : Nat), (t ∈ l ∨ Nat.testBit m t = true) → Nat.testBit (l.foldl (fun m t => Nat.lor m (Nat.shiftLeft 1 t)) m) t = true := by
  intro l
  induction l with
  | nil => intro m h; rcases h with h | h
           · cases h
           · exact h
  | cons u l ih =>
   intro m h
   refine ih _ ?_
   show t ∈ l ∨ Nat.testBit (m ||| 1 <<< u) t = true
   rw [Nat.testBit_or, Bool.or_eq_true, Nat.one_shiftLeft, Nat.testBit_two_pow]
   rcases h with h | h
   · rcases List.mem_cons.1 h with rfl | h
     · exact .inr (.inr (by simp))
     · exact .inl h
   · exact .inr (.inl h)
 exact key l 0 (.inl h)
def infoL (ops : Array Oper) : List (Nat × Option Nat) := ops.toList.map fun o => (maskT (o.looksAt ops), o.dst)
def freeQ (ops : Array Oper) (listed : Array Bool) (i : Nat) : Bool := match (infoL ops)[i]? with
 | none => false
 | some (a, d) => (List.range ops.size).all fun j => (match (infoL ops)[j]? with
  | none => true
  | some (lk, e) => (match d with | some d => !Nat.testBit lk d && (match e with | some e => !Nat.beq e d | none => true) | none => true) && (match e with | some e => !Nat.testBit a e | none => true)) || (j == i || listed.getD j true || dep ops j i)
theorem freeQ_free {ops : Array Oper} {listed : Array Bool} {i : Nat} (h : freeQ ops listed i = true) : Region.free .any ops listed i = true := by
 unfold freeQ infoL at h
 unfold Region.free
 rw [List.getElem?_map] at h
 cases hi : ops[i]? with
 | none =>
  have : ops.toList[i]? = none := by simpa using hi
  rw [this] at h; cases h
 | some oi =>
  have hil : ops.toList[i]? = some oi := by simpa using hi
  rw [hil] at h
  simp only [Option.map_some] at h
  simp only [List.all_eq_true, List.mem_range] at h ⊢
  intro j hj
  have h1 := h j hj
  have hjl : ops.toList[j]? = some ops[j] := by simp [hj]
  rw [List.getElem?_map, hjl] at h1
  rw [Array.getElem?_eq_getElem hj]
  simp only [Option.map_some, Bool.or_eq_true] at h1 ⊢
  rcases h1 with h1 | (h1 | h1) | h1
  · refine .inr (.inr ?_)
    unfold Oper.apart
    simp only [Bool.and_eq_true] at h1 ⊢
    obtain ⟨g1, g2⟩ := h1
    constructor
    · cases hd : oi.dst with
      | none => rfl
      | some d =>
       rw [hd] at g1
       simp only [Bool.and_eq_true, Bool.not_eq_true'] at g1 ⊢
       refine ⟨?_, ?_⟩
       · cases hc : (ops[j].looksAt ops).contains d with
         | false => rfl
         | true => rw [maskT_bit (List.contains_iff_mem.1 hc)] at g1; cases g1.1
       · cases he : ops[j].dst with
         | none => rfl
         | some e =>
          rw [he] at g1
          have g3 := g1.2
          simp only [Bool.not_eq_true'] at g3
          have : e ≠ d := Nat.ne_of_beq_eq_false g3
          simpa using this
    · cases he : ops[j].dst with
      | none => rfl
      | some e =>
       rw [he] at g2
       simp only [Bool.not_eq_true'] at g2 ⊢
       cases hc : (oi.looksAt ops).contains e with
       | false => rfl
       | true => rw [maskT_bit (List.contains_iff_mem.1 hc)] at g2; cases g2
  · exact .inl (.inl h1)
  · exact .inl (.inr h1)
  · refine .inr (.inl ?_)
    unfold dep at h1
    rw [Array.getElem?_eq_getElem hj] at h1
    exact h1
def planP (P : Program) (ops : Array Oper) : Nat → List Nat → Array Bool → List Nat → Option (List PStep)
 | 0, _, _, _ => none
 | f + 1, i :: is, listed, taken => match ops[i]? with
  | some o => match neutral P o && readyAt ops listed i with
   | true => match freeQ ops listed i && selfOk ops o && taken.all (leaves ops o) && (pureOp P o || isLoad ops i) with
    | true => (planP P ops f is (listed.setIfInBounds i true) (i :: taken)).map (.take i :: ·)
    | false => planP P ops f is listed taken
   | false => planP P ops f is listed taken
  | none => none
 | f + 1, [], listed, taken =>
  let c := closeT P ops ops.size listed []
  let pend := c.2.map fun d => (d, chainOf P ops c.2 d)
  let chk := match c.2 with | [] => [] | _ => taken.filter (isLoad ops)
  match c.2.all fun d => lateFree ops d && (match ops[d]? with | some o => selfOk ops o && (taken.filter fun p => !dep ops d p).all (leaves ops o) | none => false) with
  | true => match Region.ready .any ops c.1 with
   | [] => some [.fin chk pend (c.2.filter fun i => !garb P ops i)]
   | [r] => match ops[r]? with
    | some o =>
     let D := chainOf P ops c.2 r
     let taken' := taken.filter fun p => !dep ops r p && D.all fun d => !dep ops d p
     match taken'.all (leaves ops o) && !isLate P ops r with
     | true => (planP P ops f (List.range ops.size) ((D.foldl (fun t i => t.setIfInBounds i true) listed).setIfInBounds r true) taken').map (.req chk pend D r (taken'.filter (isLoad ops)) :: ·)
     | false => none
    | none => none
   | _ => none
  | false => none
noncomputable def planF (P : Program) (ops : Array Oper) : Nat → List Nat → Array Bool → List Nat → Option (List PStep)
 | 0, _, _, _ => none
 | f + 1, i :: is, listed, taken => match ops[i]? with
  | some o => match neutral P o && readyAt ops listed i with
   | true => match freeQ ops listed i && selfOk ops o && taken.all (leaves ops o) && (pureOp P o || isLoad ops i) with
    | true => forceA (listed.setIfInBounds i true) fun t => (planF P ops f is t (i :: taken)).map (.take i :: ·)
    | false => planF P ops f is listed taken
   | false => planF P ops f is listed taken
  | none => none
 | f + 1, [], listed, taken =>
  closeF P ops (List.range ops.size) listed [] fun c1 c2 =>
  let pend := c2.map fun d => (d, chainOf P ops c2 d)
  let chk := match c2 with | [] => [] | _ => taken.filter (isLoad ops)
  match c2.all fun d => lateFree ops d && (match ops[d]? with | some o => selfOk ops o && (taken.filter fun p => !dep ops d p).all (leaves ops o) | none => false) with
  | true => match Region.ready .any ops c1 with
   | [] => some [.fin chk pend (c2.filter fun i => !garb P ops i)]
   | [r] => match ops[r]? with
    | some o =>
     let D := chainOf P ops c2 r
     let taken' := taken.filter fun p => !dep ops r p && D.all fun d => !dep ops d p
     match taken'.all (leaves ops o) && !isLate P ops r with
     | true => forceA ((D.foldl (fun t i => t.setIfInBounds i true) listed).setIfInBounds r true) fun t => (planF P ops f (List.range ops.size) t taken').map (.req chk pend D r (taken'.filter (isLoad ops)) :: ·)
     | false => none
    | none => none
   | _ => none
  | false => none
theorem planF_eq (P : Program) (ops : Array Oper) : ∀ (f : Nat) (is : List Nat) (listed : Array Bool) (taken : List Nat), planF P ops f is listed taken = planP P ops f is listed taken := by
 intro f
 induction f with
 | zero => intro _ _ _; rfl
 | succ f ih =>
  intro is listed taken
  cases is with
  | nil => unfold planF planP; simp only [forceA_eq, closeF_eq, ih]; rfl
  | cons i is => unfold planF planP; simp only [forceA_eq, ih]
noncomputable def planQ (P : Program) (ops : Array Oper) : Option (List PStep) := match plainOps ops with | true => planF P ops ((ops.size + 1) * (ops.size + 2)) (List.range ops.size) ⟨List.replicate ops.size false⟩ [] | false => none
section sound
variable {E : Env} {w0 : World} {ops : Array Oper}
theorem planP_sound (hc : CallOk E.P w0 E.call) (hr : RoundOk E.P w0 E.round) (hpl : Plain ops) {ro : Option Nat} {Q : Exit → Act → World → Prop} (hQp : ∀ c a w, ¬ Q (.panic c) a w) {k : AAct → St → Bool} {ρ0 : Rn} {wa : World} (hwa : w0.heap.size ≤ wa.heap.size)
 (hQ : ∀ a' w', Next E.P w0 ρ0 wa k a' w' → Q .normal a' w') : ∀ (f : Nat) (is : List Nat) (L : Array Bool) (taken : List Nat) (steps : List PStep), planP E.P ops f is L taken = some steps →
 ∀ {m : Nat} {L' : Array Bool} {X : List (Nat × Option Nat)} {J : List (Nat × Value)} {ρ : Rn} {A : AAct} {a : Act} {σ : St} {w : World}, pstepsK E ops steps A σ k = true → Inv E w0 ops ρ0 wa L taken m L' X J ρ A a σ w → AnyJ ro E.P ops Q m J L' a w := by
 intro f
 induction f with
 | zero => intro is L taken steps hp; cases hp
 | succ f ih =>
  intro is L taken steps hp m L' X J ρ A a σ w hk h
  cases is with
  | cons i is =>
   unfold planP at hp
   split at hp
   · rename_i o ho
     split at hp
     · rename_i hneu
       rw [Bool.and_eq_true] at hneu
       obtain ⟨hneu, hrd⟩ := hneu
       have hmem := readyAt_iff.1 hrd
       split at hp
       · rename_i hchk
         simp only [Bool.and_eq_true] at hchk
         obtain ⟨⟨⟨hfree, hself⟩, hleave⟩, hkind⟩ := hchk
         cases hrest : planP E.P ops f is (L.setIfInBounds i true) (i :: taken) with
         | none => rw [hrest] at hp; cases hp
         | some rest =>
          rw [hrest] at hp
          injection hp with hp
          subst hp
          unfold pstepsK at hk
          rw [lrec_cons] at hk
          simp only [ho] at hk
          exact Inv.takeStep hQp hpl hwa ho hmem hneu (freeQ_free hfree) hself hleave hkind (rest := fun A σ => pstepsK E ops rest A σ k) hk (fun hk' h' => ih _ _ _ _ hrest hk' h') h
       · exact ih _ _ _ _ hp hk h
     · exact ih _ _ _ _ hp hk h
   · cases hp
  | nil =>
   unfold planP at hp
   generalize hcl : closeT E.P ops ops.size L [] = c at hp
   simp only at hp
   split at hp
   · rename_i hok
     split at hp
     · rename_i hready
       injection hp with hp
       subst hp
       unfold pstepsK at hk
       rw [lrec_cons] at hk
       simp only at hk
       obtain ⟨hask, hk⟩ := ask_of h.hs hcl hok hk
       exact Inv.finStep hpl hwa hask hready hk hQ m h
     · rename_i r hready
       split at hp
       · rename_i o ho
         split at hp
         · rename_i hleave
           simp only [Bool.and_eq_true, Bool.not_eq_true'] at hleave
           obtain ⟨hleave, hnl⟩ := hleave
           generalize hrest : planP E.P ops f _ _ _ = rest at hp
           cases rest with
           | none => cases hp
           | some rest =>
            injection hp with hp
            subst hp
            unfold pstepsK at hk
            rw [lrec_cons] at hk
            simp only [ho] at hk
            obtain ⟨hask, hk⟩ := ask_of h.hs hcl hok hk
            exact Inv.reqStep hc hr hpl hwa hask ho hready hnl rfl rfl hleave (rest := fun A σ => pstepsK E ops rest A σ k) hk (fun hk' h' => ih _ _ _ _ hrest hk' h') m h
         · cases hp
       · cases hp
     · cases hp
   · cases hp
noncomputable def drP (E : Env) (ops : Array Oper) (A : AAct) (σ : St) (k : AAct → St → Bool) : Bool :=
 match planQ E.P ops with
 | some l => delsK ops (lates l) A fun A => pstepsK E ops l A σ k
 | none => false
theorem drP_ok (hc : CallOk E.P w0 E.call) (hr : RoundOk E.P w0 E.round) (hm : E.P.follows .mixedOrders = true) : DrOk E w0 (drP E) := by
 intro ops A σ k ρ a w ro id Q hk hs hQ
 unfold drP at hk
 split at hk
 · rename_i l hl
   unfold planQ at hl
   split at hl
   · rename_i hplain
     rw [planF_eq] at hl
     have hl : planP E.P ops ((ops.size + 1) * (ops.size + 2)) (List.range ops.size) (Array.replicate ops.size false) [] = some l := hl
     have hpl := plainOps_spec hplain
     obtain ⟨A', hk, hA', hmk⟩ := delsK_true hs.act hk
     let Q0 : Exit → Act → World → Prop := fun e a' w' => e = .normal ∧ Next E.P w0 ρ w k a' w'
     have hno : ∀ j, ¬ On (Array.replicate ops.size false) j := fun j h => by
      unfold On at h
      rcases Nat.lt_or_ge j ops.size with h' | h'
      · simp [h'] at h
      · simp [h'] at h
     have hrem : rem (Array.replicate ops.size false) ≤ ops.size := by
      unfold rem
      refine Nat.le_trans (List.countP_le_length) ?_
      simp
     have h := planP_sound hc hr hpl (ro := ro) (Q := Q0) (fun c a w h => by cases h.1) (ρ0 := ρ) (wa := w) hs.rel.base.size (fun a' w' h => ⟨rfl, h⟩) _ _ _ _ l hl (m := ops.size) (X := []) (J := []) hk
      ⟨⟨hA', hs.rel.drew, by rw [hmk]; exact hs.marks⟩, Stp.drew ρ w, Array.size_replicate, Array.size_replicate, fun j => by simp, fun j h => absurd h (hno j), by simp, by simp, by simp, by simp, by simp, fun j h => absurd h (hno j), by simp, hrem, trivial, by simp⟩
     exact wpIn_mono (wpIn_region_any hm h.any) fun e a' w' hq => by obtain ⟨rfl, hn⟩ := hq; exact hQ a' w' hn
   · cases hl
 · cases hk
end sound
end Go.Am

namespace Go.Am
open Go.RowKit Go.MapKept

noncomputable def lopW (P : Program) (ops : Array Oper) (i : Nat) (o : Oper) : OpW := match convSrc P ops i with
 | none => opW P o
 | some j => match ops[j]? with
  | some q => ⟨fun E A σ K => (opW P q).f E A σ fun s σ' => match s with
   | .slice (some ⟨b, 0, none⟩) _ _ => match Nat.beq b σ.n with
    | true => putAK A q.dst s fun A' => (opW P o).f E A' σ' fun v _ => match v with
     | .string _ => K v σ
     | _ => false
    | false => false
   | _ => false⟩
  | none => ⟨fun _ _ _ _ => false⟩
theorem lopW_eq (E : Env) (ops : Array Oper) (i : Nat) (o : Oper) (A : AAct) (σ : St) (K : VK) : (lopW E.P ops i o).f E A σ K = lopK E ops i o A σ K := by
 unfold lopW lopK
 cases convSrc E.P ops i with
 | none => exact opW_eq E o A σ K
 | some j =>
  simp only
  cases ops[j]? with
  | none => rfl
  | some q => simp only [opW_eq] <;> rfl
noncomputable def lateW (P : Program) (ops : Array Oper) (l : List Nat) : StW :=
 lrec (β := StW) ⟨fun _ A σ k => k A σ⟩ (fun i _ ih => match ops[i]? with
  | some o => ⟨fun E A σ k => (lopW P ops i o).f E A σ fun v σ => putW o.dst v A fun A => ih.f E A σ k⟩
  | none => ⟨fun _ _ _ _ => false⟩) l
theorem putW_eq (d : Option Tmp) (v : Value) (A : AAct) (k : AAct → Bool) : putW d v A k = putAK A d v k := by cases d <;> rfl
theorem lateW_eq (E : Env) (ops : Array Oper) : ∀ (l : List Nat) (A : AAct) (σ : St) (k : KS), (lateW E.P ops l).f E A σ k = lateK E ops l A σ k := by
 intro l
 induction l with
 | nil => intro A σ k; rfl
 | cons i l ih =>
  intro A σ k
  unfold lateW lateK at ih ⊢
  rw [lrec_cons, lrec_cons]
  cases ops[i]? with
  | none => rfl
  | some o =>
   simp only [lopW_eq, putW_eq]
   congr 1
   funext v σ
   congr 1
   funext A
   exact ih A σ k
noncomputable def preW (P : Program) (ops : Array Oper) (l : List (Nat × List Nat)) : ChW :=
 lrec (β := ChW) ⟨fun _ _ _ k => k⟩ (fun p _ ih => match ops[p.1]? with
  | some o => ⟨fun E A σ k => absK A o (bcase ((lateW P ops p.2).f E A σ fun A σ => (lopW P ops p.1 o).f E A σ fun _ _ => true) (ih.f E A σ k) false)⟩
  | none => ⟨fun _ _ _ _ => false⟩) l
theorem preW_eq (E : Env) (ops : Array Oper) (A : AAct) (σ : St) (k : Bool) : ∀ (l : List (Nat × List Nat)), (preW E.P ops l).f E A σ k = preK E ops A σ l k := by
 intro l
 induction l with
 | nil => rfl
 | cons p l ih =>
  unfold preW preK at ih ⊢
  rw [lrec_cons, lrec_cons]
  cases ops[p.1]? with
  | none => rfl
  | some o => simp only [lateW_eq, lopW_eq, ih]
noncomputable def pstepsW (P : Program) (ops : Array Oper) (l : List PStep) : StW :=
 lrec (β := StW) ⟨fun _ _ _ _ => false⟩ (fun s _ ih => match s with
  | .take i => match ops[i]? with
   | some o => ⟨fun E A σ k => (doW P ops o).f E A σ fun A σ => ih.f E A σ k⟩
   | none => ⟨fun _ _ _ _ => false⟩
  | .req chk pend D r chk' => match ops[r]? with
   | some o => ⟨fun E A σ k => (chkW P ops chk).f E A σ ((preW P ops pend).f E A σ ((lateW P ops D).f E A σ fun A σ => (doW P ops o).f E A σ fun A σ => (chkW P ops chk').f E A σ (ih.f E A σ k)))⟩
   | none => ⟨fun _ _ _ _ => false⟩
  | .fin chk pend D => ⟨fun E A σ k => (chkW P ops chk).f E A σ ((preW P ops pend).f E A σ ((lateW P ops D).f E A σ k))⟩) l
theorem pstepsW_eq (E : Env) (ops : Array Oper) : ∀ (l : List PStep) (A : AAct) (σ : St) (k : KS), (pstepsW E.P ops l).f E A σ k = pstepsK E ops l A σ k := by
 intro l
 induction l with
 | nil => intro A σ k; rfl
 | cons s l ih =>
  intro A σ k
  unfold pstepsW pstepsK at ih ⊢
  rw [lrec_cons, lrec_cons]
  cases s with
  | take i =>
   simp only
   cases ops[i]? with
   | none => rfl
   | some o => simp only [doW_eq, ih]
  | req chk pend D r chk' =>
   simp only
   cases ops[r]? with
   | none => rfl
   | some o => simp only [doW_eq, chkW_eq, preW_eq, lateW_eq, ih]
  | fin chk pend D => simp only [chkW_eq, preW_eq, lateW_eq]
noncomputable def regL (P : Program) (ops : Array Oper) (draw : Bool) : StW :=
 match draw with
 | true => match planQ P ops with
  | some l => match lates l with
   | [] => pstepsW P ops l
   | ls => ⟨fun E A σ k => delsK ops ls A fun A => (pstepsW P ops l).f E A σ k⟩
  | none => ⟨fun _ _ _ _ => false⟩
 | false => opsW P ops ops.toList
theorem regL_eq (E : Env) (ops : Array Oper) (draw : Bool) (A : AAct) (σ : St) (k : KS) : (regL E.P ops draw).f E A σ k = bcase draw (drP E ops A σ k) (opsK E ops ops.toList A σ k) := by
 cases draw with
 | true =>
  unfold regL drP bcase
  simp only
  cases planQ E.P ops with
  | none => rfl
  | some l =>
   simp only
   cases h : lates l with
   | nil => exact pstepsW_eq E ops l A σ k
   | cons d ls => simp only [pstepsW_eq]
 | false => exact opsW_eq E ops _ A σ k

noncomputable def codeL (P : Program) (c : Code) : CdW :=
 crec (β := CdW)
  ⟨fun _ _ A σ K => K .normal A σ⟩
  (fun ops draw => ⟨fun E _ A σ K => (regL P ops draw).f E A σ fun A σ => K .normal A σ⟩)
  (fun ha hb => ⟨fun E r A σ K => ha.f E r A σ fun e A σ => match e with | .normal => hb.f E r A σ K | e => K e A σ⟩)
  (fun c ha hb => ⟨fun E r A σ K => (evW c).f A fun v => match v with | .bool b => bcase b (ha.f E r A σ K) (hb.f E r A σ K) | _ => false⟩)
  (fun id h => ⟨fun E r A σ K => h.f E r A σ fun e A σ => match e with
   | .exit i => match Nat.beq i id with | true => K .normal A σ | false => K (.exit i) A σ
   | e => K e A σ⟩)
  (fun h => ⟨fun E r A σ K => loopK (h.f E r) E.most A σ K⟩)
  (fun h => h)
  (fun f params assign body => ⟨fun E r A σ K => rangeK E r f params assign body A σ K⟩)
  (fun id => ⟨fun _ _ A σ K => K (.exit id) A σ⟩)
  ⟨fun _ _ A σ K => K .normal A σ⟩
  ⟨fun _ _ A σ K => K .ret A σ⟩
  ⟨fun _ _ _ _ _ => false⟩ c
theorem codeL_eq (E : Env) (r : Option Nat) : ∀ (c : Code) (A : AAct) (σ : St) (K : CK'), (codeL E.P c).f E r A σ K = codeK E (drP E) r c A σ K := by
 intro c
 induction c with
 | skip => intro A σ K; rfl
 | region id ops draw =>
  intro A σ K
  show (regL E.P ops draw).f E A σ (fun A σ => K .normal A σ) = bcase draw (drP E ops A σ fun A σ => K .normal A σ) (opsK E ops ops.toList A σ fun A σ => K .normal A σ)
  exact regL_eq E ops draw A σ _
 | seq a b iha ihb =>
  intro A σ K
  show (codeL E.P a).f E r A σ (fun e A σ => match e with | .normal => (codeL E.P b).f E r A σ K | e => K e A σ) = codeK E (drP E) r a A σ fun e A σ => match e with | .normal => codeK E (drP E) r b A σ K | e => K e A σ
  rw [iha]
  congr 1
  funext e A σ
  cases e with
  | normal => exact ihb A σ K
  | _ => rfl
 | cond c a b iha ihb =>
  intro A σ K
  show (evW c).f A (fun v => match v with | .bool b' => bcase b' ((codeL E.P a).f E r A σ K) ((codeL E.P b).f E r A σ K) | _ => false) = evK A c fun v => match v with | .bool b' => bcase b' (codeK E (drP E) r a A σ K) (codeK E (drP E) r b A σ K) | _ => false
  rw [evW_eq, iha, ihb]
 | block id a ih =>
  intro A σ K
  show (codeL E.P a).f E r A σ (fun e A σ => match e with
   | .exit i => match Nat.beq i id with | true => K .normal A σ | false => K (.exit i) A σ
   | e => K e A σ) = _
  rw [ih]
  rfl
 | loop a ih =>
  intro A σ K
  show loopK ((codeL E.P a).f E r) E.most A σ K = loopK (codeK E (drP E) r a) E.most A σ K
  have : (codeL E.P a).f E r = codeK E (drP E) r a := by funext A σ K; exact ih A σ K
  rw [this]
 | scope a ih => intro A σ K; exact ih A σ K
 | _ => intros; rfl

noncomputable def fnL (P : Program) (f : FuncId) : FnW :=
 match P.funcs[f]? with
 | some fn => match fn.body with
  | some c => ⟨fun E args σ K => forceN fn.ntmps fun n => layTK n args fun ts => (codeL P c).f E none ⟨ts, [], P.globals.size⟩ σ fun e A σ =>
   match e with
   | .exit _ => false
   | _ => marksK A.marks σ fun σ => resultsK P fn.results.toList A σ fun vs => match vs with | [v] => K v σ | vs => K (.tuple ⟨vs⟩) σ⟩
  | none => ⟨fun _ _ _ _ => false⟩
 | none => ⟨fun _ _ _ _ => false⟩
theorem fnL_eq (E : Env) (f : FuncId) (args : List Value) (σ : St) (K : VK) : (fnL E.P f).f E args σ K = enterK E (drP E) f args σ K := by
 unfold fnL enterK
 cases E.P.funcs[f]? with
 | none => rfl
 | some fn =>
  simp only
  cases fn.body with
  | none => rfl
  | some c => simp only [codeL_eq] <;> rfl
noncomputable def roundL (P : Program) (E : Env) (l : Nat) (args : List Value) (σ : St) (K : VK) : Bool :=
 getK σ.h l fun o => match o with
  | .loop tmps params assign body _ _ =>
   let laid : List Tmp → List Value → Tm → (Tm → Bool) → Bool := fun ps => lrec (β := List Value → Tm → (Tm → Bool) → Bool)
    (fun as ts k => match as with | [] => k ts | _ => false) (fun p _ ih as ts k => match as with | a :: as => setTK a ts p fun ts => ih as ts k | [] => false) ps
   laid params args tmps fun ts => (codeL P assign).f E (some l) ⟨ts, [], P.globals.size⟩ σ fun e A σ => match e with
    | .normal => getK σ.h l fun o => match o with
     | .loop tm ps as bo .ready pe => setK σ l (.loop tm ps as bo .busy pe) fun σ => (codeL P body).f E (some l) A σ fun e _ σ =>
      getK σ.h l fun o => match o with
       | .loop tm ps as bo _ _ => match e with
        | .normal => setK σ l (.loop tm ps as bo .ready none) fun σ => K (.bool true) σ
        | .ret => setK σ l (.loop tm ps as bo .done (some .ret)) fun σ => K (.bool false) σ
        | .exit id => setK σ l (.loop tm ps as bo .done (some (.exit id))) fun σ => K (.bool false) σ
       | _ => false
     | _ => false
    | _ => false
  | _ => false
theorem roundL_eq (E : Env) (l : Nat) (args : List Value) (σ : St) (K : VK) : roundL E.P E l args σ K = roundK E (drP E) l args σ K := by
 unfold roundL roundK
 simp only [codeL_eq] <;> rfl

noncomputable def envL (P : Program) (ov : FuncId → Option (List Value → St → VK → Bool)) (most : Nat) (n : Nat) : Env :=
 nrec (β := Env) { P, ov, call := fun _ _ _ _ => false, round := fun _ _ _ _ => false, most }
  (fun _ E => { P, ov, call := fun f args σ K => match ov f with | some g => g args σ K | none => (fnL P f).f E args σ K, round := fun l args σ K => roundL P E l args σ K, most }) n
theorem envL_eq (P : Program) (ov : FuncId → Option (List Value → St → VK → Bool)) (most : Nat) : ∀ n, envL P ov most n = env P ov drP most n := by
 intro n
 induction n with
 | zero => rfl
 | succ n ih =>
  have hP := env_P P ov drP most n
  have h1 : ∀ f args σ K, (fnL P f).f (env P ov drP most n) args σ K = enterK (env P ov drP most n) (drP (env P ov drP most n)) f args σ K := by
   intro f args σ K
   rw [← fnL_eq, hP]
  have h2 : ∀ l args σ K, roundL P (env P ov drP most n) l args σ K = roundK (env P ov drP most n) (drP (env P ov drP most n)) l args σ K := by
   intro l args σ K
   rw [← roundL_eq, hP]
  show ({ P, ov, call := fun f args σ K => match ov f with | some g => g args σ K | none => (fnL P f).f (envL P ov most n) args σ K, round := fun l args σ K => roundL P (envL P ov most n) l args σ K, most } : Env) = _
  rw [ih]
  simp only [h1, h2]
  rfl
theorem callOk_run {P : Program} {ov : FuncId → Option (List Value → St → VK → Bool)} {most n : Nat} {w0 : World} (hov : OvOk P w0 ov) (hnames : ∀ (f : FuncId) (fn : Func), P.funcs[f]? = some fn → fn.name ≠ "runtime.NumGoroutine") (hm : P.follows .mixedOrders = true) :
 CallOk P w0 (envL P ov most n).call := by
 rw [envL_eq]
 exact (env_sound (w0 := w0) (ov := ov) (dr := drP) (most := most) hov hnames (fun E hE hc hr => drP_ok (by rw [hE]; exact hc) (by rw [hE]; exact hr) (by rw [hE]; exact hm)) n).1
end Go.Am

namespace Go.Am
open Go.RowKit Go.MapKept
section
variable {P : Program} {w0 : World} {ρ : Rn} {σ : St} {w w' : World}

theorem base_below (hw : Below w0.heap.size w0 w) (hb : Below w.heap.size w w') : Below w0.heap.size w0 w' := hw.trans (hb.mono hw.size)
theorem Rel.below (h : Rel P w0 ρ σ w) (hb : Below w.heap.size w w') : Rel P w0 ρ σ w' ∧ Stp ρ w ρ w' :=
 ⟨⟨h.glob, fun i o hi => (h.objs i o hi).frame (.refl ρ) fun L hL => hb.block _ (h.loc i L hL), h.dom, h.lt, fun i L hi => Nat.lt_of_lt_of_le (h.loc i L hi) hb.size, h.sep, h.old, base_below h.base hb⟩,
   .refl ρ, ⟨hb.size, fun c hc _ => hb.block c hc⟩, fun _ _ h => .inl h⟩

end
end Go.Am

namespace Go.Am
open Go.RowKit Go.MapKept

structure GVar where
 g : Nat
 vs : List Value
 e : TypeId
 m : Nat
def Rn.laid (n : Nat) (l : List GVar) : Rn := fun i => if i < n then some ⟨i, 0, 0, match l.find? (fun x => x.g == i) with | some x => x.m | none => 0⟩ else none
def St.laid (n : Nat) (l : List GVar) : St := ⟨l.foldr (fun x h => h.put x.g (.cells x.vs x.e .ro)) .leaf, n⟩
def GOk (P : Program) (l : List GVar) : Prop := (l.map (·.g)).Nodup ∧ ∀ x ∈ l, x.g < P.globals.size ∧ sizeT P x.e = some x.m ∧ ∀ v ∈ x.vs, flat0 v = true
def Laid (l : List GVar) (w : World) : Prop := ∀ x ∈ l, ∃ cs t fz, w.heap[x.g]? = some (.cells cs t fz) ∧ ∀ (j : Nat) (v : Value), x.vs[j]? = some v → cs[j]? = some v
theorem Laid.below {l : List GVar} {w w' : World} {n : Nat} (h : Laid l w) (hb : Below n w w') (hn : ∀ x ∈ l, x.g < n) : Laid l w' := by
 intro x hx
 obtain ⟨cs, t, fz, h1, h2⟩ := h x hx
 exact ⟨cs, t, fz, by rw [hb.block _ (hn x hx)]; exact h1, h2⟩
theorem St.laid_obj {n : Nat} : ∀ {l : List GVar}, (l.map (·.g)).Nodup → ∀ {i : Nat} {o : AObj}, (St.laid n l).obj i = some o → ∃ x ∈ l, x.g = i ∧ o = .cells x.vs x.e .ro := by
 intro l
 induction l with
 | nil => intro _ i o h; cases h
 | cons y l ih =>
  intro hnd i o h
  have hnd := List.nodup_cons.1 (by simpa using hnd : (y.g :: l.map (·.g)).Nodup)
  have h : ((St.laid n l).h.put y.g (.cells y.vs y.e .ro)).get i = some o := h
  rw [get_put] at h
  split at h
  · rename_i e
    injection h with h
    exact ⟨y, .head _, e.symm, h.symm⟩
  · obtain ⟨x, hx, h1, h2⟩ := ih hnd.2 h
    exact ⟨x, .tail _ hx, h1, h2⟩
theorem Rel.laid {P : Program} {l : List GVar} {w : World} (hg : GOk P l) (hsz : P.globals.size ≤ w.heap.size) (h : Laid l w) : Rel P w (Rn.laid P.globals.size l) (St.laid P.globals.size l) w := by
 have hr : ∀ i L, Rn.laid P.globals.size l i = some L → i < P.globals.size ∧ L.b = i ∧ L.s = 0 := by
  intro i L h
  unfold Rn.laid at h
  split at h
  · rename_i hi; injection h with h; subst h; exact ⟨hi, rfl, rfl⟩
  · cases h
 have hin : ∀ i, i < P.globals.size → ∃ L, Rn.laid P.globals.size l i = some L ∧ L.b = i ∧ L.s = 0 := fun i hi => ⟨_, if_pos hi, rfl, rfl⟩
 refine ⟨hin, fun i o ho => ?_, fun i hi => ?_, fun i o ho => ?_, fun i L hi => ?_, fun i j a b L M hij _ _ _ _ hL hM hb => ?_, fun j vs e olds ho => ?_, ⟨rfl, rfl, rfl, Nat.le_refl _, fun _ _ => rfl⟩⟩
 · obtain ⟨x, hx, rfl, rfl⟩ := St.laid_obj hg.1 ho
   obtain ⟨cs, t, fz, h1, h2⟩ := h x hx
   obtain ⟨hlt, hm, hfl⟩ := hg.2 x hx
   have hfind : l.find? (fun y => y.g == x.g) = some x := by
    have : ∀ (l : List GVar), (l.map (·.g)).Nodup → x ∈ l → l.find? (fun y => y.g == x.g) = some x := by
     intro l
     induction l with
     | nil => intro _ h; cases h
     | cons y l ih =>
      intro hnd hx
      have hnd := List.nodup_cons.1 (by simpa using hnd : (y.g :: l.map (·.g)).Nodup)
      rw [List.find?_cons]
      rcases List.mem_cons.1 hx with e | hx
      · subst e; simp
      · have : y.g ≠ x.g := fun e => hnd.1 (e ▸ List.mem_map.2 ⟨x, hx, rfl⟩)
        have hb : (y.g == x.g) = false := by simpa using this
        rw [hb]; exact ih hnd.2 hx
    exact this l hg.1 hx
   refine ⟨⟨x.g, 0, 0, x.m⟩, cs, t, fz, by unfold Rn.laid; rw [if_pos hlt, hfind], h1, fun j v hj => ⟨v, by simpa using h2 j v hj, .flat (hfl v (List.mem_of_getElem? hj))⟩, hm⟩
 · have : P.globals.size ≤ i := hi
   unfold Rn.laid
   rw [if_neg (by omega)]
 · obtain ⟨x, hx, rfl, _⟩ := St.laid_obj hg.1 ho
   exact (hg.2 x hx).1
 · obtain ⟨h1, h2, _⟩ := hr i L hi
   omega
 · obtain ⟨_, h2, _⟩ := hr i L hL
   obtain ⟨_, h4, _⟩ := hr j M hM
   omega
 · obtain ⟨x, _, _, h2⟩ := St.laid_obj hg.1 ho
   injection h2 with _ _ h2
   cases h2

/-! ### functions that were evaluated once -/
noncomputable def sameInts (a b : List Value) : Bool :=
 lrec (β := List Value → Bool) (fun b => match b with | [] => true | _ => false) (fun x _ ih b => match b with | y :: b => (match same1 x y with | true => ih b | false => false) | [] => false) a b
theorem VRs.flat1s {ρ : Rn} {l : List Value} (h : ∀ v ∈ l, flat1 v = true) : VRs ρ l l :=
 ⟨rfl, fun k v v' a b => by rw [a] at b; injection b with b; subst b; exact .flat1 (h v (List.mem_of_getElem? a))⟩
theorem sameInts_sound {ρ : Rn} : ∀ {a b b' : List Value}, (∀ v ∈ a, flat1 v = true) → sameInts a b = true → VRs ρ b b' → b' = a := by
 intro a
 induction a with
 | nil =>
  intro b b' _ h hv
  unfold sameInts at h
  rw [lrec_nil] at h
  split at h
  · exact hv.inv_nil
  · cases h
 | cons x a ih =>
  intro b b' hf h hv
  unfold sameInts at h
  rw [lrec_cons] at h
  split at h
  · rename_i y t
    obtain ⟨y', t', rfl, h1, h2⟩ := hv.inv_cons
    split at h
    · rename_i hxy
      rw [ih (fun v hv => hf v (.tail _ hv)) h h2, ← same1_sound hxy (.flat1 (hf x (.head _))) h1]
    · cases h
  · cases h
noncomputable def memoK (tbl : List (List Value × Value)) (args : List Value) (σ : St) (K : VK) : Bool :=
 lrec (β := Bool) false (fun x _ ih => bcase (sameInts x.1 args) (K x.2 σ) ih) tbl
noncomputable def answers (r v : Value) : Bool := same1 r v
def MemoRow (P : Program) (ov : FuncId → Option (List Value → St → VK → Bool)) (most n : Nat) (f : FuncId) (l : List GVar) (x : List Value × Value) : Prop :=
 (∀ v ∈ x.1, flat1 v = true) ∧ flat1 x.2 = true ∧ (envL P ov most n).call f x.1 (St.laid P.globals.size l) (fun v _ => answers x.2 v) = true
theorem memo_ok {P : Program} {w0 : World} {ov : FuncId → Option (List Value → St → VK → Bool)} {most n : Nat} {f : FuncId} {l : List GVar} {tbl : List (List Value × Value)} (hg : GOk P l) (hsz : P.globals.size ≤ w0.heap.size) (hl : Laid l w0)
 (hov : ∀ w, P.globals.size ≤ w.heap.size → Laid l w → OvOk P w ov) (hnames : ∀ (f : FuncId) (fn : Func), P.funcs[f]? = some fn → fn.name ≠ "runtime.NumGoroutine") (hm : P.follows .mixedOrders = true)
 (hf : ∀ args w, (callFunc f args).run P w = .ok (.enter f args) w) (ht : ∀ x ∈ tbl, MemoRow P ov most n f l x) :
 CallOk P w0 (fun f' args σ K => match Nat.beq f' f with | true => memoK tbl args σ K | false => false) := by
 intro f' args σ K ρ w args' hk hr ha
 dsimp only at hk
 split at hk
 · rename_i hf'
   obtain rfl : f' = f := by simpa using hf'
   refine ⟨hf ⟨args'⟩, ?_⟩
   have hsz' : P.globals.size ≤ w.heap.size := Nat.le_trans hsz hr.base.size
   have hlw : Laid l w := hl.below hr.base fun x hx => Nat.lt_of_lt_of_le (hg.2 x hx).1 hsz
   revert hk
   induction tbl with
   | nil => intro hk; cases hk
   | cons x tbl ih =>
    intro hk
    unfold memoK at hk
    rw [lrec_cons] at hk
    cases hs : sameInts x.1 args with
    | false => rw [hs] at hk; exact ih (fun y hy => ht y (.tail _ hy)) hk
    | true =>
     rw [hs] at hk
     have hk : K x.2 σ = true := hk
     obtain ⟨m1, m2, m3⟩ := ht x (.head _)
     have hargs := sameInts_sound m1 hs ha
     subst hargs
     obtain ⟨_, hcall⟩ := callOk_run (w0 := w) (hov w hsz' hlw) hnames hm f' x.1 _ _ _ w x.1 m3 (Rel.laid hg hsz' hlw) (VRs.flat1s m1)
     refine CallsIn.mono hcall ?_
     rintro e w' ⟨v', rfl, ρ', v, σ', hkv, hv, hrel, _⟩
     have hv' : x.2 = v' := same1_sound hkv (.flat1 m2) hv
     subst hv'
     obtain ⟨h1, h2⟩ := hr.below hrel.base
     exact ⟨_, rfl, ρ, _, σ, hk, .flat1 m2, h1, h2⟩
 · cases hk
noncomputable def ovWith (f : FuncId) (g : List Value → St → VK → Bool) (ov : FuncId → Option (List Value → St → VK → Bool)) (f' : FuncId) : Option (List Value → St → VK → Bool) := bcase (Nat.beq f' f) (some g) (ov f')
theorem ovWith_ok {P : Program} {w0 : World} {f : FuncId} {g : List Value → St → VK → Bool} {ov : FuncId → Option (List Value → St → VK → Bool)} (h : CallOk P w0 (fun f' args σ K => match Nat.beq f' f with | true => g args σ K | false => false)) (hov : OvOk P w0 ov) : OvOk P w0 (ovWith f g ov) := by
 intro f' g' hg
 unfold ovWith at hg
 cases hb : Nat.beq f' f with
 | true =>
  rw [hb] at hg
  injection hg with hg
  subst hg
  obtain rfl : f' = f := by simpa using hb
  exact h
 | false => rw [hb] at hg; exact hov f' g' hg
end Go.Am

namespace Go.Am
open Go.RowKit Go.MapKept

/-! ### the same, letter by letter -/
/-! ### a place in a function: what is known there -/
/-! ### code, cut -/
section
variable {E : Env} {w0 : World}
end
end Go.Am

namespace Go.Am
open Go.RowKit Go.MapKept

noncomputable def rIf (c : Value) (a b : Bool) : Bool := match c with | .bool v => bcase v a b | _ => false
noncomputable def rPick (c a b : Value) (K : Value → Bool) : Bool := match c with
 | .bool true => K a
 | .bool false => K b
 | _ => false
noncomputable def rLd (a : Value) (σ : St) (K : VK) : Bool := match a with
 | .pointer (some ⟨i, o, none⟩) => cellsK σ i fun vs _ _ => nthK vs o fun v => K v σ
 | _ => false
noncomputable def rLdN (n : Nat) (a : Value) (σ : St) (K : VK) : Bool := match a with
 | .pointer (some ⟨i, o, none⟩) => readK σ i o n fun l => K (.agg ⟨l⟩) σ
 | _ => false
noncomputable def rSt (n : Nat) (a x : Value) (σ : St) (k : St → Bool) : Bool := match a with
 | .pointer (some ⟨i, o, none⟩) => cellsOfK x fun cs => lenK cs fun m => match Nat.beq m n with
  | true => writeK σ i o cs k
  | false => false
 | _ => false
noncomputable def rAlloc (zero : List Value) (t : TypeId) (σ : St) (K : VK) : Bool := layK zero fun zero => newK σ (.cells zero t .exact) fun i σ => K (.pointer (some ⟨i, 0, none⟩)) σ
noncomputable def rFill (parts : List (Nat × Nat × Value)) (cells : List Value) (k : List Value → Bool) : Bool :=
 lrec (β := List Value → Bool) (fun cs => k cs) (fun p _ ih cs => cellsOfK p.2.2 fun new => lenK new fun m => match Nat.beq m p.2.1 with
  | true => spliceK p.1 new cs ih
  | false => false) parts cells
noncomputable def rBuild (zero : List Value) (parts : List (Nat × Nat × Value)) (K : Value → Bool) : Bool := rFill parts zero fun cs => K (.agg ⟨cs⟩)
noncomputable def rBuildS (elem : TypeId) (n : Nat) (zero : List Value) (parts : List (Nat × Nat × Value)) (σ : St) (K : VK) : Bool :=
 repK zero n fun cs => rFill parts cs fun cs => newK σ (.cells cs elem .exact) fun i σ => K (.slice (some ⟨i, 0, none⟩) n n) σ
noncomputable def rFld (off : Nat) (x : Value) (K : Value → Bool) : Bool := match x with
 | .pointer (some ⟨b, o, none⟩) => forceN (o + off) fun o => K (.pointer (some ⟨b, o, none⟩))
 | _ => false
noncomputable def rField (off : Nat) (x : Value) (K : Value → Bool) : Bool := match x with
 | .agg cs => nthK cs.toList off K
 | _ => false
noncomputable def rFieldN (off n : Nat) (x : Value) (K : Value → Bool) : Bool := match x with
 | .agg cs => dropK off cs.toList fun l => takeK n l fun l => K (.agg ⟨l⟩)
 | _ => false
noncomputable def rIdx (size : Nat) (x ix : Value) (K : Value → Bool) : Bool := match ix with
 | .int _ (.ofNat i) => match x with
  | .slice (some ⟨b, o, sp⟩) len _ => match sp with
   | some (_ + 1) => false
   | _ => match Nat.blt i len with
    | true => forceN (o + i * size) fun o => K (.pointer (some ⟨b, o, none⟩))
    | false => false
  | _ => false
 | _ => false
noncomputable def rStrAt (x ix : Value) (K : Value → Bool) : Bool := match ix with
 | .int _ (.ofNat i) => match x with
  | .string s => nthK s.data.toList i fun b => forceN b.toNat fun n => K (.int .u8 (.ofNat n))
  | _ => false
 | _ => false
noncomputable def rExt (i : Nat) (x : Value) (K : Value → Bool) : Bool := match x with
 | .tuple vs => nthK vs.toList i fun v => K v
 | _ => false
noncomputable def rInt (k : IntKind) (x : Value) (K : Value → Bool) : Bool := match x with
 | .int _ n => intK k n fun v => K v
 | _ => false
noncomputable def rLenS (x : Value) (K : Value → Bool) : Bool := match x with
 | .slice _ n _ => K (.int .i64 (.ofNat n))
 | _ => false
noncomputable def rLenT (x : Value) (K : Value → Bool) : Bool := match x with
 | .string s => lenK s.data.toList fun n => K (.int .i64 (.ofNat n))
 | _ => false
noncomputable def rApp (P : Program) (elem : TypeId) (size bytes : Nat) (s x : Value) (σ : St) (K : VK) : Bool := match s with
 | .slice base sLen sCap => lenVK x fun n => match n with
  | 0 => match Nat.ble sLen sCap with | true => K (.slice base sLen sCap) σ | false => false
  | n' + 1 => firstK σ size (n' + 1) x fun new => forceN (sLen + (n' + 1)) fun need =>
   match Nat.ble (need * (bytes + 1)) 1099511627776 with
   | true => match Nat.ble need sCap with
    | true => inRowK size new base sLen sCap need σ K
    | false => newRowK P elem size new base sLen need σ K
   | false => false
 | _ => false
noncomputable def rNil (P : Program) (v : Value) (K : Value → Bool) : Bool := match v with
 | .pointer (some a) => K (.pointer (some a))
 | .func (.func f) a b => K (.func (.func f) a b)
 | .func (.yield f) a b => K (.func (.yield f) a b)
 | .func (.method s) ⟨[.iface t w]⟩ ⟨[]⟩ => match methT P t s with
  | some _ => K (.func (.method s) ⟨[.iface t w]⟩ ⟨[]⟩)
  | none => false
 | .iface t w => K (.iface t w)
 | _ => false
noncomputable def rCallV (call : CallT) (round : Nat → List Value → St → VK → Bool) (f : Value) (args : List Value) (σ : St) (K : VK) : Bool := match f with
 | .func (.func g) first captured => appK first.toList args fun l => appK l captured.toList fun l => call g l σ K
 | .func (.yield l) first captured => match first.toList, captured.toList with
  | [], [] => round l args σ K
  | _, _ => false
 | _ => false
noncomputable def rInv (P : Program) (call : CallT) (r : Value) (m : String) (args : List Value) (σ : St) (K : VK) : Bool := match r with
 | .iface t v => match methT P t m with
  | some g => call g (v :: args) σ K
  | none => false
 | _ => false
noncomputable def rWant (w : Bool) (v : Value) (k : Bool → Bool) : Bool := match v with
 | .bool b => match b, w with | true, true | false, false => k true | _, _ => k false
 | _ => k false
noncomputable def rSame (v u : Value) (k : Bool) : Bool := match sameV v u with | true => k | false => false
noncomputable def rAssert (P : Program) (as : TypeId) (ok : Bool) (v : Value) (K : Value → Bool) : Bool := match v, P.underlying as with
 | .iface _ _, some (.interface _) => false
 | .iface t w, some _ => match Nat.beq t as, ok with
  | true, true => K (.tuple ⟨[w, .bool true]⟩)
  | true, false => K w
  | false, _ => false
 | _, _ => false
end Go.Am
namespace Go.Am
open Go.RowKit Go.MapKept
noncomputable def rGuard (w : Bool) (v : Value) (op : VK → Bool) (σ : St) (k : VK) : Bool := rWant w v fun b => bcase b (op k) (k undef σ)
noncomputable def shut (most : Nat) (b : Bool) : Bool := Nat.rec (motive := fun _ => Bool → Bool) (fun x => x) (fun _ _ x => x) most b
theorem shut_eq (most : Nat) (b : Bool) : shut most b = b := by cases most <;> rfl
noncomputable def rUnd (u : Value) (k : Bool) : Bool := match u with | .tuple ⟨[]⟩ => k | _ => false
noncomputable def rGuardC (w : Bool) (v u : Value) (op : Bool → Bool) (k : Bool) : Bool := rWant w v fun b => bcase b (op k) (rUnd u k)
end Go.Am
namespace Go.Am
noncomputable def rBin (P : Program) (op : BinOp) (t : TypeId) (a b : Value) (K : Value → Bool) : Bool := (binW P op).f t a b K
theorem rBin_eq (P : Program) (op : BinOp) (t : TypeId) (a b : Value) (K : Value → Bool) : rBin P op t a b K = binK P op t a b K := binW_eq P op t a b K
end Go.Am

namespace Go.Am
open Go.RowKit Go.MapKept
def resOp (g : Nat) (b : Bool) (o : Oper) : Oper := match o.guard with
 | some (j, w) => match Nat.beq j g && (w == b) with | true => { o with guard := none } | false => o
 | none => o
def resolveG (ops : Array Oper) (g : Nat) (b : Bool) : Array Oper := ⟨ops.toList.map (resOp g b)⟩
theorem resOp_cases (g : Nat) (b : Bool) (o : Oper) : resOp g b o = o ∨ (resOp g b o = { o with guard := none } ∧ o.guard = some (g, b)) := by
 unfold resOp
 split
 · rename_i j w hg
   split
   · rename_i h
     simp only [Bool.and_eq_true, beq_iff_eq] at h
     have h1 := Nat.eq_of_beq_eq_true h.1
     exact .inr ⟨rfl, by rw [hg, h1, h.2]⟩
   · exact .inl rfl
 · exact .inl rfl
theorem resOp_dst (g : Nat) (b : Bool) (o : Oper) : (resOp g b o).dst = o.dst := by rcases resOp_cases g b o with h | ⟨h, _⟩ <;> rw [h]
theorem resOp_after (g : Nat) (b : Bool) (o : Oper) : (resOp g b o).after = o.after := by rcases resOp_cases g b o with h | ⟨h, _⟩ <;> rw [h]
theorem resOp_op (g : Nat) (b : Bool) (o : Oper) : (resOp g b o).op = o.op := by rcases resOp_cases g b o with h | ⟨h, _⟩ <;> rw [h]
theorem resolveG_at (ops : Array Oper) (g : Nat) (b : Bool) (i : Nat) : (resolveG ops g b)[i]? = ops[i]?.map (resOp g b) := by
 unfold resolveG; simp
theorem resolveG_size (ops : Array Oper) (g : Nat) (b : Bool) : (resolveG ops g b).size = ops.size := by unfold resolveG; simp
theorem resolveG_yielded (ops : Array Oper) (g : Nat) (b : Bool) (t : Array Value) : yielded (resolveG ops g b) t = yielded ops t := by
 funext j
 unfold yielded
 rw [resolveG_at]
 cases ops[j]? with
 | none => rfl
 | some o => simp only [Option.map_some, Option.bind_some, resOp_dst]
theorem resolveG_waits {ops : Array Oper} {g : Nat} {b : Bool} {j e : Nat} : Waits (resolveG ops g b) j e ↔ Waits ops j e := by
 unfold Waits
 rw [resolveG_at]
 cases ops[j]? with
 | none => simp
 | some o =>
  constructor
  · rintro ⟨o', h, x, hx⟩
    injection h with h; subst h
    rw [resOp_after] at hx
    exact ⟨o, rfl, x, hx⟩
  · rintro ⟨o', h, x, hx⟩
    injection h with h; subst h
    exact ⟨_, rfl, x, by rw [resOp_after]; exact hx⟩
theorem resolveG_ready {ops : Array Oper} {g : Nat} {b : Bool} {t : Array Bool} {j : Nat} : j ∈ Region.ready .any (resolveG ops g b) t ↔ j ∈ Region.ready .any ops t := by
 rw [ready_iff, ready_iff, resolveG_size]
 simp only [resolveG_waits]
theorem resolveG_plain {ops : Array Oper} {g : Nat} {b : Bool} (h : Plain ops) : Plain (resolveG ops g b) := by
 intro j o ho
 rw [resolveG_at] at ho
 cases hj : ops[j]? with
 | none => rw [hj] at ho; cases ho
 | some q =>
  rw [hj] at ho; injection ho with ho; subst ho
  rw [resOp_op]
  exact h j q hj
section
variable {P : Program} {ops : Array Oper} {ro : Option Nat} {Q : Exit → Act → World → Prop}
theorem wpOpIn_and {j : Nat} {o : Oper} (hj : ops[j]? = some o) {I : Array Value → Prop} {a : Act} {w : World} (hI : ∀ v, I (a.put o.dst v).tmps) {K : Act → World → Prop} (h : wpOpIn (fnc ro) 0 P ops Q j K a w) : wpOpIn (fnc ro) 0 P ops Q j (fun a' w' => I a'.tmps ∧ K a' w') a w := by
 have hd : ∀ d : Deferred, I (({ a with defers := d :: a.defers } : Act).put o.dst undef).tmps := fun d => by
  have := hI undef
  unfold Act.put at this ⊢
  cases hod : o.dst with
  | none => rw [hod] at this; exact this
  | some d => rw [hod] at this; exact this
 unfold wpOpIn at *
 simp only [hj] at *
 split
 · rename_i hw
   simp only [hw, if_true] at h
   unfold Oper.wpIn at *
   refine ⟨h.1, ?_⟩
   have h := h.2
   generalize (o.semAt (fnc ro).round a.eval).run P w = r at *
   cases r with
   | ok x w' =>
    cases x <;> simp only [Oper.uponIn] at h ⊢
    case value => exact ⟨hI _, h⟩
    case skip => exact ⟨hI undef, h⟩
    case defer => exact ⟨hd _, h⟩
    case enter f args =>
     refine ⟨h.1, CallsIn.mono h.2 fun e w'' he => ?_⟩
     cases e with
     | returned u => exact ⟨hI u, he⟩
     | panicked c => exact he
     | outgrown => exact he
    case row row args => exact ⟨h.1, RowsIn.mono h.2 fun u w'' he => ⟨hI u, he⟩⟩
    case round l f tmps assign body =>
     refine ⟨h.1, RoundIn.mono h.2 fun e w'' he => ?_⟩
     cases e with
     | returned u => exact ⟨hI u, he⟩
     | panicked c => exact he
     | outgrown => exact he
   | halt x w' =>
    cases x <;> simp only [Oper.uponIn] at h ⊢
    case panic u => exact h
 · rename_i hw
   simp only [hw] at h
   exact ⟨h.1, hI undef, h.2⟩
theorem wpIn_res {g : Nat} {b : Bool} {o : Oper} {K : Act → World → Prop} {a : Act} {w : World} (h : (resOp g b o).wpIn (fnc ro) 0 P a w K Q) : o.wpIn (fnc ro) 0 P a w K Q := by
 rcases resOp_cases g b o with e | ⟨e, _⟩
 · rw [e] at h; exact h
 · rw [e] at h; exact h
theorem wpOpIn_res {g : Nat} {b : Bool} {j : Nat} {K : Act → World → Prop} {a : Act} {w : World} (hg : yielded ops a.tmps g = some b) (h : wpOpIn (fnc ro) 0 P (resolveG ops g b) Q j K a w) : wpOpIn (fnc ro) 0 P ops Q j K a w := by
 unfold wpOpIn at *
 rw [resolveG_at, resolveG_yielded] at h
 cases hj : ops[j]? with
 | none => rw [hj] at h; exact h
 | some o =>
  rw [hj] at h
  simp only [Option.map_some] at h ⊢
  rcases resOp_cases g b o with e | ⟨e, hgd⟩
  · rw [e] at h; exact h
  · have h1 : Region.wanted (resOp g b o) (yielded ops a.tmps) = true := by rw [e]; rfl
    have h2 : Region.wanted o (yielded ops a.tmps) = true := by
     unfold Region.wanted
     rw [hgd]
     simp [hg]
    rw [if_pos h1] at h
    rw [if_pos h2]
    exact wpIn_res h
def Stays (ops : Array Oper) (g : Nat) (t : Tmp) (L : Array Bool) : Prop := (∃ o, ops[g]? = some o ∧ o.dst = some t) ∧ ∀ j o, ops[j]? = some o → ¬ On L j → j < L.size → o.dst ≠ some t
theorem Stays.mono {g : Nat} {t : Tmp} {L : Array Bool} {i : Nat} (h : Stays ops g t L) (hi : i < L.size) : Stays ops g t (L.setIfInBounds i true) := ⟨h.1, fun j o ho hn hl => h.2 j o ho (fun c => hn ((On.set hi).2 (.inl c))) (by simpa using hl)⟩
theorem Yl.res {g i : Nat} {b : Bool} {v : Value} {a : Act} {w : World} (hg : yielded ops a.tmps g = some b) : Yl P (resolveG ops g b) i v a w ↔ Yl P ops i v a w := by
 unfold Yl
 rw [resolveG_at, resolveG_yielded]
 cases ops[i]? with
 | none => simp
 | some o =>
  rcases resOp_cases g b o with e | ⟨e, hgd⟩
  · simp only [Option.map_some, e]
  · have h1 : Region.wanted (resOp g b o) (yielded ops a.tmps) = true := by rw [e]; rfl
    have h2 : Region.wanted o (yielded ops a.tmps) = true := by
     unfold Region.wanted
     rw [hgd]
     simp [hg]
    have h3 : execOp a.eval (resOp g b o) = execOp a.eval o := by rw [e]; rfl
    constructor
    · rintro ⟨q, hq, h⟩
      simp only [Option.map_some] at hq
      injection hq with hq; subst hq
      rw [h1, h3] at h
      exact ⟨o, rfl, by rw [h2]; exact h⟩
    · rintro ⟨q, hq, h⟩
      injection hq with hq; subst hq
      rw [h2] at h
      exact ⟨_, rfl, by rw [h1, h3]; exact h⟩
theorem dep_res {g j i : Nat} {b : Bool} : dep (resolveG ops g b) j i = dep ops j i := by
 unfold dep
 rw [resolveG_at]
 cases ops[j]? with
 | none => rfl
 | some o => simp only [Option.map_some, resOp_after]
theorem AnyJ.res {g : Nat} {b : Bool} {t : Tmp} : ∀ {f : Nat} {J : List (Nat × Value)} {L : Array Bool} {a : Act} {w : World}, Stays ops g t L → yielded ops a.tmps g = some b → AnyJ ro P (resolveG ops g b) Q f J L a w → AnyJ ro P ops Q f J L a w := by
 have hr : ∀ {L : Array Bool}, Region.ready .any (resolveG ops g b) L = [] ↔ Region.ready .any ops L = [] := fun {L} => by
  rw [List.eq_nil_iff_forall_not_mem, List.eq_nil_iff_forall_not_mem]
  exact ⟨fun h j hj => h j (resolveG_ready.2 hj), fun h j hj => h j (resolveG_ready.1 hj)⟩
 intro f
 induction f with
 | zero => intro J L a w hs hg h; exact ⟨fun p hp => (Yl.res hg).1 (h.1 p hp), hr.1 h.2.1, h.2.2⟩
 | succ f ih =>
  intro J L a w hs hg h
  refine ⟨fun p hp => (Yl.res hg).1 (h.1 p hp), fun e => h.2.1 (hr.2 e), fun j hj => ?_⟩
  have h1 := wpOpIn_res hg (h.2.2 j (resolveG_ready.2 hj))
  obtain ⟨⟨hlt, hno⟩, hjs, _⟩ := ready_iff.1 hj
  have ho : ops[j]? = some ops[j] := Array.getElem?_eq_getElem hjs
  have hne := hs.2 j _ ho hno hlt
  have h2 := wpOpIn_and (I := fun t => yielded ops t g = some b) ho (fun v => by
   obtain ⟨o, hog, hot⟩ := hs.1
   unfold yielded at hg ⊢
   rw [hog] at hg ⊢
   simp only [Option.bind_some, hot] at hg ⊢
   have : (a.put ops[j].dst v).tmps[t]? = a.tmps[t]? := by
    unfold Act.put
    cases hd : ops[j].dst with
    | none => rfl
    | some d =>
     have hdt : d ≠ t := fun c => hne (by rw [hd, c])
     simp [Array.getElem?_setIfInBounds_ne hdt]
   rw [this]; exact hg) h1
  refine wpOpIn_mono (fun a' w' hk => ?_) h2
  simp only [dep_res] at hk
  exact ih (hs.mono hlt) hk.1 hk.2
theorem Kn.res {g : Nat} {b : Bool} {a : Act} {w : World} {p : Nat × Value} (hg : yielded ops a.tmps g = some b) (h : Kn P ops a w p) : Kn P (resolveG ops g b) a w p := by
 have pu : ∀ o, pureOp P (resOp g b o) = pureOp P o := fun o => by unfold pureOp; rw [resOp_op]
 have lo : ∀ o, loadOp (resOp g b o) = loadOp o := fun o => by unfold loadOp; rw [resOp_op]
 rcases h with ⟨o, h1, h2, h3⟩ | ⟨o, d, h1, h2, h3, h4, h5⟩
 · exact .inl ⟨_, by rw [resolveG_at, h1]; rfl, by rw [pu]; exact h2, fun w => (Yl.res hg).2 (h3 w)⟩
 · exact .inr ⟨_, d, by rw [resolveG_at, h1]; rfl, by rw [lo]; exact h2, (Yl.res hg).2 h3, by rw [resOp_dst]; exact h4, h5⟩
end
section
variable {E : Env} {w0 : World} {ops : Array Oper}
theorem Inv.cut {ρ0 : Rn} {wa : World} {L : Array Bool} {taken : List Nat} {m : Nat} {L' : Array Bool} {X : List (Nat × Option Nat)} {J : List (Nat × Value)} {ρ : Rn} {A : AAct} {a : Act} {σ : St} {w : World} {c : Array Bool × List Nat} {g : Nat} {b : Bool}
 (h : Inv E w0 ops ρ0 wa L taken m L' X J ρ A a σ w) (hc : closeT E.P ops ops.size L [] = c) (hc2 : c.2 = []) (hno : ∀ i ∈ Region.ready .any ops c.1, isLate E.P ops i = false) (hgb : ∀ j, On L j → garb E.P (resolveG ops g b) j = false) (hg : yielded ops a.tmps g = some b) :
 Inv E w0 (resolveG ops g b) ρ0 wa L taken m L' [] J ρ A a σ w := by
 obtain ⟨mm, h1, h2, h3, h4, h5, h6⟩ := closeT_spec _ _ _ hc
 have e2 : mm = [] := by have : c.2 = mm := by rw [h1]; rfl
                         rw [← this]; exact hc2
 subst e2
 have hX : X = [] := by
  cases X with
  | nil => rfl
  | cons p X =>
   have hin : On c.1 p.1 := early_in h.szL hc hno _ [] h.xr (by simp) (fun i hi => by
    rw [List.mem_reverse, List.mem_map] at hi
    obtain ⟨p, hp, rfl⟩ := hi
    exact ⟨(h.xl p hp).2.1, late_lt (h.xl p hp).2.1⟩) p.1 (by rw [List.mem_reverse, List.mem_map]; exact ⟨p, .head _, rfl⟩)
   rcases (h3 p.1).1 hin with q | q
   · exact absurd q (h.xl p (.head _)).2.2
   · cases q
 subst hX
 exact ⟨h.hs, h.stp, by rw [resolveG_size]; exact h.szL, by rw [resolveG_size]; exact h.sz, h.on, fun j hj e he => h.down j hj e (resolveG_waits.1 he), by simp, by simp, by simp, by simp, by simp, hgb, fun p hp => ⟨(h.jf p hp).1, Kn.res hg (h.jf p hp).2⟩, h.fuel, trivial, by simp⟩
end
/-! ### the plan -/
abbrev CutG := Nat × Bool × Array Bool × List Nat
noncomputable def planE (P : Program) (ops : Array Oper) : Nat → List Nat → Array Bool → List Nat → Option (List PStep × Option CutG)
 | 0, _, _, _ => none
 | f + 1, i :: is, listed, taken => match ops[i]? with
  | some o => match neutral P o && readyAt ops listed i with
   | true => match freeQ ops listed i && selfOk ops o && taken.all (leaves ops o) && (pureOp P o || isLoad ops i) with
    | true => forceA (listed.setIfInBounds i true) fun t => (planE P ops f is t (i :: taken)).map fun p => (.take i :: p.1, p.2)
    | false => planE P ops f is listed taken
   | false => planE P ops f is listed taken
  | none => none
 | f + 1, [], listed, taken =>
  closeF P ops (List.range ops.size) listed [] fun c1 c2 =>
  let pend := c2.map fun d => (d, chainOf P ops c2 d)
  let chk := match c2 with | [] => [] | _ => taken.filter (isLoad ops)
  match c2.all fun d => lateFree ops d && (match ops[d]? with | some o => selfOk ops o && (taken.filter fun p => !dep ops d p).all (leaves ops o) | none => false) with
  | true => match Region.ready .any ops c1 with
   | [] => some ([.fin chk pend (c2.filter fun i => !garb P ops i)], none)
   | [r] => match ops[r]? with
    | some o =>
     let D := chainOf P ops c2 r
     let taken' := taken.filter fun p => !dep ops r p && D.all fun d => !dep ops d p
     match taken'.all (leaves ops o) && !isLate P ops r with
     | true => forceA ((D.foldl (fun t i => t.setIfInBounds i true) listed).setIfInBounds r true) fun t => (planE P ops f (List.range ops.size) t taken').map fun p => (.req chk pend D r (taken'.filter (isLoad ops)) :: p.1, p.2)
     | false => none
    | none => none
   | r :: _ => match (ops[r]?).bind (·.guard) with
    | some (g, b) => some ([], some (g, b, listed, taken))
    | none => none
  | false => none
def cutOk (P : Program) (ops : Array Oper) (g : Nat) (t : Tmp) (b : Bool) (L : Array Bool) : Bool :=
 (match ops[g]? with | some o => o.dst == some t | none => false) && ((List.range ops.size).all (fun j => L.getD j false || (match ops[j]? with | some o => o.dst != some t | none => true)) &&
 ((match closeT P ops ops.size L [] with | (c1, []) => (Region.ready .any ops c1).all fun i => !isLate P ops i | _ => false) && (List.range ops.size).all fun j => !L.getD j false || !garb P (resolveG ops g b) j))
inductive PlanS where
 | fin (l : List PStep)
 | cut (l : List PStep) (g : Nat) (t : Tmp) (b : Bool) (r : PlanS)
noncomputable def planS (P : Program) : Nat → Array Oper → Array Bool → List Nat → Option PlanS
 | 0, _, _, _ => none
 | f + 1, ops, L, taken => match planE P ops ((ops.size + 1) * (ops.size + 2)) (List.range ops.size) L taken with
  | some (l, none) => some (.fin l)
  | some (l, some (g, b, L1, t1)) => match (ops[g]?).bind (·.dst) with
   | some t => match cutOk P ops g t b L1 with
    | true => (planS P f (resolveG ops g b) L1 t1).map (.cut l g t b)
    | false => none
   | none => none
  | none => none
def latesS : PlanS → List Nat
 | .fin l => lates l
 | .cut l _ _ _ r => lates l ++ latesS r
noncomputable def pstepsE (E : Env) (ops : Array Oper) (l : List PStep) (A : AAct) (σ : St) (k : AAct → St → Bool) : Bool :=
 lrec (β := AAct → St → Bool) (fun A σ => k A σ) (fun s _ ih A σ => match s with
  | .take i => match ops[i]? with
   | some o => doK E ops o A σ ih
   | none => false
  | .req chk pend D r chk' => match ops[r]? with
   | some o => chkK E ops A σ chk (preK E ops A σ pend (lateK E ops D A σ fun A σ => doK E ops o A σ fun A σ => chkK E ops A σ chk' (ih A σ)))
   | none => false
  | .fin _ _ _ => false) l A σ
noncomputable def gateK (A : AAct) (t : Tmp) (b : Bool) (k : Bool) : Bool := tmK A.tmps t fun v => match v with
 | .bool b' => match b, b' with | true, true => k | false, false => k | _, _ => false
 | _ => false
noncomputable def planSK (E : Env) : PlanS → Array Oper → AAct → St → (AAct → St → Bool) → Bool
 | .fin l, ops, A, σ, k => pstepsK E ops l A σ k
 | .cut l g t b r, ops, A, σ, k => pstepsE E ops l A σ fun A σ => gateK A t b (planSK E r (resolveG ops g b) A σ k)
noncomputable def contE (E : Env) (ops : Array Oper) (cut : Option CutG) (steps : List PStep) (A : AAct) (σ : St) (k kc : AAct → St → Bool) : Bool := match cut with | none => pstepsK E ops steps A σ k | some _ => pstepsE E ops steps A σ kc
section sound
variable {E : Env} {w0 : World}
theorem planE_sound (hc : CallOk E.P w0 E.call) (hr : RoundOk E.P w0 E.round) {ops : Array Oper} (hpl : Plain ops) {ro : Option Nat} {Q : Exit → Act → World → Prop} (hQp : ∀ c a w, ¬ Q (.panic c) a w) {k : AAct → St → Bool} {ρ0 : Rn} {wa : World} (hwa : w0.heap.size ≤ wa.heap.size)
 (hQ : ∀ a' w', Next E.P w0 ρ0 wa k a' w' → Q .normal a' w') {cut : Option CutG} {kc : AAct → St → Bool}
 (hcut : ∀ g b L1 t1, cut = some (g, b, L1, t1) → ∀ {m : Nat} {L' : Array Bool} {X : List (Nat × Option Nat)} {J : List (Nat × Value)} {ρ : Rn} {A : AAct} {a : Act} {σ : St} {w : World}, kc A σ = true → Inv E w0 ops ρ0 wa L1 t1 m L' X J ρ A a σ w → AnyJ ro E.P ops Q m J L' a w) :
 ∀ (f : Nat) (is : List Nat) (L : Array Bool) (taken : List Nat) (steps : List PStep), planE E.P ops f is L taken = some (steps, cut) →
 ∀ {m : Nat} {L' : Array Bool} {X : List (Nat × Option Nat)} {J : List (Nat × Value)} {ρ : Rn} {A : AAct} {a : Act} {σ : St} {w : World}, contE E ops cut steps A σ k kc = true → Inv E w0 ops ρ0 wa L taken m L' X J ρ A a σ w → AnyJ ro E.P ops Q m J L' a w := by
 intro f
 induction f with
 | zero => intro is L taken steps hp; cases hp
 | succ f ih =>
  intro is L taken steps hp m L' X J ρ A a σ w hk h
  cases is with
  | cons i is =>
   unfold planE at hp
   simp only [forceA_eq] at hp
   split at hp
   · rename_i o ho
     split at hp
     · rename_i hneu
       rw [Bool.and_eq_true] at hneu
       obtain ⟨hneu, hrd⟩ := hneu
       have hmem := readyAt_iff.1 hrd
       split at hp
       · rename_i hchk
         simp only [Bool.and_eq_true] at hchk
         obtain ⟨⟨⟨hfree, hself⟩, hleave⟩, hkind⟩ := hchk
         cases hrest : planE E.P ops f is (L.setIfInBounds i true) (i :: taken) with
         | none => rw [hrest] at hp; cases hp
         | some rest =>
          obtain ⟨rest, cut'⟩ := rest
          rw [hrest] at hp
          simp only [Option.map_some] at hp
          injection hp with hp
          injection hp with hp1 hp2
          subst hp1 hp2
          have hk' : doK E ops o A σ (fun A σ => contE E ops cut' rest A σ k kc) = true := by
           cases cut' with
           | none =>
            unfold contE at hk ⊢
            simp only at hk ⊢
            unfold pstepsK at hk
            rw [lrec_cons] at hk
            simp only [ho] at hk
            exact hk
           | some q =>
            unfold contE at hk ⊢
            simp only at hk ⊢
            unfold pstepsE at hk
            rw [lrec_cons] at hk
            simp only [ho] at hk
            exact hk
          exact Inv.takeStep hQp hpl hwa ho hmem hneu (freeQ_free hfree) hself hleave hkind hk' (fun hk' h' => ih _ _ _ _ hrest hk' h') h
       · exact ih _ _ _ _ hp hk h
     · exact ih _ _ _ _ hp hk h
   · cases hp
  | nil =>
   unfold planE at hp
   rw [closeF_eq] at hp
   simp only [forceA_eq] at hp
   generalize hcl : closeT E.P ops ops.size L [] = c at hp
   have hcl' : closeP E.P ops (List.range ops.size) L [] = c := hcl
   simp only [hcl'] at hp
   split at hp
   · rename_i hok
     split at hp
     · rename_i hready
       injection hp with hp
       injection hp with hp1 hp2
       subst hp1 hp2
       unfold contE at hk
       simp only at hk
       unfold pstepsK at hk
       rw [lrec_cons] at hk
       simp only at hk
       obtain ⟨hask, hk⟩ := ask_of h.hs hcl hok hk
       exact Inv.finStep hpl hwa hask hready hk hQ m h
     · rename_i r hready
       split at hp
       · rename_i o ho
         split at hp
         · rename_i hleave
           simp only [Bool.and_eq_true, Bool.not_eq_true'] at hleave
           obtain ⟨hleave, hnl⟩ := hleave
           generalize hrest : planE E.P ops f _ _ _ = rest at hp
           cases rest with
           | none => cases hp
           | some rest =>
            obtain ⟨rest, cut'⟩ := rest
            simp only [Option.map_some] at hp
            injection hp with hp
            injection hp with hp1 hp2
            subst hp1 hp2
            have hk' : chkK E ops A σ (match c.2 with | [] => [] | _ => taken.filter (isLoad ops)) (preK E ops A σ (c.2.map fun d => (d, chainOf E.P ops c.2 d)) (lateK E ops (chainOf E.P ops c.2 r) A σ fun A σ => doK E ops o A σ fun A σ => chkK E ops A σ ((taken.filter fun p => !dep ops r p && (chainOf E.P ops c.2 r).all fun d => !dep ops d p).filter (isLoad ops)) ((fun A σ => contE E ops cut' rest A σ k kc) A σ))) = true := by
             cases cut' with
             | none =>
              unfold contE at hk ⊢
              simp only at hk ⊢
              unfold pstepsK at hk
              rw [lrec_cons] at hk
              simp only [ho] at hk
              exact hk
             | some q =>
              unfold contE at hk ⊢
              simp only at hk ⊢
              unfold pstepsE at hk
              rw [lrec_cons] at hk
              simp only [ho] at hk
              exact hk
            obtain ⟨hask, hk⟩ := ask_of h.hs hcl hok hk'
            exact Inv.reqStep hc hr hpl hwa hask ho hready hnl rfl rfl hleave hk (fun hk' h' => ih _ _ _ _ hrest hk' h') m h
         · cases hp
       · cases hp
     · split at hp
       · injection hp with hp
         injection hp with hp1 hp2
         subst hp1 hp2
         exact hcut _ _ _ _ rfl hk h
       · cases hp
   · cases hp
theorem cutOk_spec {P : Program} {ops : Array Oper} {g : Nat} {t : Tmp} {b : Bool} {L : Array Bool} (h : cutOk P ops g t b L = true) (hsz : L.size = ops.size) :
 Stays ops g t L ∧ (∃ c, closeT P ops ops.size L [] = c ∧ c.2 = [] ∧ ∀ i ∈ Region.ready .any ops c.1, isLate P ops i = false) ∧ ∀ j, On L j → garb P (resolveG ops g b) j = false := by
 unfold cutOk at h
 simp only [Bool.and_eq_true] at h
 obtain ⟨h1, h2, h3, h4⟩ := h
 refine ⟨⟨?_, fun j o ho hn hl c => ?_⟩, ?_, fun j hj => ?_⟩
 · split at h1
   · rename_i o ho; exact ⟨o, ho, by simpa using h1⟩
   · cases h1
 · have := List.all_eq_true.1 h2 j (List.mem_range.2 (by omega))
   rw [ho] at this
   simp only [Bool.or_eq_true, bne_iff_ne, ne_eq] at this
   rcases this with q | q
   · exact hn q
   · exact q c
 · split at h3
   · rename_i c1 hcl
     exact ⟨_, hcl, rfl, fun i hi => by have := List.all_eq_true.1 h3 i hi; simpa using this⟩
   · cases h3
 · have := List.all_eq_true.1 h4 j (List.mem_range.2 (by have := hj.lt; omega))
   simp only [Bool.or_eq_true, Bool.not_eq_true'] at this
   rcases this with q | q
   · have hj' : L.getD j false = true := hj
     rw [q] at hj'; cases hj'
   · exact q
theorem gateK_true {A : AAct} {t : Tmp} {b k : Bool} (h : gateK A t b k = true) : A.tmps.t.get t = some (.bool b) ∧ k = true := by
 unfold gateK at h
 obtain ⟨x, hx, h⟩ := tmK_true h
 split at h
 · rename_i b'
   cases b <;> cases b' <;> first | exact ⟨hx, h⟩ | cases h
 · cases h
theorem planS_sound (hc : CallOk E.P w0 E.call) (hr : RoundOk E.P w0 E.round) {ro : Option Nat} {Q : Exit → Act → World → Prop} (hQp : ∀ c a w, ¬ Q (.panic c) a w) {k : AAct → St → Bool} {ρ0 : Rn} {wa : World} (hwa : w0.heap.size ≤ wa.heap.size)
 (hQ : ∀ a' w', Next E.P w0 ρ0 wa k a' w' → Q .normal a' w') : ∀ (f : Nat) (ops : Array Oper) (L : Array Bool) (taken : List Nat) (p : PlanS), Plain ops → planS E.P f ops L taken = some p →
 ∀ {m : Nat} {L' : Array Bool} {X : List (Nat × Option Nat)} {J : List (Nat × Value)} {ρ : Rn} {A : AAct} {a : Act} {σ : St} {w : World}, planSK E p ops A σ k = true → Inv E w0 ops ρ0 wa L taken m L' X J ρ A a σ w → AnyJ ro E.P ops Q m J L' a w := by
 intro f
 induction f with
 | zero => intro ops L taken p _ hp; cases hp
 | succ f ih =>
  intro ops L taken p hpl hp m L' X J ρ A a σ w hk h
  unfold planS at hp
  split at hp
  · rename_i l hl
    injection hp with hp; subst hp
    exact planE_sound hc hr hpl hQp hwa hQ (kc := fun _ _ => false) (fun g b L1 t1 e => by cases e) _ _ _ _ _ hl hk h
  · rename_i l g b L1 t1 hl
    split at hp
    · rename_i t ht
      split at hp
      · rename_i hok
        cases hrest : planS E.P f (resolveG ops g b) L1 t1 with
        | none => rw [hrest] at hp; cases hp
        | some r =>
         rw [hrest] at hp
         injection hp with hp; subst hp
         refine planE_sound hc hr hpl hQp hwa hQ (kc := fun A σ => gateK A t b (planSK E r (resolveG ops g b) A σ k)) (fun g' b' L1' t1' e => ?_) _ _ _ _ _ hl hk h
         injection e with e; injection e with e1 e; injection e with e2 e; injection e with e3 e4
         subst e1 e2 e3 e4
         intro m L' X J ρ A a σ w hk h
         obtain ⟨hget, hk⟩ := gateK_true hk
         obtain ⟨hst, ⟨c, hcl, hc2, hno⟩, hgb⟩ := cutOk_spec hok h.szL
         obtain ⟨x', hx', hv⟩ := h.hs.act.tmps.get hget
         have hx : x' = .bool b := by cases hv; rfl
         have hy : yielded ops a.tmps g = some b := by
          obtain ⟨o, hog, hot⟩ := hst.1
          unfold yielded
          rw [hog]
          simp only [Option.bind_some, hot]
          have : a.tmps[t]? = some x' := by rw [← hx']; simp
          rw [this, hx]
         have h2 := ih (resolveG ops g b) L1 t1 r (resolveG_plain hpl) hrest hk (h.cut hcl hc2 hno hgb hy)
         have hst' : Stays ops g t L' := ⟨hst.1, fun j o ho hn hl => hst.2 j o ho (fun q => hn ((h.on j).2 (.inl q))) (by rw [h.szL]; rw [h.sz] at hl; exact hl)⟩
         exact AnyJ.res hst' hy h2
      · cases hp
    · cases hp
  · cases hp
noncomputable def drG (E : Env) (ops : Array Oper) (A : AAct) (σ : St) (k : AAct → St → Bool) : Bool :=
 match planQ E.P ops with
 | some l => delsK ops (lates l) A fun A => pstepsK E ops l A σ k
 | none => match plainOps ops with
  | true => match planS E.P (ops.size + 1) ops ⟨List.replicate ops.size false⟩ [] with
   | some p => delsK ops (latesS p) A fun A => planSK E p ops A σ k
   | none => false
  | false => false
theorem drG_ok (hc : CallOk E.P w0 E.call) (hr : RoundOk E.P w0 E.round) (hm : E.P.follows .mixedOrders = true) : DrOk E w0 (drG E) := by
 intro ops A σ k ρ a w ro id Q hk hs hQ
 unfold drG at hk
 split at hk
 · rename_i l hl
   exact drP_ok hc hr hm ops A σ k ρ a w ro id Q (by unfold drP; rw [hl]; exact hk) hs hQ
 · split at hk
   · rename_i hplain
     split at hk
     · rename_i p hp
       have hpl := plainOps_spec hplain
       obtain ⟨A', hk, hA', hmk⟩ := delsK_true hs.act hk
       let Q0 : Exit → Act → World → Prop := fun e a' w' => e = .normal ∧ Next E.P w0 ρ w k a' w'
       have hno : ∀ j, ¬ On (⟨List.replicate ops.size false⟩ : Array Bool) j := fun j h => by
        unfold On at h
        rcases Nat.lt_or_ge j ops.size with h' | h'
        · simp [h'] at h
        · simp [h'] at h
       have hrem : rem (⟨List.replicate ops.size false⟩ : Array Bool) ≤ ops.size := by
        unfold rem
        refine Nat.le_trans (List.countP_le_length) ?_
        simp
       have h := planS_sound hc hr (ro := ro) (Q := Q0) (fun c a w h => by cases h.1) (ρ0 := ρ) (wa := w) hs.rel.base.size (fun a' w' h => ⟨rfl, h⟩) _ _ _ _ p hpl hp (m := ops.size) (X := []) (J := []) hk
        ⟨⟨hA', hs.rel.drew, by rw [hmk]; exact hs.marks⟩, Stp.drew ρ w, by simp, by simp, fun j => by simp, fun j h => absurd h (hno j), by simp, by simp, by simp, by simp, by simp, fun j h => absurd h (hno j), by simp, hrem, trivial, by simp⟩
       exact wpIn_mono (wpIn_region_any hm h.any) fun e a' w' hq => by obtain ⟨rfl, hn⟩ := hq; exact hQ a' w' hn
     · cases hk
   · cases hk
end sound
end Go.Am

namespace Go.Am
open Go.RowKit Go.MapKept
section
variable {P : Program}
theorem loadK_one {t : TypeId} (h : isAggT P t = some false) (a : Value) (σ : St) (K : VK) : loadK P t a σ K = rLd a σ K := by
 unfold loadK rLd; simp only [h] <;> rfl
theorem loadK_agg {t : TypeId} {n : Nat} (h : isAggT P t = some true) (hn : sizeT P t = some n) (a : Value) (σ : St) (K : VK) : loadK P t a σ K = rLdN n a σ K := by
 unfold loadK rLdN; simp only [h, hn] <;> rfl
theorem storeK_r {t : TypeId} {n : Nat} (hn : sizeT P t = some n) (a x : Value) (σ : St) (k : St → Bool) : storeK P t a x σ k = rSt n a x σ k := by
 unfold storeK rSt; simp only [hn] <;> rfl
theorem allocK_r {t : TypeId} {z : List Value} (hz : zeroT P t = some z) (hf : allB flat0 z = true) (σ : St) (K : VK) : allocK P t σ K = rAlloc z t σ K := by
 unfold allocK rAlloc; simp only [hz, hf]
theorem fieldAddrK_r {s : TypeId} {f : Nat} {fd : Field} {n : Nat} (hf : fieldOf P s f = some fd) (hn : sizeT P fd.type = some (n + 1)) (x : Value) (K : Value → Bool) : fieldAddrK P s x f K = rFld fd.offset x K := by
 unfold fieldAddrK rFld; simp only [hf, hn] <;> rfl
theorem fieldK_one {t : TypeId} {f : Nat} {fd : Field} (hf : fieldOf P t f = some fd) (h : isAggT P fd.type = some false) (x : Value) (K : Value → Bool) : fieldK P t x f K = rField fd.offset x K := by
 unfold fieldK rField; simp only [hf, partK, h] <;> rfl
theorem fieldK_agg {t : TypeId} {f : Nat} {fd : Field} {n : Nat} (hf : fieldOf P t f = some fd) (h : isAggT P fd.type = some true) (hn : sizeT P fd.type = some n) (x : Value) (K : Value → Bool) : fieldK P t x f K = rFieldN fd.offset n x K := by
 unfold fieldK rFieldN; simp only [hf, partK, h, hn] <;> rfl
theorem indexAddrK_s {t e : TypeId} {n : Nat} (he : isSlice P t = some e) (hn : sizeT P e = some n) (x ix : Value) (K : Value → Bool) : indexAddrK P t x ix K = rIdx n x ix K := by
 unfold indexAddrK rIdx; simp only [he, hn, isSlice_und he]
 cases ix <;> first | rfl | skip
 rename_i kk i
 cases i <;> first | rfl | skip
 rename_i i
 cases x <;> first | rfl | skip
 · rename_i b; cases b <;> first | rfl | (rename_i a; obtain ⟨b, o, sp⟩ := a; cases sp <;> rfl)
 · rename_i b len cap; cases b with
   | none => rfl
   | some a =>
    obtain ⟨b, o, sp⟩ := a
    match sp with
    | none => simp only; cases Nat.blt i len <;> rfl
    | some 0 => simp only; cases Nat.blt i len <;> rfl
    | some (_ + 1) => rfl
theorem lenK_s {t e : TypeId} (he : isSlice P t = some e) (x : Value) (σ : St) (K : VK) : builtinK P .len [t] [x] σ K = rLenS x fun v => K v σ := by
 have hu := isSlice_und he
 have hm : mapT P t = none := by unfold mapT; rw [hu]
 cases x <;> simp only [builtinK, rLenS, he, hu, hm]
theorem lenK_t {t : TypeId} (hu : P.underlying t = some .string) (x : Value) (σ : St) (K : VK) : builtinK P .len [t] [x] σ K = rLenT x fun v => K v σ := by
 have hs : isSlice P t = none := by unfold isSlice; rw [hu]
 have hm : mapT P t = none := by unfold mapT; rw [hu]
 cases x <;> simp only [builtinK, rLenT, hs, hu, hm]
theorem appendK_r {sT xT el : TypeId} {info : TypeInfo} {n : Nat} {z : Value} (h1 : isSlice P sT = some el) (h2 : catT (P.underlying xT) = true) (h3 : P.info? el = some info) (h4 : info.size = n + 1) (h5 : info.zero = some z) (h6 : Nat.beq z.cells.size (n + 1) = true)
 (s x : Value) (σ : St) (K : VK) : appendK P [sT, xT] s x σ K = rApp P el (n + 1) info.bytes s x σ K := by
 unfold appendK rApp; simp only [h1, h2, h3, h4, h5]
 cases s <;> simp only [h6] <;> rfl
end
noncomputable def fbk (o : Oper) : OpW := ⟨fun E A σ K => opK E o A σ K⟩
structure PtW where
 f : AAct → (List (Nat × Nat × Value) → Bool) → Bool
noncomputable def partsX (place : Nat → Option (Nat × Nat)) (ps : List (Nat × Operand)) : PtW :=
 lrec (β := PtW) ⟨fun _ k => k []⟩ (fun p _ ih => match place p.1 with
  | some (off, size) => ⟨fun A k => (evW p.2).f A fun v => ih.f A fun l => k ((off, size, v) :: l)⟩
  | none => ⟨fun _ _ => false⟩) ps
def addP (place : Nat → Option (Nat × Nat)) (p : Nat × Value) : Nat × Nat × Value := match place p.1 with | some (off, size) => (off, size, p.2) | none => (0, 0, p.2)
theorem partsX_map (place : Nat → Option (Nat × Nat)) (A : AAct) : ∀ (ps : List (Nat × Operand)) (k : List (Nat × Nat × Value) → Bool), (∀ p ∈ ps, (place p.1).isSome = true) → (partsX place ps).f A k = partsK A ps fun l => k (l.map (addP place)) := by
 intro ps
 induction ps with
 | nil => intro k _; rfl
 | cons p ps ih =>
  intro k h
  have hp := h p (.head _)
  obtain ⟨⟨off, size⟩, hq⟩ := Option.isSome_iff_exists.1 hp
  have e1 : partsX place (p :: ps) = ⟨fun A k => (evW p.2).f A fun v => (partsX place ps).f A fun l => k ((off, size, v) :: l)⟩ := by
   unfold partsX; rw [lrec_cons]; simp only [hq]
  rw [e1]
  show (evW p.2).f A _ = evK A p.2 fun v => partsK A ps fun l => k (((p.1, v) :: l).map (addP place))
  rw [evW_eq]
  congr 1
  funext v
  have e : ∀ l : List (Nat × Value), ((p.1, v) :: l).map (addP place) = (off, size, v) :: l.map (addP place) := fun l => by simp [addP, hq]
  simp only [e]
  exact ih (fun l => k ((off, size, v) :: l)) (fun q hq => h q (.tail _ hq))
theorem partsK_congr (A : AAct) : ∀ (ps : List (Nat × Operand)) (k k' : List (Nat × Value) → Bool), (∀ l, l.map Prod.fst = ps.map Prod.fst → k l = k' l) → partsK A ps k = partsK A ps k' := by
 intro ps
 induction ps with
 | nil => intro k k' h; exact h [] rfl
 | cons p ps ih =>
  intro k k' h
  show (evK A p.2 fun v => partsK A ps fun l => k ((p.1, v) :: l)) = evK A p.2 fun v => partsK A ps fun l => k' ((p.1, v) :: l)
  congr 1
  funext v
  exact ih _ _ fun l hl => h _ (by simp [hl])
theorem fillK_r (place : Nat → Option (Nat × Nat)) (k : List Value → Bool) : ∀ (l : List (Nat × Value)) (cs : List Value), (∀ p ∈ l, (place p.1).isSome = true) → fillK place l cs k = rFill (l.map (addP place)) cs k := by
 intro l
 induction l with
 | nil => intro cs _; rfl
 | cons p l ih =>
  intro cs h
  obtain ⟨⟨off, size⟩, hq⟩ := Option.isSome_iff_exists.1 (h p (.head _))
  have e1 : fillK place (p :: l) cs k = match place p.1 with
   | some (off, size) => cellsOfK p.2 fun new => lenK new fun m => match Nat.beq m size with
    | true => spliceK off new cs fun cs => fillK place l cs k
    | false => false
   | none => false := rfl
  have e2 : rFill ((off, size, p.2) :: l.map (addP place)) cs k = cellsOfK p.2 fun new => lenK new fun m => match Nat.beq m size with
   | true => spliceK off new cs fun cs => rFill (l.map (addP place)) cs k
   | false => false := rfl
  have e3 : (p :: l).map (addP place) = (off, size, p.2) :: l.map (addP place) := by simp [addP, hq]
  have ih' : (fun cs => fillK place l cs k) = fun cs => rFill (l.map (addP place)) cs k := by funext cs; exact ih cs fun q hq => h q (.tail _ hq)
  rw [e1, e3, e2, hq, ih']
theorem build_r (place : Nat → Option (Nat × Nat)) (A : AAct) (ps : List (Nat × Operand)) (cs : List Value) (k : List Value → Bool) (h : ∀ p ∈ ps, (place p.1).isSome = true) :
 (partsK A ps fun l => fillK place l cs k) = (partsX place ps).f A fun l => rFill l cs k := by
 rw [partsX_map place A ps _ h]
 refine partsK_congr A ps _ _ fun l hl => fillK_r place k l cs fun p hp => ?_
 have : p.1 ∈ ps.map Prod.fst := by rw [← hl]; exact List.mem_map.2 ⟨p, hp, rfl⟩
 obtain ⟨q, hq, e⟩ := List.mem_map.1 this
 rw [← e]; exact h q hq
noncomputable def callX (P : Program) (c : Call) : OpW :=
 match c.callee with
 | .builtin .len => match c.argTypes.toList, c.args.toList with
  | [t], [a] => match isSlice P t, P.underlying t with
   | some _, _ => ⟨fun _ A σ K => (evW a).f A fun v => rLenS v fun v => K v σ⟩
   | none, some .string => ⟨fun _ A σ K => (evW a).f A fun v => rLenT v fun v => K v σ⟩
   | _, _ => callW P c
  | _, _ => callW P c
 | .builtin .append => match c.argTypes.toList, c.args.toList with
  | [sT, xT], [a, b] => match isSlice P sT, catT (P.underlying xT) with
   | some el, true => match P.info? el with
    | some info => match info.size, info.zero with
     | n + 1, some z => match Nat.beq z.cells.size (n + 1) with
      | true => ⟨fun _ A σ K => (evW a).f A fun a => (evW b).f A fun b => rApp P el (n + 1) info.bytes a b σ K⟩
      | false => callW P c
     | _, _ => callW P c
    | none => callW P c
   | _, _ => callW P c
  | _, _ => callW P c
 | .builtin _ => callW P c
 | .value f => ⟨fun E A σ K => (evsW c.args.toList).f A fun args => (evW f).f A fun f => rCallV E.call E.round f args σ K⟩
 | .invoke r m => ⟨fun E A σ K => (evsW c.args.toList).f A fun args => (evW r).f A fun v => rInv P E.call v m args σ K⟩
theorem callX_eq (E : Env) (c : Call) (A : AAct) (σ : St) (K : VK) : (callX E.P c).f E A σ K = callOpK E A c σ K := by
 unfold callX
 split
 · rename_i hc
   split
   · rename_i t a ht ha
     split
     · rename_i _ _ e hs
       unfold callOpK
       rw [hc, ha, ht]
       simp only [evW_eq, evsK, lrec_cons, lrec_nil, lenK_s hs]
     · rename_i _ _ hs hu
       unfold callOpK
       rw [hc, ha, ht]
       simp only [evW_eq, evsK, lrec_cons, lrec_nil, lenK_t hu]
     · exact callW_eq E c A σ K
   · exact callW_eq E c A σ K
 · rename_i hc
   split
   · rename_i sT xT a b ht ha
     split
     · rename_i el hs hx
       split
       · rename_i info hi
         split
         · rename_i n z hn hz
           split
           · rename_i hzs
             unfold callOpK
             rw [hc, ha, ht]
             simp only [evW_eq, evsK, lrec_cons, lrec_nil]
             congr 1; funext a; congr 1; funext b
             exact (appendK_r hs hx hi hn hz hzs a b σ K).symm
           · exact callW_eq E c A σ K
         · exact callW_eq E c A σ K
       · exact callW_eq E c A σ K
     · exact callW_eq E c A σ K
   · exact callW_eq E c A σ K
 · exact callW_eq E c A σ K
 · rename_i f hc
   unfold callOpK
   rw [hc]
   simp only [evsW_eq, evW_eq] <;> rfl
 · rename_i r m hc
   unfold callOpK
   rw [hc]
   simp only [evsW_eq, evW_eq] <;> rfl
noncomputable def opX (P : Program) (o : Oper) : OpW :=
 match o.op with
 | .pick c a b => ⟨fun E A σ K => (evW c).f A fun c => (evW a).f A fun a => (evW b).f A fun b => shut E.most (rPick c a b fun v => K v σ)⟩
 | .alloc t => match zeroT P t with
  | some z => match allB flat0 z with
   | true => ⟨fun _ _ σ K => rAlloc z t σ K⟩
   | false => fbk o
  | none => fbk o
 | .build t ps => match zeroT P t, P.underlying t with
  | some zero, some (.struct fields) => match placesOf P fields.toList with
   | some pl => match allB flat0 zero, ps.toList.all fun p => (pl[p.1]?).isSome with
    | true, true => ⟨fun _ A σ K => (partsX (pl[·]?) ps.toList).f A fun l => rBuild zero l fun v => K v σ⟩
    | _, _ => fbk o
   | none => fbk o
  | some zero, some (.array _ elem) => match sizeT P elem with
   | some size => match allB flat0 zero with
    | true => ⟨fun _ A σ K => (partsX (fun i => some (i * size, size)) ps.toList).f A fun l => rBuild zero l fun v => K v σ⟩
    | false => fbk o
   | none => fbk o
  | _, _ => fbk o
 | .buildSlice t len ps => match isSlice P t with
  | some elem => match sizeT P elem, zeroT P elem with
   | some (size + 1), some zero => match Nat.ble (len * (size + 1)) 16777216, Nat.beq zero.length (size + 1) with
    | true, true => match allB flat0 zero with
     | true => ⟨fun _ A σ K => repK zero len fun cs => (partsX (fun i => some (i * (size + 1), size + 1)) ps.toList).f A fun l => rFill l cs fun cs => newK σ (.cells cs elem .exact) fun i σ => K (.slice (some ⟨i, 0, none⟩) len len) σ⟩
     | false => fbk o
    | _, _ => fbk o
   | _, _ => fbk o
  | none => fbk o
 | .load t a => match isAggT P t, sizeT P t with
  | some false, _ => ⟨fun _ A σ K => (evW a).f A fun a => rLd a σ K⟩
  | some true, some n => ⟨fun _ A σ K => (evW a).f A fun a => rLdN n a σ K⟩
  | _, _ => fbk o
 | .store t a x => match sizeT P t with
  | some n => ⟨fun _ A σ K => (evW a).f A fun a => (evW x).f A fun x => rSt n a x σ fun σ => K undef σ⟩
  | none => fbk o
 | .nilCheck x => ⟨fun _ A σ K => (evW x).f A fun v => rNil P v fun v => K v σ⟩
 | .binOp op t x y _ => ⟨fun _ A σ K => (evW x).f A fun a => (evW y).f A fun b => rBin P op t a b fun v => K v σ⟩
 | .convert s d x => match P.underlying s, P.underlying d with
  | some (.int _), some (.int k) => ⟨fun _ A σ K => (evW x).f A fun a => rInt k a fun v => K v σ⟩
  | _, _ => opW P o
 | .fieldAddr s x f => match fieldOf P s f with
  | some fd => match sizeT P fd.type with
   | some (_ + 1) => ⟨fun _ A σ K => (evW x).f A fun x => rFld fd.offset x fun v => K v σ⟩
   | _ => opW P o
  | none => opW P o
 | .field t x f => match fieldOf P t f with
  | some fd => match isAggT P fd.type, sizeT P fd.type with
   | some false, _ => ⟨fun _ A σ K => (evW x).f A fun x => rField fd.offset x fun v => K v σ⟩
   | some true, some n => ⟨fun _ A σ K => (evW x).f A fun x => rFieldN fd.offset n x fun v => K v σ⟩
   | _, _ => opW P o
  | none => opW P o
 | .indexAddr t x ix => match isSlice P t with
  | some el => match sizeT P el with
   | some n => ⟨fun _ A σ K => (evW x).f A fun x => (evW ix).f A fun ix => rIdx n x ix fun v => K v σ⟩
   | none => opW P o
  | none => opW P o
 | .index t x ix => match P.underlying t with
  | some .string => ⟨fun _ A σ K => (evW x).f A fun x => (evW ix).f A fun ix => rStrAt x ix fun v => K v σ⟩
  | _ => opW P o
 | .extract t i => ⟨fun _ A σ K => (evW t).f A fun v => rExt i v fun v => K v σ⟩
 | .typeAssert x _ as ok => ⟨fun _ A σ K => (evW x).f A fun v => rAssert P as ok v fun v => K v σ⟩
 | .call c => callX P c
 | _ => opW P o

theorem convK_i {P : Program} {s d : TypeId} {j k : IntKind} (hs : P.underlying s = some (.int j)) (hd : P.underlying d = some (.int k)) (x : Value) (σ : St) (K : VK) : convK P s d x σ K = rInt k x fun v => K v σ := by
 cases x <;> simp only [convK, rInt, hs, hd]
 rename_i b n c
 cases b with
 | none => rfl
 | some a => obtain ⟨b, o, sp⟩ := a; match sp with
  | none => rfl
  | some 0 => rfl
  | some (_ + 1) => rfl
theorem indexK_t {P : Program} {t : TypeId} (h : P.underlying t = some .string) (x ix : Value) (K : Value → Bool) : indexK P t x ix K = rStrAt x ix K := by
 unfold indexK rStrAt; simp only [h]
 cases ix <;> first | rfl | skip
 rename_i kk i
 cases i <;> first | rfl | skip
 cases x <;> rfl
theorem opX_eq (E : Env) (o : Oper) (A : AAct) (σ : St) (K : VK) : (opX E.P o).f E A σ K = opK E o A σ K := by
 unfold opX
 split
 · rename_i c a b h; unfold opK; rw [h]; simp only [evW_eq, shut_eq, rPick] <;> rfl
 · rename_i t h
   split
   · rename_i z hz
     split
     · rename_i hf; unfold opK; rw [h]; exact (allocK_r hz hf σ K).symm
     · rfl
   · rfl
 · rename_i t ps h
   split
   · rename_i zero fields hz hu
     split
     · rename_i pl hp
       split
       · rename_i hf ha
         unfold opK; rw [h]
         simp only [buildK, hz, hu, hp, hf]
         refine (build_r (pl[·]?) A ps.toList zero (fun cs => K (.agg ⟨cs⟩) σ) ?_).symm
         intro p hp'
         exact List.all_eq_true.1 ha p hp'
       · rfl
     · rfl
   · rename_i zero n elem hz hu
     split
     · rename_i size hs
       split
       · rename_i hf
         unfold opK; rw [h]
         simp only [buildK, hz, hu, hs, hf]
         exact (build_r (fun i => some (i * size, size)) A ps.toList zero (fun cs => K (.agg ⟨cs⟩) σ) (fun p _ => rfl)).symm
       · rfl
     · rfl
   · rfl
 · rename_i t len ps h
   split
   · rename_i elem hs
     split
     · rename_i size zero hz hzl
       split
       · rename_i h1 h2
         split
         · rename_i hf
           unfold opK; rw [h]
           simp only [buildSliceK, hs, hz, hzl, h1, h2, hf]
           congr 1; funext cs
           exact (build_r (fun i => some (i * (size + 1), size + 1)) A ps.toList cs _ (fun p _ => rfl)).symm
         · rfl
       · rfl
     · rfl
   · rfl
 · rename_i t a h
   split
   · rename_i h1; unfold opK; rw [h]; simp only [evW_eq, loadK_one h1]
   · rename_i n h1 h2; unfold opK; rw [h]; simp only [evW_eq, loadK_agg h1 h2]
   · rfl
 · rename_i t a x h
   split
   · rename_i n h1; unfold opK; rw [h]; simp only [evW_eq, storeK_r h1]
   · rfl
 · rename_i x h; unfold opK; rw [h]; simp only [evW_eq, rNil] <;> rfl
 · rename_i op t x y yt h; unfold opK; rw [h]; simp only [evW_eq, rBin_eq]
 · rename_i s d x h
   split
   · rename_i j k h1 h2; unfold opK; rw [h]; simp only [evW_eq, convK_i h1 h2]
   · exact opW_eq E o A σ K
 · rename_i s x f h
   split
   · rename_i fd h1
     split
     · rename_i n h2; unfold opK; rw [h]; simp only [evW_eq, fieldAddrK_r h1 h2]
     · exact opW_eq E o A σ K
   · exact opW_eq E o A σ K
 · rename_i t x f h
   split
   · rename_i fd h1
     split
     · rename_i h2; unfold opK; rw [h]; simp only [evW_eq, fieldK_one h1 h2]
     · rename_i n h2 h3; unfold opK; rw [h]; simp only [evW_eq, fieldK_agg h1 h2 h3]
     · exact opW_eq E o A σ K
   · exact opW_eq E o A σ K
 · rename_i t x ix h
   split
   · rename_i el h1
     split
     · rename_i n h2; unfold opK; rw [h]; simp only [evW_eq, indexAddrK_s h1 h2]
     · exact opW_eq E o A σ K
   · exact opW_eq E o A σ K
 · rename_i t x ix h
   split
   · rename_i h1; unfold opK; rw [h]; simp only [evW_eq, indexK_t h1]
   · exact opW_eq E o A σ K
 · rename_i t i h; unfold opK; rw [h]; simp only [evW_eq, rExt] <;> rfl
 · rename_i x xt as ok h; unfold opK; rw [h]; simp only [evW_eq, rAssert] <;> rfl
 · rename_i c h; unfold opK; rw [h]; exact callX_eq E c A σ K
 · exact opW_eq E o A σ K

noncomputable def setTX (v : Value) (T : Tm) (i : Nat) (k : Tm → Bool) : Bool := match T with
 | ⟨t, n⟩ => match Nat.blt i n with
  | true => putK v (Nat.succ i) t i fun t => k ⟨t, n⟩
  | false => false
theorem setTX_eq (v : Value) (T : Tm) (i : Nat) (k : Tm → Bool) : setTX v T i k = setTK v T i k := by cases T; rfl
noncomputable def putX (A : AAct) (d : Tmp) (v : Value) (k : AAct → Bool) : Bool := match A with
 | ⟨T, m, g⟩ => setTX v T d fun T => k ⟨T, m, g⟩
theorem putX_eq (A : AAct) (d : Tmp) (v : Value) (k : AAct → Bool) : putX A d v k = setTK v A.tmps d fun ts => k ⟨ts, A.marks, A.g⟩ := by
 obtain ⟨T, m, g⟩ := A
 show setTX v T d (fun T => k ⟨T, m, g⟩) = _
 rw [setTX_eq]
noncomputable def doneX (P : Program) (o : Oper) : StW :=
 match o.dst with
 | some d => ⟨fun E A σ k => (opX P o).f E A σ fun v σ => putX A d v fun A => k A σ⟩
 | none => ⟨fun E A σ k => (opX P o).f E A σ fun _ σ => k A σ⟩
noncomputable def doX (P : Program) (ops : Array Oper) (o : Oper) : StW :=
 match o.guard with
 | none => doneX P o
 | some (j, w) => match ops[j]? with
  | some o' => match o'.dst with
   | some g => match o.dst with
    | some d => ⟨fun E A σ k => tmK A.tmps g fun b => shut E.most (rGuard w b (fun k => (opX P o).f E A σ k) σ fun v σ => putX A d v fun A => k A σ)⟩
    | none => ⟨fun E A σ k => tmK A.tmps g fun b => shut E.most (rGuard w b (fun k => (opX P o).f E A σ k) σ fun _ σ => k A σ)⟩
   | none => ⟨fun E A σ k => doK E ops o A σ k⟩
  | none => ⟨fun E A σ k => doK E ops o A σ k⟩
theorem doneX_eq (E : Env) (o : Oper) (A : AAct) (σ : St) (k : KS) : (doneX E.P o).f E A σ k = opK E o A σ fun v σ => putAK A o.dst v fun A => k A σ := by
 unfold doneX putAK
 cases o.dst <;> simp only [opX_eq, putX_eq]
theorem doX_eq (E : Env) (ops : Array Oper) (o : Oper) (A : AAct) (σ : St) (k : KS) : (doX E.P ops o).f E A σ k = doK E ops o A σ k := by
 unfold doX
 cases hg : o.guard with
 | none =>
  simp only [doneX_eq]
  unfold doK wantK
  rw [hg]
  rfl
 | some jw =>
  obtain ⟨j, w⟩ := jw
  simp only
  cases ho : ops[j]? with
  | none => rfl
  | some o' =>
   simp only
   cases hd' : o'.dst with
   | none => rfl
   | some g =>
    simp only
    cases hd : o.dst with
    | none =>
     unfold doK wantK putAK
     simp only [hg, ho, hd', hd, opX_eq, shut_eq, rGuard, rWant] <;> rfl
    | some d =>
     unfold doK wantK putAK
     simp only [hg, ho, hd', hd, opX_eq, putX_eq, shut_eq, rGuard, rWant] <;> rfl
noncomputable def opsX (P : Program) (ops : Array Oper) (l : List Oper) : StW :=
 lrec (β := StW) ⟨fun _ A σ k => k A σ⟩ (fun o _ ih => ⟨fun E A σ k => (doX P ops o).f E A σ fun A σ => ih.f E A σ k⟩) l
theorem opsX_eq (E : Env) (ops : Array Oper) : ∀ (l : List Oper) (A : AAct) (σ : St) (k : KS), (opsX E.P ops l).f E A σ k = opsK E ops l A σ k := by
 intro l
 induction l with
 | nil => intro A σ k; rfl
 | cons o l ih =>
  intro A σ k
  show (doX E.P ops o).f E A σ (fun A σ => (opsX E.P ops l).f E A σ k) = doK E ops o A σ fun A σ => opsK E ops l A σ k
  rw [doX_eq]
  congr 1
  funext A σ
  exact ih A σ k
noncomputable def chkO (o : Oper) (d : Tmp) (ops : Array Oper) (ih : ChW) : ChW := ⟨fun E A σ k => tmK A.tmps d fun u => wantK ops o A fun b => bcase b (opK E o A σ fun v _ => match sameV v u with | true => ih.f E A σ k | false => false) (match u with | .tuple ⟨[]⟩ => ih.f E A σ k | _ => false)⟩
noncomputable def chkX (P : Program) (ops : Array Oper) (l : List Nat) : ChW :=
 lrec (β := ChW) ⟨fun _ _ _ k => k⟩ (fun i _ ih => match ops[i]? with
  | some o => match o.dst with
   | some d => match o.guard with
    | none => ⟨fun E A σ k => tmK A.tmps d fun u => (opX P o).f E A σ fun v _ => rSame v u (ih.f E A σ k)⟩
    | some (j, w) => match ops[j]? with
     | some o' => match o'.dst with
      | some g => ⟨fun E A σ k => tmK A.tmps d fun u => tmK A.tmps g fun b => shut E.most (rGuardC w b u (fun k => (opX P o).f E A σ fun v _ => rSame v u k) (ih.f E A σ k))⟩
      | none => chkO o d ops ih
     | none => chkO o d ops ih
   | none => ⟨fun _ _ _ _ => false⟩
  | none => ⟨fun _ _ _ _ => false⟩) l
theorem chkX_cons (P : Program) (ops : Array Oper) (i : Nat) (l : List Nat) : chkX P ops (i :: l) = match ops[i]? with
 | some o => match o.dst with
  | some d => match o.guard with
   | none => ⟨fun E A σ k => tmK A.tmps d fun u => (opX P o).f E A σ fun v _ => rSame v u ((chkX P ops l).f E A σ k)⟩
   | some (j, w) => match ops[j]? with
    | some o' => match o'.dst with
     | some g => ⟨fun E A σ k => tmK A.tmps d fun u => tmK A.tmps g fun b => shut E.most (rGuardC w b u (fun k => (opX P o).f E A σ fun v _ => rSame v u k) ((chkX P ops l).f E A σ k))⟩
     | none => chkO o d ops (chkX P ops l)
    | none => chkO o d ops (chkX P ops l)
  | none => ⟨fun _ _ _ _ => false⟩
 | none => ⟨fun _ _ _ _ => false⟩ := rfl
theorem chkX_eq (E : Env) (ops : Array Oper) (A : AAct) (σ : St) (k : Bool) : ∀ (l : List Nat), (chkX E.P ops l).f E A σ k = chkK E ops A σ l k := by
 intro l
 induction l with
 | nil => rfl
 | cons i l ih =>
  rw [chkX_cons, chkK_cons]
  cases hi : ops[i]? with
  | none => rfl
  | some o =>
   simp only
   cases hd : o.dst with
   | none => rfl
   | some d =>
    simp only
    cases hg : o.guard with
    | none =>
     simp only [opX_eq, ih, wantK, hg, rSame]
     rfl
    | some jw =>
     obtain ⟨j, w⟩ := jw
     simp only
     cases hj : ops[j]? with
     | none => simp only [chkO, ih] <;> rfl
     | some o' =>
      simp only
      cases hd' : o'.dst with
      | none => simp only [chkO, ih] <;> rfl
      | some g => simp only [opX_eq, ih, wantK, hg, hj, hd', shut_eq, rGuardC, rWant, rSame, rUnd] <;> rfl
noncomputable def lopX (P : Program) (ops : Array Oper) (i : Nat) (o : Oper) : OpW := match convSrc P ops i with
 | none => opX P o
 | some _ => ⟨fun E A σ K => lopK E ops i o A σ K⟩
theorem lopX_eq (E : Env) (ops : Array Oper) (i : Nat) (o : Oper) (A : AAct) (σ : St) (K : VK) : (lopX E.P ops i o).f E A σ K = lopK E ops i o A σ K := by
 unfold lopX
 cases h : convSrc E.P ops i with
 | none => simp only [opX_eq]; unfold lopK; rw [h]
 | some j => rfl
noncomputable def lateX (P : Program) (ops : Array Oper) (l : List Nat) : StW :=
 lrec (β := StW) ⟨fun _ A σ k => k A σ⟩ (fun i _ ih => match ops[i]? with
  | some o => ⟨fun E A σ k => (lopX P ops i o).f E A σ fun v σ => putW o.dst v A fun A => ih.f E A σ k⟩
  | none => ⟨fun _ _ _ _ => false⟩) l
theorem lateX_eq (E : Env) (ops : Array Oper) : ∀ (l : List Nat) (A : AAct) (σ : St) (k : KS), (lateX E.P ops l).f E A σ k = lateK E ops l A σ k := by
 intro l
 induction l with
 | nil => intro A σ k; rfl
 | cons i l ih =>
  intro A σ k
  unfold lateX lateK at ih ⊢
  rw [lrec_cons, lrec_cons]
  cases ops[i]? with
  | none => rfl
  | some o =>
   simp only [lopX_eq, putW_eq]
   congr 1
   funext v σ
   congr 1
   funext A
   exact ih A σ k
noncomputable def preX (P : Program) (ops : Array Oper) (l : List (Nat × List Nat)) : ChW :=
 lrec (β := ChW) ⟨fun _ _ _ k => k⟩ (fun p _ ih => match ops[p.1]? with
  | some o => ⟨fun E A σ k => absK A o (bcase ((lateX P ops p.2).f E A σ fun A σ => (lopX P ops p.1 o).f E A σ fun _ _ => true) (ih.f E A σ k) false)⟩
  | none => ⟨fun _ _ _ _ => false⟩) l
theorem preX_eq (E : Env) (ops : Array Oper) (A : AAct) (σ : St) (k : Bool) : ∀ (l : List (Nat × List Nat)), (preX E.P ops l).f E A σ k = preK E ops A σ l k := by
 intro l
 induction l with
 | nil => rfl
 | cons p l ih =>
  unfold preX preK at ih ⊢
  rw [lrec_cons, lrec_cons]
  cases ops[p.1]? with
  | none => rfl
  | some o => simp only [lateX_eq, lopX_eq, ih]
noncomputable def pstepsX (P : Program) (ops : Array Oper) (l : List PStep) : StW :=
 lrec (β := StW) ⟨fun _ _ _ _ => false⟩ (fun s _ ih => match s with
  | .take i => match ops[i]? with
   | some o => ⟨fun E A σ k => (doX P ops o).f E A σ fun A σ => ih.f E A σ k⟩
   | none => ⟨fun _ _ _ _ => false⟩
  | .req chk pend D r chk' => match ops[r]? with
   | some o => ⟨fun E A σ k => (chkX P ops chk).f E A σ ((preX P ops pend).f E A σ ((lateX P ops D).f E A σ fun A σ => (doX P ops o).f E A σ fun A σ => (chkX P ops chk').f E A σ (ih.f E A σ k)))⟩
   | none => ⟨fun _ _ _ _ => false⟩
  | .fin chk pend D => ⟨fun E A σ k => (chkX P ops chk).f E A σ ((preX P ops pend).f E A σ ((lateX P ops D).f E A σ k))⟩) l
theorem pstepsX_eq (E : Env) (ops : Array Oper) : ∀ (l : List PStep) (A : AAct) (σ : St) (k : KS), (pstepsX E.P ops l).f E A σ k = pstepsK E ops l A σ k := by
 intro l
 induction l with
 | nil => intro A σ k; rfl
 | cons s l ih =>
  intro A σ k
  unfold pstepsX pstepsK at ih ⊢
  rw [lrec_cons, lrec_cons]
  cases s with
  | take i =>
   simp only
   cases ops[i]? with
   | none => rfl
   | some o => simp only [doX_eq, ih]
  | req chk pend D r chk' =>
   simp only
   cases ops[r]? with
   | none => rfl
   | some o => simp only [doX_eq, chkX_eq, preX_eq, lateX_eq, ih]
  | fin chk pend D => simp only [chkX_eq, preX_eq, lateX_eq]
noncomputable def pstepsEX (P : Program) (ops : Array Oper) (l : List PStep) : StW :=
 lrec (β := StW) ⟨fun _ A σ k => k A σ⟩ (fun s _ ih => match s with
  | .take i => match ops[i]? with
   | some o => ⟨fun E A σ k => (doX P ops o).f E A σ fun A σ => ih.f E A σ k⟩
   | none => ⟨fun _ _ _ _ => false⟩
  | .req chk pend D r chk' => match ops[r]? with
   | some o => ⟨fun E A σ k => (chkX P ops chk).f E A σ ((preX P ops pend).f E A σ ((lateX P ops D).f E A σ fun A σ => (doX P ops o).f E A σ fun A σ => (chkX P ops chk').f E A σ (ih.f E A σ k)))⟩
   | none => ⟨fun _ _ _ _ => false⟩
  | .fin _ _ _ => ⟨fun _ _ _ _ => false⟩) l
theorem pstepsEX_eq (E : Env) (ops : Array Oper) : ∀ (l : List PStep) (A : AAct) (σ : St) (k : KS), (pstepsEX E.P ops l).f E A σ k = pstepsE E ops l A σ k := by
 intro l
 induction l with
 | nil => intro A σ k; rfl
 | cons s l ih =>
  intro A σ k
  unfold pstepsEX pstepsE at ih ⊢
  rw [lrec_cons, lrec_cons]
  cases s with
  | take i =>
   simp only
   cases ops[i]? with
   | none => rfl
   | some o => simp only [doX_eq, ih]
  | req chk pend D r chk' =>
   simp only
   cases ops[r]? with
   | none => rfl
   | some o => simp only [doX_eq, chkX_eq, preX_eq, lateX_eq, ih]
  | fin chk pend D => rfl
noncomputable def planSX (P : Program) (p : PlanS) : Array Oper → StW :=
 PlanS.rec (motive := fun _ => Array Oper → StW) (fun l ops => pstepsX P ops l) (fun l g t b _ ih ops => ⟨fun E A σ k => (pstepsEX P ops l).f E A σ fun A σ => gateK A t b ((ih (resolveG ops g b)).f E A σ k)⟩) p
theorem planSX_eq (E : Env) : ∀ (p : PlanS) (ops : Array Oper) (A : AAct) (σ : St) (k : KS), (planSX E.P p ops).f E A σ k = planSK E p ops A σ k := by
 intro p
 induction p with
 | fin l => intro ops A σ k; exact pstepsX_eq E ops l A σ k
 | cut l g t b r ih =>
  intro ops A σ k
  show (pstepsEX E.P ops l).f E A σ (fun A σ => gateK A t b ((planSX E.P r (resolveG ops g b)).f E A σ k)) = pstepsE E ops l A σ fun A σ => gateK A t b (planSK E r (resolveG ops g b) A σ k)
  rw [pstepsEX_eq]
  congr 1
  funext A σ
  rw [ih]
noncomputable def regX (P : Program) (ops : Array Oper) (draw : Bool) : StW :=
 match draw with
 | true => match planQ P ops with
  | some l => match lates l with
   | [] => pstepsX P ops l
   | ls => ⟨fun E A σ k => delsK ops ls A fun A => (pstepsX P ops l).f E A σ k⟩
  | none => match plainOps ops with
   | true => match planS P (ops.size + 1) ops ⟨List.replicate ops.size false⟩ [] with
    | some p => ⟨fun E A σ k => delsK ops (latesS p) A fun A => (planSX P p ops).f E A σ k⟩
    | none => ⟨fun _ _ _ _ => false⟩
   | false => ⟨fun _ _ _ _ => false⟩
 | false => opsX P ops ops.toList
theorem regX_eq (E : Env) (ops : Array Oper) (draw : Bool) (A : AAct) (σ : St) (k : KS) : (regX E.P ops draw).f E A σ k = bcase draw (drG E ops A σ k) (opsK E ops ops.toList A σ k) := by
 cases draw with
 | true =>
  unfold regX drG bcase
  simp only
  cases planQ E.P ops with
  | none =>
   simp only
   cases plainOps ops with
   | false => rfl
   | true =>
    simp only
    cases planS E.P (ops.size + 1) ops ⟨List.replicate ops.size false⟩ [] with
    | none => rfl
    | some p => simp only [planSX_eq]
  | some l =>
   simp only
   cases h : lates l with
   | nil => exact pstepsX_eq E ops l A σ k
   | cons d ls => simp only [pstepsX_eq]
 | false => exact opsX_eq E ops _ A σ k
end Go.Am

namespace Go.Am
open Go.RowKit Go.MapKept

structure LiveT where
 loop : Nat → List Nat × List Nat × List Nat
 join : Nat → Option (List Nat)
def firstReg : Code → Option Nat
 | .region i _ _ => some i
 | .seq a b => match firstReg a with | some i => some i | none => firstReg b
 | .cond _ a b => match firstReg a with | some i => some i | none => firstReg b
 | .block _ a => firstReg a
 | .loop a => firstReg a
 | .scope a => firstReg a
 | .rangeFunc _ _ a b => match firstReg a with | some i => some i | none => firstReg b
 | _ => none
def keepOf (tb : LiveT) (a : Code) : List Nat := match firstReg a with | some i => (tb.loop i).1 | none => []
def outOf (tb : LiveT) (a : Code) (e : AExit) : List Nat := match firstReg a with
 | some i => match e with | .ret => (tb.loop i).2.2 | _ => (tb.loop i).2.1
 | none => []
def joinOf (tb : LiveT) (b : Code) : Option (List Nat) := match firstReg b with | some i => tb.join i | none => none
noncomputable def valsK (l : List Nat) (A : AAct) (k : List Value → Bool) : Bool :=
 lrec (β := (List Value → Bool) → Bool) (fun k => k []) (fun i _ ih k => tmK A.tmps i fun v => ih fun vs => k (v :: vs)) l k
noncomputable def canonK (l : List Nat) (vs : List Value) (nt g : Nat) (marks : List Nat) (k : AAct → Bool) : Bool :=
 lrec (β := List Value → Tm → Bool) (fun _ T => k ⟨T, marks, g⟩) (fun i _ ih vs T => match vs with | v :: vs => setTK v T i fun T => ih vs T | [] => false) l vs ⟨.leaf, nt⟩
abbrev LpT := Env → Option Nat → List Value → Nat → List Nat → St → (AExit → List Value → Nat → List Nat → St → Bool) → Bool
section
variable (P : Program) (tb : LiveT)
noncomputable def behindX (a : Code) (ih : List Value → Nat → List Nat → St → Bool) (K : AExit → List Value → Nat → List Nat → St → Bool) : CK' := fun e A σ => match e with
 | .normal => valsK (keepOf tb a) A fun vs => ih vs A.tmps.n A.marks σ
 | e => valsK (outOf tb a e) A fun vs => K e vs A.tmps.n A.marks σ
noncomputable def roundsN (a : Code) (body : CdW) (E : Env) (r : Option Nat) (K : AExit → List Value → Nat → List Nat → St → Bool) : Nat → List Value → Nat → List Nat → St → Bool :=
 nrec (β := List Value → Nat → List Nat → St → Bool) (fun _ _ _ _ => false) (fun _ ih vs n marks σ => canonK (keepOf tb a) vs n P.globals.size marks fun A => body.f E r A σ (behindX tb a ih K))
noncomputable def roundsX (a : Code) (body : CdW) : LpT := fun E r vs n marks σ K => roundsN P tb a body E r K E.most vs n marks σ
noncomputable def outX (a : Code) (K : CK') : AExit → List Value → Nat → List Nat → St → Bool := fun e vs n marks σ => canonK (outOf tb a e) vs n P.globals.size marks fun A => K e A σ
noncomputable def loopX (a : Code) (lp : LpT) : CdW := ⟨fun E r A σ K => valsK (keepOf tb a) A fun vs => lp E r vs A.tmps.n A.marks σ (outX P tb a K)⟩
noncomputable def joinX (l : List Nat) (b : CdW) (E : Env) (r : Option Nat) (K : CK') (vs : List Value) (n : Nat) (marks : List Nat) (σ : St) : Bool := ncase E.most false fun _ => canonK l vs n P.globals.size marks fun A => b.f E r A σ K
noncomputable def thenX (j : Option (List Nat)) (b : CdW) (E : Env) (r : Option Nat) (K : CK') : CK' := fun e A σ => match e with
 | .normal => match j with
  | none => b.f E r A σ K
  | some l => valsK l A fun vs => joinX P l b E r K vs A.tmps.n A.marks σ
 | e => K e A σ
noncomputable def blockX (id : Nat) (K : CK') : CK' := fun e A σ => match e with
 | .exit i => match Nat.beq i id with | true => K .normal A σ | false => K (.exit i) A σ
 | e => K e A σ
noncomputable def codeX (lp : Code → LpT) : Code → CdW
 | .skip => ⟨fun _ _ A σ K => K .normal A σ⟩
 | .region _ ops draw => ⟨fun E _ A σ K => (regX P ops draw).f E A σ fun A σ => K .normal A σ⟩
 | .seq a b => ⟨fun E r A σ K => (codeX lp a).f E r A σ (thenX P (joinOf tb b) (codeX lp b) E r K)⟩
 | .cond c a b => ⟨fun E r A σ K => (evW c).f A fun v => match v with | .bool v => bcase v ((codeX lp a).f E r A σ K) ((codeX lp b).f E r A σ K) | _ => false⟩
 | .block id a => ⟨fun E r A σ K => (codeX lp a).f E r A σ (blockX id K)⟩
 | .loop a => loopX P tb a (lp a)
 | .scope a => codeX lp a
 | .rangeFunc f ps as bo => ⟨fun E r A σ K => rangeK E r f ps as bo A σ K⟩
 | .exit id => ⟨fun _ _ A σ K => K (.exit id) A σ⟩
 | .label _ => ⟨fun _ _ A σ K => K .normal A σ⟩
 | .ret => ⟨fun _ _ A σ K => K .ret A σ⟩
 | _ => ⟨fun _ _ _ _ _ => false⟩
noncomputable def lpX : Nat → Code → LpT
 | 0 => fun _ _ _ _ _ _ _ _ => false
 | n + 1 => fun a => roundsX P tb a (codeX P tb (lpX n) a)
end
end Go.Am
namespace Go.Am
open Go.RowKit Go.MapKept
section
variable {P : Program} {w0 : World} {ρ : Rn} {σ : St} {w : World}
theorem valsK_true {A : AAct} : ∀ {l : List Nat} {k : List Value → Bool}, valsK l A k = true → ∃ vs, k vs = true ∧ vs.length = l.length ∧ ∀ (j i : Nat) (v : Value), l[j]? = some i → vs[j]? = some v → A.tmps.t.get i = some v := by
 intro l
 induction l with
 | nil => intro k hk; exact ⟨[], hk, rfl, fun j i v h => by simp at h⟩
 | cons x l ih =>
  intro k hk
  obtain ⟨v, hv, hk⟩ := tmK_true (show tmK A.tmps x (fun v => valsK l A fun vs => k (v :: vs)) = true from hk)
  obtain ⟨vs, h1, h2, h3⟩ := ih hk
  refine ⟨v :: vs, h1, by simp [h2], fun j i u hi hu => ?_⟩
  cases j with
  | zero => simp at hi hu; subst hi hu; exact hv
  | succ j => simp at hi hu; exact h3 j i u hi hu
def ValsR (ρ : Rn) (l : List Nat) (vs : List Value) (a : Act) : Prop := vs.length = l.length ∧ ∀ (j i : Nat) (v : Value), l[j]? = some i → vs[j]? = some v → ∃ v', a.tmps.toList[i]? = some v' ∧ VR ρ v v'
theorem valsK_sound {A : AAct} {a : Act} (hA : ARel P ρ A a) {l : List Nat} {k : List Value → Bool} (hk : valsK l A k = true) : ∃ vs, k vs = true ∧ ValsR ρ l vs a := by
 obtain ⟨vs, h1, h2, h3⟩ := valsK_true hk
 exact ⟨vs, h1, h2, fun j i v hi hv => hA.tmps.get (h3 j i v hi hv)⟩
theorem canonK_sound {a : Act} {marks : List Nat} {k : AAct → Bool} {nt : Nat} : ∀ {l : List Nat} {vs : List Value} {T : Tm},
 (lrec (β := List Value → Tm → Bool) (fun _ T => k ⟨T, marks, P.globals.size⟩) (fun i _ ih vs T => match vs with | v :: vs => setTK v T i fun T => ih vs T | [] => false) l vs T) = true →
 ValsR ρ l vs a → T.n = nt → (∀ i v, T.t.get i = some v → ∃ v', a.tmps.toList[i]? = some v' ∧ VR ρ v v') → ∃ T', k ⟨T', marks, P.globals.size⟩ = true ∧ T'.n = nt ∧ ∀ i v, T'.t.get i = some v → ∃ v', a.tmps.toList[i]? = some v' ∧ VR ρ v v' := by
 intro l
 induction l with
 | nil => intro vs T hk _ hn hT; exact ⟨T, hk, hn, hT⟩
 | cons x l ih =>
  intro vs T hk hv hn hT
  rw [lrec_cons] at hk
  cases vs with
  | nil => have := hv.1; simp at this
  | cons v vs =>
   obtain ⟨hx, hk⟩ := setTK_true hk
   refine ih hk ⟨by have := hv.1; simpa using this, fun j i u hi hu => hv.2 (j + 1) i u (by simpa using hi) (by simpa using hu)⟩ hn fun i u hu => ?_
   have hu : (T.t.put x v).get i = some u := hu
   rw [get_put] at hu
   split at hu
   · rename_i e
     injection hu with hu
     subst hu e
     exact hv.2 0 i v rfl rfl
   · exact hT i u hu
theorem canon_sound {a : Act} {marks : List Nat} {k : AAct → Bool} {nt : Nat} {l : List Nat} {vs : List Value} (hk : canonK l vs nt P.globals.size marks k = true) (hv : ValsR ρ l vs a) (hn : nt = a.tmps.size) (hm : DRel ρ marks a.defers) (hr : Rel P w0 ρ σ w) :
 ∃ A, k A = true ∧ SR P w0 ρ A a σ w ∧ A.marks = marks := by
 obtain ⟨T', h1, h2, h3⟩ := canonK_sound hk hv rfl (fun i v h => by cases h)
 exact ⟨_, h1, ⟨⟨⟨by rw [h2, hn]; simp, h3⟩, rfl⟩, hr, hm⟩, rfl⟩
end
end Go.Am
namespace Go.Am
open Go.RowKit Go.MapKept
section
variable {E : Env} {w0 : World}
structure AtX (P : Program) (w0 : World) (ρ : Rn) (l : List Nat) (vs : List Value) (n : Nat) (marks : List Nat) (a : Act) (σ : St) (w : World) : Prop where
 vals : ValsR ρ l vs a
 size : n = a.tmps.size
 marks : DRel ρ marks a.defers
 rel : Rel P w0 ρ σ w
def LArr (P : Program) (w0 : World) (tb : LiveT) (b : Code) (ρ : Rn) (w : World) (K : AExit → List Value → Nat → List Nat → St → Bool) (e : Exit) (a' : Act) (w' : World) : Prop :=
 ∃ ρ' ae vs n marks σ', e = exR ae ∧ K ae vs n marks σ' = true ∧ AtX P w0 ρ' (outOf tb b ae) vs n marks a' σ' w' ∧ Stp ρ w ρ' w'
def LpOk (E : Env) (w0 : World) (tb : LiveT) (lp : Code → LpT) : Prop := ∀ (b : Code) {ρ : Rn} {vs : List Value} {n : Nat} {marks : List Nat} {a : Act} {σ : St} {w : World} {K : AExit → List Value → Nat → List Nat → St → Bool} {r ro : Option Nat} {Q : Exit → Act → World → Prop},
 lp b E r vs n marks σ K = true → AtX E.P w0 ρ (keepOf tb b) vs n marks a σ w → RoR ρ r ro → (∀ e a' w', LArr E.P w0 tb b ρ w K e a' w' → Q e a' w') → (Code.loop b).wpIn (fnc ro) 0 E.P Q a w
theorem AtX.canon {P : Program} {ρ : Rn} {l : List Nat} {vs : List Value} {n : Nat} {marks : List Nat} {a : Act} {σ : St} {w : World} {k : AAct → Bool} (h : AtX P w0 ρ l vs n marks a σ w) (hk : canonK l vs n P.globals.size marks k = true) : ∃ A, k A = true ∧ SR P w0 ρ A a σ w := by
 obtain ⟨A, h1, h2, _⟩ := canon_sound hk h.vals h.size h.marks h.rel
 exact ⟨A, h1, h2⟩
theorem SR.at {P : Program} {ρ : Rn} {A : AAct} {a : Act} {σ : St} {w : World} {l : List Nat} {k : List Value → Bool} (h : SR P w0 ρ A a σ w) (hk : valsK l A k = true) : ∃ vs, k vs = true ∧ AtX P w0 ρ l vs A.tmps.n A.marks a σ w := by
 obtain ⟨vs, h1, h2⟩ := valsK_sound h.act hk
 exact ⟨vs, h1, h2, by rw [h.act.tmps.1]; simp, h.marks, h.rel⟩
theorem codeX_wp (hc : CallOk E.P w0 E.call) (hr : RoundOk E.P w0 E.round) (hm : E.P.follows .mixedOrders = true) {tb : LiveT} {lp : Code → LpT} (hlp : LpOk E w0 tb lp) : ∀ (c : Code) {ρ : Rn} {A : AAct} {a : Act} {σ : St} {w : World} {K : CK'} {r ro : Option Nat} {Q : Exit → Act → World → Prop},
 (codeX E.P tb lp c).f E r A σ K = true → SR E.P w0 ρ A a σ w → RoR ρ r ro → (∀ e a' w', Arr E.P w0 ρ w K e a' w' → Q e a' w') → c.wpIn (fnc ro) 0 E.P Q a w := by
 intro c
 induction c with
 | skip => intro ρ A a σ w K r ro Q hk hs hro hQ; exact wpIn_skip (hQ _ _ _ ⟨ρ, .normal, A, σ, rfl, hk, hs, .refl ρ w⟩)
 | label l => intro ρ A a σ w K r ro Q hk hs hro hQ; exact wpIn_label (hQ _ _ _ ⟨ρ, .normal, A, σ, rfl, hk, hs, .refl ρ w⟩)
 | ret => intro ρ A a σ w K r ro Q hk hs hro hQ; exact wpIn_ret (hQ _ _ _ ⟨ρ, .ret, A, σ, rfl, hk, hs, .refl ρ w⟩)
 | exit id => intro ρ A a σ w K r ro Q hk hs hro hQ; exact wpIn_exit (hQ _ _ _ ⟨ρ, .exit id, A, σ, rfl, hk, hs, .refl ρ w⟩)
 | goto l => intro ρ A a σ w K r ro Q hk hs hro hQ; cases hk
 | refuse l => intro ρ A a σ w K r ro Q hk hs hro hQ; cases hk
 | region id ops draw =>
  intro ρ A a σ w K r ro Q hk hs hro hQ
  have hk : (regX E.P ops draw).f E A σ (fun A σ => K .normal A σ) = true := hk
  rw [regX_eq] at hk
  exact codeK_wp hc hr (drG_ok hc hr hm) (.region id ops draw) hk hs hro hQ
 | seq x y ihx ihy =>
  intro ρ A a σ w K r ro Q hk hs hro hQ
  have hk : (codeX E.P tb lp x).f E r A σ (thenX E.P (joinOf tb y) (codeX E.P tb lp y) E r K) = true := hk
  refine wpIn_seq (ihx hk hs hro ?_)
  rintro e a' w' ⟨ρ', ae, A', σ', rfl, h1, h2, h3⟩
  cases ae with
  | normal =>
   unfold thenX at h1
   cases hj : joinOf tb y with
   | none =>
    rw [hj] at h1
    exact ihy h1 h2 (hro.mono h3.ext) fun e a w h => hQ e a w (h.trans h3)
   | some l =>
    rw [hj] at h1
    have h1 : valsK l A' (fun vs => joinX E.P l (codeX E.P tb lp y) E r K vs A'.tmps.n A'.marks σ') = true := h1
    obtain ⟨vs, g1, g2⟩ := h2.at h1
    have g1 : canonK l vs A'.tmps.n E.P.globals.size A'.marks (fun A => (codeX E.P tb lp y).f E r A σ' K) = true := by
     unfold joinX at g1
     cases hm : E.most with
     | zero => rw [hm] at g1; cases g1
     | succ m => rw [hm] at g1; exact g1
    obtain ⟨A2, g3, g4⟩ := g2.canon g1
    exact ihy g3 g4 (hro.mono h3.ext) fun e a w h => hQ e a w (h.trans h3)
  | exit id => exact hQ _ _ _ ⟨ρ', .exit id, A', σ', rfl, h1, h2, h3⟩
  | ret => exact hQ _ _ _ ⟨ρ', .ret, A', σ', rfl, h1, h2, h3⟩
 | cond c x y ihx ihy =>
  intro ρ A a σ w K r ro Q hk hs hro hQ
  have hk : (evW c).f A (fun v => match v with | .bool b => bcase b ((codeX E.P tb lp x).f E r A σ K) ((codeX E.P tb lp y).f E r A σ K) | _ => false) = true := hk
  rw [evW_eq] at hk
  obtain ⟨v, hk, hv⟩ := evK_sound hs.rel hs.act hk
  split at hk
  · rename_i b
    have e := hv.of_flat rfl
    cases b with
    | true => exact wpIn_cond_true e (ihx hk hs hro hQ)
    | false => exact wpIn_cond_false e (ihy hk hs hro hQ)
  · cases hk
 | block id x ih =>
  intro ρ A a σ w K r ro Q hk hs hro hQ
  have hk : (codeX E.P tb lp x).f E r A σ (blockX id K) = true := hk
  refine wpIn_block (ih hk hs hro ?_)
  rintro e a' w' ⟨ρ', ae, A', σ', rfl, h1, h2, h3⟩
  cases ae with
  | normal => exact hQ _ _ _ ⟨ρ', .normal, A', σ', rfl, h1, h2, h3⟩
  | ret => exact hQ _ _ _ ⟨ρ', .ret, A', σ', rfl, h1, h2, h3⟩
  | exit i =>
   unfold blockX at h1
   simp only at h1
   show Exit.inBlock id Q (.exit i) a' w'
   split at h1
   · rename_i hi
     have hi := Nat.eq_of_beq_eq_true hi
     subst hi
     simp only [Exit.inBlock, if_true]
     exact hQ _ _ _ ⟨ρ', .normal, A', σ', rfl, h1, h2, h3⟩
   · rename_i hi
     have hi := Nat.ne_of_beq_eq_false hi
     simp only [Exit.inBlock, hi, if_false]
     exact hQ _ _ _ ⟨ρ', .exit i, A', σ', rfl, h1, h2, h3⟩
 | scope x ih =>
  intro ρ A a σ w K r ro Q hk hs hro hQ
  refine wpIn_scope (ih (show (codeX E.P tb lp x).f E r A σ K = true from hk) hs hro ?_)
  rintro e a' w' ⟨ρ', ae, A', σ', rfl, h1, h2, h3⟩
  cases ae with
  | normal => exact hQ _ _ _ ⟨ρ', .normal, A', σ', rfl, h1, h2, h3⟩
  | exit id => exact hQ _ _ _ ⟨ρ', .exit id, A', σ', rfl, h1, h2, h3⟩
  | ret => exact hQ _ _ _ ⟨ρ', .ret, A', σ', rfl, h1, h2, h3⟩
 | rangeFunc f ps as bo _ _ =>
  intro ρ A a σ w K r ro Q hk hs hro hQ
  exact rangeK_wp hc hk hs hro hQ
 | loop x ih =>
  intro ρ A a σ w K r ro Q hk hs hro hQ
  have hk : valsK (keepOf tb x) A (fun vs => lp x E r vs A.tmps.n A.marks σ (outX E.P tb x K)) = true := hk
  obtain ⟨vs, hk, hat⟩ := hs.at hk
  refine hlp x hk hat hro ?_
  rintro e a' w' ⟨ρ', ae, vs', n', marks', σ', rfl, h1, h2, h3⟩
  obtain ⟨A', h1, h4⟩ := h2.canon h1
  exact hQ _ _ _ ⟨ρ', ae, A', σ', rfl, h1, h4, h3⟩
theorem lpX_ok (hc : CallOk E.P w0 E.call) (hr : RoundOk E.P w0 E.round) (hm : E.P.follows .mixedOrders = true) (tb : LiveT) : ∀ m, LpOk E w0 tb (lpX E.P tb m) := by
 intro m
 induction m with
 | zero => intro b ρ vs n marks a σ w K r ro Q hk; cases hk
 | succ m ih =>
  intro b ρ vs n marks a σ w K r ro Q hk hat hro hQ
  let F : Nat → List Value → Nat → List Nat → St → Bool := roundsN E.P tb b (codeX E.P tb (lpX E.P tb m) b) E r K
  have hk : F E.most vs n marks σ = true := hk
  let I : Nat → Act → World → Prop := fun j a' w' => ∃ ρ' vs n marks σ', F j vs n marks σ' = true ∧ AtX E.P w0 ρ' (keepOf tb b) vs n marks a' σ' w' ∧ Stp ρ w ρ' w'
  refine wpIn_loop (I := fun a w => ∃ j, I j a w) (μ := fun a w => least fun j => I j a w) ⟨E.most, ρ, vs, n, marks, σ, hk, hat, .refl ρ w⟩ ?_
  rintro a1 w1 ⟨j0, hj0⟩
  obtain ⟨hj, _⟩ := least_spec (p := fun j => I j a1 w1) hj0
  generalize hgen : least (fun j => I j a1 w1) = j at hj
  obtain ⟨ρ1, vs1, n1, marks1, σ1, h1, h2, h3⟩ := hj
  cases j with
  | zero => cases h1
  | succ j =>
   have h1 : canonK (keepOf tb b) vs1 n1 E.P.globals.size marks1 (fun A => (codeX E.P tb (lpX E.P tb m) b).f E r A σ1 (behindX tb b (F j) K)) = true := h1
   obtain ⟨A1, h1, hs1⟩ := h2.canon h1
   refine codeX_wp hc hr hm ih b h1 hs1 (hro.mono h3.ext) ?_
   rintro e a' w' ⟨ρ', ae, A', σ', rfl, g1, g2, g3⟩
   cases ae with
   | normal =>
    obtain ⟨vs', g1, hat'⟩ := g2.at g1
    have hI : I j a' w' := ⟨ρ', vs', _, _, σ', g1, hat', h3.trans g3⟩
    refine ⟨⟨j, hI⟩, ?_⟩
    have := (least_spec (p := fun j => I j a' w') hI).2
    exact Nat.lt_succ_of_le this
   | exit id =>
    obtain ⟨vs', g1, hat'⟩ := g2.at g1
    exact hQ _ _ _ ⟨ρ', .exit id, vs', _, _, σ', rfl, g1, hat', h3.trans g3⟩
   | ret =>
    obtain ⟨vs', g1, hat'⟩ := g2.at g1
    exact hQ _ _ _ ⟨ρ', .ret, vs', _, _, σ', rfl, g1, hat', h3.trans g3⟩
end
end Go.Am

namespace Go.Am
open Go.RowKit Go.MapKept
section
variable (P : Program) (tb : FuncId → LiveT)
noncomputable def finX (fn : Func) (K : VK) : CK' := fun e A σ => match e with
 | .exit _ => false
 | _ => marksK A.marks σ fun σ => resultsK P fn.results.toList A σ fun vs => match vs with | [v] => K v σ | vs => K (.tuple ⟨vs⟩) σ
def deepX : Nat := 5
noncomputable def fnX (f : FuncId) (E : Env) (args : List Value) (σ : St) (K : VK) : Bool :=
 match P.funcs[f]? with
 | some fn => match fn.body with
  | some c => forceN fn.ntmps fun n => layTK n args fun ts => (codeX P (tb f) (lpX P (tb f) deepX) c).f E none ⟨ts, [], P.globals.size⟩ σ (finX P fn K)
  | none => false
 | none => false
def rkey (n : Nat) (bo : Code) : Nat := match firstReg bo with | some i => 1000000 + n * 10000 + i | none => 1000000
def rlive (n : Nat) (bo : Code) : List Nat := ((tb (rkey n bo)).loop 1000000).1
noncomputable def endX (l : Nat) (K : VK) : CK' := fun e _ σ => getK σ.h l fun o => match o with
 | .loop tm ps as bo _ _ => match e with
  | .normal => setK σ l (.loop tm ps as bo .ready none) fun σ => K (.bool true) σ
  | .ret => setK σ l (.loop tm ps as bo .done (some .ret)) fun σ => K (.bool false) σ
  | .exit id => setK σ l (.loop tm ps as bo .done (some (.exit id))) fun σ => K (.bool false) σ
 | _ => false
noncomputable def beginX (n l : Nat) (bo : Code) (E : Env) (K : VK) : CK' := fun e A σ => match e with
 | .normal => getK σ.h l fun o => match o with
  | .loop tm ps as bo' .ready pe => setK σ l (.loop tm ps as bo' .busy pe) fun σ => (codeX P (tb (rkey n bo)) (lpX P (tb (rkey n bo)) deepX) bo).f E (some l) A σ (endX l K)
  | _ => false
 | _ => false
noncomputable def roundX (E : Env) (l : Nat) (args : List Value) (σ : St) (K : VK) : Bool :=
 getK σ.h l fun o => match o with
  | .loop tmps ps as bo _ _ => valsK (rlive tb tmps.n bo) ⟨tmps, [], P.globals.size⟩ fun vs => canonK (rlive tb tmps.n bo) vs tmps.n P.globals.size [] fun A => layP ps args A.tmps fun ts =>
   (codeX P (tb (rkey tmps.n bo)) (lpX P (tb (rkey tmps.n bo)) deepX) as).f E (some l) ⟨ts, [], P.globals.size⟩ σ (beginX P tb tmps.n l bo E K)
  | _ => false
noncomputable def envX (ov : FuncId → Option (List Value → St → VK → Bool)) (most : Nat) (n : Nat) : Env :=
 nrec (β := Env) { P, ov, call := fun _ _ _ _ => false, round := fun _ _ _ _ => false, most }
  (fun _ E => { P, ov, call := fun f args σ K => match ov f with | some g => g args σ K | none => fnX P tb f E args σ K, round := fun l args σ K => roundX P tb E l args σ K, most }) n

/-! ### places -/
inductive Dir where
 | l
 | r
 | d
variable (T : LiveT) (E : Env)
end
section
variable {P : Program} {tb : FuncId → LiveT} {w0 : World}
theorem fnX_sound {E : Env} (hP : E.P = P) (hc : CallOk P w0 E.call) (hr : RoundOk P w0 E.round) (hm : P.follows .mixedOrders = true) (hnames : ∀ (f : FuncId) (fn : Func), P.funcs[f]? = some fn → fn.name ≠ "runtime.NumGoroutine") : CallOk P w0 (fun f args σ K => fnX P tb f E args σ K) := by
 subst hP
 intro f args σ K ρ w args' hk h ha
 dsimp only at hk
 unfold fnX at hk
 split at hk
 · rename_i fn hf
   split at hk
   · rename_i c hb
     refine ⟨fun w => ?_, ?_⟩
     · have hn := hnames f fn hf
       have hp : (program).run E.P w = .ok E.P w := rfl
       simp [callFunc, hp, hf, hn, hb]
     · rw [forceN_eq] at hk
       obtain ⟨ts, hk, hts⟩ := layTK_sound hk ha
       refine callsIn_of_wp_marks hf hb trivial (codeX_wp hc hr hm (lpX_ok hc hr hm (tb f) deepX) c (ro := none) (r := none) hk ⟨⟨hts, rfl⟩, h, ⟨rfl, by simp⟩⟩ (.inl ⟨rfl, rfl⟩) ?_)
       · rintro e a' w' ⟨ρ', ae, A', σ', rfl, g1, g2, g3⟩
         have fin : marksK A'.marks σ' (fun σ => resultsK E.P fn.results.toList A' σ fun vs => match vs with | [v] => K v σ | vs => K (.tuple ⟨vs⟩) σ) = true → LeavesInM (fnc none) 0 E.P fn a'.tmps (Back E.P w0 ρ w K) a'.defers .returning w' := by
          intro hk
          refine marksK_sound hk g2.rel g2.marks fun σ2 w2 hk hrel hstp => ?_
          obtain ⟨vs, vs', hk, hvs, hrun⟩ := resultsK_sound hrel g2.act hk
          have hmap : (fn.results.mapM (fun | .tmp t => pure (a'.tmps.getD t undef) | .cell x t => do loadVar t (← asAddr (a'.tmps.getD x undef)) : ResultVar → Sem Value)).run E.P w2 = .ok ⟨vs'⟩ w2 := by
           rw [← Array.toArray_toList (xs := fn.results), List.mapM_toArray]
           rw [Sem.run_map]
           exact (congrArg (fun r => Result.andThen r _) hrun).trans rfl
          refine ⟨(if h : (⟨vs'⟩ : Array Value).size = 1 then (⟨vs'⟩ : Array Value)[0] else .tuple ⟨vs'⟩), ?_, ?_⟩
          · unfold results
            rw [Sem.run_bind]
            exact (congrArg (fun r => Result.andThen r _) hmap).trans rfl
          · refine ⟨_, rfl, ?_⟩
            match vs, vs', hk, hvs with
            | [v], [v'], hk, hvs => exact ⟨ρ', v, σ2, hk, hvs.head, hrel, g3.trans hstp⟩
            | [], [], hk, hvs => exact ⟨ρ', _, σ2, hk, .mk_tuple (.nil _), hrel, g3.trans hstp⟩
            | a :: b :: l, a2 :: b2 :: l2, hk, hvs =>
             have : ¬ (⟨a2 :: b2 :: l2⟩ : Array Value).size = 1 := by simp
             rw [dif_neg this]
             exact ⟨ρ', _, σ2, hk, .mk_tuple hvs, hrel, g3.trans hstp⟩
            | [], _ :: _, _, hvs => have := hvs.1; simp at this
            | _ :: _, [], _, hvs => have := hvs.1; simp at this
            | [_], _ :: _ :: _, _, hvs => have := hvs.1; simp at this
            | _ :: _ :: _, [_], _, hvs => have := hvs.1; simp at this
         cases ae with
         | normal => exact fin g1
         | ret => exact fin g1
         | exit id => cases g1
   · cases hk
 · cases hk
theorem roundX_sound {E : Env} (hP : E.P = P) (hc : CallOk P w0 E.call) (hr : RoundOk P w0 E.round) (hm : P.follows .mixedOrders = true) : RoundOk P w0 (roundX P tb E) := by
 subst hP
 intro l args σ K ρ w args' L hk h ha hL
 unfold roundX at hk
 obtain ⟨o, ho, hk⟩ := getLoop_true hk
 split at hk
 · rename_i tmps params assign body st pe
   obtain ⟨r, hb, hrr, hst, hpe, hps, has, hbo, htm⟩ := loop_state h ho hL
   have hat0 : SR E.P w0 ρ ⟨tmps, [], E.P.globals.size⟩ { tmps := r.tmps, defers := [] } σ w := ⟨⟨htm, rfl⟩, h, ⟨rfl, by simp⟩⟩
   obtain ⟨vs, hk, hat⟩ := hat0.at hk
   obtain ⟨A0, hk, hA0⟩ := hat.canon hk
   obtain ⟨ts, hk, hlen, hts⟩ := layP_sound hk ha hA0.act.tmps
   have hyield : (Instr.yield L.b ⟨args'⟩).run E.P w = .ok (.round L.b r.fn ((r.params.zip ⟨args'⟩).foldl (fun tmps (x : Tmp × Value) => tmps.setIfInBounds x.1 x.2) r.tmps) r.assign r.body) w := by
    have hsz : (⟨args'⟩ : Array Value).size = r.params.size := by
     show args'.length = _
     rw [hlen, ← hps]; rfl
    have hne : ¬ (⟨args'⟩ : Array Value).size ≠ r.params.size := fun hh => hh hsz
    simp only [Instr.yield, Sem.run_bind, run_getLoop hrr, Result.andThen_ok, if_neg hne, Sem.run_pure]
   refine ⟨_, _, _, _, hyield, ?_⟩
   refine roundIn_of_wpIn trivial ?_
   rw [has]
   have hzip : ((r.params.zip ⟨args'⟩).foldl (fun tmps (x : Tmp × Value) => tmps.setIfInBounds x.1 x.2) r.tmps) = (params.zip args').foldl (fun tmps (x : Tmp × Value) => tmps.setIfInBounds x.1 x.2) r.tmps := by
    rw [← Array.foldl_toList]
    congr 1
    rw [Array.toList_zip, hps]
   rw [hzip]
   refine codeX_wp hc hr hm (lpX_ok hc hr hm _ deepX) assign (ro := some L.b) hk ⟨⟨hts, rfl⟩, h, ⟨rfl, by simp⟩⟩ (.inr ⟨l, L, rfl, hL, rfl⟩) ?_
   rintro e a' w' ⟨ρ1, ae, A1, σ1, rfl, g1, g2, g3⟩
   unfold beginX at g1
   cases ae with
   | exit id => cases g1
   | ret => cases g1
   | normal =>
    simp only at g1
    obtain ⟨o1, ho1, g1⟩ := getLoop_true g1
    have hL1 := g3.ext _ _ hL
    split at g1
    · rename_i tm ps as bo pe1
      obtain ⟨r1, hb1, hrr1, hst1, hpe1, hps1, has1, hbo1, htm1⟩ := loop_state g2.rel ho1 hL1
      obtain ⟨q1, q2, q3⟩ := loop_set g2.rel ho1 hL1 hb1 hrr1 hps1 has1 hbo1 htm1 .busy pe1
      rw [setK_eq] at g1
      refine ⟨w'.putObj L.b (.loop { r1 with state := .busy, pending := pe1 }), ?_, ?_⟩
      · have q3' : (setObj L.b (.loop { r1 with state := .busy })).run E.P w' = .ok () (w'.putObj L.b (.loop { r1 with state := .busy, pending := pe1 })) := by
         rw [← hpe1] at q3 ⊢; exact q3
        simp only [Instr.beginRound, Sem.run_bind, run_getLoop hrr1, Result.andThen_ok, q3', hst1, Sem.run_pure]
      · rw [hbo]
        refine codeX_wp hc hr hm (lpX_ok hc hr hm _ deepX) body (ro := some L.b) g1 ⟨g2.act, q1, g2.marks⟩ (.inr ⟨l, L, rfl, hL1, rfl⟩) ?_
        rintro e2 a2 w2 ⟨ρ2, ae2, A2, σ2, rfl, k1, k2, k3⟩
        unfold endX at k1
        obtain ⟨o2, ho2, k1⟩ := getLoop_true k1
        have hL2 := k3.ext _ _ hL1
        split at k1
        · rename_i tm2 ps2 as2 bo2 st2 pe2
          obtain ⟨r2, hb2, hrr2, hst2, hpe2, hps2, has2, hbo2, htm2⟩ := loop_state k2.rel ho2 hL2
          have fin : ∀ (st' : LoopState) (jump : Option Code) (bv : Bool), K (.bool bv) (σ2.set l (.loop tm2 ps2 as2 bo2 st' jump)) = true → bv = jump.isNone → st' = (if jump.isNone then .ready else .done) →
           ∃ v w', (Instr.endRound L.b jump).run E.P w2 = .ok v w' ∧ Back E.P w0 ρ w K (.returned v) w' := by
           intro st' jump bv hK hbv hst'
           obtain ⟨z1, z2, z3⟩ := loop_set k2.rel ho2 hL2 hb2 hrr2 hps2 has2 hbo2 htm2 st' jump
           refine ⟨.bool bv, _, ?_, .bool bv, rfl, ρ2, .bool bv, _, hK, .flat rfl, z1, ((g3.trans q2).trans k3).trans z2⟩
           rw [hst'] at z3 ⊢
           simp only [Instr.endRound, Sem.run_bind, run_getLoop hrr2, Result.andThen_ok, z3, Sem.run_pure, hbv]
          cases ae2 with
          | normal =>
           simp only [setK_eq] at k1
           exact fin .ready none true k1 rfl rfl
          | ret =>
           simp only [setK_eq] at k1
           exact fin .done (some .ret) false k1 rfl rfl
          | exit id =>
           simp only [setK_eq] at k1
           exact fin .done (some (.exit id)) false k1 rfl rfl
        · cases k1
    · cases g1
 · cases hk
theorem envX_P (P : Program) (tb : FuncId → LiveT) (ov : FuncId → Option (List Value → St → VK → Bool)) (most n : Nat) : (envX P tb ov most n).P = P := by cases n <;> rfl
theorem envX_sound {ov : FuncId → Option (List Value → St → VK → Bool)} {most : Nat} (hov : OvOk P w0 ov) (hnames : ∀ (f : FuncId) (fn : Func), P.funcs[f]? = some fn → fn.name ≠ "runtime.NumGoroutine") (hm : P.follows .mixedOrders = true) : ∀ n, CallOk P w0 (envX P tb ov most n).call ∧ RoundOk P w0 (envX P tb ov most n).round := by
 intro n
 induction n with
 | zero =>
  refine ⟨?_, ?_⟩
  · intro f args σ K ρ w args' hk; cases hk
  · intro l args σ K ρ w args' L hk; cases hk
 | succ n ih =>
  obtain ⟨ih1, ih2⟩ := ih
  have hP := envX_P P tb ov most n
  refine ⟨fun f args σ K ρ w args' hk h ha => ?_, ?_⟩
  · have hk : (match (generalizing := false) ov f with | some g => g args σ K | none => fnX P tb f (envX P tb ov most n) args σ K) = true := hk
    split at hk
    · rename_i g hg
      exact hov f g hg f args σ K ρ w args' (by simpa using hk) h ha
    · exact fnX_sound (tb := tb) hP ih1 ih2 hm hnames f args σ K ρ w args' hk h ha
  · exact roundX_sound hP ih1 ih2 hm
end
end Go.Am

namespace Go.Am
open Go.RowKit Go.MapKept
end Go.Am
namespace Go.Am
noncomputable def lookL (l : List (Nat × List Nat × List Nat × List Nat)) (i : Nat) : List Nat × List Nat × List Nat := lrec (β := List Nat × List Nat × List Nat) ([], [], []) (fun p _ ih => bcase (Nat.beq p.1 i) p.2 ih) l
noncomputable def lookJ (l : List (Nat × List Nat)) (i : Nat) : Option (List Nat) := lrec (β := Option (List Nat)) none (fun p _ ih => bcase (Nat.beq p.1 i) (some p.2) ih) l
noncomputable def lookF (l : List (Nat × LiveT)) (f : FuncId) : LiveT := lrec (β := LiveT) ⟨fun _ => ([], [], []), fun _ => none⟩ (fun p _ ih => bcase (Nat.beq p.1 f) p.2 ih) l
end Go.Am

namespace Go.Am
open Go.RowKit Go.MapKept
section
variable {P : Program}
theorem rFld_p (off b o : Nat) (K : Value → Bool) : rFld off (.pointer (some ⟨b, o, none⟩)) K = K (.pointer (some ⟨b, o + off, none⟩)) := by
 show forceN (o + off) (fun o => K (.pointer (some ⟨b, o, none⟩))) = _
 rw [forceN_eq]
theorem rExt_t (i : Nat) (vs : List Value) (K : Value → Bool) : rExt i (.tuple ⟨vs⟩) K = nthK vs i fun v => K v := rfl
theorem nthK_h {α : Type} {l : List α} {i : Nat} {v : α} (h : l[i]? = some v) (k : α → Bool) : nthK l i k = k v := by
 induction l generalizing i with
 | nil => cases h
 | cons a l ih =>
  cases i with
  | zero => simp at h; subst h; rfl
  | succ i => exact ih (by simpa using h)
theorem rLenT_s (l : List UInt8) (K : Value → Bool) : rLenT (.string ⟨⟨l⟩⟩) K = K (.int .i64 (.ofNat l.length)) := lenK_eq _ _
theorem rInt_i (k j : IntKind) (n : Int) (K : Value → Bool) : rInt k (.int j n) K = K (.int k (wrapI k n)) := by
 show forceI (wrapI k n) (fun n => K (.int k n)) = _
 rw [forceI_eq]
theorem cellsK_h {σ : St} {i : Nat} {vs : List Value} {e : TypeId} {c : CK} (h : σ.obj i = some (.cells vs e c)) (k : List Value → TypeId → CK → Bool) : cellsK σ i k = k vs e c := by
 unfold cellsK; rw [getK_eq]
 have h : σ.h.get i = some (.cells vs e c) := h
 rw [h]
theorem rLd_h {σ : St} {i o : Nat} {vs : List Value} {e : TypeId} {c : CK} {v : Value} (h : σ.obj i = some (.cells vs e c)) (hv : vs[o]? = some v) (K : VK) : rLd (.pointer (some ⟨i, o, none⟩)) σ K = K v σ := by
 show cellsK σ i (fun vs _ _ => nthK vs o fun v => K v σ) = _
 rw [cellsK_h h, nthK_h hv]
theorem readK_h {σ : St} {i o n : Nat} {vs : List Value} {e : TypeId} {c : CK} (h : σ.obj i = some (.cells vs e c)) (hn : o + n ≤ vs.length) (k : List Value → Bool) : readK σ i o n k = k ((vs.drop o).take n) := by
 show cellsK σ i (fun vs _ _ => dropK o vs fun l => takeK n l k) = _
 rw [cellsK_h h, dropK_eq, if_pos (by omega), takeK_eq, if_pos (by simp; omega)]
theorem rLdN_h {σ : St} {i o n : Nat} {vs : List Value} {e : TypeId} {c : CK} (h : σ.obj i = some (.cells vs e c)) (hn : o + n ≤ vs.length) (K : VK) : rLdN n (.pointer (some ⟨i, o, none⟩)) σ K = K (.agg ⟨(vs.drop o).take n⟩) σ := by
 show readK σ i o n (fun l => K (.agg ⟨l⟩) σ) = _
 rw [readK_h h hn]
theorem rField_h {cs : List Value} {off : Nat} {v : Value} (h : cs[off]? = some v) (K : Value → Bool) : rField off (.agg ⟨cs⟩) K = K v := by
 show nthK cs off K = _
 rw [nthK_h h]
theorem rFieldN_h {cs : List Value} {off n : Nat} (h : off + n ≤ cs.length) (K : Value → Bool) : rFieldN off n (.agg ⟨cs⟩) K = K (.agg ⟨(cs.drop off).take n⟩) := by
 show dropK off cs (fun l => takeK n l fun l => K (.agg ⟨l⟩)) = _
 rw [dropK_eq, if_pos (by omega), takeK_eq, if_pos (by simp; omega)]
theorem cellsOf_one {v : Value} (h : oneCell v = true) (k : List Value → Bool) : cellsOfK v k = k [v] := by cases v <;> first | rfl | cases h
theorem rAlloc_h (z : List Value) (t : TypeId) (σ : St) (K : VK) : rAlloc z t σ K = K (.pointer (some ⟨σ.n, 0, none⟩)) (σ.new (.cells z t .exact)) := by
 unfold rAlloc layK
 have : ∀ (z : List Value) (k : List Value → Bool), lrec (β := (List Value → Bool) → Bool) (fun k => k []) (fun a _ ih k => ih fun t => k (a :: t)) z k = k z := by
  intro z
  induction z with
  | nil => intro k; rfl
  | cons a z ih => intro k; exact ih _
 rw [this, newK_eq]
/-! numbers -/
theorem rBin_i (op : BinOp) (t : TypeId) (k : IntKind) (a b : Int) (K : Value → Bool) (h1 : op ≠ .shl) (h2 : op ≠ .shr) : rBin P op t (.int k a) (.int k b) K = intBinK op k a b K := by
 rw [rBin_eq]
 have hk : kindEq k k = true := by cases k <;> rfl
 cases op <;> first | exact absurd rfl h1 | exact absurd rfl h2 | (show (match kindEq k k with | true => _ | false => false) = _; rw [hk])
theorem unK_not (b : Bool) (K : Value → Bool) : unK .not (.bool b) K = K (.bool (!b)) := by
 show forceB (!b) (fun b => K (.bool b)) = _
 rw [forceB_eq]
/-! rows -/
/-! the heap -/
theorem obj_new_old {σ : St} {o : AObj} {i : Nat} (h : i ≠ σ.n) : (σ.new o).obj i = σ.obj i := by rw [obj_new, if_neg h]
theorem obj_new_same {σ : St} {o : AObj} : (σ.new o).obj σ.n = some o := by rw [obj_new, if_pos rfl]
theorem obj_set_same {σ : St} {i : Nat} {o : AObj} : (σ.set i o).obj i = some o := by rw [obj_set, if_pos rfl]
theorem obj_set_other {σ : St} {i j : Nat} {o : AObj} (h : j ≠ i) : (σ.set i o).obj j = σ.obj j := by rw [obj_set, if_neg h]
theorem sameV_int (j : IntKind) (z : Int) : sameV (.int j z) (.int j z) = true := by
 have h1 : kindEq j j = true := by cases j <;> rfl
 show (kindEq j j && eqI z z) = true
 rw [h1, eqI_eq]; simp
/-! appending -/
def bytesV (l : List UInt8) : List Value := l.map fun b => .int .u8 (.ofNat b.toNat)
structure Src (σ : St) (size : Nat) (x : Value) (n : Nat) (new : List Value) : Prop where
 len : ∀ k, lenVK x k = k n
 first : ∀ k, n ≠ 0 → firstK σ size n x k = k new
 one : ∀ v ∈ new, oneCell v = true
theorem Src.text (σ : St) (l : List UInt8) : Src σ 1 (.string ⟨⟨l⟩⟩) l.length (bytesV l) := by
 refine ⟨fun k => lenK_eq _ _, fun k h => ?_, fun v hv => ?_⟩
 · show takeK l.length l (fun l => u8sK l k) = _
   rw [takeK_eq, if_pos (Nat.le_refl _), List.take_length, u8sK_eq]
   rfl
 · obtain ⟨b, _, rfl⟩ := List.mem_map.1 hv
   rfl
theorem Src.row {σ : St} {i o n c size : Nat} {vs : List Value} {e : TypeId} {ck : CK} (h : σ.obj i = some (.cells vs e ck)) (hn : o + n * size ≤ vs.length) (h1 : ∀ v ∈ (vs.drop o).take (n * size), oneCell v = true) : Src σ size (.slice (some ⟨i, o, none⟩) n c) n ((vs.drop o).take (n * size)) := by
 refine ⟨fun k => rfl, fun k hz => ?_, h1⟩
 obtain ⟨m, rfl⟩ := Nat.exists_eq_succ_of_ne_zero hz
 show readK σ i o ((m + 1) * size) k = _
 rw [readK_h h hn]
theorem rApp_nil {elem size bytes n : Nat} {σ : St} {x : Value} {new : List Value} (hx : Src σ size x n new) (hz : n ≠ 0) (hb : n * (bytes + 1) ≤ 1099511627776) (K : VK) :
 rApp P elem size bytes (.slice none 0 0) x σ K = K (.slice (some ⟨σ.n, 0, some 0⟩) n n) (σ.new (.cells new elem (.grown []))) := by
 obtain ⟨m, rfl⟩ := Nat.exists_eq_succ_of_ne_zero hz
 show lenVK x _ = _
 rw [hx.len]
 show firstK σ size (m + 1) x _ = _
 rw [hx.first _ hz]
 simp only [forceN_eq, Nat.zero_add]
 rw [show Nat.ble ((m + 1) * (bytes + 1)) 1099511627776 = true from Nat.ble_eq_true_of_le hb]
 have : Nat.ble (m + 1) 0 = false := rfl
 simp only [this]
 show growK elem [] new (m + 1) none σ K = _
 unfold growK
 rw [appK_eq]
 simp only [List.nil_append, newK_eq]
theorem rApp_row {elem size bytes n m j : Nat} {σ : St} {x : Value} {new vs : List Value} {olds : List Nat} (hx : Src σ size x n new) (hz : n ≠ 0) (hb : (m + n) * (bytes + 1) ≤ 1099511627776)
 (hj : σ.obj j = some (.cells vs elem (.grown olds))) (hv : vs.length = m * size) (hs : sizeT P elem = some size) (K : VK) :
 rApp P elem size bytes (.slice (some ⟨j, 0, some 0⟩) m m) x σ K = K (.slice (some ⟨σ.n, 0, some 0⟩) (m + n) (m + n)) ((σ.set j (.cells vs elem .stale)).new (.cells (vs ++ new) elem (.grown (j :: olds)))) := by
 obtain ⟨p, rfl⟩ := Nat.exists_eq_succ_of_ne_zero hz
 show lenVK x _ = _
 rw [hx.len]
 show firstK σ size (p + 1) x _ = _
 rw [hx.first _ hz]
 simp only [forceN_eq]
 rw [show Nat.ble ((m + (p + 1)) * (bytes + 1)) 1099511627776 = true from Nat.ble_eq_true_of_le hb]
 have : Nat.ble (m + (p + 1)) m = false := by
  cases h : Nat.ble (m + (p + 1)) m with
  | false => rfl
  | true => have := Nat.le_of_ble_eq_true h; omega
 simp only [this]
 show cellsK σ j _ = _
 rw [cellsK_h hj]
 simp only [lenK_eq, Nat.zero_add, hv, hs]
 have hone : allB oneCell new = true := by rw [allB_eq]; exact List.all_eq_true.2 hx.one
 simp only [show Nat.beq (m * size) (m * size) = true from Nat.beq_refl _, show Nat.beq size size = true from Nat.beq_refl _, show Nat.beq elem elem = true from Nat.beq_refl _, hone]
 rw [readK_h hj (by omega)]
 rw [List.drop_zero, ← hv, List.take_length]
 show growK elem vs new (m + (p + 1)) (some (j, vs, elem, olds)) σ K = _
 unfold growK
 rw [appK_eq]
 simp only [setK_eq, newK_eq]
 rfl
end
end Go.Am
