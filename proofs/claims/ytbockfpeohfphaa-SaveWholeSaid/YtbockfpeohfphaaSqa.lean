/- save: bytes tell the data. -/
import Derived.Test.YtbockfpeohfphaaSpc

namespace Go.Am
open Go.RowKit Go.MapKept Go.Proofs Go.Proofs.Rdr
def valB : List UInt8 → Nat
  | [] => 0
  | x :: l => x.toNat * 256 ^ l.length + valB l
theorem valB_beb (n : Nat) : ∀ k, valB (beb k n) = n % 256 ^ k := by
  intro k
  induction k with
  | zero => simp [beb, valB, Nat.mod_one]
  | succ k ih =>
    simp only [beb, valB, beb_length, ih]
    rw [Nat.pow_succ, Nat.mod_mul, UInt8.toNat_ofNat']
    rw [Nat.add_comm, Nat.mul_comm]
/-- data as they come -/
inductive WF : It → D → Prop where
  | num {z : Nat} (h : z < 18446744073709551616) : WF .num (.n z)
  | kind {z : Nat} (h : z < 256) : WF .kind (.n z)
  | int {z : Int} (h1 : -9223372036854775808 ≤ z) (h2 : z < 9223372036854775808) : WF .int (.n z)
  | is {b : Bool} : WF .is (.b b)
  | text {l : List UInt8} : WF .text (.s l)
  | nums {ns : List Nat} (h : ∀ z ∈ ns, z < 18446744073709551616) : WF .nums (.l (ns.map fun z : Nat => [.n (z : Int)]))
  | list {its : List It} {es : List (List D)} (hl : ∀ ds ∈ es, ds.length = its.length) (hr : ∀ (k : Nat) (ds : List D) (j : Nat) (it : It) (d : D), es[k]? = some ds → its[j]? = some it → ds[j]? = some d → WF it d) : WF (.list its) (.l es)
/-- behind what is there -/
theorem wrN_app (l b : List UInt8) (e : Nat) : wrN l (b, e) = (b ++ (wrN l ([], e)).1, (wrN l ([], e)).2) := by simp [wrN]
def App (f : PenS → PenS) : Prop := ∀ b e, f (b, e) = (b ++ (f ([], e)).1, (f ([], e)).2)
theorem App.comp {f g : PenS → PenS} (hf : App f) (hg : App g) : App fun st => g (f st) := by
  intro b e
  show g (f (b, e)) = _
  rw [hf b e, hg (b ++ _) _]
  have := hg (f ([], e)).1 (f ([], e)).2
  show _ = (b ++ (g (f ([], e))).1, (g (f ([], e))).2)
  rw [show g (f ([], e)) = g ((f ([], e)).1, (f ([], e)).2) from rfl, this]
  simp
theorem App.fold {f : PenS → List D → PenS} (h : ∀ ds, App fun st => f st ds) : ∀ es : List (List D), App fun st => es.foldl f st := by
  intro es
  induction es with
  | nil => intro b e; simp
  | cons ds es ih => exact App.comp (h ds) ih
mutual
theorem enc_app : ∀ (it : It) (d : D), App (enc it d)
  | .num, d => by intro b e; cases d <;> simp [enc, wrN]
  | .kind, d => by intro b e; cases d <;> simp [enc, wrN]
  | .int, d => by intro b e; cases d <;> simp [enc, wrN]
  | .is, d => by intro b e; cases d <;> simp [enc, wrN]
  | .text, d => by intro b e; cases d <;> simp [enc, wr]
  | .nums, d => by intro b e; cases d <;> simp [enc, wr]
  | .list its, .n _ => by intro b e; simp [enc]
  | .list its, .b _ => by intro b e; simp [enc]
  | .list its, .s _ => by intro b e; simp [enc]
  | .list its, .l es => by
    by_cases hb : 1048576 < es.length
    · intro b e; simp [enc, hb, wr]
    · have h1 : App fun st => es.foldl (fun st ds => if st.2 = 0 then encs its ds st else st) st := App.fold (fun ds => by
        intro b e
        show (if e = 0 then encs its ds (b, e) else (b, e)) = (b ++ (if e = 0 then encs its ds ([], e) else ([], e)).1, (if e = 0 then encs its ds ([], e) else ([], e)).2)
        by_cases he : e = 0
        · simp only [if_pos he]; exact encs_app its ds b e
        · simp only [if_neg he, List.append_nil]) es
      have h2 : App (wrN (beb 8 es.length)) := fun b e => wrN_app _ b e
      have h3 := App.comp h2 h1
      intro b e
      simp only [enc, if_neg hb]
      exact h3 b e
theorem encs_app : ∀ (its : List It) (ds : List D), App (encs its ds)
  | [], _ => by intro b e; simp [encs]
  | _ :: _, [] => by intro b e; simp [encs]
  | it :: its, d :: ds => by
    have := App.comp (enc_app it d) (encs_app its ds)
    intro b e
    simp only [encs]
    exact this b e
end
end Go.Am

namespace Go.Am
open Go.RowKit Go.MapKept Go.Proofs Go.Proofs.Rdr
/-- an error stays -/
def Keeps (f : PenS → PenS) : Prop := ∀ st, (f st).2 = 0 → st.2 = 0
theorem wr_keeps (x : List UInt8 × Nat) : Keeps (wr x) := by
  intro st h
  unfold wr at h
  by_cases he : st.2 = 0
  · exact he
  · simp only [if_neg he] at h; exact h
theorem fold_keeps {f : PenS → List D → PenS} (h : ∀ ds, Keeps fun st => f st ds) : ∀ es : List (List D), Keeps fun st => es.foldl f st := by
  intro es
  induction es with
  | nil => intro st h; exact h
  | cons ds es ih => intro st hs; exact h ds st (ih _ hs)
mutual
theorem enc_keeps : ∀ (it : It) (d : D), Keeps (enc it d)
  | .num, d => by intro st h; cases d <;> simpa [enc, wrN] using h
  | .kind, d => by intro st h; cases d <;> simpa [enc, wrN] using h
  | .int, d => by intro st h; cases d <;> simpa [enc, wrN] using h
  | .is, d => by intro st h; cases d <;> simpa [enc, wrN] using h
  | .text, .s t => by intro st h; simp only [enc] at h; exact wr_keeps _ st h
  | .text, .n _ => by intro st h; simpa [enc] using h
  | .text, .b _ => by intro st h; simpa [enc] using h
  | .text, .l _ => by intro st h; simpa [enc] using h
  | .nums, .l es => by intro st h; simp only [enc] at h; exact wr_keeps _ st h
  | .nums, .n _ => by intro st h; simpa [enc] using h
  | .nums, .b _ => by intro st h; simpa [enc] using h
  | .nums, .s _ => by intro st h; simpa [enc] using h
  | .list its, .n _ => by intro st h; simpa [enc] using h
  | .list its, .b _ => by intro st h; simpa [enc] using h
  | .list its, .s _ => by intro st h; simpa [enc] using h
  | .list its, .l es => by
    intro st h
    simp only [enc] at h
    by_cases hb : 1048576 < es.length
    · rw [if_pos hb] at h; exact wr_keeps _ st h
    · rw [if_neg hb] at h
      have := fold_keeps (f := fun st ds => if st.2 = 0 then encs its ds st else st) (fun ds st h => by
        by_cases he : st.2 = 0
        · exact he
        · simpa [if_neg he] using h) es (wrN (beb 8 es.length) st) h
      exact this
theorem encs_keeps : ∀ (its : List It) (ds : List D), Keeps (encs its ds)
  | [], _ => by intro st h; simpa [encs] using h
  | _ :: _, [] => by intro st h; simpa [encs] using h
  | it :: its, d :: ds => by
    intro st h
    simp only [encs] at h
    exact enc_keeps it d st (encs_keeps its ds _ h)
end
theorem numOf_map (ns : List Nat) : (ns.map fun z : Nat => [D.n (z : Int)]).map numOf = ns := by
  induction ns with
  | nil => rfl
  | cons n ns ih => simp only [List.map_cons, ih]; rfl
def WFs (its : List It) (ds : List D) : Prop := ds.length = its.length ∧ ∀ (j : Nat) (it : It) (d : D), its[j]? = some it → ds[j]? = some d → WF it d
/-- behind each other -/
theorem two {f g : PenS → PenS} (hg : App g) (kg : Keeps g) (h : (g (f ([], 0))).2 = 0) : (f ([], 0)).2 = 0 ∧ (g ([], 0)).2 = 0 ∧ (g (f ([], 0))).1 = (f ([], 0)).1 ++ (g ([], 0)).1 := by
  have h0 := kg _ h
  have := hg (f ([], 0)).1 (f ([], 0)).2
  rw [show ((f ([], 0)).1, (f ([], 0)).2) = f ([], 0) from rfl, h0] at this
  rw [this] at h ⊢
  exact ⟨h0, h, rfl⟩
end Go.Am

namespace Go.Am
open Go.RowKit Go.MapKept Go.Proofs Go.Proofs.Rdr
end Go.Am

namespace Go.Am
open Go.RowKit Go.MapKept Go.Proofs Go.Proofs.Rdr
/-- lists of numbers, as lists of structs of one number -/
theorem nums_form : ∀ (es : List (List D)), (∀ ds ∈ es, ds.length = 1) → (∀ ds ∈ es, ∀ d, ds[0]? = some d → WF .num d) → ∃ ns : List Nat, es = ns.map (fun z : Nat => [D.n (z : Int)]) ∧ ∀ z ∈ ns, z < 18446744073709551616 := by
  intro es
  induction es with
  | nil => intro _ _; exact ⟨[], rfl, fun _ h => by cases h⟩
  | cons ds es ih =>
    intro hl hw
    obtain ⟨ns, e, hn⟩ := ih (fun x hx => hl x (.tail _ hx)) fun x hx => hw x (.tail _ hx)
    match ds, hl _ (.head _), hw _ (.head _) with
    | [d], _, hd =>
      have := hd d rfl
      cases this with
      | @num z hz =>
        refine ⟨z :: ns, by rw [e]; rfl, fun y hy => ?_⟩
        rcases List.mem_cons.1 hy with h | h
        · rw [h]; exact hz
        · exact hn y h
theorem Rd.wf {σ : St} {C : Nat → Prop} {it : It} {v : Value} {d : D} (h : Rd σ C it v d) : WF it d := by
  induction h with
  | num h => exact .num h
  | kind h => exact .kind h
  | int h1 h2 => exact .int h1 h2
  | is => exact .is
  | text => exact .text
  | @nums v es _ ih =>
    cases ih with
    | list hl hr =>
      obtain ⟨ns, e, hn⟩ := nums_form es hl fun ds hd d h0 => by
        obtain ⟨k, hk⟩ := List.getElem?_of_mem hd
        exact hr k ds 0 .num d hk rfl h0
      rw [e]; exact .nums hn
  | empty => exact .list (fun _ h => by cases h) fun k ds j it d a => by simp at a
  | emptyR => exact .list (fun _ h => by cases h) fun k ds j it d a => by simp at a
  | @row its b o n c sp vs e ck es hsp hb hC ho hw hn hl hd hN _ ih =>
    refine .list hd fun k ds j it d a b c => ?_
    have hlt := (List.getElem?_eq_some_iff.1 b).1
    have hk := (List.getElem?_eq_some_iff.1 a).1
    have hle : k * its.length + its.length ≤ n * its.length := by
      have : (k + 1) * its.length ≤ n * its.length := Nat.mul_le_mul_right _ (by omega)
      rwa [Nat.add_mul, Nat.one_mul] at this
    exact ih k ds j it _ d a b (List.getElem?_eq_getElem (by omega)) c
theorem RdA.wfs {σ : St} {C : Nat → Prop} {its : List It} {cs : List Value} {ds : List D} (h : RdA σ C its cs ds) : WFs its ds := by
  refine ⟨h.dlen, fun j it d a b => ?_⟩
  have hlt := (List.getElem?_eq_some_iff.1 a).1
  exact (h.rd j it _ d a (List.getElem?_eq_getElem (by rw [h.len]; exact hlt)) b).wf
end Go.Am

namespace Go.Am
open Go.RowKit Go.MapKept Go.Proofs Go.Proofs.Rdr
end Go.Am

namespace Go.Am
open Go.RowKit Go.MapKept Go.Proofs Go.Proofs.Rdr
/-- what is left to be read; an error -/
abbrev RS := List UInt8 × Nat
def rdN (k : Nat) (st : RS) : Nat × RS := if st.2 ≠ 0 then (0, st) else if k ≤ st.1.length then (be (st.1.take k), st.1.drop k, 0) else (0, [], 8)
def rdC (most : Nat) (st : RS) : Nat × RS := if st.2 ≠ 0 then (0, st) else if 8 ≤ st.1.length then (if be (st.1.take 8) ≤ most then (be (st.1.take 8), st.1.drop 8, 0) else (0, [], 4)) else (0, [], 8)
def rdT (st : RS) : List UInt8 × RS := if st.2 ≠ 0 then ([], st) else if 2 ≤ st.1.length then
    (if be (st.1.take 2) ≤ 2048 then (if be (st.1.take 2) ≤ (st.1.drop 2).length then ((st.1.drop 2).take (be (st.1.take 2)), (st.1.drop 2).drop (be (st.1.take 2)), 0) else ([], [], 8)) else ([], [], 40))
  else ([], [], 8)
def rdW (st : RS) : List Nat × RS := if st.2 ≠ 0 then ([], st) else if 2 ≤ st.1.length then
    (if be (st.1.take 2) ≤ 1024 then (if be (st.1.take 2) * 8 ≤ (st.1.drop 2).length then (wds (st.1.drop 2) (be (st.1.take 2)), (st.1.drop 2).drop (8 * be (st.1.take 2)), 0) else ([], [], 8)) else ([], [], 40))
  else ([], [], 8)
/-- so many of a list at most -/
def decL (f : RS → List D × RS) : Nat → RS → List (List D) × RS
  | 0, st => ([], st)
  | n + 1, st => if st.2 ≠ 0 then ([], st) else ((f st).1 :: (decL f n (f st).2).1, (decL f n (f st).2).2)
def i64 (n : Nat) : Int := ((n : Int) + 9223372036854775808) % 18446744073709551616 - 9223372036854775808
mutual
def dec : It → RS → D × RS
  | .num, st => (.n ((rdN 8 st).1 : Nat), (rdN 8 st).2)
  | .kind, st => (.n ((rdN 1 st).1 : Nat), (rdN 1 st).2)
  | .int, st => (.n (i64 (rdN 8 st).1), (rdN 8 st).2)
  | .is, st => (.b (decide ((rdC 1 st).1 = 1)), (rdC 1 st).2)
  | .text, st => (.s (rdT st).1, (rdT st).2)
  | .nums, st => (.l ((rdW st).1.map fun z : Nat => [.n (z : Int)]), (rdW st).2)
  | .list its, st => (.l (decL (decs its) (rdC 1048576 st).1 (rdC 1048576 st).2).1, (decL (decs its) (rdC 1048576 st).1 (rdC 1048576 st).2).2)
def decs : List It → RS → List D × RS
  | [], st => ([], st)
  | it :: its, st => ((dec it st).1 :: (decs its (dec it st).2).1, (decs its (dec it st).2).2)
end
theorem p8 : (256 : Nat) ^ 8 = 18446744073709551616 := by decide
theorem p2 : (256 : Nat) ^ 2 = 65536 := by decide
theorem be_valB (l : List UInt8) : be l = valB l := by
  have : ∀ (l : List UInt8) (a : Nat), l.foldl (fun a b => a * 256 + b.toNat) a = a * 256 ^ l.length + valB l := by
    intro l
    induction l with
    | nil => intro a; simp [valB]
    | cons b l ih => intro a; rw [List.foldl_cons, ih]; simp only [valB, List.length_cons, Nat.pow_succ, Nat.add_mul]; rw [Nat.mul_assoc, Nat.mul_comm 256 (256 ^ l.length)]; omega
  have := this l 0
  unfold be
  omega
theorem be_beb {k n : Nat} (h : n < 256 ^ k) : be (beb k n) = n := by rw [be_valB, valB_beb, Nat.mod_eq_of_lt h]
/-! what was written is read -/
theorem take_app {a b : List UInt8} {k : Nat} (h : a.length = k) : (a ++ b).take k = a := by rw [← h]; exact List.take_left
theorem drop_app {a b : List UInt8} {k : Nat} (h : a.length = k) : (a ++ b).drop k = b := by rw [← h]; exact List.drop_left
theorem rdN_beb {k n : Nat} (h : n < 256 ^ k) (r : List UInt8) : rdN k (beb k n ++ r, 0) = (n, r, 0) := by
  unfold rdN
  simp only [ne_eq, not_true_eq_false, if_false, List.length_append, beb_length]
  rw [if_pos (by omega), take_app (beb_length k n), drop_app (beb_length k n), be_beb h]
theorem rdC_beb {m n : Nat} (h : n ≤ m) (hm : m < 18446744073709551616) (r : List UInt8) : rdC m (beb 8 n ++ r, 0) = (n, r, 0) := by
  unfold rdC
  simp only [ne_eq, not_true_eq_false, if_false, List.length_append, beb_length]
  have hb : be (beb 8 n) = n := be_beb (k := 8) (by rw [p8]; omega)
  rw [if_pos (by omega), take_app (beb_length 8 n), drop_app (beb_length 8 n), hb, if_pos h]
theorem rdT_enc {t : List UInt8} (h : t.length ≤ 2048) (r : List UInt8) : rdT (beb 2 t.length ++ t ++ r, 0) = (t, r, 0) := by
  unfold rdT
  have hb : be (beb 2 t.length) = t.length := be_beb (k := 2) (by rw [p2]; omega)
  simp only [ne_eq, not_true_eq_false, if_false, List.append_assoc, List.length_append, beb_length]
  rw [if_pos (by omega), take_app (beb_length 2 _), drop_app (beb_length 2 _), hb, if_pos h, if_pos (by rw [List.length_append]; omega), take_app rfl, drop_app rfl]
theorem wds_flat : ∀ (ns : List Nat) (r : List UInt8), (∀ z ∈ ns, z < 18446744073709551616) → wds (ns.flatMap (beb 8) ++ r) ns.length = ns := by
  intro ns
  induction ns with
  | nil => intro r _; rfl
  | cons n ns ih =>
    intro r h
    have e := ih r fun z hz => h z (.tail _ hz)
    unfold wds at e ⊢
    rw [List.length_cons, List.range_succ_eq_map, List.map_cons, List.map_map, List.flatMap_cons, List.append_assoc]
    congr 1
    · rw [Nat.mul_zero, List.drop_zero, take_app (beb_length 8 n)]
      exact be_beb (k := 8) (by rw [p8]; exact h n (.head _))
theorem rdW_enc {ns : List Nat} (h : ns.length ≤ 1024) (hz : ∀ z ∈ ns, z < 18446744073709551616) (r : List UInt8) : rdW (beb 2 ns.length ++ ns.flatMap (beb 8) ++ r, 0) = (ns, r, 0) := by
  unfold rdW
  have hb : be (beb 2 ns.length) = ns.length := be_beb (k := 2) (by rw [p2]; omega)
  simp only [ne_eq, not_true_eq_false, if_false, List.append_assoc, List.length_append, beb_length]
  rw [if_pos (by omega), take_app (beb_length 2 _), drop_app (beb_length 2 _), hb, if_pos h, if_pos (by rw [List.length_append, flatMap_beb]; omega), wds_flat ns r hz]
  rw [drop_app (flatMap_beb ns)]
theorem i64_u64 {z : Int} (h1 : -9223372036854775808 ≤ z) (h2 : z < 9223372036854775808) : i64 (u64 z) = z := by unfold i64 u64; omega
/-- what is written of a thing is read as it -/
def Reads (it : It) : Prop := ∀ d, WF it d → (enc it d ([], 0)).2 = 0 → ∀ r, dec it ((enc it d ([], 0)).1 ++ r, 0) = (d, r, 0)
def Readss (its : List It) : Prop := ∀ ds, WFs its ds → (encs its ds ([], 0)).2 = 0 → ∀ r, decs its ((encs its ds ([], 0)).1 ++ r, 0) = (ds, r, 0)
theorem readss_of : ∀ its : List It, (∀ it ∈ its, Reads it) → Readss its := by
  intro its
  induction its with
  | nil =>
    intro _ ds h _ r
    have e1 : ds = [] := List.eq_nil_of_length_eq_zero h.1
    subst e1
    simp [encs, decs]
  | cons it its ih =>
    intro hi ds h e r
    match ds, h, e with
    | d :: ds, h, e =>
      simp only [encs] at e ⊢
      obtain ⟨a1, a2, a3⟩ := two (f := enc it d) (encs_app its ds) (encs_keeps its ds) e
      rw [a3, List.append_assoc]
      simp only [decs]
      rw [hi it (.head _) d (h.2 0 it d rfl rfl) a1]
      simp only
      rw [ih (fun x hx => hi x (.tail _ hx)) ds ⟨by simpa using h.1, fun j x y p q => h.2 (j + 1) x y p q⟩ a2 r]
theorem lfold_app (its : List It) : ∀ es : List (List D), App fun st => es.foldl (fun st ds => if st.2 = 0 then encs its ds st else st) st := App.fold fun ds => by
  intro b e
  show (if e = 0 then encs its ds (b, e) else (b, e)) = (b ++ (if e = 0 then encs its ds ([], e) else ([], e)).1, (if e = 0 then encs its ds ([], e) else ([], e)).2)
  by_cases he : e = 0
  · simp only [if_pos he]; exact encs_app its ds b e
  · simp only [if_neg he, List.append_nil]
theorem lfold_keeps (its : List It) : ∀ es : List (List D), Keeps fun st => es.foldl (fun st ds => if st.2 = 0 then encs its ds st else st) st := fold_keeps fun ds st h => by
  by_cases he : st.2 = 0
  · exact he
  · simpa [if_neg he] using h
theorem lfold_cons (its : List It) (ds : List D) (es : List (List D)) (e : ((ds :: es).foldl (fun st ds => if st.2 = 0 then encs its ds st else st) (([], 0) : PenS)).2 = 0) :
    (encs its ds ([], 0)).2 = 0 ∧ (es.foldl (fun st ds => if st.2 = 0 then encs its ds st else st) (([], 0) : PenS)).2 = 0 ∧
    ((ds :: es).foldl (fun st ds => if st.2 = 0 then encs its ds st else st) (([], 0) : PenS)).1 = (encs its ds ([], 0)).1 ++ (es.foldl (fun st ds => if st.2 = 0 then encs its ds st else st) (([], 0) : PenS)).1 := by
  rw [List.foldl_cons] at e ⊢
  simp only [if_true] at e ⊢
  exact two (f := encs its ds) (lfold_app its es) (lfold_keeps its es) e
theorem list_reads {its : List It} (h : Readss its) : ∀ (es : List (List D)) (r : List UInt8), (∀ ds ∈ es, WFs its ds) → (es.foldl (fun st ds => if st.2 = 0 then encs its ds st else st) ([], 0)).2 = 0 →
    decL (decs its) es.length ((es.foldl (fun st ds => if st.2 = 0 then encs its ds st else st) ([], 0)).1 ++ r, 0) = (es, r, 0) := by
  intro es
  induction es with
  | nil => intro r _ _; rfl
  | cons ds es ih =>
    intro r hw e
    obtain ⟨a1, a2, a3⟩ := lfold_cons its ds es e
    rw [a3, List.append_assoc]
    simp only [List.length_cons, decL, ne_eq, not_true_eq_false, if_false]
    rw [h ds (hw _ (.head _)) a1]
    simp only
    rw [ih r (fun x hx => hw x (.tail _ hx)) a2]
/-- a list's bytes -/
theorem enc_list {its : List It} {es : List (List D)} (e : (enc (.list its) (.l es) ([], 0)).2 = 0) : es.length ≤ 1048576 ∧ (es.foldl (fun st ds => if st.2 = 0 then encs its ds st else st) (([], 0) : PenS)).2 = 0 ∧
    (enc (.list its) (.l es) ([], 0)).1 = beb 8 es.length ++ (es.foldl (fun st ds => if st.2 = 0 then encs its ds st else st) (([], 0) : PenS)).1 := by
  simp only [enc] at e ⊢
  by_cases hb : 1048576 < es.length
  · rw [if_pos hb] at e; simp [wr] at e
  rw [if_neg hb] at e ⊢
  have hw1 : ∀ n, wrN (beb 8 n) (([], 0) : PenS) = (beb 8 n, 0) := fun n => rfl
  have hA := lfold_app its es (beb 8 es.length) 0
  simp only at hA
  rw [hw1, hA] at e ⊢
  exact ⟨by omega, e, rfl⟩
theorem reads_list {its : List It} (h : Readss its) : Reads (.list its) := by
  intro d w e r
  cases w with
  | @list _ es hl hr =>
  obtain ⟨hb, e1, e2⟩ := enc_list e
  rw [e2, List.append_assoc]
  simp only [dec]
  rw [rdC_beb hb (by omega)]
  simp only
  rw [list_reads h es r (fun ds hd => ⟨hl ds hd, fun j it d p q => by obtain ⟨k, hk⟩ := List.getElem?_of_mem hd; exact hr k ds j it d hk p q⟩) e1]
theorem enc_text {l : List UInt8} (e : (enc .text (.s l) ([], 0)).2 = 0) : l.length ≤ 2048 ∧ (enc .text (.s l) ([], 0)).1 = beb 2 l.length ++ l := by
  simp only [enc, wr, if_true, List.nil_append] at e ⊢
  unfold encText at e ⊢
  by_cases hl : 2048 < l.length
  · rw [if_pos hl] at e; simp at e
  · rw [if_neg hl]; exact ⟨by omega, rfl⟩
theorem enc_nums {ns : List Nat} (e : (enc .nums (.l (ns.map fun z : Nat => [.n (z : Int)])) ([], 0)).2 = 0) : ns.length ≤ 1024 ∧ (enc .nums (.l (ns.map fun z : Nat => [.n (z : Int)])) ([], 0)).1 = beb 2 ns.length ++ ns.flatMap (beb 8) := by
  simp only [enc, wr, if_true, List.nil_append, numOf_map] at e ⊢
  unfold encNums at e ⊢
  by_cases hl : 1024 < ns.length
  · rw [if_pos hl] at e; simp at e
  · rw [if_neg hl]; exact ⟨by omega, rfl⟩
mutual
theorem reads_it : ∀ it : It, Reads it
  | .num => by
    intro d w e r
    cases w with | @num z h =>
    simp only [enc, wrN, List.nil_append, dec, Int.toNat_natCast]
    rw [rdN_beb (k := 8) (by simpa using h)]
  | .kind => by
    intro d w e r
    cases w with | @kind z h =>
    simp only [enc, wrN, List.nil_append, dec, Int.toNat_natCast]
    rw [rdN_beb (k := 1) (by simpa using h)]
  | .int => by
    intro d w e r
    cases w with | @int z h1 h2 =>
    simp only [enc, wrN, List.nil_append, dec]
    rw [rdN_beb (k := 8) (u64_lt _)]
    simp only [i64_u64 h1 h2]
  | .is => by
    intro d w e r
    cases w with | @is b =>
    simp only [enc, wrN, List.nil_append, dec]
    have e := rdC_beb (m := 1) (n := if b then 1 else 0) (by cases b <;> simp) (by omega) r
    simp only [e]
    cases b <;> rfl
  | .text => by
    intro d w e r
    cases w with | @text l =>
    obtain ⟨h1, h2⟩ := enc_text e
    rw [h2]
    simp only [dec]
    rw [rdT_enc h1]
  | .nums => by
    intro d w e r
    cases w with | @nums ns h =>
    obtain ⟨h1, h2⟩ := enc_nums e
    rw [h2]
    simp only [dec]
    rw [rdW_enc h1 h]
  | .list its => reads_list (readss_of its (reads_its its))
theorem reads_its : ∀ (its : List It), ∀ it ∈ its, Reads it
  | [] => fun x hx => nomatch hx
  | it :: its => fun x hx => by
    rcases List.mem_cons.1 hx with e | hx
    · rw [e]; exact reads_it it
    · exact reads_its its x hx
end
end Go.Am

namespace Go.Am
open Go.RowKit Go.MapKept Go.Proofs Go.Proofs.Rdr
theorem decL_err (f : RS → List D × RS) : ∀ (n : Nat) (st : RS), st.2 ≠ 0 → decL f n st = ([], st) := by
  intro n st h
  cases n with
  | zero => rfl
  | succ n => simp only [decL]; rw [if_pos h]
mutual
theorem dec_err : ∀ (it : It) (st : RS), st.2 ≠ 0 → (dec it st).2 = st
  | .num, st, h => by simp only [dec, rdN, if_pos h]
  | .kind, st, h => by simp only [dec, rdN, if_pos h]
  | .int, st, h => by simp only [dec, rdN, if_pos h]
  | .is, st, h => by simp only [dec, rdC, if_pos h]
  | .text, st, h => by simp only [dec, rdT, if_pos h]
  | .nums, st, h => by simp only [dec, rdW, if_pos h]
  | .list its, st, h => by simp only [dec, rdC, if_pos h, decL]
theorem decs_err : ∀ (its : List It) (st : RS), st.2 ≠ 0 → (decs its st).2 = st
  | [], _, _ => rfl
  | it :: its, st, h => by simp only [decs]; rw [dec_err it st h, decs_err its st h]
end
/-- behind an error of one all that is read has it -/
theorem decs_err2 (its : List It) (st : RS) (h : st.2 ≠ 0) : (decs its st).2.2 = st.2 := by rw [decs_err its st h]
def Shrt (it : It) : Prop := ∀ d, WF it d → (enc it d ([], 0)).2 = 0 → ∀ p q, (enc it d ([], 0)).1 = p ++ q → q ≠ [] → (dec it (p, 0)).2.2 = 8
def Shrts (its : List It) : Prop := ∀ ds, WFs its ds → (encs its ds ([], 0)).2 = 0 → ∀ p q, (encs its ds ([], 0)).1 = p ++ q → q ≠ [] → (decs its (p, 0)).2.2 = 8
/-- where two are cut -/
theorem cut {a b p q : List UInt8} (h : a ++ b = p ++ q) (_hq : q ≠ []) : (∃ c, a = p ++ c ∧ c ≠ []) ∨ ∃ p', p = a ++ p' ∧ b = p' ++ q := by
  rcases List.append_eq_append_iff.1 h with ⟨c, h1, h2⟩ | ⟨c, h1, h2⟩
  · exact .inr ⟨c, h1, h2⟩
  · by_cases hc : c = []
    · subst hc; exact .inr ⟨[], by simpa using h1.symm, by simpa using h2.symm⟩
    · exact .inl ⟨c, h1, hc⟩
theorem shrts_of : ∀ its : List It, (∀ it ∈ its, Shrt it) → Shrts its := by
  intro its
  induction its with
  | nil =>
    intro _ ds h _ p q hh hq
    have e1 : ds = [] := List.eq_nil_of_length_eq_zero h.1
    subst e1
    simp [encs] at hh
    exact absurd hh.2 hq
  | cons it its ih =>
    intro hi ds h e p q hh hq
    match ds, h, e, hh with
    | d :: ds, h, e, hh =>
      simp only [encs] at e hh
      obtain ⟨a1, a2, a3⟩ := two (f := enc it d) (encs_app its ds) (encs_keeps its ds) e
      rw [a3] at hh
      simp only [decs]
      rcases cut hh hq with ⟨c, h1, h2⟩ | ⟨p', h1, h2⟩
      · have := hi it (.head _) d (h.2 0 it d rfl rfl) a1 p c h1 h2
        rw [decs_err2 its _ (by rw [this]; decide), this]
      · rw [h1, reads_it it d (h.2 0 it d rfl rfl) a1 p']
        exact ih (fun x hx => hi x (.tail _ hx)) ds ⟨by simpa using h.1, fun j x y p q => h.2 (j + 1) x y p q⟩ a2 p' q h2 hq
theorem list_shrt {its : List It} (h : Shrts its) : ∀ (es : List (List D)) (p q : List UInt8), (∀ ds ∈ es, WFs its ds) → (es.foldl (fun st ds => if st.2 = 0 then encs its ds st else st) (([], 0) : PenS)).2 = 0 →
    (es.foldl (fun st ds => if st.2 = 0 then encs its ds st else st) (([], 0) : PenS)).1 = p ++ q → q ≠ [] → (decL (decs its) es.length (p, 0)).2.2 = 8 := by
  intro es
  induction es with
  | nil => intro p q _ _ hh hq; simp at hh; exact absurd hh.2 hq
  | cons ds es ih =>
    intro p q hw e hh hq
    obtain ⟨a1, a2, a3⟩ := lfold_cons its ds es e
    rw [a3] at hh
    simp only [List.length_cons, decL, ne_eq, not_true_eq_false, if_false]
    rcases cut hh hq with ⟨c, h1, h2⟩ | ⟨p', h1, h2⟩
    · have := h ds (hw _ (.head _)) a1 p c h1 h2
      rw [decL_err _ _ _ (by rw [this]; decide)]
      exact this
    · rw [h1, readss_of its (fun it _ => reads_it it) ds (hw _ (.head _)) a1 p']
      exact ih p' q (fun x hx => hw x (.tail _ hx)) a2 h2 hq
theorem len_lt {a p q : List UInt8} (h : a = p ++ q) (hq : q ≠ []) : p.length < a.length := by
  rw [h, List.length_append]
  have := List.length_pos_iff.2 hq
  omega
theorem rdN_short {k : Nat} {p : List UInt8} (h : p.length < k) : (rdN k (p, 0)).2.2 = 8 := by
  unfold rdN
  simp only [ne_eq, not_true_eq_false, if_false]
  rw [if_neg (by omega)]
theorem rdC_short {k : Nat} {p : List UInt8} (h : p.length < 8) : (rdC k (p, 0)).2.2 = 8 := by
  unfold rdC
  simp only [ne_eq, not_true_eq_false, if_false]
  rw [if_neg (by omega)]
theorem shrt_list {its : List It} (h : Shrts its) : Shrt (.list its) := by
  intro d w e p q hh hq
  cases w with
  | @list _ es hl hr =>
  obtain ⟨hb, e1, e2⟩ := enc_list e
  rw [e2] at hh
  simp only [dec]
  rcases cut hh hq with ⟨c, h1, h2⟩ | ⟨p', h1, h2⟩
  · have hlt := len_lt h1 h2
    rw [beb_length] at hlt
    have := rdC_short (k := 1048576) hlt
    rw [decL_err _ _ _ (by rw [this]; decide)]
    exact this
  · rw [h1, rdC_beb hb (by omega)]
    exact list_shrt h es p' q (fun ds hd => ⟨hl ds hd, fun j it d p q => by obtain ⟨k, hk⟩ := List.getElem?_of_mem hd; exact hr k ds j it d hk p q⟩) e1 h2 hq
mutual
theorem shrt_it : ∀ it : It, Shrt it
  | .num => by
    intro d w e p q hh hq
    cases w with | @num z h =>
    simp only [enc, wrN, List.nil_append] at hh
    have := len_lt hh hq
    rw [beb_length] at this
    exact rdN_short this
  | .kind => by
    intro d w e p q hh hq
    cases w with | @kind z h =>
    simp only [enc, wrN, List.nil_append] at hh
    have := len_lt hh hq
    rw [beb_length] at this
    exact rdN_short this
  | .int => by
    intro d w e p q hh hq
    cases w with | @int z h1 h2 =>
    simp only [enc, wrN, List.nil_append] at hh
    have := len_lt hh hq
    rw [beb_length] at this
    exact rdN_short this
  | .is => by
    intro d w e p q hh hq
    cases w with | @is b =>
    simp only [enc, wrN, List.nil_append] at hh
    have := len_lt hh hq
    rw [beb_length] at this
    exact rdC_short this
  | .text => by
    intro d w e p q hh hq
    cases w with | @text l =>
    obtain ⟨h1, h2⟩ := enc_text e
    rw [h2] at hh
    simp only [dec]
    rcases cut hh hq with ⟨c, g1, g2⟩ | ⟨p', g1, g2⟩
    · have hlt := len_lt g1 g2
      rw [beb_length] at hlt
      unfold rdT
      simp only [ne_eq, not_true_eq_false, if_false]
      rw [if_neg (by omega)]
    · have hlt := len_lt g2 hq
      have hb : be (beb 2 l.length) = l.length := be_beb (k := 2) (by rw [p2]; omega)
      unfold rdT
      simp only [ne_eq, not_true_eq_false, if_false, g1, List.length_append, beb_length]
      rw [if_pos (by omega), take_app (beb_length 2 _), drop_app (beb_length 2 _), hb, if_pos h1, if_neg (by omega)]
  | .nums => by
    intro d w e p q hh hq
    cases w with | @nums ns h =>
    obtain ⟨h1, h2⟩ := enc_nums e
    rw [h2] at hh
    simp only [dec]
    rcases cut hh hq with ⟨c, g1, g2⟩ | ⟨p', g1, g2⟩
    · have hlt := len_lt g1 g2
      rw [beb_length] at hlt
      unfold rdW
      simp only [ne_eq, not_true_eq_false, if_false]
      rw [if_neg (by omega)]
    · have hlt := len_lt g2 hq
      rw [flatMap_beb] at hlt
      have hb : be (beb 2 ns.length) = ns.length := be_beb (k := 2) (by rw [p2]; omega)
      unfold rdW
      simp only [ne_eq, not_true_eq_false, if_false, g1, List.length_append, beb_length]
      rw [if_pos (by omega), take_app (beb_length 2 _), drop_app (beb_length 2 _), hb, if_pos h1, if_neg (by omega)]
  | .list its => shrt_list (shrts_of its (shrt_its its))
theorem shrt_its : ∀ (its : List It), ∀ it ∈ its, Shrt it
  | [] => fun x hx => nomatch hx
  | it :: its => fun x hx => by
    rcases List.mem_cons.1 hx with e | hx
    · rw [e]; exact shrt_it it
    · exact shrt_its its x hx
end
end Go.Am

namespace Go.Am
open Go.RowKit Go.MapKept Go.Proofs Go.Proofs.Rdr
theorem wds_lt {k : Nat} {l : List UInt8} (h : 8 * k ≤ l.length) : ∀ z ∈ wds l k, z < 18446744073709551616 := by
  intro z hz
  unfold wds at hz
  simp only [List.mem_map, List.mem_range] at hz
  obtain ⟨i, hi, rfl⟩ := hz
  have := be_lt ((l.drop (8 * i)).take 8)
  rw [List.length_take, List.length_drop, Nat.min_eq_left (by omega)] at this
  have e := p8; omega
theorem i64_rng (z : Nat) : -9223372036854775808 ≤ i64 z ∧ i64 z < 9223372036854775808 := by unfold i64; omega
def Invs (its : List It) : Prop := ∀ l ds r, decs its (l, 0) = (ds, r, 0) → WFs its ds ∧ (encs its ds ([], 0)).2 = 0 ∧ l = (encs its ds ([], 0)).1 ++ r
theorem rs_eta {x : RS} (h : x.2 = 0) : x = (x.1, 0) := by obtain ⟨b, c⟩ := x; simp at h; subst h; rfl
theorem st_eta {α : Type} {x : α × RS} (h : x.2.2 = 0) : x = (x.1, x.2.1, 0) := by obtain ⟨a, b, c⟩ := x; simp at h; subst h; rfl
theorem decL_ok {its : List It} {n : Nat} {st : RS} (h : (decL (decs its) n st).2.2 = 0) : st.2 = 0 := by
  by_cases hs : st.2 = 0
  · exact hs
  · rw [decL_err _ _ _ hs] at h; exact h
theorem list_inv {its : List It} (h : Invs its) : ∀ (n : Nat) (l : List UInt8) (es : List (List D)) (r : List UInt8), decL (decs its) n (l, 0) = (es, r, 0) →
    es.length = n ∧ (∀ ds ∈ es, WFs its ds) ∧ (es.foldl (fun st ds => if st.2 = 0 then encs its ds st else st) (([], 0) : PenS)).2 = 0 ∧ l = (es.foldl (fun st ds => if st.2 = 0 then encs its ds st else st) (([], 0) : PenS)).1 ++ r := by
  intro n
  induction n with
  | zero =>
    intro l es r hh
    simp only [decL] at hh
    injection hh with h1 h2; injection h2 with h2 _
    subst h1 h2
    exact ⟨rfl, (fun _ h => nomatch h), rfl, rfl⟩
  | succ n ih =>
    intro l es r hh
    simp only [decL, ne_eq, not_true_eq_false, if_false] at hh
    injection hh with h1 h2
    have hs : (decs its (l, 0)).2.2 = 0 := decL_ok (its := its) (n := n) (by rw [h2])
    obtain ⟨w1, c1, l1⟩ := h l _ _ (st_eta hs)
    have hs2 : (decs its (l, 0)).2 = ((decs its (l, 0)).2.1, 0) := rs_eta hs
    rw [hs2] at h1 h2
    obtain ⟨n2, w2, c2, l2⟩ := ih _ _ _ (show decL (decs its) n ((decs its (l, 0)).2.1, 0) = ((decL (decs its) n ((decs its (l, 0)).2.1, 0)).1, r, 0) by rw [← h2])
    subst h1
    refine ⟨by simp [n2], fun ds hd => ?_, ?_⟩
    · rcases List.mem_cons.1 hd with e | hd
      · rw [e]; exact w1
      · exact w2 ds hd
    · rw [List.foldl_cons]
      simp only [if_true]
      generalize hd : (decs its (l, 0)).1 = d at *
      generalize hds : (decL (decs its) n ((decs its (l, 0)).2.1, 0)).1 = ds at *
      have ha := lfold_app its ds (encs its d ([], 0)).1 (encs its d ([], 0)).2
      simp only at ha
      rw [show ((encs its d ([], 0)).1, (encs its d ([], 0)).2) = encs its d ([], 0) from rfl, c1] at ha
      rw [ha]
      refine ⟨c2, ?_⟩
      rw [List.append_assoc, ← l2, ← l1]
end Go.Am
