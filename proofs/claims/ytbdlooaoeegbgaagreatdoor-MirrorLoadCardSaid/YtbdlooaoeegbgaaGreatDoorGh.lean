/- mirror: the plain law of two loads. -/
import Derived.Test.YtbdlooaoeegbgaaGreatDoorGg
import Derived.Test.YtbdlooaoeegbgaaGreatDoorGe

set_option linter.unusedVariables false
set_option maxRecDepth 4000
namespace Go.Am
open Go.Proofs.Mdl
theorem inv19 : invN 19 = 17 := by decide
theorem com_table : ∀ s, s < 23 → ∀ b, b < 23 → com s b = com ((s + 19 * b) % 23) 0 := by decide +kernel
theorem addq_lt (a b : Nat) : addq a b < 23 := Nat.mod_lt _ (by decide)
theorem ontoB_eq (d l : Nat) : ontoB 17 d l = 374 * d * l % 23 := by
 unfold ontoB subN
 rw [Nat.mul_assoc 374 d l]
 omega
theorem com_move {f r : Nat} (d l : Nat) (hf : f < 23) (hr : r < 23) : com f r = com (addq f (ontoA d l)) (addq r (ontoB 17 d l)) := by
 rw [com_table f hf r hr, com_table _ (addq_lt _ _) _ (addq_lt _ _), ontoB_eq]
 congr 1
 unfold addq ontoA
 rw [Nat.mul_assoc 374 d l]
 omega
theorem ev_cons (a : Nat) (l : List Nat) (X : Nat) : ev 23 (a :: l) X = (ev 23 l X * X + a) % 23 := by
 show (ev 23 l X * X % 23 % 23 + a % 23) % 23 = _
 omega
theorem mulmod (a X : Nat) : a % 23 * X % 23 = a * X % 23 := Nat.mod_mul_mod a X 23
theorem ev_add : ∀ (f g : List Nat) (X : Nat), f.length = g.length → ev 23 (List.zipWith addq f g) X = addq (ev 23 f X) (ev 23 g X) := by
 intro f
 induction f with
 | nil => intro g X h; cases g with | nil => rfl | cons b g => cases h
 | cons a f ih =>
  intro g X h
  cases g with
  | nil => cases h
  | cons b g =>
   rw [List.zipWith_cons_cons, ev_cons, ev_cons, ev_cons, ih g X (by simpa using h)]
   have e : addq (ev 23 f X) (ev 23 g X) * X % 23 = (ev 23 f X * X + ev 23 g X * X) % 23 := by
    unfold addq; rw [mulmod, ← Nat.add_mul, ← mulmod, Nat.mod_add_mod, Nat.add_mod_mod, mulmod]
   unfold addq at e ⊢
   generalize (ev 23 f X % 23 + ev 23 g X % 23) % 23 * X = A at e
   omega
theorem ev_scale (d : Nat) : ∀ (l : List Nat) (X : Nat), ev 23 (l.map fun c => d * c % 23) X = d * ev 23 l X % 23 := by
 intro l X
 induction l with
 | nil => rfl
 | cons a l ih =>
  rw [List.map_cons, ev_cons, ev_cons, ih]
  have e1 : d * ev 23 l X % 23 * X % 23 = d * (ev 23 l X * X) % 23 := by rw [mulmod, Nat.mul_assoc]
  have e2 : d * ((ev 23 l X * X + a) % 23) % 23 = (d * (ev 23 l X * X) + d * a) % 23 := by rw [Nat.mul_comm, mulmod, Nat.mul_comm, Nat.mul_add]
  rw [e2]
  generalize d * ev 23 l X % 23 * X = A at e1
  omega
theorem ev_A (d : Nat) (l : List Nat) (X : Nat) : ev 23 (l.map (ontoA d)) X = d * ev 23 l X % 23 := ev_scale d l X
theorem ev_B (d : Nat) (l : List Nat) (X : Nat) : ev 23 (l.map (ontoB 17 d)) X = 374 * d * ev 23 l X % 23 := by
 rw [show ontoB 17 d = fun c => 374 * d * c % 23 from funext fun c => ontoB_eq d c]
 exact ev_scale _ l X
theorem ev_23 (l : List Nat) (X : Nat) : ev 23 l X < 23 := by cases l with | nil => show 0 < 23; decide | cons a l => rw [ev_cons]; exact Nat.mod_lt _ (by decide)
theorem one_sh {f r l : List Nat} (d X : Nat) (hf : f.length = l.length) (hr : r.length = l.length) :
 (ev 23 (List.zipWith addq f (l.map (ontoA d))) X, ev 23 (List.zipWith addq r (l.map (ontoB 17 d))) X) = (addq (ev 23 f X) (d * ev 23 l X % 23), subN (ev 23 r X) (d * ev 23 l X % 23 * 17 % 23) 23) := by
 rw [ev_add _ _ _ (by simpa using hf), ev_add _ _ _ (by simpa using hr), ev_A, ev_B]
 congr 1
 unfold addq subN
 rw [Nat.mul_assoc 374 d]
 omega
theorem one_com {f r l : List Nat} (d : Nat) : f.length = l.length → r.length = l.length → (∀ c ∈ f, c < 23) → (∀ c ∈ r, c < 23) → comRow f r = comRow (List.zipWith addq f (l.map (ontoA d))) (List.zipWith addq r (l.map (ontoB 17 d))) := by
 induction l generalizing f r with
 | nil => intro h1 h2 _ _; cases f with | nil => rfl | cons a f => cases h1
 | cons a l ih =>
  intro h1 h2 h3 h4
  match f, r, h1, h2, h3, h4 with
  | b :: f, c :: r, h1, h2, h3, h4 =>
   show com b c :: comRow f r = com _ _ :: comRow _ _
   rw [← com_move d a (h3 b List.mem_cons_self) (h4 c List.mem_cons_self), ih (by simpa using h1) (by simpa using h2) (fun c hc => h3 c (List.mem_cons_of_mem _ hc)) (fun c hc => h4 c (List.mem_cons_of_mem _ hc))]
theorem drawn_all : ∀ (l : List Nat) (s : BitVec 64), (∀ c ∈ l, c < 23) → drawn l.length l s = l := by
 intro l
 induction l with
 | nil => intro s _; rfl
 | cons a l ih =>
  intro s h
  show a % 23 :: drawn l.length l s = _
  rw [ih s (fun c hc => h c (List.mem_cons_of_mem _ hc)), Nat.mod_eq_of_lt (h a List.mem_cons_self)]
def lists1 : List (List Nat) := [] :: (List.range 4).map fun i => [i + 1]
def lists2 : List (List Nat) := [] :: ((List.range 7).map fun i => [i + 1]) ++ (List.range 7).flatMap fun i => (List.range 7).map fun j => [i + 1, j + 1]
def lineOk (two : Bool) (tk : List Nat) : Bool := (lineL two tk).length = tT two + 1 && (lineL two tk)[0]? = some 1 && tk.all fun c => ev 23 (lineL two tk) c = 0
theorem lines1 : lists1.all (lineOk false) = true := by decide +kernel
theorem lines2 : lists2.all (lineOk true) = true := by decide +kernel
theorem line_ok {two : Bool} {tk : List Nat} (h1 : tk.length ≤ tT two) (h2 : ∀ c ∈ tk, 1 ≤ c ∧ c ≤ tN two) : lineOk two tk = true := by
 cases two with
 | false =>
  have h1 : tk.length ≤ 1 := h1
  refine List.all_eq_true.1 lines1 tk ?_
  match tk, h1, h2 with
  | [], _, _ => exact List.mem_cons_self
  | [a], _, h2 =>
   have h := h2 a List.mem_cons_self
   have hb : a ≤ 4 := h.2
   refine List.mem_cons_of_mem _ (List.mem_map.2 ⟨a - 1, List.mem_range.2 (by omega), by rw [Nat.sub_add_cancel h.1]⟩)
 | true =>
  have h1 : tk.length ≤ 2 := h1
  refine List.all_eq_true.1 lines2 tk ?_
  match tk, h1, h2 with
  | [], _, _ => exact List.mem_cons_self
  | [a], _, h2 =>
   have h := h2 a List.mem_cons_self
   have hb : a ≤ 7 := h.2
   exact List.mem_cons_of_mem _ (List.mem_append.2 (.inl (List.mem_map.2 ⟨a - 1, List.mem_range.2 (by omega), by rw [Nat.sub_add_cancel h.1]⟩)))
  | [a, b], _, h2 =>
   have h := h2 a List.mem_cons_self
   have h' := h2 b (List.mem_cons_of_mem _ List.mem_cons_self)
   have hb : a ≤ 7 := h.2
   have hb' : b ≤ 7 := h'.2
   exact List.mem_cons_of_mem _ (List.mem_append.2 (.inr (List.mem_flatMap.2 ⟨a - 1, List.mem_range.2 (by omega), List.mem_map.2 ⟨b - 1, List.mem_range.2 (by omega), by rw [Nat.sub_add_cancel h.1, Nat.sub_add_cancel h'.1]⟩⟩)))
theorem two_rows {tk line f0 f1 r0 r1 : List Nat} {d0 d1 N : Nat} (hf0 : f0.length = line.length) (hf1 : f1.length = line.length) (hr0 : r0.length = line.length) (hr1 : r1.length = line.length)
 (h1 : ∀ c ∈ f0, c < 23) (h2 : ∀ c ∈ f1, c < 23) (h3 : ∀ c ∈ r0, c < 23) (h4 : ∀ c ∈ r1, c < 23) (hz : ∀ c ∈ tk, ev 23 line c = 0) {f r f2 r2 : List (List Nat)} (ef : f = [f0, f1]) (er : r = [r0, r1])
 (ef2 : f2 = [List.zipWith addq f0 (line.map (ontoA d0)), List.zipWith addq f1 (line.map (ontoA d1))]) (er2 : r2 = [List.zipWith addq r0 (line.map (ontoB 17 d0)), List.zipWith addq r1 (line.map (ontoB 17 d1))]) :
 comsL f r = comsL f2 r2 ∧ ∀ i, 1 ≤ i → i ≤ N → (i ∈ tk → shL f r i = shL f2 r2 i) ∧ shL f2 r2 i = movL (invN 19) (ev 23 line i) (shL f r i) [d0, d1] := by
 subst ef er ef2 er2
 refine ⟨?_, fun i _ _ => ?_⟩
 · show [comRow f0 r0, comRow f1 r1] = [comRow _ _, comRow _ _]
   rw [← one_com d0 hf0 hr0 h1 h3, ← one_com d1 hf1 hr1 h2 h4]
 · have e : shL [List.zipWith addq f0 (line.map (ontoA d0)), List.zipWith addq f1 (line.map (ontoA d1))] [List.zipWith addq r0 (line.map (ontoB 17 d0)), List.zipWith addq r1 (line.map (ontoB 17 d1))] i = movL (invN 19) (ev 23 line i) (shL [f0, f1] [r0, r1] i) [d0, d1] := by
    show [(_, _), (_, _)] = [(_, _), (_, _)]
    rw [one_sh d0 i hf0 hr0, one_sh d1 i hf1 hr1, inv19]
   refine ⟨fun hi => ?_, e⟩
   rw [e, hz i hi, inv19]
   show [(_, _), (_, _)] = [(_, _), (_, _)]
   have z : ∀ l : List Nat, ∀ d : Nat, addq (ev 23 l i) (d * 0 % 23) = ev 23 l i := fun l d => by
    have := ev_23 l i
    unfold addq; omega
   have z2 : ∀ l : List Nat, ∀ d : Nat, subN (ev 23 l i) (d * 0 % 23 * 17 % 23) 23 = ev 23 l i := fun l d => by
    have := ev_23 l i
    unfold subN; rw [Nat.mul_zero]; omega
   rw [z, z, z2, z2]
theorem sec_move (a c : Nat) : c % 23 = addq (a % 23) (ontoA (subN c a 23) 1) := by unfold addq ontoA subN; omega
theorem law_ok {two : Bool} {A B C D : Int} {S : Nat} {tk : List Nat} (h1 : tk.length ≤ tT two) (h2 : ∀ c ∈ tk, 1 ≤ c ∧ c ≤ tN two) : LawOk two A B C D S tk := by
 intro f r f2 r2 ef er ef2 er2
 have hl := line_ok h1 h2
 unfold lineOk at hl
 simp only [Bool.and_eq_true, decide_eq_true_eq, List.all_eq_true] at hl
 obtain ⟨⟨hl1, hl2⟩, hl3⟩ := hl
 generalize lineL two tk = line at *
 have hD : (drawn (2 * (2 * tT two + 1)) [] (BitVec.ofNat 64 S)).length = 2 * (2 * tT two + 1) := drawn_len _ _ _
 have hL := drawn_lt (2 * (2 * tT two + 1)) [] (BitVec.ofNat 64 S)
 have e1 : drw two [] (BitVec.ofNat 64 S) = drawn (2 * (2 * tT two + 1)) [] (BitVec.ofNat 64 S) := by unfold drw; rw [show (tT two + (1 + tT two)) * 2 = 2 * (2 * tT two + 1) by omega]
 rw [e1] at ef er
 clear e1
 have hz : ∀ xs ys : List Nat, ∀ c ∈ List.zipWith addq xs ys, c < 23 := fun xs ys c hc => by
  obtain ⟨i, hi⟩ := List.getElem?_of_mem hc
  rw [List.getElem?_zipWith] at hi
  split at hi
  · injection hi with hi; subst hi; exact addq_lt _ _
  · cases hi
 have e2 : ∀ s, drw two (loadL two line (difL A B C D) (drawn (2 * (2 * tT two + 1)) [] (BitVec.ofNat 64 S))) s = loadL two line (difL A B C D) (drawn (2 * (2 * tT two + 1)) [] (BitVec.ofNat 64 S)) := fun s => by
  have hll : (loadL two line (difL A B C D) (drawn (2 * (2 * tT two + 1)) [] (BitVec.ofNat 64 S))).length = 2 * (2 * tT two + 1) := by
   unfold loadL
   rw [List.length_zipWith, ontoL_len, hl1, hD, show (difL A B C D).length = 2 from rfl]
   omega
  unfold drw
  rw [show (tT two + (1 + tT two)) * 2 = 2 * (2 * tT two + 1) by omega]
  have h := drawn_all (loadL two line (difL A B C D) (drawn (2 * (2 * tT two + 1)) [] (BitVec.ofNat 64 S))) s (hz _ _)
  rw [hll] at h
  exact h
 rw [e2] at ef2 er2
 clear e2
 generalize drawn (2 * (2 * tT two + 1)) [] (BitVec.ofNat 64 S) = DD at *
 unfold loadL at ef2 er2
 rw [inv19] at ef2 er2
 unfold difL secL at *
 generalize numZ A = a at *
 generalize numZ B = b at *
 generalize numZ C = c at *
 generalize numZ D = d at *
 cases two with
 | false =>
  have hl1 : line.length = 1 + 1 := hl1
  have hD : DD.length = 6 := hD
  match line, hl1, hl2, hl3, DD, hD, hL with
  | [l0, l1], _, hl2, hl3, [x0, x1, x2, x3, x4, x5], _, hL =>
   injection hl2 with hl2
   subst hl2
   have hx : ∀ c ∈ [x0, x1, x2, x3, x4, x5], c < 23 := hL
   simp only [List.mem_cons, List.not_mem_nil, or_false, forall_eq_or_imp, forall_eq] at hx
   obtain ⟨y0, y1, y2, y3, y4, y5⟩ := hx
   refine two_rows (line := [1, l1]) (f0 := [a % 23, x0]) (f1 := [b % 23, x3]) (r0 := [x1 % 23, x2]) (r1 := [x4 % 23, x5]) rfl rfl rfl rfl ?_ ?_ ?_ ?_ hl3 ef er ?_ ?_
   · simp only [List.mem_cons, List.not_mem_nil, or_false, forall_eq_or_imp, forall_eq]; omega
   · simp only [List.mem_cons, List.not_mem_nil, or_false, forall_eq_or_imp, forall_eq]; omega
   · simp only [List.mem_cons, List.not_mem_nil, or_false, forall_eq_or_imp, forall_eq]; omega
   · simp only [List.mem_cons, List.not_mem_nil, or_false, forall_eq_or_imp, forall_eq]; omega
   · rw [ef2]
     show [[c % 23, _], [d % 23, _]] = [[_, _], [_, _]]
     rw [← sec_move, ← sec_move]
   · rw [er2]
     show [[addq x1 (ontoB 17 (subN c a 23) 1) % 23, _], [addq x4 (ontoB 17 (subN d b 23) 1) % 23, _]] = [[_, _], [_, _]]
     rw [Nat.mod_eq_of_lt (addq_lt _ _), Nat.mod_eq_of_lt (addq_lt _ _), Nat.mod_eq_of_lt y1, Nat.mod_eq_of_lt y4]
 | true =>
  have hl1 : line.length = 2 + 1 := hl1
  have hD : DD.length = 10 := hD
  match line, hl1, hl2, hl3, DD, hD, hL with
  | [l0, l1, l2], _, hl2, hl3, [x0, x1, x2, x3, x4, x5, x6, x7, x8, x9], _, hL =>
   injection hl2 with hl2
   subst hl2
   have hx : ∀ c ∈ [x0, x1, x2, x3, x4, x5, x6, x7, x8, x9], c < 23 := hL
   simp only [List.mem_cons, List.not_mem_nil, or_false, forall_eq_or_imp, forall_eq] at hx
   obtain ⟨y0, y1, y2, y3, y4, y5, y6, y7, y8, y9⟩ := hx
   refine two_rows (line := [1, l1, l2]) (f0 := [a % 23, x0, x1]) (f1 := [b % 23, x5, x6]) (r0 := [x2 % 23, x3, x4]) (r1 := [x7 % 23, x8, x9]) rfl rfl rfl rfl ?_ ?_ ?_ ?_ hl3 ef er ?_ ?_
   · simp only [List.mem_cons, List.not_mem_nil, or_false, forall_eq_or_imp, forall_eq]; omega
   · simp only [List.mem_cons, List.not_mem_nil, or_false, forall_eq_or_imp, forall_eq]; omega
   · simp only [List.mem_cons, List.not_mem_nil, or_false, forall_eq_or_imp, forall_eq]; omega
   · simp only [List.mem_cons, List.not_mem_nil, or_false, forall_eq_or_imp, forall_eq]; omega
   · rw [ef2]
     show [[c % 23, _, _], [d % 23, _, _]] = [[_, _, _], [_, _, _]]
     rw [← sec_move, ← sec_move]
   · rw [er2]
     show [[addq x2 (ontoB 17 (subN c a 23) 1) % 23, _, _], [addq x7 (ontoB 17 (subN d b 23) 1) % 23, _, _]] = [[_, _, _], [_, _, _]]
     rw [Nat.mod_eq_of_lt (addq_lt _ _), Nat.mod_eq_of_lt (addq_lt _ _), Nat.mod_eq_of_lt y2, Nat.mod_eq_of_lt y7]
end Go.Am

set_option linter.unusedVariables false
set_option maxRecDepth 4000
namespace Go.Am
theorem few_ok {two : Bool} {l : List Nat} : (fewL two l).length ≤ tT two ∧ (∀ c ∈ fewL two l, 1 ≤ c ∧ c ≤ tN two) ∧ (fewL two l).Nodup := fewGo_ok (by cases two <;> decide) l [] (Nat.zero_le _) (fun c h => by cases h) .nil
section
variable {M n : Nat} {x : VE} {σ : Hp} {K : KV} {two : Bool}
theorem MirrorLoad_s (hM : 1000000 < M) (hx : Deep PP tbS gM M (n + 19) x) {τ : Tag} {a b c d : Int} {S : Nat} (hS : b64 S) {l : List Nat} (h8 : ∀ b ∈ l, b < 256) (hl : l.length < 4611686018427387904) (hK : K (.bool true) σ) :
 x.call c_law31_MirrorLoad [.bool two, iz a, iz b, iz c, iz d, nu S, .list τ (u8s l) l.length] σ K := by
 refine hx.call o_law fun y hy => ?_
 rw [f_law31_MirrorLoad]
 unfold r_law31_MirrorLoad
 refine some_s (two := two) (n := n + 17) hy ?_
 refine vAlloc_to (l := pz) rfl fun p hp => ?_
 have rp : upd σ p (.row pz 25) p = some (.row pz 25) := upd_same
 refine vSt_all (n := 12) rp pv_one rfl rfl ?_
 rw [upd_upd]
 have le1 : Hle σ (upd σ p (.row (pv two) 25)) := .upd_new hp
 have rp : upd σ p (.row (pv two) 25) p = some (.row (pv two) 25) := upd_same
 generalize upd σ p (.row (pv two) 25) = σ1 at le1 rp
 rw [vLenS_l, vGtr_n]
 by_cases hc : 20 < l.length
 · rw [decide_eq_true hc, shutP_eq, vGuard_ft, shutP_eq, vGuard_ft, shutP_eq, vPick_t, vIf_t]
   refine awake_s (n := n + 10) hM hy ?_
   exact vRet_drop le1 hK
 · rw [decide_eq_false hc, shutP_eq, vGuard_t]; dsimp only
   refine awake_s (n := n + 10) hM hy ?_
   rw [shutP_eq, vGuard_t]; dsimp only
   rw [vNot_b, Bool.not_true, shutP_eq, vPick_f, vIf_f]
   have hT : tT two ≤ 2 := by cases two <;> decide
   have hN : tN two ≤ 7 := by cases two <;> decide
   have ld : ∀ {σ' : Hp} {K : KV}, Hle σ1 σ' → vLdN 12 (.ptr p 0) σ' K = K (.agg (pv two)) σ' := fun {σ' K} hle => by
    rw [vLdN_p (hle _ _ rp), vPart_ok (by rw [pv_len]; omega), List.drop_zero, List.take_of_length_le (by rw [pv_len]; omega)]
   have sm : ∀ {q : Prop}, vSame (.agg (pv two)) (.agg (pv two)) q = q := fun {q} => vSame_ok rfl
   rw [ld (.refl _)]
   refine few_s (n := n + 17) hM hy h8 (by omega) fun w σ2 le2 iv => ?_
   obtain ⟨f1, f2, f3⟩ := few_ok (two := two) (l := l)
   have f4 : ∀ a b, fewL two l = [a, b] → a ≠ b := fun a b e c => by rw [e, c] at f3; simp at f3
   rw [ld le2]
   refine model'_s (n := n + 17) hy fun τ1 τ2 => ?_
   rw [ld le2, sm]
   refine model'_s (n := n + 17) hy fun τ3 τ4 => ?_
   rw [ld le2, sm]
   refine loads_s (n := n + 1) hM hy (okZ_mod a) (okZ_mod b) (okZ_mod c) (okZ_mod d) hS iv f1 f2 f4 fun σ3 o f r fb rb le3 ro ef er efb erb τ5 τ6 τ7 τ8 => ?_
   rw [vExt_at (v := .list τ5 (shD f r (tN two)) (tN two)) rfl, vExt_at (v := .list τ6 (shD fb rb (tN two)) (tN two)) rfl, vExt_at (v := .list τ7 (lsD (comsL f r)) (comsL f r).length) rfl, vExt_at (v := .list τ8 (lsD (comsL fb rb)) (comsL fb rb).length) rfl, vExt_at (v := .own o 0 (tT two + 1) (tT two + 1)) rfl, vExt_at (v := .bool true) rfl]
   obtain ⟨law1, law2⟩ := law_ok f1 f2 f r fb rb ef er efb erb
   have lf : f.length = 2 := by rw [ef]; exact fsR_len _ _ _
   have lr : r.length = 2 := by rw [er]; exact rsR_len _ _ _
   have lfb : fb.length = 2 := by rw [efb]; exact fsR_len _ _ _
   have lrb : rb.length = 2 := by rw [erb]; exact rsR_len _ _ _
   have hll := lineL_len (two := two) f1
   rw [vNot_b, Bool.not_true]
   iterate 3 (rw [shutP_eq, vGuard_t]; dsimp only)
   rw [← law1]
   have hc2 : (comsL f r).length = 2 := by unfold comsL; rw [List.length_zipWith, lf, lr]; rfl
   refine lists_s (n := n + 16) hM hy (by rw [hc2]; decide) (fun q hq => ?_) ?_
   · obtain ⟨i, hi⟩ := List.getElem?_of_mem hq
     unfold comsL at hi
     rw [List.getElem?_zipWith] at hi
     split at hi
     next u v hu hv =>
      injection hi with hi
      subst hi
      have hm := List.mem_of_getElem? hu
      rw [ef] at hm
      have hlen := (fsR_all (secL (a.tmod 3) (b.tmod 3)) _ (by show (tT two + 1 + tT two) * 2 ≤ _; rw [drawn_len]; omega) (fun c hc => drawn_lt _ _ _ c hc) u hm).1
      unfold comRow
      rw [List.length_zipWith, hlen]
      omega
     · cases hi
   rw [shutP_eq, vGuard_t]; dsimp only
   rw [vNot_b, Bool.not_true, shutP_eq, vPick_f, vIf_f, ld (le2.trans le3)]
   refine model'_s (n := n + 17) hy fun τ1 τ2 => ?_
   rw [ld (le2.trans le3), sm]
   refine model'_s (n := n + 17) hy fun τ3 τ4 => ?_
   rw [ld (le2.trans le3), sm]
   refine differs_s (n := n + 11) (by omega) hy (okZ_mod a) (okZ_mod b) (okZ_mod c) (okZ_mod d) fun wd σ4 le4 md => ?_
   have le14 := (le2.trans le3).trans le4
   rw [hy.most, ← hll]
   have hs : ∀ X, (shL f r X).length = 2 := fun X => by unfold shL; rw [List.length_zipWith, lf, lr]; rfl
   have hs2 : ∀ X, (shL fb rb X).length = 2 := fun X => by unfold shL; rw [List.length_zipWith, lfb, lrb]; rfl
   exact lawloop (n := n + 15) (σ := σ4) hM hy (le14 _ _ rp) ((iv.up le3).up le4) (by omega) (le4 _ _ ro) (lineL_64 _) (by omega) md.nv rfl dif64 hs hs2 law2 (by cases md <;> rfl) (tN two) 1 M σ4 (by omega) (by omega) (by omega) (.refl _) fun σ' h => vRet_drop (le1.trans (le14.trans h)) hK
end
end Go.Am

set_option linter.unusedVariables false
set_option maxRecDepth 100000
namespace Go.Am
open Go.RowKit Go.MapKept Go.Proofs
section
variable {σ : St} {C : Nat → Prop}
theorem rd_list1 {it : It} {v : Value} {es : List (List D)} (h : Rd σ C (.list [it]) v (.l es)) {α : Type} (f : α → Dt) (g : α → Prop) (hf : ∀ (v : Value) (d : D), Rd σ C it v d → ∃ a, DtR σ C (f a) v ∧ g a) : ∃ l : List α, DtR σ C (.list (l.map f) l.length) v ∧ (∀ a ∈ l, g a) ∧ l.length ≤ 140737488355328 := by
 cases h with
 | empty => exact ⟨[], .nil, (fun a h => by cases h), Nat.zero_le _⟩
 | emptyR => exact ⟨[], .emp, (fun a h => by cases h), Nat.zero_le _⟩
 | @row _ b o n c sp vs e ck es hsp hb hC ho hw hn hl hd hN hnc hr =>
  have each : ∀ k : Nat, k < n → ∃ a : α, (∀ v, vs[o + k]? = some v → DtR σ C (f a) v) ∧ g a := by
   intro k hk
   have hk1 : k < es.length := by omega
   have hlen := hd es[k] (List.getElem_mem hk1)
   simp only [List.length_cons, List.length_nil] at hlen hl
   have hv : vs[o + k]? = some (vs[o + k]'(by omega)) := List.getElem?_eq_getElem _
   obtain ⟨d, hd0⟩ : ∃ d, (es[k])[0]? = some d := ⟨(es[k])[0]'(by omega), List.getElem?_eq_getElem (by omega)⟩
   obtain ⟨a, h1, h2⟩ := hf _ d (hr k es[k] 0 it (vs[o + k]'(by omega)) d (List.getElem?_eq_getElem hk1) rfl (by simp) hd0)
   exact ⟨a, fun v e => by rw [hv] at e; injection e with e; subst e; exact h1, h2⟩
  rcases Nat.eq_zero_or_pos n with h0 | h0
  · subst h0
    exact ⟨[], .row hsp hb hC ho (by simp; simp at hl; omega) hnc (fun j d v e => by simp at e), (fun a h => by cases h), Nat.zero_le _⟩
  · obtain ⟨a0, _⟩ := each 0 h0
    let F : Nat → α := fun k => if h : k < n then (each k h).choose else a0
    have hF : ∀ k, k < n → (∀ v, vs[o + k]? = some v → DtR σ C (f (F k)) v) ∧ g (F k) := fun k h => by
     show (∀ v, vs[o + k]? = some v → DtR σ C (f (if h : k < n then (each k h).choose else a0)) v) ∧ g (if h : k < n then (each k h).choose else a0)
     rw [dif_pos h]; exact (each k h).choose_spec
    refine ⟨(List.range n).map F, ?_, fun a ha => ?_, by simpa using hN⟩
    · have : DtR σ C (.list (((List.range n).map F).map f) n) (.slice (some ⟨b, o, sp⟩) n c) := by
       refine .row hsp hb hC ho (by simp at hl ⊢; omega) hnc fun j d v e1 e2 => ?_
       rw [List.map_map, List.getElem?_map] at e1
       cases hj : (List.range n)[j]? with
       | none => rw [hj] at e1; cases e1
       | some q =>
        rw [hj] at e1
        injection e1 with e1
        have hjn : j < n := by have := (List.getElem?_eq_some_iff.1 hj).1; simpa using this
        rw [List.getElem?_range hjn] at hj
        injection hj with hj
        subst hj e1
        exact (hF j hjn).1 v e2
      simpa using this
    · obtain ⟨k, hk, rfl⟩ := List.mem_map.1 ha
      exact (hF k (by simpa using hk)).2
theorem rd_u8s {v : Value} {d : D} (h : Rd σ C (.list [.kind]) v d) : ∃ l : List Nat, DtR σ C (.list (u8s l) l.length) v ∧ (∀ b ∈ l, b < 256) ∧ l.length ≤ 140737488355328 := by
 have : ∃ es, d = .l es := by cases h <;> exact ⟨_, rfl⟩
 obtain ⟨es, rfl⟩ := this
 exact rd_list1 h (fun b : Nat => Dt.int .u8 (.ofNat b)) (fun b => b < 256) fun v d q => by cases q with | @kind z h => exact ⟨z, .int, h⟩
end
def c0 (ws : List Value) (n : Nat) : Cx := ⟨fun _ => none, fun _ _ => none, fun k => ws[k]?, n⟩
theorem start_vs (P : Program) (σ : St) (ws : List Value) : VS P (fun _ => False) σ (c0 ws σ.n) (fun _ => none) σ := by
 refine ⟨.refl σ, fun b h => h.elim, (fun i o e _ => by cases e), (fun i vs t n e => by cases e), fun i j b l _ => ?_, (fun i n w e => by cases e), ⟨0, fun i _ => ⟨rfl, rfl, fun n => rfl⟩⟩, ⟨ws.length, fun k hk => List.getElem?_eq_none hk⟩, (fun i vs t n m b e => by cases e), (fun i vs t n b w e o e1 => by cases e1)⟩
 rcases l with ⟨o, e, _⟩ | ⟨vs, t, n, m, e, _⟩ <;> cases e
theorem start_liv {ws : List Value} {n b : Nat} : ¬ Liv (fun _ => False) (c0 ws n) (fun _ => none) b := by
 rintro (h | ⟨i, ⟨o, e, _⟩ | ⟨vs, t, n, m, e, _⟩⟩)
 · exact h
 · cases e
 · cases e
theorem start_fr {ws : List Value} (σ : St) : Fr' (fun _ => False) σ σ (Liv (fun _ => False) (c0 ws σ.n) (fun _ => none)) := ⟨Nat.le_refl _, fun _ _ _ => rfl, fun b hb => (start_liv hb).elim⟩
theorem Lay.none {P : Program} {w : World} (hsz : P.globals.size ≤ w.heap.size) : Lay P w (Rn.globals P.globals.size) (St.none P.globals.size) := by
 refine ⟨Rel.none hsz, fun i o h => ?_⟩
 have : (St.none P.globals.size).obj i = Option.none := rfl
 rw [this] at h
 cases h
def isTrueV : V → Prop
 | .bool b => b = true
 | _ => False
theorem lay_u8s {H : Type} {enc : TypeId × Value → H} {W : World} {t : TypeId} (ht : itsT PP 8 t = some [.list [.kind]]) {v : Value} {d : DataW H} {p : List MemPlace} (hc : v.cells = #[v]) (h : DataW.Trod enc PP W 0 (fun _ => true) true t v d p) (hz : ∀ b off, MemPlace.cell b off ∈ p → W.frozen? ⟨b, off, none⟩ = false) (hw : ∀ x ∈ d.weights PP t, x ≤ reachBytes)
 {ρ : Rn} {σ : St} (hl : Lay PP W ρ σ) : ∃ ρ' σ' u l, Ext ρ ρ' ∧ Lay PP W ρ' σ' ∧ Ext' σ σ' ∧ VR ρ' u v ∧ DtR σ' (fun _ => False) (.list (u8s l) l.length) u ∧ (∀ b ∈ l, b < 256) ∧ l.length ≤ 140737488355328 := by
 obtain ⟨F, hF⟩ := h
 obtain ⟨ρ', σ', vs, ds, e1, l1, x1, hvs, hr⟩ := lay (P := PP) (w := W) (fun _ => true) (fun _ => rfl) F 8 t v.cells.toList d p hF hz hw [.list [.kind]] ht ρ σ hl
 rw [hc] at hvs
 have hlen : vs.length = 1 := hr.len
 match vs, hlen, hvs, hr with
 | [u], _, hvs, hr =>
  have hd : ds.length = 1 := hr.dlen
  match ds, hd, hr with
  | [d1], _, hr =>
   obtain ⟨l, h1, h2⟩ := rd_u8s (hr.rd 0 _ _ _ rfl rfl rfl)
   exact ⟨ρ', σ', u, l, e1, l1, x1, hvs.2 0 u v rfl rfl, h1, h2⟩
theorem called_of {W : World} {ρ : Rn} {σ : St} (hsz : PP.globals.size ≤ W.heap.size) (hg : Laid gs W) (hl : Lay PP W ρ σ) (roots : List Value) {f : FuncId} {va : List V} {us vs : List Value} {M m : Nat} (ra : VRL (c0 roots σ.n) σ (Liv (fun _ => False) (c0 roots σ.n) (fun _ => none)) va us) (hu : VRs ρ us vs)
 (hv : (venv PP tbS gM M m).call f va (fun _ => none) (fun v _ => isTrueV v)) : Calls PP f ⟨vs⟩ W (fun e w' => e = .returned (.bool true) ∧ Below W.heap.size W w') := by
 have hk := (venv_sim (P := PP) (B := fun _ => False) (σb := σ) (tb := tbS) gM_sim M m).call' f (start_vs PP σ roots) ra (K := fun v _ => isTrue v) (fun c' h' σ' v w _ _ _ r hb => by
  cases r with
  | bool => exact hb
  | _ => cases hb) hv
 obtain ⟨_, hcall⟩ := (envX_sound (P := PP) (w0 := W) (tb := tbS) (most := M) (ovN3_ok (w := W) hsz hg) namesN mixedN m).1 f us σ (fun v _ => isTrue v) ρ W vs hk hl.1 hu
 refine Calls.mono (callsIn_wide.1 hcall) ?_
 rintro e w' ⟨v', rfl, ρ3, v, σ3, hk2, hv, hrel, _⟩
 cases v with
 | bool b =>
  have hb : b = true := hk2
  subst hb
  rw [hv.of_flat rfl]
  exact ⟨rfl, hrel.base⟩
 | _ => cases hk2
theorem itsU8 : itsT PP 8 23 = some [.list [.kind]] := by kernel_rfl
theorem called_mload {H : Type} {enc : TypeId × Value → H} {W : World} (hsz : PP.globals.size ≤ W.heap.size) (hg : Laid gs W) {two : Bool} {a b c d : Int} {S : Nat} (hS : S < 18446744073709551616) {v : Value} {d7 : DataW H} {p7 : List MemPlace} (hc : v.cells = #[v]) (h : DataW.Trod enc PP W 0 (fun _ => true) true 23 v d7 p7)
 (hz : ∀ b off, MemPlace.cell b off ∈ p7 → W.frozen? ⟨b, off, none⟩ = false) (hw : ∀ x ∈ d7.weights PP 23, x ≤ reachBytes) :
 Calls PP c_law31_MirrorLoad ⟨[.bool two, .int .i64 a, .int .i64 b, .int .i64 c, .int .i64 d, .int .u64 (.ofNat S), v]⟩ W (fun e w' => e = .returned (.bool true) ∧ Below W.heap.size W w') := by
 obtain ⟨ρ, σ, u, l, _, hl, _, hu, hr, h8, hll⟩ := lay_u8s itsU8 hc h hz hw (Lay.none hsz)
 obtain ⟨M, hM⟩ : ∃ M : Nat, 1000000 < M := ⟨1000001, by omega⟩
 obtain ⟨m, -⟩ : ∃ m : Nat, m = 0 := ⟨0, rfl⟩
 refine called_of (M := M) (m := m + 19) hsz hg hl [u] (va := [.bool two, iz a, iz b, iz c, iz d, nu S, .list (.root 0) (u8s l) l.length]) (us := [.bool two, .int .i64 a, .int .i64 b, .int .i64 c, .int .i64 d, .int .u64 (.ofNat S), u])
  (.cons .bool (.cons .int (.cons .int (.cons .int (.cons .int (.cons .int (.cons (.list (.root rfl) (hr.mono (start_fr σ))) .nil)))))))
  (.cons (VR.flat rfl) (.cons (VR.flat rfl) (.cons (VR.flat rfl) (.cons (VR.flat rfl) (.cons (VR.flat rfl) (.cons (VR.flat rfl) (.cons hu (.nil _)))))))) ?_
 exact MirrorLoad_s (n := m) hM (venv_deep (m + 19)) hS h8 (by omega) rfl
end Go.Am
