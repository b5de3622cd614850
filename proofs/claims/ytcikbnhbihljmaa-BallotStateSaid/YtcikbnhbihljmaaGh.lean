/- A ballot's functions: states as the document has them, compared; messages compared. -/
import Derived.Test.YtcikbnhbihljmaaGg
import Derived.Test.YtcikbnhbihljmaaGf
import Derived.Test.YtcikbnhbihljmaaGc
import Derived.Test.YtcikbnhbihljmaaGe

set_option linter.unusedVariables false
set_option maxRecDepth 4000
namespace Go.Am
section
variable {M n : Nat} {x : VE} {σ : Hp} {K : KV} {s : Bs} {l : List Vo}
def parts1 : Nat → List V → List (Nat × Nat × V)
 | _, [] => []
 | o, v :: l => (o, 1, v) :: parts1 (o + 1) l
theorem vFill_seq : ∀ (new pre rest : List V) {k : List V → Prop}, new.all oneV = true → rest.length = new.length → k (pre ++ new) → vFill (parts1 pre.length new) (pre ++ rest) k := by
 intro new
 induction new with
 | nil =>
  intro pre rest k _ hl hk
  obtain rfl : rest = [] := List.eq_nil_of_length_eq_zero (by simpa using hl)
  exact hk
 | cons v new ih =>
  intro pre rest k ho hl hk
  cases rest with
  | nil => simp at hl
  | cons r rest =>
   simp only [List.all_cons, Bool.and_eq_true] at ho
   refine vFill_one ho.1 (by simp) ?_
   have e : (pre ++ r :: rest).set pre.length v = (pre ++ [v]) ++ rest := by simp
   rw [e]
   have := ih (pre ++ [v]) rest (k := k) ho.2 (by simpa using hl) (by simpa using hk)
   rwa [List.length_append] at this
theorem vFill_seq0 {new rest : List V} {k : List V → Prop} (ho : new.all oneV = true) (hl : rest.length = new.length) (hk : k new) : vFill (parts1 0 new) rest k := vFill_seq new [] rest ho hl hk
theorem back_s (hM : 100000 < M) (hx : Deep PP tbS gT M (n + 2) x) (hl : l.length ≤ 10000) {τ : Tag} (hk : ∀ τ, K (.agg (sRow s (.list τ (voD l) l.length))) σ) : x.call c_law16_back [.agg (sRow s (.list τ (voD l) l.length))] σ K := by
 refine hx.call o_back fun y hy => ?_
 rw [f_law16_back]
 unfold r_law16_back
 refine vBox_agg rfl fun pi hpi => ?_
 have le1 : Hle σ (upd σ pi (.row (sRow s (.list τ (voD l) l.length)) 41)) := .upd_new hpi
 have r1 : upd σ pi (.row (sRow s (.list τ (voD l) l.length)) 41) pi = some (.row (sRow s (.list τ (voD l) l.length)) 41) := upd_same
 generalize upd σ pi (.row (sRow s (.list τ (voD l) l.length)) 41) = σ1 at le1 r1
 refine vAlloc_to (l := sRow zBs .nil) rfl fun j hj => ?_
 have le2 : Hle σ1 (upd σ1 j (.row (sRow zBs .nil) 48)) := .upd_new hj
 have rj : upd σ1 j (.row (sRow zBs .nil) 48) j = some (.row (sRow zBs .nil) 48) := upd_same
 have r2 := le2 _ _ r1
 generalize upd σ1 j (.row (sRow zBs .nil) 48) = σ2 at le2 rj r2
 have p0 : ∀ {K : KV}, vLd (.ptr pi 0) σ2 K = K (.int .i64 s.h) σ2 := vLd_p r2
 have p1 : ∀ {K : KV}, vLd (.ptr pi 1) σ2 K = K (.int .i64 s.n) σ2 := vLd_p r2
 have p2 : ∀ {K : KV}, vLd (.ptr pi 2) σ2 K = K (.int .i64 s.t) σ2 := vLd_p r2
 have p3 : ∀ {K : KV}, vLd (.ptr pi 3) σ2 K = K (.int .i64 s.me) σ2 := vLd_p r2
 have p4 : ∀ {K : KV}, vLd (.ptr pi 4) σ2 K = K (.int .i64 s.rd) σ2 := vLd_p r2
 have p5 : ∀ {K : KV}, vLd (.ptr pi 5) σ2 K = K (.int .i64 s.st) σ2 := vLd_p r2
 have p6 : ∀ {K : KV}, vLd (.ptr pi 6) σ2 K = K (.int .i64 s.age) σ2 := vLd_p r2
 have p7 : ∀ {K : KV}, vLd (.ptr pi 7) σ2 K = K (.str s.lock) σ2 := vLd_p r2
 have p8 : ∀ {K : KV}, vLd (.ptr pi 8) σ2 K = K (.str s.valid) σ2 := vLd_p r2
 have p9 : ∀ {K : KV}, vLd (.ptr pi 9) σ2 K = K (.int .i64 s.lockR) σ2 := vLd_p r2
 have p10 : ∀ {K : KV}, vLd (.ptr pi 10) σ2 K = K (.int .i64 s.validR) σ2 := vLd_p r2
 have p11 : ∀ {K : KV}, vLd (.ptr pi 11) σ2 K = K (.bool s.prop) σ2 := vLd_p r2
 have p12 : ∀ {K : KV}, vLd (.ptr pi 12) σ2 K = K (.bool s.seen) σ2 := vLd_p r2
 have p13 : ∀ {K : KV}, vLd (.ptr pi 13) σ2 K = K (.str s.dec) σ2 := vLd_p r2
 have p14 : ∀ {K : KV}, vLd (.ptr pi 14) σ2 K = K (.list τ (voD l) l.length) σ2 := vLd_p r2
 simp only [vFld_z, p0, p1, p2, p3, p4, p5, p6, p7, p8, p9, p10, p11, p12, p13, p14]
 refine hy.call o_votes fun z hz => ?_
 have hm : z.most = M := hz.most
 refine votes_s (by omega) (by omega) fun τ2 => ?_
 simp only [p0, p1, p2, p3, p4, p5, p6, p7, p8, p9, p10, p11, p12, p13, vSame_i, vSame_s, vSame_b]
 refine vBuild_to (z := sRow zBs .nil) rfl ?_
 refine vFill_seq0 (new := sRow s (.list τ2 (voD l) l.length)) rfl rfl ?_
 refine vSt_all rj (by rfl) (by rfl) (by rfl) ?_
 refine vLdN_all upd_same (by rfl) ?_
 refine vRet_drop (σ' := σ) (upd_le (le1.trans le2) (le1.none hj)) (hk τ2)
theorem Same16_s (hM : 100000 < M) (hx : Deep PP tbS gT M (n + 2) x) (hl : l.length ≤ 10000) {τ1 τ2 : Tag} (hk : K (.bool true) σ) : x.call c_ref16_Same [.agg (sRow s (.list τ1 (voD l) l.length)), .agg (sRow s (.list τ2 (voD l) l.length))] σ K := by
 refine hx.call o_Same16 fun y hy => ?_
 rw [f_ref16_Same]
 unfold r_ref16_Same
 refine vBox_agg rfl fun pi hpi => ?_
 have le1 : Hle σ (upd σ pi (.row (sRow s (.list τ1 (voD l) l.length)) 48)) := .upd_new hpi
 have r1 : upd σ pi (.row (sRow s (.list τ1 (voD l) l.length)) 48) pi = some (.row (sRow s (.list τ1 (voD l) l.length)) 48) := upd_same
 generalize upd σ pi (.row (sRow s (.list τ1 (voD l) l.length)) 48) = σ1 at le1 r1
 refine vBox_agg rfl fun qi hqi => ?_
 have le2 : Hle σ1 (upd σ1 qi (.row (sRow s (.list τ2 (voD l) l.length)) 48)) := .upd_new hqi
 have r3 : upd σ1 qi (.row (sRow s (.list τ2 (voD l) l.length)) 48) qi = some (.row (sRow s (.list τ2 (voD l) l.length)) 48) := upd_same
 have r2 := le2 _ _ r1
 generalize upd σ1 qi (.row (sRow s (.list τ2 (voD l) l.length)) 48) = σ2 at le2 r3 r2
 have p0 : ∀ {K : KV}, vLd (.ptr pi 0) σ2 K = K (.int .i64 s.h) σ2 := vLd_p r2
 have p1 : ∀ {K : KV}, vLd (.ptr pi 1) σ2 K = K (.int .i64 s.n) σ2 := vLd_p r2
 have p2 : ∀ {K : KV}, vLd (.ptr pi 2) σ2 K = K (.int .i64 s.t) σ2 := vLd_p r2
 have p3 : ∀ {K : KV}, vLd (.ptr pi 3) σ2 K = K (.int .i64 s.me) σ2 := vLd_p r2
 have p4 : ∀ {K : KV}, vLd (.ptr pi 4) σ2 K = K (.int .i64 s.rd) σ2 := vLd_p r2
 have p5 : ∀ {K : KV}, vLd (.ptr pi 5) σ2 K = K (.int .i64 s.st) σ2 := vLd_p r2
 have p6 : ∀ {K : KV}, vLd (.ptr pi 6) σ2 K = K (.int .i64 s.age) σ2 := vLd_p r2
 have p7 : ∀ {K : KV}, vLd (.ptr pi 7) σ2 K = K (.str s.lock) σ2 := vLd_p r2
 have p8 : ∀ {K : KV}, vLd (.ptr pi 8) σ2 K = K (.str s.valid) σ2 := vLd_p r2
 have p9 : ∀ {K : KV}, vLd (.ptr pi 9) σ2 K = K (.int .i64 s.lockR) σ2 := vLd_p r2
 have p10 : ∀ {K : KV}, vLd (.ptr pi 10) σ2 K = K (.int .i64 s.validR) σ2 := vLd_p r2
 have p11 : ∀ {K : KV}, vLd (.ptr pi 11) σ2 K = K (.bool s.prop) σ2 := vLd_p r2
 have p12 : ∀ {K : KV}, vLd (.ptr pi 12) σ2 K = K (.bool s.seen) σ2 := vLd_p r2
 have p13 : ∀ {K : KV}, vLd (.ptr pi 13) σ2 K = K (.str s.dec) σ2 := vLd_p r2
 have q0 : ∀ {K : KV}, vLd (.ptr qi 0) σ2 K = K (.int .i64 s.h) σ2 := vLd_p r3
 have q1 : ∀ {K : KV}, vLd (.ptr qi 1) σ2 K = K (.int .i64 s.n) σ2 := vLd_p r3
 have q2 : ∀ {K : KV}, vLd (.ptr qi 2) σ2 K = K (.int .i64 s.t) σ2 := vLd_p r3
 have q3 : ∀ {K : KV}, vLd (.ptr qi 3) σ2 K = K (.int .i64 s.me) σ2 := vLd_p r3
 have q4 : ∀ {K : KV}, vLd (.ptr qi 4) σ2 K = K (.int .i64 s.rd) σ2 := vLd_p r3
 have q5 : ∀ {K : KV}, vLd (.ptr qi 5) σ2 K = K (.int .i64 s.st) σ2 := vLd_p r3
 have q6 : ∀ {K : KV}, vLd (.ptr qi 6) σ2 K = K (.int .i64 s.age) σ2 := vLd_p r3
 have q7 : ∀ {K : KV}, vLd (.ptr qi 7) σ2 K = K (.str s.lock) σ2 := vLd_p r3
 have q8 : ∀ {K : KV}, vLd (.ptr qi 8) σ2 K = K (.str s.valid) σ2 := vLd_p r3
 have q9 : ∀ {K : KV}, vLd (.ptr qi 9) σ2 K = K (.int .i64 s.lockR) σ2 := vLd_p r3
 have q10 : ∀ {K : KV}, vLd (.ptr qi 10) σ2 K = K (.int .i64 s.validR) σ2 := vLd_p r3
 have q11 : ∀ {K : KV}, vLd (.ptr qi 11) σ2 K = K (.bool s.prop) σ2 := vLd_p r3
 have q12 : ∀ {K : KV}, vLd (.ptr qi 12) σ2 K = K (.bool s.seen) σ2 := vLd_p r3
 have q13 : ∀ {K : KV}, vLd (.ptr qi 13) σ2 K = K (.str s.dec) σ2 := vLd_p r3
 have p14 : ∀ {K : KV}, vLd (.ptr pi 14) σ2 K = K (.list τ1 (voD l) l.length) σ2 := vLd_p r2
 have q14 : ∀ {K : KV}, vLd (.ptr qi 14) σ2 K = K (.list τ2 (voD l) l.length) σ2 := vLd_p r3
 simp only [shutP_eq, vGuard_t, vPick_b, vFld_z, if_true, p0, p1, p2, p3, p4, p5, p6, p7, p8, p9, p10, p11, p12, p13, q0, q1, q2, q3, q4, q5, q6, q7, q8, q9, q10, q11, q12, q13, p14, q14, vBinI_eql, vBinS_eql, vBinB_eql bool4, decide_true]
 refine same15_s (b := true) (l := l) (l' := l) o_Same15 (by omega) hy (by omega) (by simp) ?_
 first
  | exact vRet_drop (le1.trans le2) hk
  | (simp only [vPick_b, if_true]; exact vRet_drop (le1.trans le2) hk)
/-! messages -/
def Mg.vt (g : Mg) (τ : Tag) : List V := [.int .u8 (.ofNat g.kd), .int .i64 0, .int .i64 0, .int .i64 g.h, .int .i64 g.r, .int .i64 g.vl, .int .i64 0, .int .i64 0, .int .i64 0, .str g.tx, .list τ [] 0]
theorem mgD_at (l : List Mg) (i : Nat) (g : Mg) (h : l[i]? = some g) : ((mgD l).drop (i * 11)).take 11 = g.dt := by
 induction l generalizing i with
 | nil => simp at h
 | cons a l ih =>
  cases i with
  | zero => simp at h; subst h; simp [mgD, Mg.dt]
  | succ i =>
   have := ih i (by simpa using h)
   rw [← this]
   simp only [mgD, List.flatMap_cons]
   rw [show (i + 1) * 11 = a.dt.length + i * 11 by simp [Mg.dt]; omega, ← List.drop_drop]
   simp
theorem Same14_s (hM : M ≠ 0) (hx : Deep PP tbS gT M (n + 1) x) {g : Mg} {τ1 τ2 : Tag} (hk : K (.bool true) σ) : x.call c_ref14_Same [.agg (g.vt τ1), .agg (g.vt τ2)] σ K := by
 refine hx.call o_Same14 fun y hy => ?_
 rw [f_ref14_Same]
 unfold r_ref14_Same
 refine vBox_agg rfl fun pi hpi => ?_
 have le1 : Hle σ (upd σ pi (.row (g.vt τ1) 31)) := .upd_new hpi
 have r1 : upd σ pi (.row (g.vt τ1) 31) pi = some (.row (g.vt τ1) 31) := upd_same
 generalize upd σ pi (.row (g.vt τ1) 31) = σ1 at le1 r1
 refine vBox_agg rfl fun qi hqi => ?_
 have le2 : Hle σ1 (upd σ1 qi (.row (g.vt τ2) 31)) := .upd_new hqi
 have r3 : upd σ1 qi (.row (g.vt τ2) 31) qi = some (.row (g.vt τ2) 31) := upd_same
 have r2 := le2 _ _ r1
 generalize upd σ1 qi (.row (g.vt τ2) 31) = σ2 at le2 r3 r2
 have p0 : ∀ {K : KV}, vLd (.ptr pi 0) σ2 K = K (.int .u8 (.ofNat g.kd)) σ2 := vLd_p r2
 have p1 : ∀ {K : KV}, vLd (.ptr pi 1) σ2 K = K (.int .i64 0) σ2 := vLd_p r2
 have p2 : ∀ {K : KV}, vLd (.ptr pi 2) σ2 K = K (.int .i64 0) σ2 := vLd_p r2
 have p3 : ∀ {K : KV}, vLd (.ptr pi 3) σ2 K = K (.int .i64 g.h) σ2 := vLd_p r2
 have p4 : ∀ {K : KV}, vLd (.ptr pi 4) σ2 K = K (.int .i64 g.r) σ2 := vLd_p r2
 have p5 : ∀ {K : KV}, vLd (.ptr pi 5) σ2 K = K (.int .i64 g.vl) σ2 := vLd_p r2
 have p6 : ∀ {K : KV}, vLd (.ptr pi 6) σ2 K = K (.int .i64 0) σ2 := vLd_p r2
 have p7 : ∀ {K : KV}, vLd (.ptr pi 7) σ2 K = K (.int .i64 0) σ2 := vLd_p r2
 have p8 : ∀ {K : KV}, vLd (.ptr pi 8) σ2 K = K (.int .i64 0) σ2 := vLd_p r2
 have p9 : ∀ {K : KV}, vLd (.ptr pi 9) σ2 K = K (.str g.tx) σ2 := vLd_p r2
 have p10 : ∀ {K : KV}, vLd (.ptr pi 10) σ2 K = K (.list τ1 [] 0) σ2 := vLd_p r2
 have q0 : ∀ {K : KV}, vLd (.ptr qi 0) σ2 K = K (.int .u8 (.ofNat g.kd)) σ2 := vLd_p r3
 have q1 : ∀ {K : KV}, vLd (.ptr qi 1) σ2 K = K (.int .i64 0) σ2 := vLd_p r3
 have q2 : ∀ {K : KV}, vLd (.ptr qi 2) σ2 K = K (.int .i64 0) σ2 := vLd_p r3
 have q3 : ∀ {K : KV}, vLd (.ptr qi 3) σ2 K = K (.int .i64 g.h) σ2 := vLd_p r3
 have q4 : ∀ {K : KV}, vLd (.ptr qi 4) σ2 K = K (.int .i64 g.r) σ2 := vLd_p r3
 have q5 : ∀ {K : KV}, vLd (.ptr qi 5) σ2 K = K (.int .i64 g.vl) σ2 := vLd_p r3
 have q6 : ∀ {K : KV}, vLd (.ptr qi 6) σ2 K = K (.int .i64 0) σ2 := vLd_p r3
 have q7 : ∀ {K : KV}, vLd (.ptr qi 7) σ2 K = K (.int .i64 0) σ2 := vLd_p r3
 have q8 : ∀ {K : KV}, vLd (.ptr qi 8) σ2 K = K (.int .i64 0) σ2 := vLd_p r3
 have q9 : ∀ {K : KV}, vLd (.ptr qi 9) σ2 K = K (.str g.tx) σ2 := vLd_p r3
 have q10 : ∀ {K : KV}, vLd (.ptr qi 10) σ2 K = K (.list τ2 [] 0) σ2 := vLd_p r3
 have hm : y.most = M := hy.most
 obtain ⟨p, hp⟩ := Nat.exists_eq_succ_of_ne_zero (show y.most ≠ 0 by omega)
 simp only [shutP_eq, vGuard_t, vPick_b, vIf_b, vFld_z, Bool.not_true, if_false, Bool.false_eq_true, p0, p1, p2, p3, p4, p5, p6, p7, p8, p9, p10, q0, q1, q2, q3, q4, q5, q6, q7, q8, q9, q10, vBinI_neq, vBinS_neq, vLenS_l, decide_true, hp]
 rw [l_ref14_Same_rrlrdE]
 unfold l_ref14_Same_rrlrdB
 refine vDrop_here ?_
 have z0 : decide (Int.ofNat 0 < Int.ofNat 0) = false := rfl
 simp only [vFld_z, p10, vLenS_l, vBinI_lss, z0, vIf_b, Bool.false_eq_true, if_false]
 exact vRet_drop (le1.trans le2) hk
theorem msgs_go {ms : List Mg} {τ1 τ2 : Tag} (hM : M ≠ 0) (hx : Deep PP tbS gT M (n + 1) x) (hl : ms.length ≤ 1000000) (hk : K (.bool true) σ) : ∀ (q i : Nat) (σ1 : Hp), ms.length ≤ i + q → i ≤ ms.length → Hle σ σ1 → l_ref14_Msgs_rrlrd x (q + 1) (.list τ1 (mgD ms) ms.length) (.list τ2 (mgD ms) ms.length) (.int .i64 (.ofNat i)) σ1 K := by
 intro q
 induction q with
 | zero =>
  intro i σ1 h1 h2 hle
  rw [l_ref14_Msgs_rrlrdE]
  unfold l_ref14_Msgs_rrlrdB
  refine vDrop_to σ hle ?_
  rw [vLenS_l, vBinI_lss, vIf_b, if_neg (by simp; omega)]
  exact vRet_here hk
 | succ q ih =>
  intro i σ1 h1 h2 hle
  rw [l_ref14_Msgs_rrlrdE]
  unfold l_ref14_Msgs_rrlrdB
  refine vDrop_to σ hle ?_
  rw [vLenS_l, vBinI_lss, vIf_b]
  by_cases hlt : i < ms.length
  · have cell : ∀ τ, Tl τ (i * 11) (ms[i].dt) = ms[i].vt (.sub τ (i * 11 + 10)) := fun τ => rfl
    rw [if_pos (by simp; omega), vIdx_l hlt, vLdN_l, vPart_ok (by rw [mgD_len]; omega), mgD_at ms i ms[i] (List.getElem?_eq_getElem hlt), cell, vIdx_l hlt, vLdN_l, vPart_ok (by rw [mgD_len]; omega), mgD_at ms i ms[i] (List.getElem?_eq_getElem hlt), cell]
    refine Same14_s hM hx ?_
    simp only [vNot_b, Bool.not_true, vIf_b, Bool.false_eq_true, if_false, vBinI_add]
    rw [next_i (by omega)]
    exact ih (i + 1) σ (by omega) (by omega) (.refl σ)
  · rw [if_neg (by simp; omega)]
    exact vRet_here hk
theorem Msgs_s (hx : Deep PP tbS gT M (n + 2) x) {ms : List Mg} {τ1 τ2 : Tag} (hl : ms.length ≤ 100000) (hM : 100000 < M) (hk : K (.bool true) σ) : x.call c_ref14_Msgs [.list τ1 (mgD ms) ms.length, .list τ2 (mgD ms) ms.length] σ K := by
 refine hx.call o_Msgs fun y hy => ?_
 rw [f_ref14_Msgs]
 unfold r_ref14_Msgs
 have hm : y.most = M := hy.most
 obtain ⟨p, hp⟩ := Nat.exists_eq_succ_of_ne_zero (show y.most ≠ 0 by omega)
 simp only [vLenS_l, vBinI_neq, decide_true, Bool.not_true, vIf_b, Bool.false_eq_true, if_false, hp]
 exact msgs_go (by omega) hy (by omega) hk p 0 σ (by omega) (by omega) (.refl σ)
end
end Go.Am

set_option linter.unusedVariables false
set_option maxRecDepth 4000
namespace Go.Am
theorem o_long : gT c_law16_long = none := rfl
def spD (l : List Sp) : List Dt := l.flatMap Sp.dt
theorem spD_len (l : List Sp) : (spD l).length = l.length * 15 := by
 induction l with
 | nil => rfl
 | cons v l ih => simp [spD, Sp.dt, Mi.dt] at ih ⊢; omega
theorem spD_at (l : List Sp) (i : Nat) (g : Sp) (h : l[i]? = some g) : ((spD l).drop (i * 15)).take 15 = g.dt := by
 induction l generalizing i with
 | nil => simp at h
 | cons a l ih =>
  cases i with
  | zero => simp at h; subst h; simp [spD, Sp.dt, Mi.dt]
  | succ i =>
   have := ih i (by simpa using h)
   rw [← this]
   simp only [spD, List.flatMap_cons]
   rw [show (i + 1) * 15 = a.dt.length + i * 15 by simp [Sp.dt, Mi.dt]; omega, ← List.drop_drop]
   simp
theorem spD_get (l : List Sp) (i c : Nat) (g : Sp) (h : l[i]? = some g) (hc : c < 15) : (spD l)[i * 15 + c]? = g.dt[c]? := by
 have h2 : (((spD l).drop (i * 15)).take 15)[c]? = g.dt[c]? := by rw [spD_at l i g h]
 rw [List.getElem?_take, if_pos hc, List.getElem?_drop] at h2
 exact h2
theorem Sp.dt_11 (s : Sp) : s.dt[11]? = some (.str s.g.tx) := rfl
theorem Sp.dt_13 (s : Sp) : s.dt[13]? = some (.str s.want) := rfl
theorem Sp.dt_14 (s : Sp) : s.dt[14]? = some (.list (strsD s.may) s.may.length) := rfl
theorem dlt {a b : Nat} (h : a < b) : decide (Int.ofNat a < Int.ofNat b) = true := decide_eq_true (Int.ofNat_lt.2 h)
theorem dnlt {a b : Nat} (h : ¬ a < b) : decide (Int.ofNat a < Int.ofNat b) = false := decide_eq_false (fun q => h (Int.ofNat_lt.1 q))
structure Small (l : List Sp) : Prop where
 len : l.length ≤ 140737488355328
 tx : ∀ s ∈ l, s.g.tx.length ≤ 140737488355328 ∧ s.want.length ≤ 140737488355328 ∧ s.may.length ≤ 140737488355328 ∧ ∀ u ∈ s.may, u.length ≤ 140737488355328
def Few (l : List Sp) : Prop := l.length ≤ 150 ∧ ∀ s ∈ l, s.may.length ≤ 6000
section
variable {M n : Nat} {x : VE} {σ : Hp} {K : KV} {l : List Sp} {τ : Tag}
theorem add_n {a b : Nat} (h : a + b < 4611686018427387904) : wrapI .i64 (Int.ofNat a + Int.ofNat b) = Int.ofNat (a + b) := by
 rw [wrap_small] <;> simp <;> omega
theorem long_go (sm : Small l) (hx : x.most = M) (hM : 100000 < M) (hk : ∀ bb, (bb = false → Few l) → K (.bool bb) σ) :
 ∀ (q i c : Nat) (σ1 : Hp), 151 ≤ i + q → 40 * i ≤ c → c ≤ 1125899906842624 → i ≤ l.length → (c < 6000 → ∀ (j : Nat) (s : Sp), j < i → l[j]? = some s → s.may.length ≤ 6000) → Hle σ σ1 →
  l_law16_long_rrlrd x (q + 1) (.list τ (spD l) l.length) (.int .i64 (.ofNat c)) (.int .i64 (.ofNat i)) σ1 K := by
 have fin : ∀ (i c : Nat), (¬ i < l.length ∨ ¬ c < 6000) → 40 * i ≤ c → i ≤ l.length → (c < 6000 → ∀ (j : Nat) (s : Sp), j < i → l[j]? = some s → s.may.length ≤ 6000) → vBin PP .geq 3 (.int .i64 (.ofNat c)) (.int .i64 (.ofNat 6000)) fun v18 => vRet v18 σ K := by
  intro i c h1 h2 h3 h4
  rw [vBinI_geq]
  refine vRet_here (hk _ fun e => ?_)
  have hc : c < 6000 := by
   have h7 : ¬ (Int.ofNat 6000 ≤ Int.ofNat c) := of_decide_eq_false e
   exact Nat.lt_of_not_le fun q => h7 (Int.ofNat_le.2 q)
  have hi : i = l.length := by omega
  refine ⟨by omega, fun s hs => ?_⟩
  obtain ⟨j, hj⟩ := List.getElem?_of_mem hs
  exact h4 hc j s (by rw [hi]; exact (List.getElem?_eq_some_iff.1 hj).1) hj
 intro q
 induction q with
 | zero =>
  intro i c σ1 h1 h2 h3 h4 h5 hle
  rw [l_law16_long_rrlrdE]
  unfold l_law16_long_rrlrdB
  refine vDrop_to σ hle ?_
  have hc : ¬ c < 6000 := by omega
  have e1 : decide (Int.ofNat c < Int.ofNat 6000) = false := dnlt hc
  simp only [vLenS_l, vBinI_lss, shutP_eq]
  by_cases hi : i < l.length
  · simp only [dlt hi, vGuard_t, vBinI_lss, e1, vPick_b, if_true, vIf_b, Bool.false_eq_true, if_false]
    exact fin i c (.inr hc) h2 h4 h5
  · simp only [dnlt hi, vGuard_tf, vPick_b, vIf_b, Bool.false_eq_true, if_false]
    exact fin i c (.inr hc) h2 h4 h5
 | succ q ih =>
  intro i c σ1 h1 h2 h3 h4 h5 hle
  rw [l_law16_long_rrlrdE]
  unfold l_law16_long_rrlrdB
  refine vDrop_to σ hle ?_
  simp only [vLenS_l, vBinI_lss, shutP_eq]
  by_cases hi : i < l.length
  · by_cases hc : c < 6000
    · simp only [dlt hi, vGuard_t, vBinI_lss, dlt hc, vPick_b, if_true, vIf_b]
      have hgi : l[i]? = some l[i] := List.getElem?_eq_getElem hi
      obtain ⟨b1, b2, b3, b4⟩ := sm.tx l[i] (List.getElem_mem hi)
      rw [vBinI_add, add_n (by omega), vIdx_l hi, vFld_l, vFld_l, vLd_l, vNth_some (a := .str l[i].g.tx) (by rw [show i * 15 + 2 + 9 = i * 15 + 11 by omega, spD_get l i 11 l[i] hgi (by omega), Sp.dt_11])]
      show vLenT (.str l[i].g.tx) _
      rw [vLenT_s, vBinI_add, add_n (by omega), vIdx_l hi, vFld_l, vLd_l, vNth_some (a := .str l[i].want) (by rw [spD_get l i 13 l[i] hgi (by omega), Sp.dt_13])]
      show vLenT (.str l[i].want) _
      rw [vLenT_s, vBinI_add, add_n (by omega)]
      -- the texts that are allowed
      have inner : ∀ (p k c : Nat), 6001 ≤ k + p → 40 * (i + 1) ≤ c → k ≤ c → c ≤ 1125899906842624 → k ≤ l[i].may.length → (c < 6000 → ∀ (j : Nat) (s : Sp), j < i → l[j]? = some s → s.may.length ≤ 6000) → ∀ σ1, Hle σ σ1 →
       l_law16_long_rrlrddrldrrd x (p + 1) (q + 1) (.list τ (spD l) l.length) (.int .i64 (.ofNat c)) (.int .i64 (.ofNat i)) (.int .i64 (.ofNat k)) σ1 K := by
       have out : ∀ (k c : Nat), (¬ k < l[i].may.length ∨ ¬ c < 6000) → 40 * (i + 1) ≤ c → k ≤ c → c ≤ 1125899906842624 → (c < 6000 → ∀ (j : Nat) (s : Sp), j < i → l[j]? = some s → s.may.length ≤ 6000) → vBin PP .add 3 (.int .i64 (.ofNat i)) (.int .i64 (.ofNat 1)) fun v18 => l_law16_long_rrlrd x (q + 1) (.list τ (spD l) l.length) (.int .i64 (.ofNat c)) v18 σ K := by
        intro k c g1 g2 g3 g4 g5
        have := sm.len
        rw [vBinI_add, next_i (by omega)]
        refine ih (i + 1) c σ (by omega) g2 g4 (by omega) (fun g6 j s g7 g8 => ?_) (.refl σ)
        by_cases e : j = i
        · subst e
          rw [hgi] at g8
          injection g8 with g8
          subst g8
          omega
        · exact g5 g6 j s (by omega) g8
       intro p
       induction p with
       | zero =>
        intro k c g1 g2 g3 g4 g5 g6 σ1 hle
        rw [l_law16_long_rrlrddrldrrdE]
        unfold l_law16_long_rrlrddrldrrdB
        refine vDrop_to σ hle ?_
        rw [vIdx_l hi, vFld_l, vLd_l, vNth_some (a := .list (strsD l[i].may) l[i].may.length) (by rw [spD_get l i 14 l[i] hgi (by omega), Sp.dt_14])]
        show vLenS (.list (.sub τ (i * 15 + 14)) (strsD l[i].may) l[i].may.length) _
        have hc : ¬ c < 6000 := by omega
        have e1 : decide (Int.ofNat c < Int.ofNat 6000) = false := dnlt hc
        simp only [vLenS_l, vBinI_lss, shutP_eq]
        by_cases hk2 : k < l[i].may.length
        · simp only [dlt hk2, vGuard_t, vBinI_lss, e1, vPick_b, if_true, vIf_b, Bool.false_eq_true, if_false]
          exact out k c (.inr hc) g2 g3 g4 g6
        · simp only [dnlt hk2, vGuard_tf, vPick_b, vIf_b, Bool.false_eq_true, if_false]
          exact out k c (.inl hk2) g2 g3 g4 g6
       | succ p ihp =>
        intro k c g1 g2 g3 g4 g5 g6 σ1 hle
        rw [l_law16_long_rrlrddrldrrdE]
        unfold l_law16_long_rrlrddrldrrdB
        refine vDrop_to σ hle ?_
        rw [vIdx_l hi, vFld_l, vLd_l, vNth_some (a := .list (strsD l[i].may) l[i].may.length) (by rw [spD_get l i 14 l[i] hgi (by omega), Sp.dt_14])]
        show vLenS (.list (.sub τ (i * 15 + 14)) (strsD l[i].may) l[i].may.length) _
        simp only [vLenS_l, vBinI_lss, shutP_eq]
        by_cases hk2 : k < l[i].may.length
        · by_cases hc : c < 6000
          · simp only [dlt hk2, vGuard_t, vBinI_lss, dlt hc, vPick_b, if_true, vIf_b]
            have hu := b4 l[i].may[k] (List.getElem_mem hk2)
            rw [vBinI_add, add_n (by omega), vIdx_l hi, vFld_l, vLd_l, vNth_some (a := .list (strsD l[i].may) l[i].may.length) (by rw [spD_get l i 14 l[i] hgi (by omega), Sp.dt_14])]
            show vIdx 1 (.list (.sub τ (i * 15 + 14)) (strsD l[i].may) l[i].may.length) _ _
            rw [vIdx_l hk2, vLd_l, Nat.mul_one, vNth_some (a := .str l[i].may[k]) (by unfold strsD; rw [List.getElem?_map, List.getElem?_eq_getElem hk2]; rfl)]
            show vLenT (.str l[i].may[k]) _
            rw [vLenT_s, vBinI_add, add_n (by omega), vBinI_add, next_i (by omega)]
            exact ihp (k + 1) _ (by omega) (by omega) (by omega) (by omega) (by omega) (fun g7 => g6 (by omega)) σ (.refl σ)
          · have e1 : decide (Int.ofNat c < Int.ofNat 6000) = false := dnlt hc
            simp only [dlt hk2, vGuard_t, vBinI_lss, e1, vPick_b, if_true, vIf_b, Bool.false_eq_true, if_false]
            exact out k c (.inr hc) g2 g3 g4 g6
        · simp only [dnlt hk2, vGuard_tf, vPick_b, vIf_b, Bool.false_eq_true, if_false]
          exact out k c (.inl hk2) g2 g3 g4 g6
      obtain ⟨p, hp⟩ := Nat.exists_eq_succ_of_ne_zero (show x.most ≠ 0 by omega)
      rw [hp]
      exact inner p 0 _ (by omega) (by omega) (by omega) (by omega) (by omega) (fun g7 => h5 (by omega)) σ (.refl σ)
    · have e1 : decide (Int.ofNat c < Int.ofNat 6000) = false := dnlt hc
      simp only [dlt hi, vGuard_t, vBinI_lss, e1, vPick_b, if_true, vIf_b, Bool.false_eq_true, if_false]
      exact fin i c (.inr hc) h2 h4 h5
  · simp only [dnlt hi, vGuard_tf, vPick_b, vIf_b, Bool.false_eq_true, if_false]
    exact fin i c (.inl hi) h2 h4 h5
theorem long_s (sm : Small l) (hM : 100000 < M) (hx : Deep PP tbS gT M (n + 1) x) (hk : ∀ bb, (bb = false → Few l) → K (.bool bb) σ) : x.call c_law16_long [.list τ (spD l) l.length] σ K := by
 refine hx.call o_long fun y hy => ?_
 rw [f_law16_long]
 unfold r_law16_long
 have hm : y.most = M := hy.most
 obtain ⟨p, hp⟩ := Nat.exists_eq_succ_of_ne_zero (show y.most ≠ 0 by omega)
 rw [hp]
 exact long_go sm hm hM hk p 0 0 σ (by omega) (by omega) (by omega) (by omega) (fun _ j s h => by omega) (.refl σ)
end
end Go.Am

set_option linter.unusedVariables false
set_option maxRecDepth 4000
namespace Go.Am
def Ba.st (a : Ba) (l : List Sp) (j : Nat) : Ba := (l.take j).foldl (fun a s => (a.step s).1) a
theorem Ba.st_succ (a : Ba) (l : List Sp) (j : Nat) (h : j < l.length) : a.st l (j + 1) = ((a.st l j).step l[j]).1 := by
 unfold Ba.st
 rw [List.take_add_one, List.getElem?_eq_getElem h, List.foldl_append]; rfl
def outsAt (a : Ba) (l : List Sp) (j : Nat) : List Mg := match l[j]? with
 | some s => ((a.st l j).step s).2
 | none => []
theorem late_len (a : Ba) : a.late.2.length ≤ 1 := by
 unfold Ba.late
 split
 · exact Nat.le_refl 1
 · split
   · split
     · exact Nat.le_refl 1
     · exact Nat.zero_le 1
   · split <;> exact Nat.zero_le 1
theorem step_len (a : Ba) (s : Sp) : (a.step s).2.length ≤ 1001 := by
 unfold Ba.step
 split
 · exact Nat.zero_le _
 · split
   · have := do_len (a := a) s.want s.may; omega
   · show ((a.tick0 s.want).2 ++ ((a.tick0 s.want).1.do_ s.want s.may).2).length ≤ 1001
     rw [List.length_append]
     have h1 := do_len (a := (a.tick0 s.want).1) s.want s.may
     have h2 : (a.tick0 s.want).2.length ≤ 1 := by
      unfold Ba.tick0
      split
      · split
        · exact late_len _
        · exact Nat.zero_le 1
      · exact Nat.zero_le 1
     omega
theorem AccF.own {σ0 σ : Hp} {el bytes n j : Nat} {t : V} {vs : List V} {v : V} {ty : TypeId} {K : KV} (a : AccF σ0 σ el 1 t vs n) (hj : σ j = some (.row [v] ty)) (ho : oneV v = true) (hle : ∀ i, σ i = none → σ0 i = none) (hb : (n + 1) * (bytes + 1) ≤ 1099511627776)
 (hk : ∀ t2 σ2, AccF σ0 σ2 el 1 t2 (vs ++ [v]) (n + 1) → (∀ q o, σ q = some o → isGro o = false → σ2 q = some o) → K t2 σ2) : vApp el 1 bytes t (.own j 0 1 1) σ K := by
 unfold vApp
 refine vSrc_own hj rfl ?_
 refine ⟨by simp [ho], ?_⟩
 have hlen : (vs ++ [v]).length = (n + 1) * 1 := by rw [List.length_append, a.len]; simp
 rcases a.is with ⟨rfl, rfl, rfl⟩ | ⟨i, rfl, h1, h2⟩
 · refine ⟨by simpa using hb, fun i hi => ?_⟩
   have := hk (.acc i (0 + 1)) (upd σ i (.gro ([] ++ [v]) el (0 + 1))) ⟨.inr ⟨i, rfl, upd_same, hle i hi⟩, hlen⟩ (fun q o e _ => by
    rw [upd_other (fun z => by rw [z, hi] at e; cases e)]; exact e)
   simpa using this
 · simp only [h1]
   refine ⟨trivial, trivial, a.len, hb, ?_⟩
   refine hk _ _ ⟨.inr ⟨i, rfl, upd_same, h2⟩, hlen⟩ fun q o e hg => ?_
   rw [upd_other (fun z => by rw [z, h1] at e; injection e with e; subst e; cases hg)]; exact e
theorem vBuildS_list {el : TypeId} {τ : Tag} {cs : List Dt} {q : Nat} {σ : Hp} {K : KV} (hk : ∀ j, σ j = none → K (.own j 0 1 1) (upd σ j (.row [.list τ cs q] el))) : vBuildS el 1 [.slice none 0 0] [(0, 1, .list τ cs q)] σ K := by
 unfold vBuildS
 show vFill [(0, 1, .list τ cs q)] [.nil] _
 exact ⟨rfl, by simp, hk⟩
def none0 : Hp := fun _ => none
section
variable {M n b t m b2 t2 m2 p : Nat} {x : VE} {σ : Hp} {K : KV} {a : Ba}
theorem stepV (s : Sp) (τ : Tag) (o : Nat) : Tl τ o s.dt = s.vv (.sub τ (o + 12)) (.sub τ (o + 14)) := rfl
theorem law_one {l : List Sp} {τ : Tag} {l2 : V} (hM : 100000 < M) (hM2 : M ≤ 125000) (hx : Deep PP tbS gT M (n + 10) x) (few : Few l) (hk : ∀ σ', Bal σ' b t m 61 (a.st l l.length) → (x.call c_ballot_Ballot_State [.ptr b 0] σ' fun v6 σ =>
 vAlloc zSt 41 σ fun v7 σ =>
 vSt 15 v7 v6 σ fun σ =>
 vLdN 15 v7 σ fun v8 σ =>
 x.call c_ballot_Load [v8] σ fun v9 σ =>
 vExt 0 v9 fun v10 =>
 vExt 1 v9 fun v11 =>
 vBin PP .neq 26 v11 (.int .i64 (.ofNat 0)) fun v12 =>
 vIf v12 (vRet (.bool false) σ K) (l_law16_BallotState_rrrrrrrrrrlrd x x.most l2 (.ptr b 0) (.func c_law16_BallotState_1 [] []) v7 v10 .nil (.int .i64 (.ofNat 0)) σ K))) :
  ∀ (q i : Nat) (σ1 : Hp), l.length ≤ i + q → i ≤ l.length → Bal σ1 b t m 61 (a.st l i) → l_law16_BallotState_rrrrrlrd x (q + 1) (.list τ (spD l) l.length) l2 (.ptr b 0) (.func c_law16_BallotState_1 [] []) (.int .i64 (.ofNat i)) σ1 K := by
 intro q
 induction q with
 | zero =>
  intro i σ1 h1 h2 k
  rw [l_law16_BallotState_rrrrrlrdE]
  unfold l_law16_BallotState_rrrrrlrdB
  refine vDrop_here ?_
  rw [vLenS_l, vBinI_lss, dnlt (by omega), vIf_b, if_neg (by simp)]
  obtain rfl : i = l.length := by omega
  exact hk σ1 k
 | succ q ih =>
  intro i σ1 h1 h2 k
  rw [l_law16_BallotState_rrrrrlrdE]
  unfold l_law16_BallotState_rrrrrlrdB
  refine vDrop_here ?_
  rw [vLenS_l, vBinI_lss]
  by_cases hi : i < l.length
  · have hl := few.1
    rw [dlt hi, vIf_b, if_pos rfl, vIdx_l hi, vLdN_l, vPart_ok (by rw [spD_len]; omega), spD_at l i l[i] (List.getElem?_eq_getElem hi), stepV]
    show x.call c_law16_BallotState_1 ([] ++ [.ptr b 0, .agg (l[i].vv (.sub τ (i * 15 + 12)) (.sub τ (i * 15 + 14)))] ++ []) σ1 _
    rw [List.nil_append, List.append_nil]
    refine step_s hM hM2 hx k (by have := few.2 l[i] (List.getElem_mem hi); omega) fun σ2 c2 k2 τ2 => ?_
    rw [vBinI_add, next_i (by omega)]
    exact ih (i + 1) σ2 (by omega) (by omega) (by rw [Ba.st_succ a l i hi]; exact k2)
  · rw [dnlt hi, vIf_b, if_neg (by simp)]
    obtain rfl : i = l.length := by omega
    exact hk σ1 k
structure Two (b t m b2 t2 m2 : Nat) : Prop where
 e1 : b ≠ b2
 e2 : b ≠ m2
 e3 : t ≠ b2
 e4 : t ≠ m2
 e5 : m ≠ b2
 e6 : m ≠ m2
 f3 : t2 ≠ b
 f4 : t2 ≠ m
theorem Bal.other {a : Ba} {σ' : Hp} {ty : TypeId} (k : Bal σ b t m ty a) (h : Two b t m b2 t2 m2) (c : Ch σ σ' b2 m2) : Bal σ' b t m ty a := by
 obtain ⟨l0, q1, q2⟩ := k.tal
 exact ⟨by rw [c b h.e1 h.e2]; exact k.row, ⟨l0, ⟨by rw [c t h.e3 h.e4]; exact q1.row, by rw [c m h.e5 h.e6]; exact q1.map⟩, q2⟩, k.inv, k.bt, k.bm, k.tm⟩
theorem Bal.other2 {a : Ba} {σ' : Hp} {ty : TypeId} (k : Bal σ b2 t2 m2 ty a) (h : Two b t m b2 t2 m2) (c : Ch σ σ' b m) : Bal σ' b2 t2 m2 ty a := by
 obtain ⟨l0, q1, q2⟩ := k.tal
 exact ⟨by rw [c b2 (Ne.symm h.e1) (Ne.symm h.e5)]; exact k.row, ⟨l0, ⟨by rw [c t2 h.f3 h.f4]; exact q1.row, by rw [c m2 (Ne.symm h.e2) (Ne.symm h.e6)]; exact q1.map⟩, q2⟩, k.inv, k.bt, k.bm, k.tm⟩
def Told (a : Ba) (l : List Sp) (vs : List V) (i : Nat) : Prop := vs.length = i ∧ ∀ (j : Nat) (v : V), vs[j]? = some v → ∃ τ, v = .list τ (mgD (outsAt a l j)) (outsAt a l j).length
theorem Told.app {l : List Sp} {vs : List V} {i : Nat} (h : Told a l vs i) (hi : i < l.length) (τ : Tag) : Told a l (vs ++ [.list τ (mgD ((a.st l i).step l[i]).2) ((a.st l i).step l[i]).2.length]) (i + 1) := by
 refine ⟨by rw [List.length_append, h.1]; rfl, fun j v e => ?_⟩
 by_cases hj : j < vs.length
 · rw [List.getElem?_append_left hj] at e; exact h.2 j v e
 · rw [List.getElem?_append_right (by omega)] at e
   have : j = i := by
    have := (List.getElem?_eq_some_iff.1 e).1
    have := h.1
    simp at *; omega
   subst this
   rw [h.1, Nat.sub_self] at e
   injection e with e
   refine ⟨τ, ?_⟩
   rw [← e]
   unfold outsAt
   rw [List.getElem?_eq_getElem hi]
theorem law_three {l : List Sp} {τ : Tag} {t20 : V} {vs : List V} (hM : 100000 < M) (hM2 : M ≤ 125000) (hx : Deep PP tbS gT M (n + 10) x) (few : Few l) (tw : Two b t m b2 t2 m2) (hk : ∀ σ', K (.bool true) σ') (hto : Told a l vs l.length) :
 ∀ (q i : Nat) (σ1 : Hp), l.length ≤ i + q → i ≤ l.length → Bal σ1 b t m 61 (a.st l i) → Bal σ1 b2 t2 m2 61 (a.st l l.length) → AccF none0 σ1 35 1 t20 vs l.length → l_law16_BallotState_rrrrrrrrrrrrlrd x (q + 1) (.list τ (spD l) l.length) (.ptr b 0) (.func c_law16_BallotState_1 [] []) (.ptr b2 0) t20 (.int .i64 (.ofNat i)) σ1 K := by
 have fin : ∀ i σ1, l.length ≤ i → i ≤ l.length → Bal σ1 b t m 61 (a.st l i) → Bal σ1 b2 t2 m2 61 (a.st l l.length) → (x.call c_ballot_Ballot_State [.ptr b 0] σ1 fun v11 σ => x.call c_law16_back [v11] σ fun v12 σ => x.call c_ballot_Ballot_State [.ptr b2 0] σ fun v13 σ => x.call c_law16_back [v13] σ fun v14 σ => x.call c_ref16_Same [v12, v14] σ fun v15 σ => vRet v15 σ K) := by
  intro i σ1 h1 h2 k k2
  obtain rfl : i = l.length := by omega
  have hlen := len_of k.inv.srt k.inv.ok.1.2 fun v hv => (k.inv.vs v hv).1
  have hx2 : Deep PP tbS gT M (n + 8 + 2) x := hx
  refine State_s hx2 k fun τ1 => ?_
  refine back_s hM hx2 (by omega) fun τ2 => ?_
  refine State_s hx2 k2 fun τ3 => ?_
  refine back_s hM hx2 (by omega) fun τ4 => ?_
  refine Same16_s hM hx2 (by omega) ?_
  exact vRet_here (hk σ1)
 intro q
 induction q with
 | zero =>
  intro i σ1 h1 h2 k k2 ac
  rw [l_law16_BallotState_rrrrrrrrrrrrlrdE]
  unfold l_law16_BallotState_rrrrrrrrrrrrlrdB
  refine vDrop_here ?_
  rw [vLenS_l, vBinI_lss, dnlt (by omega), vIf_b, if_neg (by simp)]
  exact fin i σ1 (by omega) h2 k k2
 | succ q ih =>
  intro i σ1 h1 h2 k k2 ac
  rw [l_law16_BallotState_rrrrrrrrrrrrlrdE]
  unfold l_law16_BallotState_rrrrrrrrrrrrlrdB
  refine vDrop_here ?_
  rw [vLenS_l, vBinI_lss]
  by_cases hi : i < l.length
  · have hl := few.1
    rw [dlt hi, vIf_b, if_pos rfl, vIdx_l hi, vLdN_l, vPart_ok (by rw [spD_len]; omega), spD_at l i l[i] (List.getElem?_eq_getElem hi), stepV]
    rcases ac.is with ⟨h0, _, _⟩ | ⟨ai, rfl, ha, _⟩
    · omega
    rw [vIdx_acc hi, Nat.mul_one]
    obtain ⟨τ3, hv⟩ := hto.2 i (vs[i]'(by rw [hto.1]; exact hi)) (List.getElem?_eq_getElem (by rw [hto.1]; exact hi))
    have hvi : vs[i]? = some (.list τ3 (mgD (outsAt a l i)) (outsAt a l i).length) := by rw [← hv]; exact List.getElem?_eq_getElem _
    refine vLd_g ha hvi ?_
    show x.call c_law16_BallotState_1 ([] ++ [.ptr b 0, .agg (l[i].vv (.sub τ (i * 15 + 12)) (.sub τ (i * 15 + 14)))] ++ []) σ1 _
    rw [List.nil_append, List.append_nil]
    refine step_s hM hM2 hx k (by have := few.2 l[i] (List.getElem_mem hi); omega) fun σ2 c2 k3 τ2 => ?_
    have ai1 := k.grob ha
    have ha2 : σ2 ai = some (.gro vs 35 l.length) := by rw [c2 ai ai1.1 ai1.2]; exact ha
    refine vLd_g ha2 hvi ?_
    rw [vSame_l]
    have eo : outsAt a l i = ((a.st l i).step l[i]).2 := by unfold outsAt; rw [List.getElem?_eq_getElem hi]
    rw [eo]
    have hsl := step_len (a.st l i) l[i]
    have hx2 : Deep PP tbS gT M (n + 8 + 2) x := hx
    refine Msgs_s hx2 (by omega) hM ?_
    simp only [vNot_b, Bool.not_true, vIf_b, Bool.false_eq_true, if_false, vBinI_add]
    rw [next_i (by omega)]
    exact ih (i + 1) σ2 (by omega) (by omega) (by rw [Ba.st_succ a l i hi]; exact k3) (k2.other2 tw c2) (ac.step k c2)
  · rw [dnlt hi, vIf_b, if_neg (by simp)]
    exact fin i σ1 (by omega) h2 k k2
theorem law_two {l : List Sp} {τ τs : Tag} (hM : 100000 < M) (hM2 : M ≤ 125000) (hx : Deep PP tbS gT M (n + 10) x) (few : Few l) (tw : Two b t m b2 t2 m2) (hp : p ≠ b2 ∧ p ≠ m2) (hk : ∀ σ', K (.bool true) σ') :
 ∀ (q i : Nat) (σ1 : Hp) (t20 : V) (vs : List V), l.length ≤ i + q → i ≤ l.length → Bal σ1 b t m 61 a → Bal σ1 b2 t2 m2 61 (a.st l i) → σ1 p = some (.row (sRow a.s (.list τs (voD a.l) a.l.length)) 41) → AccF none0 σ1 35 1 t20 vs i → Told a l vs i →
  l_law16_BallotState_rrrrrrrrrrlrd x (q + 1) (.list τ (spD l) l.length) (.ptr b 0) (.func c_law16_BallotState_1 [] []) (.ptr p 0) (.ptr b2 0) t20 (.int .i64 (.ofNat i)) σ1 K := by
 have hm : x.most = M := hx.most
 have fin : ∀ i σ1 (t20 : V) (vs : List V), l.length ≤ i → i ≤ l.length → Bal σ1 b t m 61 a → Bal σ1 b2 t2 m2 61 (a.st l i) → σ1 p = some (.row (sRow a.s (.list τs (voD a.l) a.l.length)) 41) → AccF none0 σ1 35 1 t20 vs i → Told a l vs i →
  (vLdN 15 (.ptr p 0) σ1 fun v8 σ => x.call c_ballot_Ballot_State [.ptr b 0] σ fun v9 σ => vLdN 15 (.ptr p 0) σ fun v10 _ => vSame v10 v8 (x.call c_law16_back [v9] σ fun v11 σ => vLdN 15 (.ptr p 0) σ fun v12 _ => vSame v12 v8 (x.call c_law16_back [v8] σ fun v13 σ => x.call c_ref16_Same [v11, v13] σ fun v14 σ => vUn .not v14 fun v15 => vIf v15 (vRet (.bool false) σ K) (l_law16_BallotState_rrrrrrrrrrrrlrd x x.most (.list τ (spD l) l.length) (.ptr b 0) (.func c_law16_BallotState_1 [] []) (.ptr b2 0) t20 (.int .i64 (.ofNat 0)) σ K)))) := by
  intro i σ1 t20 vs h1 h2 k k2 e ac hto
  obtain rfl : i = l.length := by omega
  have hlen := len_of k.inv.srt k.inv.ok.1.2 fun v hv => (k.inv.vs v hv).1
  have hx2 : Deep PP tbS gT M (n + 8 + 2) x := hx
  have ld : ∀ {K : KV}, vLdN 15 (.ptr p 0) σ1 K = K (.agg (sRow a.s (.list τs (voD a.l) a.l.length))) σ1 := fun {K} => by
   rw [vLdN_p e, vPart_ok (by simp [sRow])]; rfl
  have same : ∀ {q : Prop}, vSame (.agg (sRow a.s (.list τs (voD a.l) a.l.length))) (.agg (sRow a.s (.list τs (voD a.l) a.l.length))) q = q := fun {q} => vSame_ok rfl
  rw [ld]
  refine State_s hx2 k fun τ1 => ?_
  rw [ld, same]
  refine back_s hM hx2 (by omega) fun τ2 => ?_
  rw [ld, same]
  refine back_s hM hx2 (by omega) fun τ3 => ?_
  refine Same16_s hM hx2 (by omega) ?_
  simp only [vNot_b, Bool.not_true, vIf_b, Bool.false_eq_true, if_false]
  obtain ⟨z, hz⟩ := Nat.exists_eq_succ_of_ne_zero (show x.most ≠ 0 by omega)
  rw [hz]
  have := few.1
  exact law_three hM hM2 hx few tw hk hto z 0 σ1 (by omega) (by omega) k k2 ac
 intro q
 induction q with
 | zero =>
  intro i σ1 t20 vs h1 h2 k k2 e ac hto
  rw [l_law16_BallotState_rrrrrrrrrrlrdE]
  unfold l_law16_BallotState_rrrrrrrrrrlrdB
  refine vDrop_here ?_
  rw [vLenS_l, vBinI_lss, dnlt (by omega), vIf_b, if_neg (by simp)]
  exact fin i σ1 t20 vs (by omega) h2 k k2 e ac hto
 | succ q ih =>
  intro i σ1 t20 vs h1 h2 k k2 e ac hto
  rw [l_law16_BallotState_rrrrrrrrrrlrdE]
  unfold l_law16_BallotState_rrrrrrrrrrlrdB
  refine vDrop_here ?_
  rw [vLenS_l, vBinI_lss]
  by_cases hi : i < l.length
  · have hl := few.1
    rw [dlt hi, vIf_b, if_pos rfl, vIdx_l hi, vLdN_l, vPart_ok (by rw [spD_len]; omega), spD_at l i l[i] (List.getElem?_eq_getElem hi), stepV]
    show x.call c_law16_BallotState_1 ([] ++ [.ptr b2 0, .agg (l[i].vv (.sub τ (i * 15 + 12)) (.sub τ (i * 15 + 14)))] ++ []) σ1 _
    rw [List.nil_append, List.append_nil]
    refine step_s hM hM2 hx k2 (by have := few.2 l[i] (List.getElem_mem hi); omega) fun σ2 c2 k3 τ2 => ?_
    refine vBuildS_list fun j hj => ?_
    have le : Hle σ2 (upd σ2 j (.row [.list τ2 (mgD ((a.st l i).step l[i]).2) ((a.st l i).step l[i]).2.length] 35)) := .upd_new hj
    have rj : upd σ2 j (.row [.list τ2 (mgD ((a.st l i).step l[i]).2) ((a.st l i).step l[i]).2.length] 35) j = _ := upd_same
    generalize upd σ2 j (.row [.list τ2 (mgD ((a.st l i).step l[i]).2) ((a.st l i).step l[i]).2.length] 35) = σ3 at le rj
    have ac2 := ac.step k2 c2
    have ac3 : AccF none0 σ3 35 1 t20 vs i := ac2.keep fun z hz => by rw [le _ _ hz]; exact hz.symm
    refine ac3.own rj rfl (fun _ _ => rfl) (by omega) fun t21 σ4 ac4 f4 => ?_
    rw [vBinI_add, next_i (by omega)]
    refine ih (i + 1) σ4 t21 _ (by omega) (by omega) (((k.other tw c2).le le).keep f4) (by rw [Ba.st_succ a l i hi]; exact (k3.le le).keep f4) (f4 _ _ (le _ _ (by rw [c2 p hp.1 hp.2]; exact e)) rfl) ac4 (hto.app hi τ2)
  · rw [dnlt hi, vIf_b, if_neg (by simp)]
    exact fin i σ1 t20 vs (by omega) h2 k k2 e ac hto
theorem BallotState_s {h z q me : Int} {l l2 : List Sp} {τ1 τ2 : Tag} (hM : 100000 < M) (hM2 : M ≤ 125000) (hx : Deep PP tbS gT M (n + 10) x) (sm : Small l) (sm2 : Small l2) (hk : ∀ σ', K (.bool true) σ') : fnV PP tbS c_law16_BallotState x [.int .i64 h, .int .i64 z, .int .i64 q, .int .i64 me, .list τ1 (spD l) l.length, .list τ2 (spD l2) l2.length] σ K := by
 rw [f_law16_BallotState]
 unfold r_law16_BallotState
 have hm : x.most = M := hx.most
 have works : ∀ {σ : Hp} {K : KV}, K (.bool true) σ → x.call c_law16_works [] σ K := fun h => hx.callOv (f := c_law16_works) (g := gWorks) rfl ⟨rfl, h⟩
 refine works ?_
 simp only [vNot_b, Bool.not_true, shutP_eq, vGuard_t]
 have many : ∀ {σ : Hp}, x.call c_law16_works [] σ fun v10 σ => vRet v10 σ K := works (vRet_here (hk _))
 refine long_s sm hM hx.less fun b1 f1 => ?_
 cases b1 with
 | true =>
  simp only [vPick_b, Bool.false_eq_true, if_false, vGuard_ft, vIf_b, if_true]
  exact many
 | false =>
  simp only [vPick_b, Bool.false_eq_true, if_false, vGuard_t]
  refine long_s sm2 hM hx.less fun b2 f2 => ?_
  cases b2 with
  | true =>
   simp only [vIf_b, if_true]
   exact many
  | false =>
   simp only [Bool.false_eq_true, if_false, vIf_b]
   have few := f1 rfl
   have few2 := f2 rfl
   have hx2 : Deep PP tbS gT M (n + 8 + 2) x := hx
   refine bnew_s o_New o_TNew hx2 (fun _ => ?_) (fun ok m t b hm0 htm ht hbt hbm hb => ?_)
   · simp only [vExt_0, vExt_1, vBinI_neq, vIf_b]
     rw [if_pos (by decide)]
     exact vRet_here (hk _)
   · simp only [vExt_0, vExt_1, vBinI_neq, vIf_b]
     rw [if_neg (by decide)]
     have k0 : Bal (upd (upd (upd σ m (.map [])) t (.row [.int .i64 z, .mapv m] 78)) b (.row (bRow (.start h z q me) t) 61)) b t m 61 ⟨.start h z q me, []⟩ :=
      ⟨upd_same, ⟨[], ⟨by rw [upd_other (Ne.symm hbt)]; exact upd_same, by rw [upd_other (Ne.symm hbm), upd_other (Ne.symm htm)]; exact upd_same⟩, .refl _⟩, InvB.start ok, hbt, hbm, htm⟩
     obtain ⟨y, hy⟩ := Nat.exists_eq_succ_of_ne_zero (show x.most ≠ 0 by omega)
     have l1 := few.1
     have l2' := few2.1
     rw [hy]
     refine law_one hM hM2 hx few ?_ y 0 _ (by omega) (by omega) k0
     intro σ1 k1
     have hx3 : Deep PP tbS gT M (n + 6 + 4) x := hx
     refine State_s hx2 k1 fun τs => ?_
     refine vAlloc_to (l := sRow zBs .nil) rfl fun p hp => ?_
     refine vSt_all upd_same (by rfl) (by rfl) (by rfl) ?_
     rw [upd_upd]
     refine vLdN_all upd_same (by rfl) ?_
     have le1 : Hle σ1 (upd σ1 p (.row (sRow (Ba.st ⟨.start h z q me, []⟩ l l.length).s (.list τs (voD (Ba.st ⟨.start h z q me, []⟩ l l.length).l) (Ba.st ⟨.start h z q me, []⟩ l l.length).l.length)) 41)) := .upd_new hp
     have rp : upd σ1 p (.row (sRow (Ba.st ⟨.start h z q me, []⟩ l l.length).s (.list τs (voD (Ba.st ⟨.start h z q me, []⟩ l l.length).l) (Ba.st ⟨.start h z q me, []⟩ l l.length).l.length)) 41) p = _ := upd_same
     generalize upd σ1 p (.row (sRow (Ba.st ⟨.start h z q me, []⟩ l l.length).s (.list τs (voD (Ba.st ⟨.start h z q me, []⟩ l l.length).l) (Ba.st ⟨.start h z q me, []⟩ l l.length).l.length)) 41) = σ2 at le1 rp
     have k2 := k1.le le1
     refine Load_s hM hx3 k1.inv fun b2 t2 m2 σ3 f3 hb2 ht2 hm2 k3 => ?_
     simp only [vExt_0, vExt_1, vBinI_neq, vIf_b]
     rw [if_neg (by decide)]
     have keep : ∀ j o, σ2 j = some o → σ3 j = some o := fun j o e => by rw [f3 j (by rw [e]; simp)]; exact e
     obtain ⟨l0, q1, _⟩ := k2.tal
     have ne : ∀ {i j : Nat} {o : Ob}, σ2 i = some o → σ2 j = none → i ≠ j := fun h1 h2 e => by rw [e, h2] at h1; cases h1
     have tw : Two b t m b2 t2 m2 := ⟨ne k2.row hb2, ne k2.row hm2, ne q1.row hb2, ne q1.row hm2, ne q1.map hb2, ne q1.map hm2, Ne.symm (ne k2.row ht2), Ne.symm (ne q1.map ht2)⟩
     rw [hy]
     refine law_two hM hM2 hx few2 tw ⟨ne rp hb2, ne rp hm2⟩ hk y 0 σ3 .nil [] (by omega) (by omega) (k2.le keep) k3 (keep _ _ rp) .nil ⟨rfl, fun j v e => by simp at e⟩
end
end Go.Am

namespace Go.Am
open Go.Proofs Go.RowKit
theorem globals0 : Try.prog.globals.size = 0 := by kernel_rfl
theorem mixed : Try.prog.follows .mixedOrders = true := by kernel_rfl
theorem nameless : Try.prog.funcs.toList.all (fun f => f.name != "runtime.NumGoroutine") = true := by kernel_rfl
theorem names : ∀ (f : FuncId) (fn : Func), Try.prog.funcs[f]? = some fn → fn.name ≠ "runtime.NumGoroutine" := by
 intro f fn h
 have hm : fn ∈ Try.prog.funcs.toList := List.mem_of_getElem? (i := f) (by rw [Array.getElem?_toList]; exact h)
 have := List.all_eq_true.1 nameless fn hm
 simpa using this
theorem called {f : FuncId} (h : (env Try.prog ovT drK 100000 60).call f [] (St.none Try.prog.globals.size) (fun v _ => isTrue v) = true) (w : World) :
 Calls Try.prog f #[] w (fun e w' => e = .returned (.bool true) ∧ Below w.heap.size w w') :=
 calls_of_true (by rw [globals0]; exact Nat.zero_le _) ovT_ok names mixed h

noncomputable def ovTrue (args : List Value) (σ : St) (K : VK) : Bool := match args with | [] => K (.bool true) σ | _ => false
theorem ovTrue_ok {w0 : World} {f : FuncId} {fn : Func} (hf : ∀ args w, (callFunc f args).run Try.prog w = .ok (.enter f args) w)
 (h : ∀ w : World, Calls Try.prog f #[] w (fun e w' => e = .returned (.bool true) ∧ Below w.heap.size w w')) :
 CallOk Try.prog w0 (fun f' args σ K => match Nat.beq f' f with | true => ovTrue args σ K | false => false) := by
 intro f' args σ K ρ w args' hk hr ha
 dsimp only at hk
 split at hk
 · rename_i hf'
   obtain rfl : f' = f := by simpa using hf'
   refine ⟨hf ⟨args'⟩, ?_⟩
   unfold ovTrue at hk
   split at hk
   · cases ha.inv_nil
     refine callsIn_wide.2 ((h w).mono ?_)
     rintro e w' ⟨rfl, hb⟩
     obtain ⟨h1, h2⟩ := hr.below hb
     exact ⟨_, rfl, ρ, _, σ, hk, .flat rfl, h1, h2⟩
   · cases hk
 · cases hk
end Go.Am

namespace Go.Am
open Go.Proofs Go.RowKit
set_option maxRecDepth 1000000 in
theorem run_works : (envL Try.prog ovT 100000 60).call 4 [] (St.none Try.prog.globals.size) (fun v _ => isTrue v) = true := by kernel_rfl
theorem works_called (w : World) : Calls Try.prog 4 #[] w (fun e w' => e = .returned (.bool true) ∧ Below w.heap.size w w') :=
 calls_of_runL (Rel.none (by rw [globals0]; exact Nat.zero_le _)) ovT_ok names mixed run_works
end Go.Am

set_option linter.unusedVariables false
namespace Go.Am
open Go.RowKit Go.MapKept Go.Proofs
def itsMsg : List It := [.kind, .int, .int, .int, .int, .int, .int, .int, .int, .text, .nums]
def itsStep : List It := [.kind, .int] ++ itsMsg ++ [.text, .list [.text]]
theorem its22 : itsT PP 8 22 = some [.list itsStep] := by kernel_rfl
section
variable {σ : St} {C : Nat → Prop}
theorem rd_list1 {it : It} {v : Value} {es : List (List D)} (h : Rd σ C (.list [it]) v (.l es)) {α : Type} (f : α → Dt) (g : α → Prop) (hf : ∀ (v : Value) (d : D), Rd σ C it v d → ∃ a, DtR σ C (f a) v ∧ g a) : ∃ l : List α, DtR σ C (.list (l.map f) l.length) v ∧ (∀ a ∈ l, g a) ∧ l.length ≤ 140737488355328 := by
 cases h with
 | empty => exact ⟨[], .nil, (fun a h => by cases h), Nat.zero_le _⟩
 | emptyR => exact ⟨[], .emp, (fun a h => by cases h), Nat.zero_le _⟩
 | @row _ b o n c sp vs e ck es hsp hb hC ho hw hn hl hd hN hnc hr =>
  have each : ∀ k : Nat, k < n → ∃ a : α, (∀ v, vs[o + k]? = some v → DtR σ C (f a) v) ∧ g a := by
   intro k hk
   have hk1 : k < es.length := by omega
   have hlen := hd es[k] (List.getElem_mem hk1)
   simp only [List.length_cons, List.length_nil] at hlen hl
   have hv : vs[o + k]? = some (vs[o + k]'(by omega)) := List.getElem?_eq_getElem _
   obtain ⟨d, hd0⟩ : ∃ d, (es[k])[0]? = some d := ⟨(es[k])[0]'(by omega), List.getElem?_eq_getElem (by omega)⟩
   obtain ⟨a, h1, h2⟩ := hf _ d (hr k es[k] 0 it (vs[o + k]'(by omega)) d (List.getElem?_eq_getElem hk1) rfl (by simp) hd0)
   exact ⟨a, fun v e => by rw [hv] at e; injection e with e; subst e; exact h1, h2⟩
  rcases Nat.eq_zero_or_pos n with h0 | h0
  · subst h0
    exact ⟨[], .row hsp hb hC ho (by simp; simp at hl; omega) hnc (fun j d v e => by simp at e), (fun a h => by cases h), Nat.zero_le _⟩
  · obtain ⟨a0, _⟩ := each 0 h0
    let F : Nat → α := fun k => if h : k < n then (each k h).choose else a0
    have hF : ∀ k, k < n → (∀ v, vs[o + k]? = some v → DtR σ C (f (F k)) v) ∧ g (F k) := fun k h => by
     show (∀ v, vs[o + k]? = some v → DtR σ C (f (if h : k < n then (each k h).choose else a0)) v) ∧ g (if h : k < n then (each k h).choose else a0)
     rw [dif_pos h]; exact (each k h).choose_spec
    refine ⟨(List.range n).map F, ?_, fun a ha => ?_, by simpa using hN⟩
    · have : DtR σ C (.list (((List.range n).map F).map f) n) (.slice (some ⟨b, o, sp⟩) n c) := by
       refine .row hsp hb hC ho (by simp at hl ⊢; omega) hnc fun j d v e1 e2 => ?_
       rw [List.map_map, List.getElem?_map] at e1
       cases hj : (List.range n)[j]? with
       | none => rw [hj] at e1; cases e1
       | some q =>
        rw [hj] at e1
        injection e1 with e1
        have hjn : j < n := by have := (List.getElem?_eq_some_iff.1 hj).1; simpa using this
        rw [List.getElem?_range hjn] at hj
        injection hj with hj
        subst hj e1
        exact (hF j hjn).1 v e2
      simpa using this
    · obtain ⟨k, hk, rfl⟩ := List.mem_map.1 ha
      exact (hF k (by simpa using hk)).2
theorem rd_strs {v : Value} {d : D} (h : Rd σ C (.list [.text]) v d) : ∃ l : List (List UInt8), DtR σ C (.list (strsD l) l.length) v ∧ (∀ u ∈ l, u.length ≤ 140737488355328) ∧ l.length ≤ 140737488355328 := by
 have : ∃ es, d = .l es := by cases h <;> exact ⟨_, rfl⟩
 obtain ⟨es, rfl⟩ := this
 exact rd_list1 h Dt.str (fun u => u.length ≤ 140737488355328) fun v d q => by cases q with | text h => exact ⟨_, .str, h⟩
theorem rd_nums {v : Value} {d : D} (h : Rd σ C .nums v d) : ∃ (l : List Dt) (n : Nat), DtR σ C (.list l n) v := by
 cases h with
 | nums h =>
  obtain ⟨l, h1, _⟩ := rd_list1 h (fun z : Nat => Dt.int .u64 (.ofNat z)) (fun _ => True) fun v d q => by cases q with | @num z h => exact ⟨z, .int, trivial⟩
  exact ⟨_, _, h1⟩
theorem rd_int {v : Value} {d : D} (h : Rd σ C .int v d) : ∃ z : Int, v = .int .i64 z := by cases h; exact ⟨_, rfl⟩
theorem rd_kind {v : Value} {d : D} (h : Rd σ C .kind v d) : ∃ z : Nat, v = .int .u8 (.ofNat z) := by cases h; exact ⟨_, rfl⟩
theorem rd_text {v : Value} {d : D} (h : Rd σ C .text v d) : ∃ l : List UInt8, v = .string ⟨⟨l⟩⟩ ∧ l.length ≤ 140737488355328 := by cases h with | text h => exact ⟨_, rfl, h⟩
theorem rd_steps {v : Value} {d : D} (h : Rd σ C (.list itsStep) v d) : ∃ l : List Sp, DtR σ C (.list (spD l) l.length) v ∧ Small l := by
 cases h with
 | empty => exact ⟨[], .nil, ⟨by simp, fun s h => by cases h⟩⟩
 | emptyR => exact ⟨[], .emp, ⟨by simp, fun s h => by cases h⟩⟩
 | @row _ b o n c sp vs e ck es hsp hb hC ho hw hn hl hd hN hnc hr =>
  have hits : itsStep.length = 15 := rfl
  rw [hits] at hl
  have each : ∀ k : Nat, k < n → ∃ s : Sp, (∀ (j : Nat) (d : Dt) (v : Value), s.dt[j]? = some d → vs[o + (k * 15 + j)]? = some v → DtR σ C d v) ∧ s.g.tx.length ≤ 140737488355328 ∧ s.want.length ≤ 140737488355328 ∧ s.may.length ≤ 140737488355328 ∧ ∀ u ∈ s.may, u.length ≤ 140737488355328 := by
   intro k hk
   have hk1 : k < es.length := by omega
   have hlen := hd es[k] (List.getElem_mem hk1)
   rw [hits] at hlen
   have cell : ∀ (j : Nat) (it : It), itsStep[j]? = some it → ∃ v d, vs[o + (k * 15 + j)]? = some v ∧ Rd σ C it v d := by
    intro j it hj
    have hj1 : j < 15 := by have := (List.getElem?_eq_some_iff.1 hj).1; rw [hits] at this; exact this
    have hv : vs[o + (k * 15 + j)]? = some (vs[o + (k * 15 + j)]'(by omega)) := List.getElem?_eq_getElem _
    refine ⟨_, es[k][j]'(by omega), hv, hr k es[k] j it _ _ (List.getElem?_eq_getElem hk1) hj (by rw [hits, Nat.add_assoc]; exact hv) (List.getElem?_eq_getElem _)⟩
   obtain ⟨v0, d0, c0, r0⟩ := cell 0 .kind rfl
   obtain ⟨v1, d1, c1, r1⟩ := cell 1 .int rfl
   obtain ⟨v2, d2, c2, r2⟩ := cell 2 .kind rfl
   obtain ⟨v3, d3, c3, r3⟩ := cell 3 .int rfl
   obtain ⟨v4, d4, c4, r4⟩ := cell 4 .int rfl
   obtain ⟨v5, d5, c5, r5⟩ := cell 5 .int rfl
   obtain ⟨v6, d6, c6, r6⟩ := cell 6 .int rfl
   obtain ⟨v7, d7, c7, r7⟩ := cell 7 .int rfl
   obtain ⟨v8, d8, c8, r8⟩ := cell 8 .int rfl
   obtain ⟨v9, d9, c9, r9⟩ := cell 9 .int rfl
   obtain ⟨v10, d10, c10, r10⟩ := cell 10 .int rfl
   obtain ⟨v11, d11, c11, r11⟩ := cell 11 .text rfl
   obtain ⟨v12, d12, c12, r12⟩ := cell 12 .nums rfl
   obtain ⟨v13, d13, c13, r13⟩ := cell 13 .text rfl
   obtain ⟨v14, d14, c14, r14⟩ := cell 14 (.list [.text]) rfl
   obtain ⟨z0, rfl⟩ := rd_kind r0
   obtain ⟨z1, rfl⟩ := rd_int r1
   obtain ⟨z2, rfl⟩ := rd_kind r2
   obtain ⟨z3, rfl⟩ := rd_int r3
   obtain ⟨z4, rfl⟩ := rd_int r4
   obtain ⟨z5, rfl⟩ := rd_int r5
   obtain ⟨z6, rfl⟩ := rd_int r6
   obtain ⟨z7, rfl⟩ := rd_int r7
   obtain ⟨z8, rfl⟩ := rd_int r8
   obtain ⟨z9, rfl⟩ := rd_int r9
   obtain ⟨z10, rfl⟩ := rd_int r10
   obtain ⟨z11, rfl, b11⟩ := rd_text r11
   obtain ⟨ns, nn, b12⟩ := rd_nums r12
   obtain ⟨z13, rfl, b13⟩ := rd_text r13
   obtain ⟨l14, b14, b15, b16⟩ := rd_strs r14
   refine ⟨⟨z0, z1, ⟨z2, z3, z4, z5, z6, z7, z8, z9, z10, z11, ns, nn⟩, z13, l14⟩, fun j d v e1 e2 => ?_, b11, b13, b16, b15⟩
   have dif : ∀ {w : Value}, vs[o + (k * 15 + j)]? = some w → w = v := fun h => by rw [h] at e2; injection e2
   match j with
   | 0 => injection e1 with e1; subst e1; rw [← dif c0]; exact .int
   | 1 => injection e1 with e1; subst e1; rw [← dif c1]; exact .int
   | 2 => injection e1 with e1; subst e1; rw [← dif c2]; exact .int
   | 3 => injection e1 with e1; subst e1; rw [← dif c3]; exact .int
   | 4 => injection e1 with e1; subst e1; rw [← dif c4]; exact .int
   | 5 => injection e1 with e1; subst e1; rw [← dif c5]; exact .int
   | 6 => injection e1 with e1; subst e1; rw [← dif c6]; exact .int
   | 7 => injection e1 with e1; subst e1; rw [← dif c7]; exact .int
   | 8 => injection e1 with e1; subst e1; rw [← dif c8]; exact .int
   | 9 => injection e1 with e1; subst e1; rw [← dif c9]; exact .int
   | 10 => injection e1 with e1; subst e1; rw [← dif c10]; exact .int
   | 11 => injection e1 with e1; subst e1; rw [← dif c11]; exact .str
   | 12 => injection e1 with e1; subst e1; rw [← dif c12]; exact b12
   | 13 => injection e1 with e1; subst e1; rw [← dif c13]; exact .str
   | 14 => injection e1 with e1; subst e1; rw [← dif c14]; exact b14
   | j + 15 => simp [Sp.dt, Mi.dt] at e1
  rcases Nat.eq_zero_or_pos n with h0 | h0
  · subst h0
    exact ⟨[], .row hsp hb hC ho (by simp [spD]; omega) hnc (fun j d v e => by simp [spD] at e), ⟨by simp, fun s h => by cases h⟩⟩
  · obtain ⟨a0, _⟩ := each 0 h0
    let F : Nat → Sp := fun k => if h : k < n then (each k h).choose else a0
    have hF : ∀ k, k < n → (∀ (j : Nat) (d : Dt) (v : Value), (F k).dt[j]? = some d → vs[o + (k * 15 + j)]? = some v → DtR σ C d v) ∧ (F k).g.tx.length ≤ 140737488355328 ∧ (F k).want.length ≤ 140737488355328 ∧ (F k).may.length ≤ 140737488355328 ∧ ∀ u ∈ (F k).may, u.length ≤ 140737488355328 := fun k h => by
     have e : F k = (each k h).choose := dif_pos h
     rw [e]; exact (each k h).choose_spec
    have hlF : ((List.range n).map F).length = n := by simp
    refine ⟨(List.range n).map F, ?_, ⟨by rw [hlF]; exact hN, fun s hs => ?_⟩⟩
    · have : DtR σ C (.list (spD ((List.range n).map F)) n) (.slice (some ⟨b, o, sp⟩) n c) := by
       refine .row hsp hb hC ho (by rw [spD_len, hlF]; omega) hnc fun j d v e1 e2 => ?_
       have hj : j < n * 15 := by have := (List.getElem?_eq_some_iff.1 e1).1; rw [spD_len, hlF] at this; exact this
       have hjn : j / 15 < n := Nat.div_lt_of_lt_mul (by omega)
       have ej : j = j / 15 * 15 + j % 15 := by omega
       have hg : ((List.range n).map F)[j / 15]? = some (F (j / 15)) := by rw [List.getElem?_map, List.getElem?_range hjn]; rfl
       rw [ej, spD_get _ _ _ _ hg (Nat.mod_lt _ (by omega))] at e1
       exact (hF (j / 15) hjn).1 (j % 15) d v e1 (by rw [← ej]; exact e2)
      rw [hlF]; exact this
    · obtain ⟨k, hk, rfl⟩ := List.mem_map.1 hs
      exact (hF k (by simpa using hk)).2
end
theorem ovWk_ok {w0 : World} : OvOk Try.prog w0 ovT2 := by
 intro f g hg
 unfold ovT2 at hg
 cases h1 : Nat.beq f 4 with
 | true =>
  rw [h1] at hg
  obtain rfl : f = 4 := by simpa using h1
  have e : g = ovTrue := by injection hg with hg; rw [← hg]; rfl
  rw [e]
  exact ovTrue_ok (fn := Try.f4) (enters_of Try.func4 (by kernel_rfl) rfl) works_called
 | false =>
  rw [h1] at hg
  exact ovT_ok f g hg
def c0 (ws : List Value) (n : Nat) : Cx := ⟨fun _ => none, fun _ _ => none, fun k => ws[k]?, n⟩
theorem start_vs (P : Program) (σ : St) (ws : List Value) : VS P (fun _ => False) σ (c0 ws σ.n) (fun _ => none) σ := by
 refine ⟨.refl σ, fun b h => h.elim, (fun i o e _ => by cases e), (fun i vs t n e => by cases e), fun i j b l _ => ?_, (fun i n w e => by cases e), ⟨0, fun i _ => ⟨rfl, rfl, fun n => rfl⟩⟩, ⟨ws.length, fun k hk => List.getElem?_eq_none hk⟩, (fun i vs t n m b e => by cases e), (fun i vs t n b w e o e1 => by cases e1)⟩
 rcases l with ⟨o, e, _⟩ | ⟨vs, t, n, m, e, _⟩ <;> cases e
theorem start_liv {ws : List Value} {n b : Nat} : ¬ Liv (fun _ => False) (c0 ws n) (fun _ => none) b := by
 rintro (h | ⟨i, ⟨o, e, _⟩ | ⟨vs, t, n, m, e, _⟩⟩)
 · exact h
 · cases e
 · cases e
theorem size64 : sizeT PP 64 = some 5 := by kernel_rfl
theorem Lay.none {P : Program} {w : World} (hsz : P.globals.size ≤ w.heap.size) : Lay P w (Rn.globals P.globals.size) (St.none P.globals.size) := by
 refine ⟨Rel.none hsz, fun i o h => ?_⟩
 have : (St.none P.globals.size).obj i = Option.none := rfl
 rw [this] at h
 cases h
theorem lay_steps {H : Type} {enc : TypeId × Value → H} {W : World} {v : Value} {d : DataW H} {p : List MemPlace} (hc : v.cells = #[v]) (h : DataW.Trod enc PP W 0 (fun _ => true) true 22 v d p) (hz : ∀ b off, MemPlace.cell b off ∈ p → W.frozen? ⟨b, off, none⟩ = false) (hw : ∀ x ∈ d.weights PP 22, x ≤ reachBytes)
 {ρ : Rn} {σ : St} (hl : Lay PP W ρ σ) : ∃ ρ' σ' u l, Ext ρ ρ' ∧ Lay PP W ρ' σ' ∧ Ext' σ σ' ∧ VR ρ' u v ∧ DtR σ' (fun _ => False) (.list (spD l) l.length) u ∧ Small l := by
 obtain ⟨F, hF⟩ := h
 obtain ⟨ρ', σ', vs, ds, e1, l1, x1, hvs, hr⟩ := lay (P := PP) (w := W) (fun _ => true) (fun _ => rfl) F 8 22 v.cells.toList d p hF hz hw [.list itsStep] its22 ρ σ hl
 rw [hc] at hvs
 have hlen : vs.length = 1 := hr.len
 match vs, hlen, hvs, hr with
 | [u], _, hvs, hr =>
  have hd : ds.length = 1 := hr.dlen
  match ds, hd, hr with
  | [d1], _, hr =>
   obtain ⟨l, h1, h2⟩ := rd_steps (hr.rd 0 _ _ _ rfl rfl rfl)
   exact ⟨ρ', σ', u, l, e1, l1, x1, hvs.2 0 u v rfl rfl, h1, h2⟩
def isTrueV : V → Prop
 | .bool b => b = true
 | _ => False
theorem called_state {H : Type} {enc : TypeId × Value → H} {W : World} {h z q me : Int} {v1 v2 : Value} {d1 d2 : DataW H} {p1 p2 : List MemPlace} (hc1 : v1.cells = #[v1]) (hc2 : v2.cells = #[v2]) (h1 : DataW.Trod enc PP W 0 (fun _ => true) true 22 v1 d1 p1) (h2 : DataW.Trod enc PP W 0 (fun _ => true) true 22 v2 d2 p2)
 (hz1 : ∀ b off, MemPlace.cell b off ∈ p1 → W.frozen? ⟨b, off, none⟩ = false) (hz2 : ∀ b off, MemPlace.cell b off ∈ p2 → W.frozen? ⟨b, off, none⟩ = false) (hw1 : ∀ x ∈ d1.weights PP 22, x ≤ reachBytes) (hw2 : ∀ x ∈ d2.weights PP 22, x ≤ reachBytes) :
 Calls PP c_law16_BallotState #[.int .i64 h, .int .i64 z, .int .i64 q, .int .i64 me, v1, v2] W (fun e w' => e = .returned (.bool true) ∧ Below W.heap.size W w') := by
 have hsz : PP.globals.size ≤ W.heap.size := by rw [show PP.globals.size = 0 from globals0]; exact Nat.zero_le _
 obtain ⟨ρ1, σ1, u1, l1, _, hl1, _, hu1, hr1, sm1⟩ := lay_steps hc1 h1 hz1 hw1 (Lay.none hsz)
 obtain ⟨ρ2, σ2, u2, l2, e2, hl2, x2, hu2, hr2, sm2⟩ := lay_steps hc2 h2 hz2 hw2 hl1
 have hr1 := hr1.mono x2.none
 obtain ⟨M, hM1, hM2⟩ : ∃ M : Nat, 100000 < M ∧ M ≤ 125000 := ⟨120000, by omega, by omega⟩
 obtain ⟨m, -⟩ : ∃ m : Nat, m = 0 := ⟨0, rfl⟩
 have hv : (venv PP tbS gT M (m + 11)).C c_law16_BallotState [.int .i64 h, .int .i64 z, .int .i64 q, .int .i64 me, .list (.root 0) (spD l1) l1.length, .list (.root 1) (spD l2) l2.length] (fun _ => none) (fun v _ => isTrueV v) := by
  rw [venv_call rfl]
  exact BallotState_s hM1 hM2 (venv_deep (m + 10)) sm1 sm2 fun _ => rfl
 have fr : Fr' (fun _ => False) σ2 σ2 (Liv (fun _ => False) (c0 [u1, u2] σ2.n) (fun _ => none)) := ⟨Nat.le_refl _, fun _ _ _ => rfl, fun b hb => (start_liv hb).elim⟩
 have hk := (venv_sim (P := PP) (B := fun _ => False) (σb := σ2) (tb := tbS) (gT_sim size64) M (m + 11)).eC c_law16_BallotState (start_vs PP σ2 [u1, u2])
  (.cons .int (.cons .int (.cons .int (.cons .int (.cons (.list (.root rfl) (hr1.mono fr)) (.cons (.list (.root rfl) (hr2.mono fr)) .nil)))))) (K := fun v _ => isTrue v) (fun c' h' σ' v w _ _ _ r hb => by
   cases r with
   | bool => exact hb
   | _ => cases hb) hv
 obtain ⟨_, hcall⟩ := (envX_sound (P := PP) (w0 := W) (tb := tbS) (most := M) (ovWk_ok (w0 := W)) names mixed (m + 11)).1 c_law16_BallotState [.int .i64 h, .int .i64 z, .int .i64 q, .int .i64 me, u1, u2] σ2 (fun v _ => isTrue v) ρ2 W [.int .i64 h, .int .i64 z, .int .i64 q, .int .i64 me, v1, v2] hk hl2.1
  (.cons (.flat rfl) (.cons (.flat rfl) (.cons (.flat rfl) (.cons (.flat rfl) (.cons (hu1.mono e2) (.cons hu2 (.nil _)))))))
 refine Calls.mono (callsIn_wide.1 hcall) ?_
 rintro e w' ⟨v', rfl, ρ3, v, σ3, hk2, hv, hrel, _⟩
 cases v with
 | bool b =>
  have hb : b = true := hk2
  subst hb
  rw [hv.of_flat rfl]
  exact ⟨rfl, hrel.base⟩
 | _ => cases hk2
end Go.Am
