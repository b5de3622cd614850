/- wire: read, at byte. -/
import Derived.Test.YtbockfpeohfphaaRda

namespace Go.Proofs.Rdr
open Go Go.RowKit Go.Proofs
set_option maxHeartbeats 400000 in
theorem idle8 (pv rv xv ev pb rb ro : Nat) (s : ByteArray) (w : World) (h1 : w.cell? ⟨pv, 0, none⟩ = some (.pointer (some ⟨pb, 0, none⟩))) (h2 : w.cell? ⟨rv, 0, none⟩ = some (.pointer (some ⟨rb, ro, none⟩)))
    (h3 : w.cell? ⟨pb, 0, none⟩ = some (.string s)) (old : Value) (h4 : w.cell? ⟨rb, ro, none⟩ = some old) (h5 : w.frozen? ⟨rb, ro, none⟩ = false) :
    CallsD Try.prog 108 #[.pointer (some ⟨pv, 0, none⟩), .pointer (some ⟨rv, 0, none⟩), .pointer (some ⟨xv, 0, none⟩), .pointer (some ⟨ev, 0, none⟩)] .returning w fun e u' w' =>
      e = .returned (.tuple #[]) ∧ u' = .returning ∧ w' = w.drew.setCell ⟨rb, ro, none⟩ (.string s) := by
  have mixed := mixed
  refine callsD_of_wpS Try.func108 rfl fun c₀ cs hu => ?_
  apply wpS_seq
  apply wpS_region
  simp [wpOpsS, go_sem, recoverD, hu, Try.ntmps108, Exit.thenS]
  have hnil : ∀ w : World, (binOp BinOp.eql 20 .nilIface .nilIface).run Try.prog w = .ok (.bool true) w := fun _ => by kernel_rfl
  have g1 : w.drew.cell? ⟨pv, 0, none⟩ = some (.pointer (some ⟨pb, 0, none⟩)) := h1
  have g2 : w.drew.cell? ⟨rv, 0, none⟩ = some (.pointer (some ⟨rb, ro, none⟩)) := h2
  have g3 : w.drew.cell? ⟨pb, 0, none⟩ = some (.string s) := h3
  have g4 : w.drew.cell? ⟨rb, ro, none⟩ = some old := h4
  have g5 : w.drew.frozen? ⟨rb, ro, none⟩ = false := h5
  refine wpS_of_wp ?_
  have ht : (#[.pointer (some ⟨pv, 0, none⟩), .pointer (some ⟨rv, 0, none⟩), .pointer (some ⟨xv, 0, none⟩), .pointer (some ⟨ev, 0, none⟩)] ++ (Array.replicate 28 undef).setIfInBounds 4 Value.nilIface : Array Value) = #[.pointer (some ⟨pv, 0, none⟩), .pointer (some ⟨rv, 0, none⟩), .pointer (some ⟨xv, 0, none⟩), .pointer (some ⟨ev, 0, none⟩), undef, undef, undef, undef, .nilIface, undef, undef, undef, undef, undef, undef, undef, undef, undef, undef, undef, undef, undef, undef, undef, undef, undef, undef, undef, undef, undef, undef, undef] := by simp [Array.replicate, List.replicate]
  rw [ht]
  go_wp2
  go_region_o
  all_goals
    go_wp2
  cases c₀
  simp_all [bodyPostS, results, Try.results108]
set_option maxHeartbeats 2000000 in
theorem caught8 (pv rv xv ev rb ro : Nat) (er : Int) (w : World) (h2 : w.cell? ⟨rv, 0, none⟩ = some (.pointer (some ⟨rb, ro, none⟩)))
    (ox oe os or_ : Value) (h4 : w.cell? ⟨xv, 0, none⟩ = some ox) (h5 : w.frozen? ⟨xv, 0, none⟩ = false) (h6 : w.cell? ⟨ev, 0, none⟩ = some oe) (h7 : w.frozen? ⟨ev, 0, none⟩ = false)
    (h8 : w.cell? ⟨rb, ro, none⟩ = some os) (h9 : w.frozen? ⟨rb, ro, none⟩ = false) (h10 : w.cell? ⟨rb, ro + 1, none⟩ = some or_) (h11 : w.frozen? ⟨rb, ro + 1, none⟩ = false)
    (d1 : xv ≠ rv) (d2 : ev ≠ rv) (d3 : xv ≠ ev) (d4 : xv ≠ rb) (d5 : ev ≠ rb) (d6 : rb ≠ rv) (l1 : rv < w.heap.size) (l2 : xv < w.heap.size) (l3 : ev < w.heap.size) (l4 : rb < w.heap.size) :
    CallsD Try.prog 108 #[.pointer (some ⟨pv, 0, none⟩), .pointer (some ⟨rv, 0, none⟩), .pointer (some ⟨xv, 0, none⟩), .pointer (some ⟨ev, 0, none⟩)] (.panicking [{ lackE er with recovered := false }]) w fun e u' w' =>
      e = .returned (.tuple #[]) ∧ u' = .panicking [{ lackE er with recovered := true }] ∧
      w' = (((((w.alloc (.cells #[.int .i64 er] 143)).setCell ⟨xv, 0, none⟩ (.int .u8 0)).setCell ⟨ev, 0, none⟩ (.int .i64 er)).drew.setCell ⟨rb, ro, none⟩ (.string ⟨#[]⟩)).setCell ⟨rb, ro + 1, none⟩ (.int .i64 er)).drew := by
  have mixed := mixed
  unfold lackE
  refine callsD_of_wpS Try.func108 rfl fun c₀ cs hu => ?_
  apply wpS_seq
  apply wpS_region
  simp [wpOpsS, go_sem, recoverD, hu, Try.ntmps108, Exit.thenS]
  have hnil : ∀ w : World, (binOp BinOp.eql 20 (.iface 143 (.agg #[.int .i64 er])) .nilIface).run Try.prog w = .ok (.bool false) w := fun _ => by kernel_rfl
  have hta : ∀ w : World, (Instr.typeAssert (.iface 143 (.agg #[.int .i64 er])) 20 143 true).run Try.prog w = .ok (.tuple #[.agg #[.int .i64 er], .bool true]) w := fun _ => by kernel_rfl
  refine wpS_of_wp ?_
  have ht : (#[.pointer (some ⟨pv, 0, none⟩), .pointer (some ⟨rv, 0, none⟩), .pointer (some ⟨xv, 0, none⟩), .pointer (some ⟨ev, 0, none⟩)] ++ (Array.replicate 28 undef).setIfInBounds 4 (.iface 143 (.agg #[.int .i64 er])) : Array Value) = #[.pointer (some ⟨pv, 0, none⟩), .pointer (some ⟨rv, 0, none⟩), .pointer (some ⟨xv, 0, none⟩), .pointer (some ⟨ev, 0, none⟩), undef, undef, undef, undef, (.iface 143 (.agg #[.int .i64 er])), undef, undef, undef, undef, undef, undef, undef, undef, undef, undef, undef, undef, undef, undef, undef, undef, undef, undef, undef, undef, undef, undef, undef] := by simp [Array.replicate, List.replicate]
  rw [ht]
  have HB : Below w.heap.size w (w.alloc (.cells #[.int .i64 er] 143)) := (Below.refl _ w).alloc (Nat.le_refl _) _
  have hl : (w.alloc (.cells #[.int .i64 er] 143)).cell? ⟨w.heap.size, 0, none⟩ = some (.int .i64 er) := by simp [go_sem]
  have k2 := (HB.cell (p := ⟨rv, 0, none⟩) l1).trans h2
  have k4 := (HB.cell (p := ⟨xv, 0, none⟩) l2).trans h4
  have k5 := (HB.frozen (p := ⟨xv, 0, none⟩) l2).trans h5
  have k6 := (HB.cell (p := ⟨ev, 0, none⟩) l3).trans h6
  have k7 := (HB.frozen (p := ⟨ev, 0, none⟩) l3).trans h7
  have k8 := (HB.cell (p := ⟨rb, ro, none⟩) l4).trans h8
  have k9 := (HB.frozen (p := ⟨rb, ro, none⟩) l4).trans h9
  have k10 := (HB.cell (p := ⟨rb, ro + 1, none⟩) l4).trans h10
  have k11 := (HB.frozen (p := ⟨rb, ro + 1, none⟩) l4).trans h11
  have n1 : w.heap.size ≠ xv := by omega
  have n2 : w.heap.size ≠ ev := by omega
  have n3 : rb ≠ w.heap.size := by omega
  go_wp2
  clear HB h2 h4 h5 h6 h7 h8 h9 h10 h11 l1 l2 l3 l4
  generalize w.heap.size = lb at *
  generalize hw1 : w.alloc (.cells #[.int .i64 er] 143) = w1 at *
  have HW1 := Go.Lib.hid hw1
  clear hw1
  have q2 : (⟨xv, 0, none⟩ : Addr) ≠ ⟨rv, 0, none⟩ := fun e => d1 (congrArg Addr.block e)
  have q3 : (⟨ev, 0, none⟩ : Addr) ≠ ⟨rv, 0, none⟩ := fun e => d2 (congrArg Addr.block e)
  go_region_o
  all_goals go_wp2
  have f1 : ∀ (a : Addr) (v : Value), a.block ≠ xv → a.block ≠ ev → w1.cell? a = some v → (((w1.setCell ⟨xv, 0, none⟩ (.int .u8 0)).setCell ⟨ev, 0, none⟩ (.int .i64 er)).drew).cell? a = some v := by
    intro a v a1 a2 h
    have e1 : (⟨ev, 0, none⟩ : Addr) ≠ a := fun e => a2 (by rw [← e])
    have e2 : (⟨xv, 0, none⟩ : Addr) ≠ a := fun e => a1 (by rw [← e])
    show ((w1.setCell ⟨xv, 0, none⟩ (.int .u8 0)).setCell ⟨ev, 0, none⟩ (.int .i64 er)).cell? a = some v
    rw [World.cell?_setCell_other _ _ _ _ e1, World.cell?_setCell_other _ _ _ _ e2]; exact h
  have f2 : ∀ (a : Addr), w1.frozen? a = false → (((w1.setCell ⟨xv, 0, none⟩ (.int .u8 0)).setCell ⟨ev, 0, none⟩ (.int .i64 er)).drew).frozen? a = false := by
    intro a h
    show ((w1.setCell ⟨xv, 0, none⟩ (.int .u8 0)).setCell ⟨ev, 0, none⟩ (.int .i64 er)).frozen? a = false
    simp [go_sem, h]
  have z2 := f1 _ _ (Ne.symm d1) (Ne.symm d2) k2
  have z8 := f1 _ _ (Ne.symm d4) (Ne.symm d5) k8
  have z9 := f2 _ k9
  have z10 := f1 _ _ (Ne.symm d4) (Ne.symm d5) k10
  have z11 := f2 _ k11
  have zl := f1 _ _ n1 n2 hl
  clear f1 f2 k2 k4 k5 k6 k7 k8 k9 k10 k11 hl q2 q3
  generalize hw2 : ((w1.setCell ⟨xv, 0, none⟩ (.int .u8 0)).setCell ⟨ev, 0, none⟩ (.int .i64 er)).drew = w2 at *
  have HW2 := Go.Lib.hid hw2
  clear hw2
  have q4 : (⟨rb, ro, none⟩ : Addr) ≠ ⟨lb, 0, none⟩ := fun e => n3 (congrArg Addr.block e)
  have q5 : (⟨rb, ro, none⟩ : Addr) ≠ ⟨rv, 0, none⟩ := fun e => d6 (congrArg Addr.block e)
  go_region_o
  all_goals go_wp2
  have e1 : w.alloc (.cells #[.int .i64 er] 143) = w1 := HW1
  have e2 : ((w1.setCell ⟨xv, 0, none⟩ (.int .u8 0)).setCell ⟨ev, 0, none⟩ (.int .i64 er)).drew = w2 := HW2
  refine ⟨rfl, _, rfl, .tuple #[], ?_, rfl, rfl, ?_⟩
  · simp [results, Try.results108]
  · rw [e1, ← e2]; rfl
set_option maxHeartbeats 2000000 in
theorem read8_ok (rb ro : Nat) (h : FuncId) (cap : Array Value) (s rest : ByteArray) (x : Int) (w : World) (hr0 : rb < w.heap.size) (h1 : w.cell? ⟨rb, ro, none⟩ = some (.string s)) (h2 : w.cell? ⟨rb, ro + 1, none⟩ = some (.int .i64 0)) (h3 : w.frozen? ⟨rb, ro, none⟩ = false)
    (he : ∀ args w, (callFunc h args).run Try.prog w = .ok (.enter h args) w) (H : HowOk h cap s rest (.int .u8 x) w) :
    Calls Try.prog 97 #[.pointer (some ⟨rb, ro, none⟩), .func (.func h) #[] cap] w (ReadPost rb ro rest (.int .u8 x) w) := by
  have hmf : ∀ (fn : Fn) (first cap : Array Value) (w : World), (Instr.makeFunc fn first cap).run Try.prog w = .ok (.func fn first cap) w := fun _ _ _ _ => rfl
  have k1 : ∀ o1 o2 o3, (((w.alloc o1).alloc o2).alloc o3).cell? ⟨rb, ro, none⟩ = some (.string s) := fun o1 o2 o3 =>
    ((((Below.refl _ w).alloc (Nat.le_refl _) o1).alloc (by simp) o2).alloc (by simp; omega) o3).cell (p := ⟨rb, ro, none⟩) hr0 |>.trans h1
  have k2 : ∀ o1 o2 o3, (((w.alloc o1).alloc o2).alloc o3).cell? ⟨rb, ro + 1, none⟩ = some (.int .i64 0) := fun o1 o2 o3 =>
    ((((Below.refl _ w).alloc (Nat.le_refl _) o1).alloc (by simp) o2).alloc (by simp; omega) o3).cell (p := ⟨rb, ro + 1, none⟩) hr0 |>.trans h2
  have HH := Go.Lib.hid H
  have HR := Go.Lib.hid hr0
  clear H hr0
  go_enter_defers Try.func97, Try.ntmps97
  go_wp2
  generalize hW : ((((w.alloc (Obj.cells #[Value.pointer (some { block := rb, off := ro })] 70)).alloc (Obj.cells #[(.int .u8 0)] 5)).alloc (Obj.cells #[.int .i64 0] 37)).alloc (Obj.cells #[Value.string s] 115)).alloc (Obj.cells #[Value.pointer (some { block := w.heap.size + 1 + 1 + 1, off := 0 })] 112) = W
  have hr0 : rb < w.heap.size := HR
  obtain ⟨b0, b1, b2, b3, b4, hsz⟩ := chain5 w _ _ _ _ _ W hW
  have hBW : Below w.heap.size w W := by
    rw [← hW]
    exact (((((Below.refl _ w).alloc (Nat.le_refl _) _).alloc (by simp) _).alloc (by simp; omega) _).alloc (by simp; omega) _).alloc (by simp; omega) _
  clear hW k1 k2
  have c3 : W.cell? ⟨w.heap.size + 1 + 1 + 1, 0, none⟩ = some (.string s) := cell_one b3
  refine ((HH : HowOk h cap s rest (.int .u8 x) w) (w.heap.size + 1 + 1 + 1) W hBW (by omega) (by omega) c3 (froz_one b3)).mono ?_
  rintro r w1 ⟨rfl, hB⟩
  have hk : ∀ k, k < w.heap.size + 5 → k ≠ w.heap.size + 1 + 1 + 1 → w1.heap[k]? = W.heap[k]? := fun k h1 h2 => (hB.block k (by omega)).trans (setCell_blk (Ne.symm h2))
  have d0 : w1.heap[w.heap.size]? = _ := (hk _ (by omega) (by omega)).trans b0
  have d1 : w1.heap[w.heap.size + 1]? = _ := (hk _ (by omega) (by omega)).trans b1
  have d2 : w1.heap[w.heap.size + 1 + 1]? = _ := (hk _ (by omega) (by omega)).trans b2
  have d3 : w1.heap[w.heap.size + 1 + 1 + 1]? = some (Obj.cells #[Value.string rest] 115) := by
    rw [hB.block _ (by omega), blk_setCell b3]; rfl
  have d4 : w1.heap[w.heap.size + 1 + 1 + 1 + 1]? = _ := (hk _ (by omega) (by omega)).trans b4
  have hB1 : Below w.heap.size w w1 := (hBW.setCell (p := ⟨w.heap.size + 1 + 1 + 1, 0, none⟩) (by show _ ≤ w.heap.size + 1 + 1 + 1; omega) (.string rest)).trans (hB.mono (by omega))
  clear hk hB b0 b1 b2 b3 b4 c3 hBW
  have x1 : w1.cell? ⟨w.heap.size + 1, 0, none⟩ = some (.int .u8 0) := cell_one d1
  have x2 : w1.frozen? ⟨w.heap.size + 1, 0, none⟩ = false := froz_one d1
  have x3 : w1.cell? ⟨w.heap.size + 1 + 1, 0, none⟩ = some (.int .i64 0) := cell_one d2
  have x4 : w1.frozen? ⟨w.heap.size + 1 + 1, 0, none⟩ = false := froz_one d2
  have HD := Go.Lib.hid d0
  have HD1 := Go.Lib.hid d1
  have HD2 := Go.Lib.hid d2
  have HD3 := Go.Lib.hid d3
  have HD4 := Go.Lib.hid d4
  have HZ := Go.Lib.hid hsz
  have h1 := Go.Lib.hid h1
  have h3 := Go.Lib.hid h3
  clear d0 d1 d2 d3 d4 hsz h2 hr0
  go_wp2
  have hr0 : rb < w.heap.size := HR
  have g0 := (HD : w1.heap[w.heap.size]? = _)
  have g1 := (HD1 : w1.heap[w.heap.size + 1]? = _)
  have g2 := (HD2 : w1.heap[w.heap.size + 1 + 1]? = _)
  have g3 := (HD3 : w1.heap[w.heap.size + 1 + 1 + 1]? = _)
  have g4 := (HD4 : w1.heap[w.heap.size + 1 + 1 + 1 + 1]? = _)
  clear HD HD1 HD2 HD3 HD4 HZ HR HH x1 x2 x3 x4
  generalize hw2 : (w1.setCell { block := w.heap.size + 1, off := 0 } (.int .u8 x)).setCell { block := w.heap.size + 1 + 1, off := 0 } (Value.int IntKind.i64 0) = w2
  have ho : ∀ k, k ≠ w.heap.size + 1 → k ≠ w.heap.size + 1 + 1 → w2.heap[k]? = w1.heap[k]? := fun k a1 a2 => by rw [← hw2, setCell_blk (by exact Ne.symm a2), setCell_blk (by exact Ne.symm a1)]
  have e0 := (ho _ (by omega) (by omega)).trans g0
  have e3 := (ho _ (by omega) (by omega)).trans g3
  have e4 := (ho _ (by omega) (by omega)).trans g4
  have e1 : w2.heap[w.heap.size + 1]? = some (Obj.cells #[(.int .u8 x)] 5) := by rw [← hw2, setCell_blk (by show w.heap.size + 1 + 1 ≠ _; omega), blk_setCell g1]; rfl
  have e2 : w2.heap[w.heap.size + 1 + 1]? = some (Obj.cells #[.int .i64 0] 37) := by rw [← hw2, blk_setCell ((setCell_blk (by show w.heap.size + 1 ≠ _; omega)).trans g2)]; rfl
  have hB2 : Below w.heap.size w w2 := by rw [← hw2]; exact (hB1.setCell (by show _ ≤ w.heap.size + 1; omega) _).setCell (by show _ ≤ w.heap.size + 1 + 1; omega) _
  have er : w2.heap[rb]? = w.heap[rb]? := hB2.block rb hr0
  clear hw2 ho g0 g1 g2 g3 g4 hB1
  refine leaves_cons (f := 108) (args := #[.pointer (some ⟨w.heap.size + 1 + 1 + 1 + 1, 0, none⟩), .pointer (some ⟨w.heap.size, 0, none⟩), .pointer (some ⟨w.heap.size + 1, 0, none⟩), .pointer (some ⟨w.heap.size + 1 + 1, 0, none⟩)]) (by simp) (by simp [go_sem]) ?_
  refine (idle8 _ _ _ _ (w.heap.size + 1 + 1 + 1) rb ro rest w2 (cell_one e4) (cell_one e0) (cell_one e3) (.string s) (cell_blk (a := ⟨rb, ro, none⟩) er h1) (froz_blk (a := ⟨rb, ro, none⟩) er h3)).mono ?_
  rintro e u' w3 ⟨rfl, rfl, rfl⟩
  have y1 : (w2.drew.setCell ⟨rb, ro, none⟩ (.string rest)).cell? ⟨w.heap.size + 1, 0, none⟩ = some (.int .u8 x) := cell_blk (w := w2) (setCell_blk (by show rb ≠ w.heap.size + 1; omega)) (cell_one e1)
  have y2 : (w2.drew.setCell ⟨rb, ro, none⟩ (.string rest)).cell? ⟨w.heap.size + 1 + 1, 0, none⟩ = some (.int .i64 0) := cell_blk (w := w2) (setCell_blk (by show rb ≠ w.heap.size + 1 + 1; omega)) (cell_one e2)
  have hB3 : Below w.heap.size (w.setCell ⟨rb, ro, none⟩ (.string rest)) (w2.drew.setCell ⟨rb, ro, none⟩ (.string rest)) := below_both hB2.drew _ _
  generalize w2.drew.setCell ⟨rb, ro, none⟩ (.string rest) = w3 at *
  clear e0 e1 e2 e3 e4 er hB2
  simp [Leaves, settle, results, Try.results97, go_sem, y1, y2]
  exact ⟨rfl, hB3⟩
set_option maxHeartbeats 2000000 in
theorem read8_lack (rb ro : Nat) (h : FuncId) (cap : Array Value) (s : ByteArray) (er : Int) (w : World) (hr0 : rb < w.heap.size) (h1 : w.cell? ⟨rb, ro, none⟩ = some (.string s)) (h2 : w.cell? ⟨rb, ro + 1, none⟩ = some (.int .i64 0)) (h3 : w.frozen? ⟨rb, ro, none⟩ = false) (h4 : w.frozen? ⟨rb, ro + 1, none⟩ = false)
    (he : ∀ args w, (callFunc h args).run Try.prog w = .ok (.enter h args) w) (H : HowLack h cap s er w) :
    Calls Try.prog 97 #[.pointer (some ⟨rb, ro, none⟩), .func (.func h) #[] cap] w (LackPost rb ro er (.int .u8 0) w) := by
  have hmf : ∀ (fn : Fn) (first cap : Array Value) (w : World), (Instr.makeFunc fn first cap).run Try.prog w = .ok (.func fn first cap) w := fun _ _ _ _ => rfl
  have k1 : ∀ o1 o2 o3, (((w.alloc o1).alloc o2).alloc o3).cell? ⟨rb, ro, none⟩ = some (.string s) := fun o1 o2 o3 =>
    ((((Below.refl _ w).alloc (Nat.le_refl _) o1).alloc (by simp) o2).alloc (by simp; omega) o3).cell (p := ⟨rb, ro, none⟩) hr0 |>.trans h1
  have k2 : ∀ o1 o2 o3, (((w.alloc o1).alloc o2).alloc o3).cell? ⟨rb, ro + 1, none⟩ = some (.int .i64 0) := fun o1 o2 o3 =>
    ((((Below.refl _ w).alloc (Nat.le_refl _) o1).alloc (by simp) o2).alloc (by simp; omega) o3).cell (p := ⟨rb, ro + 1, none⟩) hr0 |>.trans h2
  have HH := Go.Lib.hid H
  have HR := Go.Lib.hid hr0
  clear H hr0
  go_enter_defers Try.func97, Try.ntmps97
  go_wp2
  generalize hW : ((((w.alloc (Obj.cells #[Value.pointer (some { block := rb, off := ro })] 70)).alloc (Obj.cells #[(.int .u8 0)] 5)).alloc (Obj.cells #[.int .i64 0] 37)).alloc (Obj.cells #[Value.string s] 115)).alloc (Obj.cells #[Value.pointer (some { block := w.heap.size + 1 + 1 + 1, off := 0 })] 112) = W
  have hr0 : rb < w.heap.size := HR
  obtain ⟨b0, b1, b2, b3, b4, hsz⟩ := chain5 w _ _ _ _ _ W hW
  have hBW : Below w.heap.size w W := by
    rw [← hW]
    exact (((((Below.refl _ w).alloc (Nat.le_refl _) _).alloc (by simp) _).alloc (by simp; omega) _).alloc (by simp; omega) _).alloc (by simp; omega) _
  clear hW k1 k2
  have c3 : W.cell? ⟨w.heap.size + 1 + 1 + 1, 0, none⟩ = some (.string s) := cell_one b3
  refine ((HH : HowLack h cap s er w) (w.heap.size + 1 + 1 + 1) W hBW (by omega) (by omega) c3 (froz_one b3)).mono ?_
  rintro r w2 ⟨rfl, pv, hB⟩
  have hk : ∀ k, k < w.heap.size + 5 → k ≠ w.heap.size + 1 + 1 + 1 → w2.heap[k]? = W.heap[k]? := fun k h1 h2 => (hB.block k (by omega)).trans (setCell_blk (Ne.symm h2))
  have e0 : w2.heap[w.heap.size]? = _ := (hk _ (by omega) (by omega)).trans b0
  have e1 : w2.heap[w.heap.size + 1]? = _ := (hk _ (by omega) (by omega)).trans b1
  have e2 : w2.heap[w.heap.size + 1 + 1]? = _ := (hk _ (by omega) (by omega)).trans b2
  have hB2 : Below w.heap.size w w2 := (hBW.setCell (p := ⟨w.heap.size + 1 + 1 + 1, 0, none⟩) (by show _ ≤ w.heap.size + 1 + 1 + 1; omega) pv).trans (hB.mono (by omega))
  have hz2 : W.heap.size ≤ w2.heap.size := by have := hB.size; simpa [World.setCell] using this
  clear hk hB b0 b1 b2 b3 b4 c3 hBW
  have er1 : w2.heap[rb]? = w.heap[rb]? := hB2.block rb hr0
  refine leaves_cons (f := 108) (args := #[.pointer (some ⟨w.heap.size + 1 + 1 + 1 + 1, 0, none⟩), .pointer (some ⟨w.heap.size, 0, none⟩), .pointer (some ⟨w.heap.size + 1, 0, none⟩), .pointer (some ⟨w.heap.size + 1 + 1, 0, none⟩)]) (by simp) (by simp [go_sem]) ?_
  refine (caught8 _ _ _ _ rb ro er w2 (cell_one e0) (.int .u8 0) (.int .i64 0) (.string s) (.int .i64 0) (cell_one e1) (froz_one e1) (cell_one e2) (froz_one e2)
    (cell_blk (a := ⟨rb, ro, none⟩) er1 h1) (froz_blk (a := ⟨rb, ro, none⟩) er1 h3) (cell_blk (a := ⟨rb, ro + 1, none⟩) er1 h2) (froz_blk (a := ⟨rb, ro + 1, none⟩) er1 h4)
    (by omega) (by omega) (by omega) (by omega) (by omega) (by omega) (by omega) (by omega) (by omega) (by omega)).mono ?_
  rintro e u' w3 ⟨rfl, rfl, hw3⟩
  have n1 : rb ≠ w.heap.size + 1 := by omega
  have n2 : rb ≠ w.heap.size + 1 + 1 := by omega
  have lt1 : w.heap.size + 1 < w2.heap.size := by omega
  have lt2 : w.heap.size + 1 + 1 < w2.heap.size := by omega
  have y1 : w3.cell? ⟨w.heap.size + 1, 0, none⟩ = some (.int .u8 0) := by
    have z : w3.heap[w.heap.size + 1]? = some (Obj.cells #[(.int .u8 0)] 5) := by
      rw [hw3]
      show ((((((w2.alloc _).setCell _ _).setCell _ _).setCell _ _).setCell _ _)).heap[_]? = _
      rw [setCell_blk (by exact n1), setCell_blk (by exact n1), setCell_blk (by show w.heap.size + 1 + 1 ≠ w.heap.size + 1; omega), blk_setCell (by rw [alloc_get, if_neg (by omega)]; exact e1)]
      rfl
    exact cell_one z
  have y2 : w3.cell? ⟨w.heap.size + 1 + 1, 0, none⟩ = some (.int .i64 er) := by
    have z : w3.heap[w.heap.size + 1 + 1]? = some (Obj.cells #[.int .i64 er] 37) := by
      rw [hw3]
      show ((((((w2.alloc _).setCell _ _).setCell _ _).setCell _ _).setCell _ _)).heap[_]? = _
      rw [setCell_blk (by exact n2), setCell_blk (by exact n2), blk_setCell ((setCell_blk (by show w.heap.size + 1 ≠ w.heap.size + 1 + 1; omega)).trans (by rw [alloc_get, if_neg (by omega)]; exact e2))]
      rfl
    exact cell_one z
  have hB3 : Below w.heap.size ((w.setCell ⟨rb, ro, none⟩ (.string ⟨#[]⟩)).setCell ⟨rb, ro + 1, none⟩ (.int .i64 er)) w3 := by
    rw [hw3]
    exact (below_both (below_both (((((hB2.alloc (by omega) _).setCell (by show w.heap.size ≤ w.heap.size + 1; omega) _).setCell (by show w.heap.size ≤ w.heap.size + 1 + 1; omega) _).drew)) _ _) _ _).drew
  clear hw3 e0 e1 e2 er1 hB2 hz2 lt1 lt2 n1 n2 h1 h2 h3 h4 hsz
  simp [Leaves, settle, results, Try.results97, go_sem, y1, y2]
  exact ⟨rfl, hB3⟩
set_option maxHeartbeats 2000000 in
theorem read8_wrong (rb ro : Nat) (how : Value) (er : Int) (w : World) (hr0 : rb < w.heap.size) (h2 : w.cell? ⟨rb, ro + 1, none⟩ = some (.int .i64 er)) (hne : er ≠ 0) :
    Calls Try.prog 97 #[.pointer (some ⟨rb, ro, none⟩), how] w fun r w' => r = .returned (.tuple #[(.int .u8 0), .int .i64 er]) ∧ Below w.heap.size w w' := by
  have mixed := mixed
  have k2 : ∀ o1 o2 o3, (((w.alloc o1).alloc o2).alloc o3).cell? ⟨rb, ro + 1, none⟩ = some (.int .i64 er) := fun o1 o2 o3 =>
    ((((Below.refl _ w).alloc (Nat.le_refl _) o1).alloc (by simp) o2).alloc (by simp; omega) o3).cell (p := ⟨rb, ro + 1, none⟩) hr0 |>.trans h2
  have q1 : (⟨w.heap.size + 1, 0, none⟩ : Addr) ≠ ⟨rb, ro + 1, none⟩ := by intro e; have e := congrArg Addr.block e; simp at e; omega
  have hbne : (er != 0) = true := by simpa using hne
  clear h2 hr0 hne
  go_enter_defers Try.func97, Try.ntmps97
  go_wp2
  go_region_o
  all_goals go_wp2
  simp [bodyPostD, Leaves, results, Try.results97, go_sem]
  exact ((((Below.refl _ w).alloc (Nat.le_refl _) _).alloc (by simp) _).alloc (by simp; omega) _).drew
theorem read8_nil (how : Value) (w : World) :
    Calls Try.prog 97 #[.pointer none, how] w fun r w' => r = .returned (.tuple #[(.int .u8 0), .int .i64 2]) ∧ Below w.heap.size w w' := by
  go_enter_defers Try.func97, Try.ntmps97
  go_wp2
  simp [bodyPostD, Leaves, results, Try.results97, go_sem]
  exact (((Below.refl _ w).alloc (Nat.le_refl _) _).alloc (by simp) _).alloc (by simp; omega) _
end Go.Proofs.Rdr

namespace Go.Proofs.Rdr
open Go Go.RowKit Go.Proofs
set_option maxHeartbeats 400000 in
theorem idleN (pv rv xv ev pb rb ro : Nat) (s : ByteArray) (w : World) (h1 : w.cell? ⟨pv, 0, none⟩ = some (.pointer (some ⟨pb, 0, none⟩))) (h2 : w.cell? ⟨rv, 0, none⟩ = some (.pointer (some ⟨rb, ro, none⟩)))
    (h3 : w.cell? ⟨pb, 0, none⟩ = some (.string s)) (old : Value) (h4 : w.cell? ⟨rb, ro, none⟩ = some old) (h5 : w.frozen? ⟨rb, ro, none⟩ = false) :
    CallsD Try.prog 107 #[.pointer (some ⟨pv, 0, none⟩), .pointer (some ⟨rv, 0, none⟩), .pointer (some ⟨xv, 0, none⟩), .pointer (some ⟨ev, 0, none⟩)] .returning w fun e u' w' =>
      e = .returned (.tuple #[]) ∧ u' = .returning ∧ w' = w.drew.setCell ⟨rb, ro, none⟩ (.string s) := by
  have mixed := mixed
  refine callsD_of_wpS Try.func107 rfl fun c₀ cs hu => ?_
  apply wpS_seq
  apply wpS_region
  simp [wpOpsS, go_sem, recoverD, hu, Try.ntmps107, Exit.thenS]
  have hnil : ∀ w : World, (binOp BinOp.eql 20 .nilIface .nilIface).run Try.prog w = .ok (.bool true) w := fun _ => by kernel_rfl
  have g1 : w.drew.cell? ⟨pv, 0, none⟩ = some (.pointer (some ⟨pb, 0, none⟩)) := h1
  have g2 : w.drew.cell? ⟨rv, 0, none⟩ = some (.pointer (some ⟨rb, ro, none⟩)) := h2
  have g3 : w.drew.cell? ⟨pb, 0, none⟩ = some (.string s) := h3
  have g4 : w.drew.cell? ⟨rb, ro, none⟩ = some old := h4
  have g5 : w.drew.frozen? ⟨rb, ro, none⟩ = false := h5
  refine wpS_of_wp ?_
  have ht : (#[.pointer (some ⟨pv, 0, none⟩), .pointer (some ⟨rv, 0, none⟩), .pointer (some ⟨xv, 0, none⟩), .pointer (some ⟨ev, 0, none⟩)] ++ (Array.replicate 28 undef).setIfInBounds 4 Value.nilIface : Array Value) = #[.pointer (some ⟨pv, 0, none⟩), .pointer (some ⟨rv, 0, none⟩), .pointer (some ⟨xv, 0, none⟩), .pointer (some ⟨ev, 0, none⟩), undef, undef, undef, undef, .nilIface, undef, undef, undef, undef, undef, undef, undef, undef, undef, undef, undef, undef, undef, undef, undef, undef, undef, undef, undef, undef, undef, undef, undef] := by simp [Array.replicate, List.replicate]
  rw [ht]
  go_wp2
  go_region_o
  all_goals
    go_wp2
  cases c₀
  simp_all [bodyPostS, results, Try.results107]
set_option maxHeartbeats 2000000 in
theorem caughtN (pv rv xv ev rb ro : Nat) (er : Int) (w : World) (h2 : w.cell? ⟨rv, 0, none⟩ = some (.pointer (some ⟨rb, ro, none⟩)))
    (ox oe os or_ : Value) (h4 : w.cell? ⟨xv, 0, none⟩ = some ox) (h5 : w.frozen? ⟨xv, 0, none⟩ = false) (h6 : w.cell? ⟨ev, 0, none⟩ = some oe) (h7 : w.frozen? ⟨ev, 0, none⟩ = false)
    (h8 : w.cell? ⟨rb, ro, none⟩ = some os) (h9 : w.frozen? ⟨rb, ro, none⟩ = false) (h10 : w.cell? ⟨rb, ro + 1, none⟩ = some or_) (h11 : w.frozen? ⟨rb, ro + 1, none⟩ = false)
    (d1 : xv ≠ rv) (d2 : ev ≠ rv) (d3 : xv ≠ ev) (d4 : xv ≠ rb) (d5 : ev ≠ rb) (d6 : rb ≠ rv) (l1 : rv < w.heap.size) (l2 : xv < w.heap.size) (l3 : ev < w.heap.size) (l4 : rb < w.heap.size) :
    CallsD Try.prog 107 #[.pointer (some ⟨pv, 0, none⟩), .pointer (some ⟨rv, 0, none⟩), .pointer (some ⟨xv, 0, none⟩), .pointer (some ⟨ev, 0, none⟩)] (.panicking [{ lackE er with recovered := false }]) w fun e u' w' =>
      e = .returned (.tuple #[]) ∧ u' = .panicking [{ lackE er with recovered := true }] ∧
      w' = (((((w.alloc (.cells #[.int .i64 er] 143)).setCell ⟨xv, 0, none⟩ (.int .i64 0)).setCell ⟨ev, 0, none⟩ (.int .i64 er)).drew.setCell ⟨rb, ro, none⟩ (.string ⟨#[]⟩)).setCell ⟨rb, ro + 1, none⟩ (.int .i64 er)).drew := by
  have mixed := mixed
  unfold lackE
  refine callsD_of_wpS Try.func107 rfl fun c₀ cs hu => ?_
  apply wpS_seq
  apply wpS_region
  simp [wpOpsS, go_sem, recoverD, hu, Try.ntmps107, Exit.thenS]
  have hnil : ∀ w : World, (binOp BinOp.eql 20 (.iface 143 (.agg #[.int .i64 er])) .nilIface).run Try.prog w = .ok (.bool false) w := fun _ => by kernel_rfl
  have hta : ∀ w : World, (Instr.typeAssert (.iface 143 (.agg #[.int .i64 er])) 20 143 true).run Try.prog w = .ok (.tuple #[.agg #[.int .i64 er], .bool true]) w := fun _ => by kernel_rfl
  refine wpS_of_wp ?_
  have ht : (#[.pointer (some ⟨pv, 0, none⟩), .pointer (some ⟨rv, 0, none⟩), .pointer (some ⟨xv, 0, none⟩), .pointer (some ⟨ev, 0, none⟩)] ++ (Array.replicate 28 undef).setIfInBounds 4 (.iface 143 (.agg #[.int .i64 er])) : Array Value) = #[.pointer (some ⟨pv, 0, none⟩), .pointer (some ⟨rv, 0, none⟩), .pointer (some ⟨xv, 0, none⟩), .pointer (some ⟨ev, 0, none⟩), undef, undef, undef, undef, (.iface 143 (.agg #[.int .i64 er])), undef, undef, undef, undef, undef, undef, undef, undef, undef, undef, undef, undef, undef, undef, undef, undef, undef, undef, undef, undef, undef, undef, undef] := by simp [Array.replicate, List.replicate]
  rw [ht]
  have HB : Below w.heap.size w (w.alloc (.cells #[.int .i64 er] 143)) := (Below.refl _ w).alloc (Nat.le_refl _) _
  have hl : (w.alloc (.cells #[.int .i64 er] 143)).cell? ⟨w.heap.size, 0, none⟩ = some (.int .i64 er) := by simp [go_sem]
  have k2 := (HB.cell (p := ⟨rv, 0, none⟩) l1).trans h2
  have k4 := (HB.cell (p := ⟨xv, 0, none⟩) l2).trans h4
  have k5 := (HB.frozen (p := ⟨xv, 0, none⟩) l2).trans h5
  have k6 := (HB.cell (p := ⟨ev, 0, none⟩) l3).trans h6
  have k7 := (HB.frozen (p := ⟨ev, 0, none⟩) l3).trans h7
  have k8 := (HB.cell (p := ⟨rb, ro, none⟩) l4).trans h8
  have k9 := (HB.frozen (p := ⟨rb, ro, none⟩) l4).trans h9
  have k10 := (HB.cell (p := ⟨rb, ro + 1, none⟩) l4).trans h10
  have k11 := (HB.frozen (p := ⟨rb, ro + 1, none⟩) l4).trans h11
  have n1 : w.heap.size ≠ xv := by omega
  have n2 : w.heap.size ≠ ev := by omega
  have n3 : rb ≠ w.heap.size := by omega
  go_wp2
  clear HB h2 h4 h5 h6 h7 h8 h9 h10 h11 l1 l2 l3 l4
  generalize w.heap.size = lb at *
  generalize hw1 : w.alloc (.cells #[.int .i64 er] 143) = w1 at *
  have HW1 := Go.Lib.hid hw1
  clear hw1
  have q2 : (⟨xv, 0, none⟩ : Addr) ≠ ⟨rv, 0, none⟩ := fun e => d1 (congrArg Addr.block e)
  have q3 : (⟨ev, 0, none⟩ : Addr) ≠ ⟨rv, 0, none⟩ := fun e => d2 (congrArg Addr.block e)
  go_region_o
  all_goals go_wp2
  have f1 : ∀ (a : Addr) (v : Value), a.block ≠ xv → a.block ≠ ev → w1.cell? a = some v → (((w1.setCell ⟨xv, 0, none⟩ (.int .i64 0)).setCell ⟨ev, 0, none⟩ (.int .i64 er)).drew).cell? a = some v := by
    intro a v a1 a2 h
    have e1 : (⟨ev, 0, none⟩ : Addr) ≠ a := fun e => a2 (by rw [← e])
    have e2 : (⟨xv, 0, none⟩ : Addr) ≠ a := fun e => a1 (by rw [← e])
    show ((w1.setCell ⟨xv, 0, none⟩ (.int .i64 0)).setCell ⟨ev, 0, none⟩ (.int .i64 er)).cell? a = some v
    rw [World.cell?_setCell_other _ _ _ _ e1, World.cell?_setCell_other _ _ _ _ e2]; exact h
  have f2 : ∀ (a : Addr), w1.frozen? a = false → (((w1.setCell ⟨xv, 0, none⟩ (.int .i64 0)).setCell ⟨ev, 0, none⟩ (.int .i64 er)).drew).frozen? a = false := by
    intro a h
    show ((w1.setCell ⟨xv, 0, none⟩ (.int .i64 0)).setCell ⟨ev, 0, none⟩ (.int .i64 er)).frozen? a = false
    simp [go_sem, h]
  have z2 := f1 _ _ (Ne.symm d1) (Ne.symm d2) k2
  have z8 := f1 _ _ (Ne.symm d4) (Ne.symm d5) k8
  have z9 := f2 _ k9
  have z10 := f1 _ _ (Ne.symm d4) (Ne.symm d5) k10
  have z11 := f2 _ k11
  have zl := f1 _ _ n1 n2 hl
  clear f1 f2 k2 k4 k5 k6 k7 k8 k9 k10 k11 hl q2 q3
  generalize hw2 : ((w1.setCell ⟨xv, 0, none⟩ (.int .i64 0)).setCell ⟨ev, 0, none⟩ (.int .i64 er)).drew = w2 at *
  have HW2 := Go.Lib.hid hw2
  clear hw2
  have q4 : (⟨rb, ro, none⟩ : Addr) ≠ ⟨lb, 0, none⟩ := fun e => n3 (congrArg Addr.block e)
  have q5 : (⟨rb, ro, none⟩ : Addr) ≠ ⟨rv, 0, none⟩ := fun e => d6 (congrArg Addr.block e)
  go_region_o
  all_goals go_wp2
  have e1 : w.alloc (.cells #[.int .i64 er] 143) = w1 := HW1
  have e2 : ((w1.setCell ⟨xv, 0, none⟩ (.int .i64 0)).setCell ⟨ev, 0, none⟩ (.int .i64 er)).drew = w2 := HW2
  refine ⟨rfl, _, rfl, .tuple #[], ?_, rfl, rfl, ?_⟩
  · simp [results, Try.results107]
  · rw [e1, ← e2]; rfl
set_option maxHeartbeats 2000000 in
theorem readN_ok (rb ro : Nat) (h : FuncId) (cap : Array Value) (s rest : ByteArray) (x : Int) (w : World) (hr0 : rb < w.heap.size) (h1 : w.cell? ⟨rb, ro, none⟩ = some (.string s)) (h2 : w.cell? ⟨rb, ro + 1, none⟩ = some (.int .i64 0)) (h3 : w.frozen? ⟨rb, ro, none⟩ = false)
    (he : ∀ args w, (callFunc h args).run Try.prog w = .ok (.enter h args) w) (H : HowOk h cap s rest (.int .i64 x) w) :
    Calls Try.prog 94 #[.pointer (some ⟨rb, ro, none⟩), .func (.func h) #[] cap] w (ReadPost rb ro rest (.int .i64 x) w) := by
  have hmf : ∀ (fn : Fn) (first cap : Array Value) (w : World), (Instr.makeFunc fn first cap).run Try.prog w = .ok (.func fn first cap) w := fun _ _ _ _ => rfl
  have k1 : ∀ o1 o2 o3, (((w.alloc o1).alloc o2).alloc o3).cell? ⟨rb, ro, none⟩ = some (.string s) := fun o1 o2 o3 =>
    ((((Below.refl _ w).alloc (Nat.le_refl _) o1).alloc (by simp) o2).alloc (by simp; omega) o3).cell (p := ⟨rb, ro, none⟩) hr0 |>.trans h1
  have k2 : ∀ o1 o2 o3, (((w.alloc o1).alloc o2).alloc o3).cell? ⟨rb, ro + 1, none⟩ = some (.int .i64 0) := fun o1 o2 o3 =>
    ((((Below.refl _ w).alloc (Nat.le_refl _) o1).alloc (by simp) o2).alloc (by simp; omega) o3).cell (p := ⟨rb, ro + 1, none⟩) hr0 |>.trans h2
  have HH := Go.Lib.hid H
  have HR := Go.Lib.hid hr0
  clear H hr0
  go_enter_defers Try.func94, Try.ntmps94
  go_wp2
  generalize hW : ((((w.alloc (Obj.cells #[Value.pointer (some { block := rb, off := ro })] 70)).alloc (Obj.cells #[(.int .i64 0)] 3)).alloc (Obj.cells #[.int .i64 0] 37)).alloc (Obj.cells #[Value.string s] 115)).alloc (Obj.cells #[Value.pointer (some { block := w.heap.size + 1 + 1 + 1, off := 0 })] 112) = W
  have hr0 : rb < w.heap.size := HR
  obtain ⟨b0, b1, b2, b3, b4, hsz⟩ := chain5 w _ _ _ _ _ W hW
  have hBW : Below w.heap.size w W := by
    rw [← hW]
    exact (((((Below.refl _ w).alloc (Nat.le_refl _) _).alloc (by simp) _).alloc (by simp; omega) _).alloc (by simp; omega) _).alloc (by simp; omega) _
  clear hW k1 k2
  have c3 : W.cell? ⟨w.heap.size + 1 + 1 + 1, 0, none⟩ = some (.string s) := cell_one b3
  refine ((HH : HowOk h cap s rest (.int .i64 x) w) (w.heap.size + 1 + 1 + 1) W hBW (by omega) (by omega) c3 (froz_one b3)).mono ?_
  rintro r w1 ⟨rfl, hB⟩
  have hk : ∀ k, k < w.heap.size + 5 → k ≠ w.heap.size + 1 + 1 + 1 → w1.heap[k]? = W.heap[k]? := fun k h1 h2 => (hB.block k (by omega)).trans (setCell_blk (Ne.symm h2))
  have d0 : w1.heap[w.heap.size]? = _ := (hk _ (by omega) (by omega)).trans b0
  have d1 : w1.heap[w.heap.size + 1]? = _ := (hk _ (by omega) (by omega)).trans b1
  have d2 : w1.heap[w.heap.size + 1 + 1]? = _ := (hk _ (by omega) (by omega)).trans b2
  have d3 : w1.heap[w.heap.size + 1 + 1 + 1]? = some (Obj.cells #[Value.string rest] 115) := by
    rw [hB.block _ (by omega), blk_setCell b3]; rfl
  have d4 : w1.heap[w.heap.size + 1 + 1 + 1 + 1]? = _ := (hk _ (by omega) (by omega)).trans b4
  have hB1 : Below w.heap.size w w1 := (hBW.setCell (p := ⟨w.heap.size + 1 + 1 + 1, 0, none⟩) (by show _ ≤ w.heap.size + 1 + 1 + 1; omega) (.string rest)).trans (hB.mono (by omega))
  clear hk hB b0 b1 b2 b3 b4 c3 hBW
  have x1 : w1.cell? ⟨w.heap.size + 1, 0, none⟩ = some (.int .i64 0) := cell_one d1
  have x2 : w1.frozen? ⟨w.heap.size + 1, 0, none⟩ = false := froz_one d1
  have x3 : w1.cell? ⟨w.heap.size + 1 + 1, 0, none⟩ = some (.int .i64 0) := cell_one d2
  have x4 : w1.frozen? ⟨w.heap.size + 1 + 1, 0, none⟩ = false := froz_one d2
  have HD := Go.Lib.hid d0
  have HD1 := Go.Lib.hid d1
  have HD2 := Go.Lib.hid d2
  have HD3 := Go.Lib.hid d3
  have HD4 := Go.Lib.hid d4
  have HZ := Go.Lib.hid hsz
  have h1 := Go.Lib.hid h1
  have h3 := Go.Lib.hid h3
  clear d0 d1 d2 d3 d4 hsz h2 hr0
  go_wp2
  have hr0 : rb < w.heap.size := HR
  have g0 := (HD : w1.heap[w.heap.size]? = _)
  have g1 := (HD1 : w1.heap[w.heap.size + 1]? = _)
  have g2 := (HD2 : w1.heap[w.heap.size + 1 + 1]? = _)
  have g3 := (HD3 : w1.heap[w.heap.size + 1 + 1 + 1]? = _)
  have g4 := (HD4 : w1.heap[w.heap.size + 1 + 1 + 1 + 1]? = _)
  clear HD HD1 HD2 HD3 HD4 HZ HR HH x1 x2 x3 x4
  generalize hw2 : (w1.setCell { block := w.heap.size + 1, off := 0 } (.int .i64 x)).setCell { block := w.heap.size + 1 + 1, off := 0 } (Value.int IntKind.i64 0) = w2
  have ho : ∀ k, k ≠ w.heap.size + 1 → k ≠ w.heap.size + 1 + 1 → w2.heap[k]? = w1.heap[k]? := fun k a1 a2 => by rw [← hw2, setCell_blk (by exact Ne.symm a2), setCell_blk (by exact Ne.symm a1)]
  have e0 := (ho _ (by omega) (by omega)).trans g0
  have e3 := (ho _ (by omega) (by omega)).trans g3
  have e4 := (ho _ (by omega) (by omega)).trans g4
  have e1 : w2.heap[w.heap.size + 1]? = some (Obj.cells #[(.int .i64 x)] 3) := by rw [← hw2, setCell_blk (by show w.heap.size + 1 + 1 ≠ _; omega), blk_setCell g1]; rfl
  have e2 : w2.heap[w.heap.size + 1 + 1]? = some (Obj.cells #[.int .i64 0] 37) := by rw [← hw2, blk_setCell ((setCell_blk (by show w.heap.size + 1 ≠ _; omega)).trans g2)]; rfl
  have hB2 : Below w.heap.size w w2 := by rw [← hw2]; exact (hB1.setCell (by show _ ≤ w.heap.size + 1; omega) _).setCell (by show _ ≤ w.heap.size + 1 + 1; omega) _
  have er : w2.heap[rb]? = w.heap[rb]? := hB2.block rb hr0
  clear hw2 ho g0 g1 g2 g3 g4 hB1
  refine leaves_cons (f := 107) (args := #[.pointer (some ⟨w.heap.size + 1 + 1 + 1 + 1, 0, none⟩), .pointer (some ⟨w.heap.size, 0, none⟩), .pointer (some ⟨w.heap.size + 1, 0, none⟩), .pointer (some ⟨w.heap.size + 1 + 1, 0, none⟩)]) (by simp) (by simp [go_sem]) ?_
  refine (idleN _ _ _ _ (w.heap.size + 1 + 1 + 1) rb ro rest w2 (cell_one e4) (cell_one e0) (cell_one e3) (.string s) (cell_blk (a := ⟨rb, ro, none⟩) er h1) (froz_blk (a := ⟨rb, ro, none⟩) er h3)).mono ?_
  rintro e u' w3 ⟨rfl, rfl, rfl⟩
  have y1 : (w2.drew.setCell ⟨rb, ro, none⟩ (.string rest)).cell? ⟨w.heap.size + 1, 0, none⟩ = some (.int .i64 x) := cell_blk (w := w2) (setCell_blk (by show rb ≠ w.heap.size + 1; omega)) (cell_one e1)
  have y2 : (w2.drew.setCell ⟨rb, ro, none⟩ (.string rest)).cell? ⟨w.heap.size + 1 + 1, 0, none⟩ = some (.int .i64 0) := cell_blk (w := w2) (setCell_blk (by show rb ≠ w.heap.size + 1 + 1; omega)) (cell_one e2)
  have hB3 : Below w.heap.size (w.setCell ⟨rb, ro, none⟩ (.string rest)) (w2.drew.setCell ⟨rb, ro, none⟩ (.string rest)) := below_both hB2.drew _ _
  generalize w2.drew.setCell ⟨rb, ro, none⟩ (.string rest) = w3 at *
  clear e0 e1 e2 e3 e4 er hB2
  simp [Leaves, settle, results, Try.results94, go_sem, y1, y2]
  exact ⟨rfl, hB3⟩
set_option maxHeartbeats 2000000 in
theorem readN_lack (rb ro : Nat) (h : FuncId) (cap : Array Value) (s : ByteArray) (er : Int) (w : World) (hr0 : rb < w.heap.size) (h1 : w.cell? ⟨rb, ro, none⟩ = some (.string s)) (h2 : w.cell? ⟨rb, ro + 1, none⟩ = some (.int .i64 0)) (h3 : w.frozen? ⟨rb, ro, none⟩ = false) (h4 : w.frozen? ⟨rb, ro + 1, none⟩ = false)
    (he : ∀ args w, (callFunc h args).run Try.prog w = .ok (.enter h args) w) (H : HowLack h cap s er w) :
    Calls Try.prog 94 #[.pointer (some ⟨rb, ro, none⟩), .func (.func h) #[] cap] w (LackPost rb ro er (.int .i64 0) w) := by
  have hmf : ∀ (fn : Fn) (first cap : Array Value) (w : World), (Instr.makeFunc fn first cap).run Try.prog w = .ok (.func fn first cap) w := fun _ _ _ _ => rfl
  have k1 : ∀ o1 o2 o3, (((w.alloc o1).alloc o2).alloc o3).cell? ⟨rb, ro, none⟩ = some (.string s) := fun o1 o2 o3 =>
    ((((Below.refl _ w).alloc (Nat.le_refl _) o1).alloc (by simp) o2).alloc (by simp; omega) o3).cell (p := ⟨rb, ro, none⟩) hr0 |>.trans h1
  have k2 : ∀ o1 o2 o3, (((w.alloc o1).alloc o2).alloc o3).cell? ⟨rb, ro + 1, none⟩ = some (.int .i64 0) := fun o1 o2 o3 =>
    ((((Below.refl _ w).alloc (Nat.le_refl _) o1).alloc (by simp) o2).alloc (by simp; omega) o3).cell (p := ⟨rb, ro + 1, none⟩) hr0 |>.trans h2
  have HH := Go.Lib.hid H
  have HR := Go.Lib.hid hr0
  clear H hr0
  go_enter_defers Try.func94, Try.ntmps94
  go_wp2
  generalize hW : ((((w.alloc (Obj.cells #[Value.pointer (some { block := rb, off := ro })] 70)).alloc (Obj.cells #[(.int .i64 0)] 3)).alloc (Obj.cells #[.int .i64 0] 37)).alloc (Obj.cells #[Value.string s] 115)).alloc (Obj.cells #[Value.pointer (some { block := w.heap.size + 1 + 1 + 1, off := 0 })] 112) = W
  have hr0 : rb < w.heap.size := HR
  obtain ⟨b0, b1, b2, b3, b4, hsz⟩ := chain5 w _ _ _ _ _ W hW
  have hBW : Below w.heap.size w W := by
    rw [← hW]
    exact (((((Below.refl _ w).alloc (Nat.le_refl _) _).alloc (by simp) _).alloc (by simp; omega) _).alloc (by simp; omega) _).alloc (by simp; omega) _
  clear hW k1 k2
  have c3 : W.cell? ⟨w.heap.size + 1 + 1 + 1, 0, none⟩ = some (.string s) := cell_one b3
  refine ((HH : HowLack h cap s er w) (w.heap.size + 1 + 1 + 1) W hBW (by omega) (by omega) c3 (froz_one b3)).mono ?_
  rintro r w2 ⟨rfl, pv, hB⟩
  have hk : ∀ k, k < w.heap.size + 5 → k ≠ w.heap.size + 1 + 1 + 1 → w2.heap[k]? = W.heap[k]? := fun k h1 h2 => (hB.block k (by omega)).trans (setCell_blk (Ne.symm h2))
  have e0 : w2.heap[w.heap.size]? = _ := (hk _ (by omega) (by omega)).trans b0
  have e1 : w2.heap[w.heap.size + 1]? = _ := (hk _ (by omega) (by omega)).trans b1
  have e2 : w2.heap[w.heap.size + 1 + 1]? = _ := (hk _ (by omega) (by omega)).trans b2
  have hB2 : Below w.heap.size w w2 := (hBW.setCell (p := ⟨w.heap.size + 1 + 1 + 1, 0, none⟩) (by show _ ≤ w.heap.size + 1 + 1 + 1; omega) pv).trans (hB.mono (by omega))
  have hz2 : W.heap.size ≤ w2.heap.size := by have := hB.size; simpa [World.setCell] using this
  clear hk hB b0 b1 b2 b3 b4 c3 hBW
  have er1 : w2.heap[rb]? = w.heap[rb]? := hB2.block rb hr0
  refine leaves_cons (f := 107) (args := #[.pointer (some ⟨w.heap.size + 1 + 1 + 1 + 1, 0, none⟩), .pointer (some ⟨w.heap.size, 0, none⟩), .pointer (some ⟨w.heap.size + 1, 0, none⟩), .pointer (some ⟨w.heap.size + 1 + 1, 0, none⟩)]) (by simp) (by simp [go_sem]) ?_
  refine (caughtN _ _ _ _ rb ro er w2 (cell_one e0) (.int .i64 0) (.int .i64 0) (.string s) (.int .i64 0) (cell_one e1) (froz_one e1) (cell_one e2) (froz_one e2)
    (cell_blk (a := ⟨rb, ro, none⟩) er1 h1) (froz_blk (a := ⟨rb, ro, none⟩) er1 h3) (cell_blk (a := ⟨rb, ro + 1, none⟩) er1 h2) (froz_blk (a := ⟨rb, ro + 1, none⟩) er1 h4)
    (by omega) (by omega) (by omega) (by omega) (by omega) (by omega) (by omega) (by omega) (by omega) (by omega)).mono ?_
  rintro e u' w3 ⟨rfl, rfl, hw3⟩
  have n1 : rb ≠ w.heap.size + 1 := by omega
  have n2 : rb ≠ w.heap.size + 1 + 1 := by omega
  have lt1 : w.heap.size + 1 < w2.heap.size := by omega
  have lt2 : w.heap.size + 1 + 1 < w2.heap.size := by omega
  have y1 : w3.cell? ⟨w.heap.size + 1, 0, none⟩ = some (.int .i64 0) := by
    have z : w3.heap[w.heap.size + 1]? = some (Obj.cells #[(.int .i64 0)] 3) := by
      rw [hw3]
      show ((((((w2.alloc _).setCell _ _).setCell _ _).setCell _ _).setCell _ _)).heap[_]? = _
      rw [setCell_blk (by exact n1), setCell_blk (by exact n1), setCell_blk (by show w.heap.size + 1 + 1 ≠ w.heap.size + 1; omega), blk_setCell (by rw [alloc_get, if_neg (by omega)]; exact e1)]
      rfl
    exact cell_one z
  have y2 : w3.cell? ⟨w.heap.size + 1 + 1, 0, none⟩ = some (.int .i64 er) := by
    have z : w3.heap[w.heap.size + 1 + 1]? = some (Obj.cells #[.int .i64 er] 37) := by
      rw [hw3]
      show ((((((w2.alloc _).setCell _ _).setCell _ _).setCell _ _).setCell _ _)).heap[_]? = _
      rw [setCell_blk (by exact n2), setCell_blk (by exact n2), blk_setCell ((setCell_blk (by show w.heap.size + 1 ≠ w.heap.size + 1 + 1; omega)).trans (by rw [alloc_get, if_neg (by omega)]; exact e2))]
      rfl
    exact cell_one z
  have hB3 : Below w.heap.size ((w.setCell ⟨rb, ro, none⟩ (.string ⟨#[]⟩)).setCell ⟨rb, ro + 1, none⟩ (.int .i64 er)) w3 := by
    rw [hw3]
    exact (below_both (below_both (((((hB2.alloc (by omega) _).setCell (by show w.heap.size ≤ w.heap.size + 1; omega) _).setCell (by show w.heap.size ≤ w.heap.size + 1 + 1; omega) _).drew)) _ _) _ _).drew
  clear hw3 e0 e1 e2 er1 hB2 hz2 lt1 lt2 n1 n2 h1 h2 h3 h4 hsz
  simp [Leaves, settle, results, Try.results94, go_sem, y1, y2]
  exact ⟨rfl, hB3⟩
set_option maxHeartbeats 2000000 in
theorem readN_wrong (rb ro : Nat) (how : Value) (er : Int) (w : World) (hr0 : rb < w.heap.size) (h2 : w.cell? ⟨rb, ro + 1, none⟩ = some (.int .i64 er)) (hne : er ≠ 0) :
    Calls Try.prog 94 #[.pointer (some ⟨rb, ro, none⟩), how] w fun r w' => r = .returned (.tuple #[(.int .i64 0), .int .i64 er]) ∧ Below w.heap.size w w' := by
  have mixed := mixed
  have k2 : ∀ o1 o2 o3, (((w.alloc o1).alloc o2).alloc o3).cell? ⟨rb, ro + 1, none⟩ = some (.int .i64 er) := fun o1 o2 o3 =>
    ((((Below.refl _ w).alloc (Nat.le_refl _) o1).alloc (by simp) o2).alloc (by simp; omega) o3).cell (p := ⟨rb, ro + 1, none⟩) hr0 |>.trans h2
  have q1 : (⟨w.heap.size + 1, 0, none⟩ : Addr) ≠ ⟨rb, ro + 1, none⟩ := by intro e; have e := congrArg Addr.block e; simp at e; omega
  have hbne : (er != 0) = true := by simpa using hne
  clear h2 hr0 hne
  go_enter_defers Try.func94, Try.ntmps94
  go_wp2
  go_region_o
  all_goals go_wp2
  simp [bodyPostD, Leaves, results, Try.results94, go_sem]
  exact ((((Below.refl _ w).alloc (Nat.le_refl _) _).alloc (by simp) _).alloc (by simp; omega) _).drew
theorem readN_nil (how : Value) (w : World) :
    Calls Try.prog 94 #[.pointer none, how] w fun r w' => r = .returned (.tuple #[(.int .i64 0), .int .i64 2]) ∧ Below w.heap.size w w' := by
  go_enter_defers Try.func94, Try.ntmps94
  go_wp2
  simp [bodyPostD, Leaves, results, Try.results94, go_sem]
  exact (((Below.refl _ w).alloc (Nat.le_refl _) _).alloc (by simp) _).alloc (by simp; omega) _
end Go.Proofs.Rdr

namespace Go.Proofs.Rdr
open Go Go.RowKit Go.Proofs
set_option maxHeartbeats 400000 in
theorem idleS (pv rv xv ev pb rb ro : Nat) (s : ByteArray) (w : World) (h1 : w.cell? ⟨pv, 0, none⟩ = some (.pointer (some ⟨pb, 0, none⟩))) (h2 : w.cell? ⟨rv, 0, none⟩ = some (.pointer (some ⟨rb, ro, none⟩)))
    (h3 : w.cell? ⟨pb, 0, none⟩ = some (.string s)) (old : Value) (h4 : w.cell? ⟨rb, ro, none⟩ = some old) (h5 : w.frozen? ⟨rb, ro, none⟩ = false) :
    CallsD Try.prog 111 #[.pointer (some ⟨pv, 0, none⟩), .pointer (some ⟨rv, 0, none⟩), .pointer (some ⟨xv, 0, none⟩), .pointer (some ⟨ev, 0, none⟩)] .returning w fun e u' w' =>
      e = .returned (.tuple #[]) ∧ u' = .returning ∧ w' = w.drew.setCell ⟨rb, ro, none⟩ (.string s) := by
  have mixed := mixed
  refine callsD_of_wpS Try.func111 rfl fun c₀ cs hu => ?_
  apply wpS_seq
  apply wpS_region
  simp [wpOpsS, go_sem, recoverD, hu, Try.ntmps111, Exit.thenS]
  have hnil : ∀ w : World, (binOp BinOp.eql 20 .nilIface .nilIface).run Try.prog w = .ok (.bool true) w := fun _ => by kernel_rfl
  have g1 : w.drew.cell? ⟨pv, 0, none⟩ = some (.pointer (some ⟨pb, 0, none⟩)) := h1
  have g2 : w.drew.cell? ⟨rv, 0, none⟩ = some (.pointer (some ⟨rb, ro, none⟩)) := h2
  have g3 : w.drew.cell? ⟨pb, 0, none⟩ = some (.string s) := h3
  have g4 : w.drew.cell? ⟨rb, ro, none⟩ = some old := h4
  have g5 : w.drew.frozen? ⟨rb, ro, none⟩ = false := h5
  refine wpS_of_wp ?_
  have ht : (#[.pointer (some ⟨pv, 0, none⟩), .pointer (some ⟨rv, 0, none⟩), .pointer (some ⟨xv, 0, none⟩), .pointer (some ⟨ev, 0, none⟩)] ++ (Array.replicate 28 undef).setIfInBounds 4 Value.nilIface : Array Value) = #[.pointer (some ⟨pv, 0, none⟩), .pointer (some ⟨rv, 0, none⟩), .pointer (some ⟨xv, 0, none⟩), .pointer (some ⟨ev, 0, none⟩), undef, undef, undef, undef, .nilIface, undef, undef, undef, undef, undef, undef, undef, undef, undef, undef, undef, undef, undef, undef, undef, undef, undef, undef, undef, undef, undef, undef, undef] := by simp [Array.replicate, List.replicate]
  rw [ht]
  go_wp2
  go_region_o
  all_goals
    go_wp2
  cases c₀
  simp_all [bodyPostS, results, Try.results111]
set_option maxHeartbeats 2000000 in
theorem caughtS (pv rv xv ev rb ro : Nat) (er : Int) (w : World) (h2 : w.cell? ⟨rv, 0, none⟩ = some (.pointer (some ⟨rb, ro, none⟩)))
    (ox oe os or_ : Value) (h4 : w.cell? ⟨xv, 0, none⟩ = some ox) (h5 : w.frozen? ⟨xv, 0, none⟩ = false) (h6 : w.cell? ⟨ev, 0, none⟩ = some oe) (h7 : w.frozen? ⟨ev, 0, none⟩ = false)
    (h8 : w.cell? ⟨rb, ro, none⟩ = some os) (h9 : w.frozen? ⟨rb, ro, none⟩ = false) (h10 : w.cell? ⟨rb, ro + 1, none⟩ = some or_) (h11 : w.frozen? ⟨rb, ro + 1, none⟩ = false)
    (d1 : xv ≠ rv) (d2 : ev ≠ rv) (d3 : xv ≠ ev) (d4 : xv ≠ rb) (d5 : ev ≠ rb) (d6 : rb ≠ rv) (l1 : rv < w.heap.size) (l2 : xv < w.heap.size) (l3 : ev < w.heap.size) (l4 : rb < w.heap.size) :
    CallsD Try.prog 111 #[.pointer (some ⟨pv, 0, none⟩), .pointer (some ⟨rv, 0, none⟩), .pointer (some ⟨xv, 0, none⟩), .pointer (some ⟨ev, 0, none⟩)] (.panicking [{ lackE er with recovered := false }]) w fun e u' w' =>
      e = .returned (.tuple #[]) ∧ u' = .panicking [{ lackE er with recovered := true }] ∧
      w' = (((((w.alloc (.cells #[.int .i64 er] 143)).setCell ⟨xv, 0, none⟩ (.string ⟨#[]⟩)).setCell ⟨ev, 0, none⟩ (.int .i64 er)).drew.setCell ⟨rb, ro, none⟩ (.string ⟨#[]⟩)).setCell ⟨rb, ro + 1, none⟩ (.int .i64 er)).drew := by
  have mixed := mixed
  unfold lackE
  refine callsD_of_wpS Try.func111 rfl fun c₀ cs hu => ?_
  apply wpS_seq
  apply wpS_region
  simp [wpOpsS, go_sem, recoverD, hu, Try.ntmps111, Exit.thenS]
  have hnil : ∀ w : World, (binOp BinOp.eql 20 (.iface 143 (.agg #[.int .i64 er])) .nilIface).run Try.prog w = .ok (.bool false) w := fun _ => by kernel_rfl
  have hta : ∀ w : World, (Instr.typeAssert (.iface 143 (.agg #[.int .i64 er])) 20 143 true).run Try.prog w = .ok (.tuple #[.agg #[.int .i64 er], .bool true]) w := fun _ => by kernel_rfl
  refine wpS_of_wp ?_
  have ht : (#[.pointer (some ⟨pv, 0, none⟩), .pointer (some ⟨rv, 0, none⟩), .pointer (some ⟨xv, 0, none⟩), .pointer (some ⟨ev, 0, none⟩)] ++ (Array.replicate 28 undef).setIfInBounds 4 (.iface 143 (.agg #[.int .i64 er])) : Array Value) = #[.pointer (some ⟨pv, 0, none⟩), .pointer (some ⟨rv, 0, none⟩), .pointer (some ⟨xv, 0, none⟩), .pointer (some ⟨ev, 0, none⟩), undef, undef, undef, undef, (.iface 143 (.agg #[.int .i64 er])), undef, undef, undef, undef, undef, undef, undef, undef, undef, undef, undef, undef, undef, undef, undef, undef, undef, undef, undef, undef, undef, undef, undef] := by simp [Array.replicate, List.replicate]
  rw [ht]
  have HB : Below w.heap.size w (w.alloc (.cells #[.int .i64 er] 143)) := (Below.refl _ w).alloc (Nat.le_refl _) _
  have hl : (w.alloc (.cells #[.int .i64 er] 143)).cell? ⟨w.heap.size, 0, none⟩ = some (.int .i64 er) := by simp [go_sem]
  have k2 := (HB.cell (p := ⟨rv, 0, none⟩) l1).trans h2
  have k4 := (HB.cell (p := ⟨xv, 0, none⟩) l2).trans h4
  have k5 := (HB.frozen (p := ⟨xv, 0, none⟩) l2).trans h5
  have k6 := (HB.cell (p := ⟨ev, 0, none⟩) l3).trans h6
  have k7 := (HB.frozen (p := ⟨ev, 0, none⟩) l3).trans h7
  have k8 := (HB.cell (p := ⟨rb, ro, none⟩) l4).trans h8
  have k9 := (HB.frozen (p := ⟨rb, ro, none⟩) l4).trans h9
  have k10 := (HB.cell (p := ⟨rb, ro + 1, none⟩) l4).trans h10
  have k11 := (HB.frozen (p := ⟨rb, ro + 1, none⟩) l4).trans h11
  have n1 : w.heap.size ≠ xv := by omega
  have n2 : w.heap.size ≠ ev := by omega
  have n3 : rb ≠ w.heap.size := by omega
  go_wp2
  clear HB h2 h4 h5 h6 h7 h8 h9 h10 h11 l1 l2 l3 l4
  generalize w.heap.size = lb at *
  generalize hw1 : w.alloc (.cells #[.int .i64 er] 143) = w1 at *
  have HW1 := Go.Lib.hid hw1
  clear hw1
  have q2 : (⟨xv, 0, none⟩ : Addr) ≠ ⟨rv, 0, none⟩ := fun e => d1 (congrArg Addr.block e)
  have q3 : (⟨ev, 0, none⟩ : Addr) ≠ ⟨rv, 0, none⟩ := fun e => d2 (congrArg Addr.block e)
  go_region_o
  all_goals go_wp2
  have f1 : ∀ (a : Addr) (v : Value), a.block ≠ xv → a.block ≠ ev → w1.cell? a = some v → (((w1.setCell ⟨xv, 0, none⟩ (.string ⟨#[]⟩)).setCell ⟨ev, 0, none⟩ (.int .i64 er)).drew).cell? a = some v := by
    intro a v a1 a2 h
    have e1 : (⟨ev, 0, none⟩ : Addr) ≠ a := fun e => a2 (by rw [← e])
    have e2 : (⟨xv, 0, none⟩ : Addr) ≠ a := fun e => a1 (by rw [← e])
    show ((w1.setCell ⟨xv, 0, none⟩ (.string ⟨#[]⟩)).setCell ⟨ev, 0, none⟩ (.int .i64 er)).cell? a = some v
    rw [World.cell?_setCell_other _ _ _ _ e1, World.cell?_setCell_other _ _ _ _ e2]; exact h
  have f2 : ∀ (a : Addr), w1.frozen? a = false → (((w1.setCell ⟨xv, 0, none⟩ (.string ⟨#[]⟩)).setCell ⟨ev, 0, none⟩ (.int .i64 er)).drew).frozen? a = false := by
    intro a h
    show ((w1.setCell ⟨xv, 0, none⟩ (.string ⟨#[]⟩)).setCell ⟨ev, 0, none⟩ (.int .i64 er)).frozen? a = false
    simp [go_sem, h]
  have z2 := f1 _ _ (Ne.symm d1) (Ne.symm d2) k2
  have z8 := f1 _ _ (Ne.symm d4) (Ne.symm d5) k8
  have z9 := f2 _ k9
  have z10 := f1 _ _ (Ne.symm d4) (Ne.symm d5) k10
  have z11 := f2 _ k11
  have zl := f1 _ _ n1 n2 hl
  clear f1 f2 k2 k4 k5 k6 k7 k8 k9 k10 k11 hl q2 q3
  generalize hw2 : ((w1.setCell ⟨xv, 0, none⟩ (.string ⟨#[]⟩)).setCell ⟨ev, 0, none⟩ (.int .i64 er)).drew = w2 at *
  have HW2 := Go.Lib.hid hw2
  clear hw2
  have q4 : (⟨rb, ro, none⟩ : Addr) ≠ ⟨lb, 0, none⟩ := fun e => n3 (congrArg Addr.block e)
  have q5 : (⟨rb, ro, none⟩ : Addr) ≠ ⟨rv, 0, none⟩ := fun e => d6 (congrArg Addr.block e)
  go_region_o
  all_goals go_wp2
  have e1 : w.alloc (.cells #[.int .i64 er] 143) = w1 := HW1
  have e2 : ((w1.setCell ⟨xv, 0, none⟩ (.string ⟨#[]⟩)).setCell ⟨ev, 0, none⟩ (.int .i64 er)).drew = w2 := HW2
  refine ⟨rfl, _, rfl, .tuple #[], ?_, rfl, rfl, ?_⟩
  · simp [results, Try.results111]
  · rw [e1, ← e2]; rfl
set_option maxHeartbeats 2000000 in
theorem readS_ok (rb ro : Nat) (h : FuncId) (cap : Array Value) (s rest : ByteArray) (x : ByteArray) (w : World) (hr0 : rb < w.heap.size) (h1 : w.cell? ⟨rb, ro, none⟩ = some (.string s)) (h2 : w.cell? ⟨rb, ro + 1, none⟩ = some (.int .i64 0)) (h3 : w.frozen? ⟨rb, ro, none⟩ = false)
    (he : ∀ args w, (callFunc h args).run Try.prog w = .ok (.enter h args) w) (H : HowOk h cap s rest (.string x) w) :
    Calls Try.prog 104 #[.pointer (some ⟨rb, ro, none⟩), .func (.func h) #[] cap] w (ReadPost rb ro rest (.string x) w) := by
  have hmf : ∀ (fn : Fn) (first cap : Array Value) (w : World), (Instr.makeFunc fn first cap).run Try.prog w = .ok (.func fn first cap) w := fun _ _ _ _ => rfl
  have k1 : ∀ o1 o2 o3, (((w.alloc o1).alloc o2).alloc o3).cell? ⟨rb, ro, none⟩ = some (.string s) := fun o1 o2 o3 =>
    ((((Below.refl _ w).alloc (Nat.le_refl _) o1).alloc (by simp) o2).alloc (by simp; omega) o3).cell (p := ⟨rb, ro, none⟩) hr0 |>.trans h1
  have k2 : ∀ o1 o2 o3, (((w.alloc o1).alloc o2).alloc o3).cell? ⟨rb, ro + 1, none⟩ = some (.int .i64 0) := fun o1 o2 o3 =>
    ((((Below.refl _ w).alloc (Nat.le_refl _) o1).alloc (by simp) o2).alloc (by simp; omega) o3).cell (p := ⟨rb, ro + 1, none⟩) hr0 |>.trans h2
  have HH := Go.Lib.hid H
  have HR := Go.Lib.hid hr0
  clear H hr0
  go_enter_defers Try.func104, Try.ntmps104
  go_wp2
  generalize hW : ((((w.alloc (Obj.cells #[Value.pointer (some { block := rb, off := ro })] 70)).alloc (Obj.cells #[(.string ⟨#[]⟩)] 9)).alloc (Obj.cells #[.int .i64 0] 37)).alloc (Obj.cells #[Value.string s] 115)).alloc (Obj.cells #[Value.pointer (some { block := w.heap.size + 1 + 1 + 1, off := 0 })] 112) = W
  have hr0 : rb < w.heap.size := HR
  obtain ⟨b0, b1, b2, b3, b4, hsz⟩ := chain5 w _ _ _ _ _ W hW
  have hBW : Below w.heap.size w W := by
    rw [← hW]
    exact (((((Below.refl _ w).alloc (Nat.le_refl _) _).alloc (by simp) _).alloc (by simp; omega) _).alloc (by simp; omega) _).alloc (by simp; omega) _
  clear hW k1 k2
  have c3 : W.cell? ⟨w.heap.size + 1 + 1 + 1, 0, none⟩ = some (.string s) := cell_one b3
  refine ((HH : HowOk h cap s rest (.string x) w) (w.heap.size + 1 + 1 + 1) W hBW (by omega) (by omega) c3 (froz_one b3)).mono ?_
  rintro r w1 ⟨rfl, hB⟩
  have hk : ∀ k, k < w.heap.size + 5 → k ≠ w.heap.size + 1 + 1 + 1 → w1.heap[k]? = W.heap[k]? := fun k h1 h2 => (hB.block k (by omega)).trans (setCell_blk (Ne.symm h2))
  have d0 : w1.heap[w.heap.size]? = _ := (hk _ (by omega) (by omega)).trans b0
  have d1 : w1.heap[w.heap.size + 1]? = _ := (hk _ (by omega) (by omega)).trans b1
  have d2 : w1.heap[w.heap.size + 1 + 1]? = _ := (hk _ (by omega) (by omega)).trans b2
  have d3 : w1.heap[w.heap.size + 1 + 1 + 1]? = some (Obj.cells #[Value.string rest] 115) := by
    rw [hB.block _ (by omega), blk_setCell b3]; rfl
  have d4 : w1.heap[w.heap.size + 1 + 1 + 1 + 1]? = _ := (hk _ (by omega) (by omega)).trans b4
  have hB1 : Below w.heap.size w w1 := (hBW.setCell (p := ⟨w.heap.size + 1 + 1 + 1, 0, none⟩) (by show _ ≤ w.heap.size + 1 + 1 + 1; omega) (.string rest)).trans (hB.mono (by omega))
  clear hk hB b0 b1 b2 b3 b4 c3 hBW
  have x1 : w1.cell? ⟨w.heap.size + 1, 0, none⟩ = some (.string ⟨#[]⟩) := cell_one d1
  have x2 : w1.frozen? ⟨w.heap.size + 1, 0, none⟩ = false := froz_one d1
  have x3 : w1.cell? ⟨w.heap.size + 1 + 1, 0, none⟩ = some (.int .i64 0) := cell_one d2
  have x4 : w1.frozen? ⟨w.heap.size + 1 + 1, 0, none⟩ = false := froz_one d2
  have HD := Go.Lib.hid d0
  have HD1 := Go.Lib.hid d1
  have HD2 := Go.Lib.hid d2
  have HD3 := Go.Lib.hid d3
  have HD4 := Go.Lib.hid d4
  have HZ := Go.Lib.hid hsz
  have h1 := Go.Lib.hid h1
  have h3 := Go.Lib.hid h3
  clear d0 d1 d2 d3 d4 hsz h2 hr0
  go_wp2
  have hr0 : rb < w.heap.size := HR
  have g0 := (HD : w1.heap[w.heap.size]? = _)
  have g1 := (HD1 : w1.heap[w.heap.size + 1]? = _)
  have g2 := (HD2 : w1.heap[w.heap.size + 1 + 1]? = _)
  have g3 := (HD3 : w1.heap[w.heap.size + 1 + 1 + 1]? = _)
  have g4 := (HD4 : w1.heap[w.heap.size + 1 + 1 + 1 + 1]? = _)
  clear HD HD1 HD2 HD3 HD4 HZ HR HH x1 x2 x3 x4
  generalize hw2 : (w1.setCell { block := w.heap.size + 1, off := 0 } (.string x)).setCell { block := w.heap.size + 1 + 1, off := 0 } (Value.int IntKind.i64 0) = w2
  have ho : ∀ k, k ≠ w.heap.size + 1 → k ≠ w.heap.size + 1 + 1 → w2.heap[k]? = w1.heap[k]? := fun k a1 a2 => by rw [← hw2, setCell_blk (by exact Ne.symm a2), setCell_blk (by exact Ne.symm a1)]
  have e0 := (ho _ (by omega) (by omega)).trans g0
  have e3 := (ho _ (by omega) (by omega)).trans g3
  have e4 := (ho _ (by omega) (by omega)).trans g4
  have e1 : w2.heap[w.heap.size + 1]? = some (Obj.cells #[(.string x)] 9) := by rw [← hw2, setCell_blk (by show w.heap.size + 1 + 1 ≠ _; omega), blk_setCell g1]; rfl
  have e2 : w2.heap[w.heap.size + 1 + 1]? = some (Obj.cells #[.int .i64 0] 37) := by rw [← hw2, blk_setCell ((setCell_blk (by show w.heap.size + 1 ≠ _; omega)).trans g2)]; rfl
  have hB2 : Below w.heap.size w w2 := by rw [← hw2]; exact (hB1.setCell (by show _ ≤ w.heap.size + 1; omega) _).setCell (by show _ ≤ w.heap.size + 1 + 1; omega) _
  have er : w2.heap[rb]? = w.heap[rb]? := hB2.block rb hr0
  clear hw2 ho g0 g1 g2 g3 g4 hB1
  refine leaves_cons (f := 111) (args := #[.pointer (some ⟨w.heap.size + 1 + 1 + 1 + 1, 0, none⟩), .pointer (some ⟨w.heap.size, 0, none⟩), .pointer (some ⟨w.heap.size + 1, 0, none⟩), .pointer (some ⟨w.heap.size + 1 + 1, 0, none⟩)]) (by simp) (by simp [go_sem]) ?_
  refine (idleS _ _ _ _ (w.heap.size + 1 + 1 + 1) rb ro rest w2 (cell_one e4) (cell_one e0) (cell_one e3) (.string s) (cell_blk (a := ⟨rb, ro, none⟩) er h1) (froz_blk (a := ⟨rb, ro, none⟩) er h3)).mono ?_
  rintro e u' w3 ⟨rfl, rfl, rfl⟩
  have y1 : (w2.drew.setCell ⟨rb, ro, none⟩ (.string rest)).cell? ⟨w.heap.size + 1, 0, none⟩ = some (.string x) := cell_blk (w := w2) (setCell_blk (by show rb ≠ w.heap.size + 1; omega)) (cell_one e1)
  have y2 : (w2.drew.setCell ⟨rb, ro, none⟩ (.string rest)).cell? ⟨w.heap.size + 1 + 1, 0, none⟩ = some (.int .i64 0) := cell_blk (w := w2) (setCell_blk (by show rb ≠ w.heap.size + 1 + 1; omega)) (cell_one e2)
  have hB3 : Below w.heap.size (w.setCell ⟨rb, ro, none⟩ (.string rest)) (w2.drew.setCell ⟨rb, ro, none⟩ (.string rest)) := below_both hB2.drew _ _
  generalize w2.drew.setCell ⟨rb, ro, none⟩ (.string rest) = w3 at *
  clear e0 e1 e2 e3 e4 er hB2
  simp [Leaves, settle, results, Try.results104, go_sem, y1, y2]
  exact ⟨rfl, hB3⟩
set_option maxHeartbeats 2000000 in
theorem readS_lack (rb ro : Nat) (h : FuncId) (cap : Array Value) (s : ByteArray) (er : Int) (w : World) (hr0 : rb < w.heap.size) (h1 : w.cell? ⟨rb, ro, none⟩ = some (.string s)) (h2 : w.cell? ⟨rb, ro + 1, none⟩ = some (.int .i64 0)) (h3 : w.frozen? ⟨rb, ro, none⟩ = false) (h4 : w.frozen? ⟨rb, ro + 1, none⟩ = false)
    (he : ∀ args w, (callFunc h args).run Try.prog w = .ok (.enter h args) w) (H : HowLack h cap s er w) :
    Calls Try.prog 104 #[.pointer (some ⟨rb, ro, none⟩), .func (.func h) #[] cap] w (LackPost rb ro er (.string ⟨#[]⟩) w) := by
  have hmf : ∀ (fn : Fn) (first cap : Array Value) (w : World), (Instr.makeFunc fn first cap).run Try.prog w = .ok (.func fn first cap) w := fun _ _ _ _ => rfl
  have k1 : ∀ o1 o2 o3, (((w.alloc o1).alloc o2).alloc o3).cell? ⟨rb, ro, none⟩ = some (.string s) := fun o1 o2 o3 =>
    ((((Below.refl _ w).alloc (Nat.le_refl _) o1).alloc (by simp) o2).alloc (by simp; omega) o3).cell (p := ⟨rb, ro, none⟩) hr0 |>.trans h1
  have k2 : ∀ o1 o2 o3, (((w.alloc o1).alloc o2).alloc o3).cell? ⟨rb, ro + 1, none⟩ = some (.int .i64 0) := fun o1 o2 o3 =>
    ((((Below.refl _ w).alloc (Nat.le_refl _) o1).alloc (by simp) o2).alloc (by simp; omega) o3).cell (p := ⟨rb, ro + 1, none⟩) hr0 |>.trans h2
  have HH := Go.Lib.hid H
  have HR := Go.Lib.hid hr0
  clear H hr0
  go_enter_defers Try.func104, Try.ntmps104
  go_wp2
  generalize hW : ((((w.alloc (Obj.cells #[Value.pointer (some { block := rb, off := ro })] 70)).alloc (Obj.cells #[(.string ⟨#[]⟩)] 9)).alloc (Obj.cells #[.int .i64 0] 37)).alloc (Obj.cells #[Value.string s] 115)).alloc (Obj.cells #[Value.pointer (some { block := w.heap.size + 1 + 1 + 1, off := 0 })] 112) = W
  have hr0 : rb < w.heap.size := HR
  obtain ⟨b0, b1, b2, b3, b4, hsz⟩ := chain5 w _ _ _ _ _ W hW
  have hBW : Below w.heap.size w W := by
    rw [← hW]
    exact (((((Below.refl _ w).alloc (Nat.le_refl _) _).alloc (by simp) _).alloc (by simp; omega) _).alloc (by simp; omega) _).alloc (by simp; omega) _
  clear hW k1 k2
  have c3 : W.cell? ⟨w.heap.size + 1 + 1 + 1, 0, none⟩ = some (.string s) := cell_one b3
  refine ((HH : HowLack h cap s er w) (w.heap.size + 1 + 1 + 1) W hBW (by omega) (by omega) c3 (froz_one b3)).mono ?_
  rintro r w2 ⟨rfl, pv, hB⟩
  have hk : ∀ k, k < w.heap.size + 5 → k ≠ w.heap.size + 1 + 1 + 1 → w2.heap[k]? = W.heap[k]? := fun k h1 h2 => (hB.block k (by omega)).trans (setCell_blk (Ne.symm h2))
  have e0 : w2.heap[w.heap.size]? = _ := (hk _ (by omega) (by omega)).trans b0
  have e1 : w2.heap[w.heap.size + 1]? = _ := (hk _ (by omega) (by omega)).trans b1
  have e2 : w2.heap[w.heap.size + 1 + 1]? = _ := (hk _ (by omega) (by omega)).trans b2
  have hB2 : Below w.heap.size w w2 := (hBW.setCell (p := ⟨w.heap.size + 1 + 1 + 1, 0, none⟩) (by show _ ≤ w.heap.size + 1 + 1 + 1; omega) pv).trans (hB.mono (by omega))
  have hz2 : W.heap.size ≤ w2.heap.size := by have := hB.size; simpa [World.setCell] using this
  clear hk hB b0 b1 b2 b3 b4 c3 hBW
  have er1 : w2.heap[rb]? = w.heap[rb]? := hB2.block rb hr0
  refine leaves_cons (f := 111) (args := #[.pointer (some ⟨w.heap.size + 1 + 1 + 1 + 1, 0, none⟩), .pointer (some ⟨w.heap.size, 0, none⟩), .pointer (some ⟨w.heap.size + 1, 0, none⟩), .pointer (some ⟨w.heap.size + 1 + 1, 0, none⟩)]) (by simp) (by simp [go_sem]) ?_
  refine (caughtS _ _ _ _ rb ro er w2 (cell_one e0) (.string ⟨#[]⟩) (.int .i64 0) (.string s) (.int .i64 0) (cell_one e1) (froz_one e1) (cell_one e2) (froz_one e2)
    (cell_blk (a := ⟨rb, ro, none⟩) er1 h1) (froz_blk (a := ⟨rb, ro, none⟩) er1 h3) (cell_blk (a := ⟨rb, ro + 1, none⟩) er1 h2) (froz_blk (a := ⟨rb, ro + 1, none⟩) er1 h4)
    (by omega) (by omega) (by omega) (by omega) (by omega) (by omega) (by omega) (by omega) (by omega) (by omega)).mono ?_
  rintro e u' w3 ⟨rfl, rfl, hw3⟩
  have n1 : rb ≠ w.heap.size + 1 := by omega
  have n2 : rb ≠ w.heap.size + 1 + 1 := by omega
  have lt1 : w.heap.size + 1 < w2.heap.size := by omega
  have lt2 : w.heap.size + 1 + 1 < w2.heap.size := by omega
  have y1 : w3.cell? ⟨w.heap.size + 1, 0, none⟩ = some (.string ⟨#[]⟩) := by
    have z : w3.heap[w.heap.size + 1]? = some (Obj.cells #[(.string ⟨#[]⟩)] 9) := by
      rw [hw3]
      show ((((((w2.alloc _).setCell _ _).setCell _ _).setCell _ _).setCell _ _)).heap[_]? = _
      rw [setCell_blk (by exact n1), setCell_blk (by exact n1), setCell_blk (by show w.heap.size + 1 + 1 ≠ w.heap.size + 1; omega), blk_setCell (by rw [alloc_get, if_neg (by omega)]; exact e1)]
      rfl
    exact cell_one z
  have y2 : w3.cell? ⟨w.heap.size + 1 + 1, 0, none⟩ = some (.int .i64 er) := by
    have z : w3.heap[w.heap.size + 1 + 1]? = some (Obj.cells #[.int .i64 er] 37) := by
      rw [hw3]
      show ((((((w2.alloc _).setCell _ _).setCell _ _).setCell _ _).setCell _ _)).heap[_]? = _
      rw [setCell_blk (by exact n2), setCell_blk (by exact n2), blk_setCell ((setCell_blk (by show w.heap.size + 1 ≠ w.heap.size + 1 + 1; omega)).trans (by rw [alloc_get, if_neg (by omega)]; exact e2))]
      rfl
    exact cell_one z
  have hB3 : Below w.heap.size ((w.setCell ⟨rb, ro, none⟩ (.string ⟨#[]⟩)).setCell ⟨rb, ro + 1, none⟩ (.int .i64 er)) w3 := by
    rw [hw3]
    exact (below_both (below_both (((((hB2.alloc (by omega) _).setCell (by show w.heap.size ≤ w.heap.size + 1; omega) _).setCell (by show w.heap.size ≤ w.heap.size + 1 + 1; omega) _).drew)) _ _) _ _).drew
  clear hw3 e0 e1 e2 er1 hB2 hz2 lt1 lt2 n1 n2 h1 h2 h3 h4 hsz
  simp [Leaves, settle, results, Try.results104, go_sem, y1, y2]
  exact ⟨rfl, hB3⟩
set_option maxHeartbeats 2000000 in
theorem readS_wrong (rb ro : Nat) (how : Value) (er : Int) (w : World) (hr0 : rb < w.heap.size) (h2 : w.cell? ⟨rb, ro + 1, none⟩ = some (.int .i64 er)) (hne : er ≠ 0) :
    Calls Try.prog 104 #[.pointer (some ⟨rb, ro, none⟩), how] w fun r w' => r = .returned (.tuple #[(.string ⟨#[]⟩), .int .i64 er]) ∧ Below w.heap.size w w' := by
  have mixed := mixed
  have k2 : ∀ o1 o2 o3, (((w.alloc o1).alloc o2).alloc o3).cell? ⟨rb, ro + 1, none⟩ = some (.int .i64 er) := fun o1 o2 o3 =>
    ((((Below.refl _ w).alloc (Nat.le_refl _) o1).alloc (by simp) o2).alloc (by simp; omega) o3).cell (p := ⟨rb, ro + 1, none⟩) hr0 |>.trans h2
  have q1 : (⟨w.heap.size + 1, 0, none⟩ : Addr) ≠ ⟨rb, ro + 1, none⟩ := by intro e; have e := congrArg Addr.block e; simp at e; omega
  have hbne : (er != 0) = true := by simpa using hne
  clear h2 hr0 hne
  go_enter_defers Try.func104, Try.ntmps104
  go_wp2
  go_region_o
  all_goals go_wp2
  simp [bodyPostD, Leaves, results, Try.results104, go_sem]
  exact ((((Below.refl _ w).alloc (Nat.le_refl _) _).alloc (by simp) _).alloc (by simp; omega) _).drew
theorem readS_nil (how : Value) (w : World) :
    Calls Try.prog 104 #[.pointer none, how] w fun r w' => r = .returned (.tuple #[(.string ⟨#[]⟩), .int .i64 2]) ∧ Below w.heap.size w w' := by
  go_enter_defers Try.func104, Try.ntmps104
  go_wp2
  simp [bodyPostD, Leaves, results, Try.results104, go_sem]
  exact (((Below.refl _ w).alloc (Nat.le_refl _) _).alloc (by simp) _).alloc (by simp; omega) _
end Go.Proofs.Rdr

namespace Go.Proofs.Rdr
open Go Go.RowKit Go.Proofs
set_option maxHeartbeats 400000 in
theorem idleB (pv rv xv ev pb rb ro : Nat) (s : ByteArray) (w : World) (h1 : w.cell? ⟨pv, 0, none⟩ = some (.pointer (some ⟨pb, 0, none⟩))) (h2 : w.cell? ⟨rv, 0, none⟩ = some (.pointer (some ⟨rb, ro, none⟩)))
    (h3 : w.cell? ⟨pb, 0, none⟩ = some (.string s)) (old : Value) (h4 : w.cell? ⟨rb, ro, none⟩ = some old) (h5 : w.frozen? ⟨rb, ro, none⟩ = false) :
    CallsD Try.prog 42 #[.pointer (some ⟨pv, 0, none⟩), .pointer (some ⟨rv, 0, none⟩), .pointer (some ⟨xv, 0, none⟩), .pointer (some ⟨ev, 0, none⟩)] .returning w fun e u' w' =>
      e = .returned (.tuple #[]) ∧ u' = .returning ∧ w' = w.drew.setCell ⟨rb, ro, none⟩ (.string s) := by
  have mixed := mixed
  refine callsD_of_wpS Try.func42 rfl fun c₀ cs hu => ?_
  apply wpS_seq
  apply wpS_region
  simp [wpOpsS, go_sem, recoverD, hu, Try.ntmps42, Exit.thenS]
  have hnil : ∀ w : World, (binOp BinOp.eql 20 .nilIface .nilIface).run Try.prog w = .ok (.bool true) w := fun _ => by kernel_rfl
  have g1 : w.drew.cell? ⟨pv, 0, none⟩ = some (.pointer (some ⟨pb, 0, none⟩)) := h1
  have g2 : w.drew.cell? ⟨rv, 0, none⟩ = some (.pointer (some ⟨rb, ro, none⟩)) := h2
  have g3 : w.drew.cell? ⟨pb, 0, none⟩ = some (.string s) := h3
  have g4 : w.drew.cell? ⟨rb, ro, none⟩ = some old := h4
  have g5 : w.drew.frozen? ⟨rb, ro, none⟩ = false := h5
  refine wpS_of_wp ?_
  have ht : (#[.pointer (some ⟨pv, 0, none⟩), .pointer (some ⟨rv, 0, none⟩), .pointer (some ⟨xv, 0, none⟩), .pointer (some ⟨ev, 0, none⟩)] ++ (Array.replicate 28 undef).setIfInBounds 4 Value.nilIface : Array Value) = #[.pointer (some ⟨pv, 0, none⟩), .pointer (some ⟨rv, 0, none⟩), .pointer (some ⟨xv, 0, none⟩), .pointer (some ⟨ev, 0, none⟩), undef, undef, undef, undef, .nilIface, undef, undef, undef, undef, undef, undef, undef, undef, undef, undef, undef, undef, undef, undef, undef, undef, undef, undef, undef, undef, undef, undef, undef] := by simp [Array.replicate, List.replicate]
  rw [ht]
  go_wp2
  go_region_o
  all_goals
    go_wp2
  cases c₀
  simp_all [bodyPostS, results, Try.results42]
set_option maxHeartbeats 2000000 in
theorem caughtB (pv rv xv ev rb ro : Nat) (er : Int) (w : World) (h2 : w.cell? ⟨rv, 0, none⟩ = some (.pointer (some ⟨rb, ro, none⟩)))
    (ox oe os or_ : Value) (h4 : w.cell? ⟨xv, 0, none⟩ = some ox) (h5 : w.frozen? ⟨xv, 0, none⟩ = false) (h6 : w.cell? ⟨ev, 0, none⟩ = some oe) (h7 : w.frozen? ⟨ev, 0, none⟩ = false)
    (h8 : w.cell? ⟨rb, ro, none⟩ = some os) (h9 : w.frozen? ⟨rb, ro, none⟩ = false) (h10 : w.cell? ⟨rb, ro + 1, none⟩ = some or_) (h11 : w.frozen? ⟨rb, ro + 1, none⟩ = false)
    (d1 : xv ≠ rv) (d2 : ev ≠ rv) (d3 : xv ≠ ev) (d4 : xv ≠ rb) (d5 : ev ≠ rb) (d6 : rb ≠ rv) (l1 : rv < w.heap.size) (l2 : xv < w.heap.size) (l3 : ev < w.heap.size) (l4 : rb < w.heap.size) :
    CallsD Try.prog 42 #[.pointer (some ⟨pv, 0, none⟩), .pointer (some ⟨rv, 0, none⟩), .pointer (some ⟨xv, 0, none⟩), .pointer (some ⟨ev, 0, none⟩)] (.panicking [{ lackE er with recovered := false }]) w fun e u' w' =>
      e = .returned (.tuple #[]) ∧ u' = .panicking [{ lackE er with recovered := true }] ∧
      w' = (((((w.alloc (.cells #[.int .i64 er] 143)).setCell ⟨xv, 0, none⟩ (.bool false)).setCell ⟨ev, 0, none⟩ (.int .i64 er)).drew.setCell ⟨rb, ro, none⟩ (.string ⟨#[]⟩)).setCell ⟨rb, ro + 1, none⟩ (.int .i64 er)).drew := by
  have mixed := mixed
  unfold lackE
  refine callsD_of_wpS Try.func42 rfl fun c₀ cs hu => ?_
  apply wpS_seq
  apply wpS_region
  simp [wpOpsS, go_sem, recoverD, hu, Try.ntmps42, Exit.thenS]
  have hnil : ∀ w : World, (binOp BinOp.eql 20 (.iface 143 (.agg #[.int .i64 er])) .nilIface).run Try.prog w = .ok (.bool false) w := fun _ => by kernel_rfl
  have hta : ∀ w : World, (Instr.typeAssert (.iface 143 (.agg #[.int .i64 er])) 20 143 true).run Try.prog w = .ok (.tuple #[.agg #[.int .i64 er], .bool true]) w := fun _ => by kernel_rfl
  refine wpS_of_wp ?_
  have ht : (#[.pointer (some ⟨pv, 0, none⟩), .pointer (some ⟨rv, 0, none⟩), .pointer (some ⟨xv, 0, none⟩), .pointer (some ⟨ev, 0, none⟩)] ++ (Array.replicate 28 undef).setIfInBounds 4 (.iface 143 (.agg #[.int .i64 er])) : Array Value) = #[.pointer (some ⟨pv, 0, none⟩), .pointer (some ⟨rv, 0, none⟩), .pointer (some ⟨xv, 0, none⟩), .pointer (some ⟨ev, 0, none⟩), undef, undef, undef, undef, (.iface 143 (.agg #[.int .i64 er])), undef, undef, undef, undef, undef, undef, undef, undef, undef, undef, undef, undef, undef, undef, undef, undef, undef, undef, undef, undef, undef, undef, undef] := by simp [Array.replicate, List.replicate]
  rw [ht]
  have HB : Below w.heap.size w (w.alloc (.cells #[.int .i64 er] 143)) := (Below.refl _ w).alloc (Nat.le_refl _) _
  have hl : (w.alloc (.cells #[.int .i64 er] 143)).cell? ⟨w.heap.size, 0, none⟩ = some (.int .i64 er) := by simp [go_sem]
  have k2 := (HB.cell (p := ⟨rv, 0, none⟩) l1).trans h2
  have k4 := (HB.cell (p := ⟨xv, 0, none⟩) l2).trans h4
  have k5 := (HB.frozen (p := ⟨xv, 0, none⟩) l2).trans h5
  have k6 := (HB.cell (p := ⟨ev, 0, none⟩) l3).trans h6
  have k7 := (HB.frozen (p := ⟨ev, 0, none⟩) l3).trans h7
  have k8 := (HB.cell (p := ⟨rb, ro, none⟩) l4).trans h8
  have k9 := (HB.frozen (p := ⟨rb, ro, none⟩) l4).trans h9
  have k10 := (HB.cell (p := ⟨rb, ro + 1, none⟩) l4).trans h10
  have k11 := (HB.frozen (p := ⟨rb, ro + 1, none⟩) l4).trans h11
  have n1 : w.heap.size ≠ xv := by omega
  have n2 : w.heap.size ≠ ev := by omega
  have n3 : rb ≠ w.heap.size := by omega
  go_wp2
  clear HB h2 h4 h5 h6 h7 h8 h9 h10 h11 l1 l2 l3 l4
  generalize w.heap.size = lb at *
  generalize hw1 : w.alloc (.cells #[.int .i64 er] 143) = w1 at *
  have HW1 := Go.Lib.hid hw1
  clear hw1
  have q2 : (⟨xv, 0, none⟩ : Addr) ≠ ⟨rv, 0, none⟩ := fun e => d1 (congrArg Addr.block e)
  have q3 : (⟨ev, 0, none⟩ : Addr) ≠ ⟨rv, 0, none⟩ := fun e => d2 (congrArg Addr.block e)
  go_region_o
  all_goals go_wp2
  have f1 : ∀ (a : Addr) (v : Value), a.block ≠ xv → a.block ≠ ev → w1.cell? a = some v → (((w1.setCell ⟨xv, 0, none⟩ (.bool false)).setCell ⟨ev, 0, none⟩ (.int .i64 er)).drew).cell? a = some v := by
    intro a v a1 a2 h
    have e1 : (⟨ev, 0, none⟩ : Addr) ≠ a := fun e => a2 (by rw [← e])
    have e2 : (⟨xv, 0, none⟩ : Addr) ≠ a := fun e => a1 (by rw [← e])
    show ((w1.setCell ⟨xv, 0, none⟩ (.bool false)).setCell ⟨ev, 0, none⟩ (.int .i64 er)).cell? a = some v
    rw [World.cell?_setCell_other _ _ _ _ e1, World.cell?_setCell_other _ _ _ _ e2]; exact h
  have f2 : ∀ (a : Addr), w1.frozen? a = false → (((w1.setCell ⟨xv, 0, none⟩ (.bool false)).setCell ⟨ev, 0, none⟩ (.int .i64 er)).drew).frozen? a = false := by
    intro a h
    show ((w1.setCell ⟨xv, 0, none⟩ (.bool false)).setCell ⟨ev, 0, none⟩ (.int .i64 er)).frozen? a = false
    simp [go_sem, h]
  have z2 := f1 _ _ (Ne.symm d1) (Ne.symm d2) k2
  have z8 := f1 _ _ (Ne.symm d4) (Ne.symm d5) k8
  have z9 := f2 _ k9
  have z10 := f1 _ _ (Ne.symm d4) (Ne.symm d5) k10
  have z11 := f2 _ k11
  have zl := f1 _ _ n1 n2 hl
  clear f1 f2 k2 k4 k5 k6 k7 k8 k9 k10 k11 hl q2 q3
  generalize hw2 : ((w1.setCell ⟨xv, 0, none⟩ (.bool false)).setCell ⟨ev, 0, none⟩ (.int .i64 er)).drew = w2 at *
  have HW2 := Go.Lib.hid hw2
  clear hw2
  have q4 : (⟨rb, ro, none⟩ : Addr) ≠ ⟨lb, 0, none⟩ := fun e => n3 (congrArg Addr.block e)
  have q5 : (⟨rb, ro, none⟩ : Addr) ≠ ⟨rv, 0, none⟩ := fun e => d6 (congrArg Addr.block e)
  go_region_o
  all_goals go_wp2
  have e1 : w.alloc (.cells #[.int .i64 er] 143) = w1 := HW1
  have e2 : ((w1.setCell ⟨xv, 0, none⟩ (.bool false)).setCell ⟨ev, 0, none⟩ (.int .i64 er)).drew = w2 := HW2
  refine ⟨rfl, _, rfl, .tuple #[], ?_, rfl, rfl, ?_⟩
  · simp [results, Try.results42]
  · rw [e1, ← e2]; rfl
set_option maxHeartbeats 2000000 in
theorem readB_ok (rb ro : Nat) (h : FuncId) (cap : Array Value) (s rest : ByteArray) (x : Bool) (w : World) (hr0 : rb < w.heap.size) (h1 : w.cell? ⟨rb, ro, none⟩ = some (.string s)) (h2 : w.cell? ⟨rb, ro + 1, none⟩ = some (.int .i64 0)) (h3 : w.frozen? ⟨rb, ro, none⟩ = false)
    (he : ∀ args w, (callFunc h args).run Try.prog w = .ok (.enter h args) w) (H : HowOk h cap s rest (.bool x) w) :
    Calls Try.prog 32 #[.pointer (some ⟨rb, ro, none⟩), .func (.func h) #[] cap] w (ReadPost rb ro rest (.bool x) w) := by
  have hmf : ∀ (fn : Fn) (first cap : Array Value) (w : World), (Instr.makeFunc fn first cap).run Try.prog w = .ok (.func fn first cap) w := fun _ _ _ _ => rfl
  have k1 : ∀ o1 o2 o3, (((w.alloc o1).alloc o2).alloc o3).cell? ⟨rb, ro, none⟩ = some (.string s) := fun o1 o2 o3 =>
    ((((Below.refl _ w).alloc (Nat.le_refl _) o1).alloc (by simp) o2).alloc (by simp; omega) o3).cell (p := ⟨rb, ro, none⟩) hr0 |>.trans h1
  have k2 : ∀ o1 o2 o3, (((w.alloc o1).alloc o2).alloc o3).cell? ⟨rb, ro + 1, none⟩ = some (.int .i64 0) := fun o1 o2 o3 =>
    ((((Below.refl _ w).alloc (Nat.le_refl _) o1).alloc (by simp) o2).alloc (by simp; omega) o3).cell (p := ⟨rb, ro + 1, none⟩) hr0 |>.trans h2
  have HH := Go.Lib.hid H
  have HR := Go.Lib.hid hr0
  clear H hr0
  go_enter_defers Try.func32, Try.ntmps32
  go_wp2
  generalize hW : ((((w.alloc (Obj.cells #[Value.pointer (some { block := rb, off := ro })] 70)).alloc (Obj.cells #[(.bool false)] 4)).alloc (Obj.cells #[.int .i64 0] 37)).alloc (Obj.cells #[Value.string s] 115)).alloc (Obj.cells #[Value.pointer (some { block := w.heap.size + 1 + 1 + 1, off := 0 })] 112) = W
  have hr0 : rb < w.heap.size := HR
  obtain ⟨b0, b1, b2, b3, b4, hsz⟩ := chain5 w _ _ _ _ _ W hW
  have hBW : Below w.heap.size w W := by
    rw [← hW]
    exact (((((Below.refl _ w).alloc (Nat.le_refl _) _).alloc (by simp) _).alloc (by simp; omega) _).alloc (by simp; omega) _).alloc (by simp; omega) _
  clear hW k1 k2
  have c3 : W.cell? ⟨w.heap.size + 1 + 1 + 1, 0, none⟩ = some (.string s) := cell_one b3
  refine ((HH : HowOk h cap s rest (.bool x) w) (w.heap.size + 1 + 1 + 1) W hBW (by omega) (by omega) c3 (froz_one b3)).mono ?_
  rintro r w1 ⟨rfl, hB⟩
  have hk : ∀ k, k < w.heap.size + 5 → k ≠ w.heap.size + 1 + 1 + 1 → w1.heap[k]? = W.heap[k]? := fun k h1 h2 => (hB.block k (by omega)).trans (setCell_blk (Ne.symm h2))
  have d0 : w1.heap[w.heap.size]? = _ := (hk _ (by omega) (by omega)).trans b0
  have d1 : w1.heap[w.heap.size + 1]? = _ := (hk _ (by omega) (by omega)).trans b1
  have d2 : w1.heap[w.heap.size + 1 + 1]? = _ := (hk _ (by omega) (by omega)).trans b2
  have d3 : w1.heap[w.heap.size + 1 + 1 + 1]? = some (Obj.cells #[Value.string rest] 115) := by
    rw [hB.block _ (by omega), blk_setCell b3]; rfl
  have d4 : w1.heap[w.heap.size + 1 + 1 + 1 + 1]? = _ := (hk _ (by omega) (by omega)).trans b4
  have hB1 : Below w.heap.size w w1 := (hBW.setCell (p := ⟨w.heap.size + 1 + 1 + 1, 0, none⟩) (by show _ ≤ w.heap.size + 1 + 1 + 1; omega) (.string rest)).trans (hB.mono (by omega))
  clear hk hB b0 b1 b2 b3 b4 c3 hBW
  have x1 : w1.cell? ⟨w.heap.size + 1, 0, none⟩ = some (.bool false) := cell_one d1
  have x2 : w1.frozen? ⟨w.heap.size + 1, 0, none⟩ = false := froz_one d1
  have x3 : w1.cell? ⟨w.heap.size + 1 + 1, 0, none⟩ = some (.int .i64 0) := cell_one d2
  have x4 : w1.frozen? ⟨w.heap.size + 1 + 1, 0, none⟩ = false := froz_one d2
  have HD := Go.Lib.hid d0
  have HD1 := Go.Lib.hid d1
  have HD2 := Go.Lib.hid d2
  have HD3 := Go.Lib.hid d3
  have HD4 := Go.Lib.hid d4
  have HZ := Go.Lib.hid hsz
  have h1 := Go.Lib.hid h1
  have h3 := Go.Lib.hid h3
  clear d0 d1 d2 d3 d4 hsz h2 hr0
  go_wp2
  have hr0 : rb < w.heap.size := HR
  have g0 := (HD : w1.heap[w.heap.size]? = _)
  have g1 := (HD1 : w1.heap[w.heap.size + 1]? = _)
  have g2 := (HD2 : w1.heap[w.heap.size + 1 + 1]? = _)
  have g3 := (HD3 : w1.heap[w.heap.size + 1 + 1 + 1]? = _)
  have g4 := (HD4 : w1.heap[w.heap.size + 1 + 1 + 1 + 1]? = _)
  clear HD HD1 HD2 HD3 HD4 HZ HR HH x1 x2 x3 x4
  generalize hw2 : (w1.setCell { block := w.heap.size + 1, off := 0 } (.bool x)).setCell { block := w.heap.size + 1 + 1, off := 0 } (Value.int IntKind.i64 0) = w2
  have ho : ∀ k, k ≠ w.heap.size + 1 → k ≠ w.heap.size + 1 + 1 → w2.heap[k]? = w1.heap[k]? := fun k a1 a2 => by rw [← hw2, setCell_blk (by exact Ne.symm a2), setCell_blk (by exact Ne.symm a1)]
  have e0 := (ho _ (by omega) (by omega)).trans g0
  have e3 := (ho _ (by omega) (by omega)).trans g3
  have e4 := (ho _ (by omega) (by omega)).trans g4
  have e1 : w2.heap[w.heap.size + 1]? = some (Obj.cells #[(.bool x)] 4) := by rw [← hw2, setCell_blk (by show w.heap.size + 1 + 1 ≠ _; omega), blk_setCell g1]; rfl
  have e2 : w2.heap[w.heap.size + 1 + 1]? = some (Obj.cells #[.int .i64 0] 37) := by rw [← hw2, blk_setCell ((setCell_blk (by show w.heap.size + 1 ≠ _; omega)).trans g2)]; rfl
  have hB2 : Below w.heap.size w w2 := by rw [← hw2]; exact (hB1.setCell (by show _ ≤ w.heap.size + 1; omega) _).setCell (by show _ ≤ w.heap.size + 1 + 1; omega) _
  have er : w2.heap[rb]? = w.heap[rb]? := hB2.block rb hr0
  clear hw2 ho g0 g1 g2 g3 g4 hB1
  refine leaves_cons (f := 42) (args := #[.pointer (some ⟨w.heap.size + 1 + 1 + 1 + 1, 0, none⟩), .pointer (some ⟨w.heap.size, 0, none⟩), .pointer (some ⟨w.heap.size + 1, 0, none⟩), .pointer (some ⟨w.heap.size + 1 + 1, 0, none⟩)]) (by simp) (by simp [go_sem]) ?_
  refine (idleB _ _ _ _ (w.heap.size + 1 + 1 + 1) rb ro rest w2 (cell_one e4) (cell_one e0) (cell_one e3) (.string s) (cell_blk (a := ⟨rb, ro, none⟩) er h1) (froz_blk (a := ⟨rb, ro, none⟩) er h3)).mono ?_
  rintro e u' w3 ⟨rfl, rfl, rfl⟩
  have y1 : (w2.drew.setCell ⟨rb, ro, none⟩ (.string rest)).cell? ⟨w.heap.size + 1, 0, none⟩ = some (.bool x) := cell_blk (w := w2) (setCell_blk (by show rb ≠ w.heap.size + 1; omega)) (cell_one e1)
  have y2 : (w2.drew.setCell ⟨rb, ro, none⟩ (.string rest)).cell? ⟨w.heap.size + 1 + 1, 0, none⟩ = some (.int .i64 0) := cell_blk (w := w2) (setCell_blk (by show rb ≠ w.heap.size + 1 + 1; omega)) (cell_one e2)
  have hB3 : Below w.heap.size (w.setCell ⟨rb, ro, none⟩ (.string rest)) (w2.drew.setCell ⟨rb, ro, none⟩ (.string rest)) := below_both hB2.drew _ _
  generalize w2.drew.setCell ⟨rb, ro, none⟩ (.string rest) = w3 at *
  clear e0 e1 e2 e3 e4 er hB2
  simp [Leaves, settle, results, Try.results32, go_sem, y1, y2]
  exact ⟨rfl, hB3⟩
set_option maxHeartbeats 2000000 in
theorem readB_lack (rb ro : Nat) (h : FuncId) (cap : Array Value) (s : ByteArray) (er : Int) (w : World) (hr0 : rb < w.heap.size) (h1 : w.cell? ⟨rb, ro, none⟩ = some (.string s)) (h2 : w.cell? ⟨rb, ro + 1, none⟩ = some (.int .i64 0)) (h3 : w.frozen? ⟨rb, ro, none⟩ = false) (h4 : w.frozen? ⟨rb, ro + 1, none⟩ = false)
    (he : ∀ args w, (callFunc h args).run Try.prog w = .ok (.enter h args) w) (H : HowLack h cap s er w) :
    Calls Try.prog 32 #[.pointer (some ⟨rb, ro, none⟩), .func (.func h) #[] cap] w (LackPost rb ro er (.bool false) w) := by
  have hmf : ∀ (fn : Fn) (first cap : Array Value) (w : World), (Instr.makeFunc fn first cap).run Try.prog w = .ok (.func fn first cap) w := fun _ _ _ _ => rfl
  have k1 : ∀ o1 o2 o3, (((w.alloc o1).alloc o2).alloc o3).cell? ⟨rb, ro, none⟩ = some (.string s) := fun o1 o2 o3 =>
    ((((Below.refl _ w).alloc (Nat.le_refl _) o1).alloc (by simp) o2).alloc (by simp; omega) o3).cell (p := ⟨rb, ro, none⟩) hr0 |>.trans h1
  have k2 : ∀ o1 o2 o3, (((w.alloc o1).alloc o2).alloc o3).cell? ⟨rb, ro + 1, none⟩ = some (.int .i64 0) := fun o1 o2 o3 =>
    ((((Below.refl _ w).alloc (Nat.le_refl _) o1).alloc (by simp) o2).alloc (by simp; omega) o3).cell (p := ⟨rb, ro + 1, none⟩) hr0 |>.trans h2
  have HH := Go.Lib.hid H
  have HR := Go.Lib.hid hr0
  clear H hr0
  go_enter_defers Try.func32, Try.ntmps32
  go_wp2
  generalize hW : ((((w.alloc (Obj.cells #[Value.pointer (some { block := rb, off := ro })] 70)).alloc (Obj.cells #[(.bool false)] 4)).alloc (Obj.cells #[.int .i64 0] 37)).alloc (Obj.cells #[Value.string s] 115)).alloc (Obj.cells #[Value.pointer (some { block := w.heap.size + 1 + 1 + 1, off := 0 })] 112) = W
  have hr0 : rb < w.heap.size := HR
  obtain ⟨b0, b1, b2, b3, b4, hsz⟩ := chain5 w _ _ _ _ _ W hW
  have hBW : Below w.heap.size w W := by
    rw [← hW]
    exact (((((Below.refl _ w).alloc (Nat.le_refl _) _).alloc (by simp) _).alloc (by simp; omega) _).alloc (by simp; omega) _).alloc (by simp; omega) _
  clear hW k1 k2
  have c3 : W.cell? ⟨w.heap.size + 1 + 1 + 1, 0, none⟩ = some (.string s) := cell_one b3
  refine ((HH : HowLack h cap s er w) (w.heap.size + 1 + 1 + 1) W hBW (by omega) (by omega) c3 (froz_one b3)).mono ?_
  rintro r w2 ⟨rfl, pv, hB⟩
  have hk : ∀ k, k < w.heap.size + 5 → k ≠ w.heap.size + 1 + 1 + 1 → w2.heap[k]? = W.heap[k]? := fun k h1 h2 => (hB.block k (by omega)).trans (setCell_blk (Ne.symm h2))
  have e0 : w2.heap[w.heap.size]? = _ := (hk _ (by omega) (by omega)).trans b0
  have e1 : w2.heap[w.heap.size + 1]? = _ := (hk _ (by omega) (by omega)).trans b1
  have e2 : w2.heap[w.heap.size + 1 + 1]? = _ := (hk _ (by omega) (by omega)).trans b2
  have hB2 : Below w.heap.size w w2 := (hBW.setCell (p := ⟨w.heap.size + 1 + 1 + 1, 0, none⟩) (by show _ ≤ w.heap.size + 1 + 1 + 1; omega) pv).trans (hB.mono (by omega))
  have hz2 : W.heap.size ≤ w2.heap.size := by have := hB.size; simpa [World.setCell] using this
  clear hk hB b0 b1 b2 b3 b4 c3 hBW
  have er1 : w2.heap[rb]? = w.heap[rb]? := hB2.block rb hr0
  refine leaves_cons (f := 42) (args := #[.pointer (some ⟨w.heap.size + 1 + 1 + 1 + 1, 0, none⟩), .pointer (some ⟨w.heap.size, 0, none⟩), .pointer (some ⟨w.heap.size + 1, 0, none⟩), .pointer (some ⟨w.heap.size + 1 + 1, 0, none⟩)]) (by simp) (by simp [go_sem]) ?_
  refine (caughtB _ _ _ _ rb ro er w2 (cell_one e0) (.bool false) (.int .i64 0) (.string s) (.int .i64 0) (cell_one e1) (froz_one e1) (cell_one e2) (froz_one e2)
    (cell_blk (a := ⟨rb, ro, none⟩) er1 h1) (froz_blk (a := ⟨rb, ro, none⟩) er1 h3) (cell_blk (a := ⟨rb, ro + 1, none⟩) er1 h2) (froz_blk (a := ⟨rb, ro + 1, none⟩) er1 h4)
    (by omega) (by omega) (by omega) (by omega) (by omega) (by omega) (by omega) (by omega) (by omega) (by omega)).mono ?_
  rintro e u' w3 ⟨rfl, rfl, hw3⟩
  have n1 : rb ≠ w.heap.size + 1 := by omega
  have n2 : rb ≠ w.heap.size + 1 + 1 := by omega
  have lt1 : w.heap.size + 1 < w2.heap.size := by omega
  have lt2 : w.heap.size + 1 + 1 < w2.heap.size := by omega
  have y1 : w3.cell? ⟨w.heap.size + 1, 0, none⟩ = some (.bool false) := by
    have z : w3.heap[w.heap.size + 1]? = some (Obj.cells #[(.bool false)] 4) := by
      rw [hw3]
      show ((((((w2.alloc _).setCell _ _).setCell _ _).setCell _ _).setCell _ _)).heap[_]? = _
      rw [setCell_blk (by exact n1), setCell_blk (by exact n1), setCell_blk (by show w.heap.size + 1 + 1 ≠ w.heap.size + 1; omega), blk_setCell (by rw [alloc_get, if_neg (by omega)]; exact e1)]
      rfl
    exact cell_one z
  have y2 : w3.cell? ⟨w.heap.size + 1 + 1, 0, none⟩ = some (.int .i64 er) := by
    have z : w3.heap[w.heap.size + 1 + 1]? = some (Obj.cells #[.int .i64 er] 37) := by
      rw [hw3]
      show ((((((w2.alloc _).setCell _ _).setCell _ _).setCell _ _).setCell _ _)).heap[_]? = _
      rw [setCell_blk (by exact n2), setCell_blk (by exact n2), blk_setCell ((setCell_blk (by show w.heap.size + 1 ≠ w.heap.size + 1 + 1; omega)).trans (by rw [alloc_get, if_neg (by omega)]; exact e2))]
      rfl
    exact cell_one z
  have hB3 : Below w.heap.size ((w.setCell ⟨rb, ro, none⟩ (.string ⟨#[]⟩)).setCell ⟨rb, ro + 1, none⟩ (.int .i64 er)) w3 := by
    rw [hw3]
    exact (below_both (below_both (((((hB2.alloc (by omega) _).setCell (by show w.heap.size ≤ w.heap.size + 1; omega) _).setCell (by show w.heap.size ≤ w.heap.size + 1 + 1; omega) _).drew)) _ _) _ _).drew
  clear hw3 e0 e1 e2 er1 hB2 hz2 lt1 lt2 n1 n2 h1 h2 h3 h4 hsz
  simp [Leaves, settle, results, Try.results32, go_sem, y1, y2]
  exact ⟨rfl, hB3⟩
set_option maxHeartbeats 2000000 in
theorem readB_wrong (rb ro : Nat) (how : Value) (er : Int) (w : World) (hr0 : rb < w.heap.size) (h2 : w.cell? ⟨rb, ro + 1, none⟩ = some (.int .i64 er)) (hne : er ≠ 0) :
    Calls Try.prog 32 #[.pointer (some ⟨rb, ro, none⟩), how] w fun r w' => r = .returned (.tuple #[(.bool false), .int .i64 er]) ∧ Below w.heap.size w w' := by
  have mixed := mixed
  have k2 : ∀ o1 o2 o3, (((w.alloc o1).alloc o2).alloc o3).cell? ⟨rb, ro + 1, none⟩ = some (.int .i64 er) := fun o1 o2 o3 =>
    ((((Below.refl _ w).alloc (Nat.le_refl _) o1).alloc (by simp) o2).alloc (by simp; omega) o3).cell (p := ⟨rb, ro + 1, none⟩) hr0 |>.trans h2
  have q1 : (⟨w.heap.size + 1, 0, none⟩ : Addr) ≠ ⟨rb, ro + 1, none⟩ := by intro e; have e := congrArg Addr.block e; simp at e; omega
  have hbne : (er != 0) = true := by simpa using hne
  clear h2 hr0 hne
  go_enter_defers Try.func32, Try.ntmps32
  go_wp2
  go_region_o
  all_goals go_wp2
  simp [bodyPostD, Leaves, results, Try.results32, go_sem]
  exact ((((Below.refl _ w).alloc (Nat.le_refl _) _).alloc (by simp) _).alloc (by simp; omega) _).drew
theorem readB_nil (how : Value) (w : World) :
    Calls Try.prog 32 #[.pointer none, how] w fun r w' => r = .returned (.tuple #[(.bool false), .int .i64 2]) ∧ Below w.heap.size w w' := by
  go_enter_defers Try.func32, Try.ntmps32
  go_wp2
  simp [bodyPostD, Leaves, results, Try.results32, go_sem]
  exact (((Below.refl _ w).alloc (Nat.le_refl _) _).alloc (by simp) _).alloc (by simp; omega) _
end Go.Proofs.Rdr

namespace Go.Proofs.Rdr
open Go Go.RowKit Go.Proofs
set_option maxHeartbeats 400000 in
theorem idleL (pv rv xv ev pb rb ro : Nat) (s : ByteArray) (w : World) (h1 : w.cell? ⟨pv, 0, none⟩ = some (.pointer (some ⟨pb, 0, none⟩))) (h2 : w.cell? ⟨rv, 0, none⟩ = some (.pointer (some ⟨rb, ro, none⟩)))
    (h3 : w.cell? ⟨pb, 0, none⟩ = some (.string s)) (old : Value) (h4 : w.cell? ⟨rb, ro, none⟩ = some old) (h5 : w.frozen? ⟨rb, ro, none⟩ = false) :
    CallsD Try.prog 110 #[.pointer (some ⟨pv, 0, none⟩), .pointer (some ⟨rv, 0, none⟩), .pointer (some ⟨xv, 0, none⟩), .pointer (some ⟨ev, 0, none⟩)] .returning w fun e u' w' =>
      e = .returned (.tuple #[]) ∧ u' = .returning ∧ w' = w.drew.setCell ⟨rb, ro, none⟩ (.string s) := by
  have mixed := mixed
  refine callsD_of_wpS Try.func110 rfl fun c₀ cs hu => ?_
  apply wpS_seq
  apply wpS_region
  simp [wpOpsS, go_sem, recoverD, hu, Try.ntmps110, Exit.thenS]
  have hnil : ∀ w : World, (binOp BinOp.eql 20 .nilIface .nilIface).run Try.prog w = .ok (.bool true) w := fun _ => by kernel_rfl
  have g1 : w.drew.cell? ⟨pv, 0, none⟩ = some (.pointer (some ⟨pb, 0, none⟩)) := h1
  have g2 : w.drew.cell? ⟨rv, 0, none⟩ = some (.pointer (some ⟨rb, ro, none⟩)) := h2
  have g3 : w.drew.cell? ⟨pb, 0, none⟩ = some (.string s) := h3
  have g4 : w.drew.cell? ⟨rb, ro, none⟩ = some old := h4
  have g5 : w.drew.frozen? ⟨rb, ro, none⟩ = false := h5
  refine wpS_of_wp ?_
  have ht : (#[.pointer (some ⟨pv, 0, none⟩), .pointer (some ⟨rv, 0, none⟩), .pointer (some ⟨xv, 0, none⟩), .pointer (some ⟨ev, 0, none⟩)] ++ (Array.replicate 28 undef).setIfInBounds 4 Value.nilIface : Array Value) = #[.pointer (some ⟨pv, 0, none⟩), .pointer (some ⟨rv, 0, none⟩), .pointer (some ⟨xv, 0, none⟩), .pointer (some ⟨ev, 0, none⟩), undef, undef, undef, undef, .nilIface, undef, undef, undef, undef, undef, undef, undef, undef, undef, undef, undef, undef, undef, undef, undef, undef, undef, undef, undef, undef, undef, undef, undef] := by simp [Array.replicate, List.replicate]
  rw [ht]
  go_wp2
  go_region_o
  all_goals
    go_wp2
  cases c₀
  simp_all [bodyPostS, results, Try.results110]
set_option maxHeartbeats 2000000 in
theorem caughtL (pv rv xv ev rb ro : Nat) (er : Int) (w : World) (h2 : w.cell? ⟨rv, 0, none⟩ = some (.pointer (some ⟨rb, ro, none⟩)))
    (ox oe os or_ : Value) (h4 : w.cell? ⟨xv, 0, none⟩ = some ox) (h5 : w.frozen? ⟨xv, 0, none⟩ = false) (h6 : w.cell? ⟨ev, 0, none⟩ = some oe) (h7 : w.frozen? ⟨ev, 0, none⟩ = false)
    (h8 : w.cell? ⟨rb, ro, none⟩ = some os) (h9 : w.frozen? ⟨rb, ro, none⟩ = false) (h10 : w.cell? ⟨rb, ro + 1, none⟩ = some or_) (h11 : w.frozen? ⟨rb, ro + 1, none⟩ = false)
    (d1 : xv ≠ rv) (d2 : ev ≠ rv) (d3 : xv ≠ ev) (d4 : xv ≠ rb) (d5 : ev ≠ rb) (d6 : rb ≠ rv) (l1 : rv < w.heap.size) (l2 : xv < w.heap.size) (l3 : ev < w.heap.size) (l4 : rb < w.heap.size) :
    CallsD Try.prog 110 #[.pointer (some ⟨pv, 0, none⟩), .pointer (some ⟨rv, 0, none⟩), .pointer (some ⟨xv, 0, none⟩), .pointer (some ⟨ev, 0, none⟩)] (.panicking [{ lackE er with recovered := false }]) w fun e u' w' =>
      e = .returned (.tuple #[]) ∧ u' = .panicking [{ lackE er with recovered := true }] ∧
      w' = (((((w.alloc (.cells #[.int .i64 er] 143)).setCell ⟨xv, 0, none⟩ (.slice none 0 0)).setCell ⟨ev, 0, none⟩ (.int .i64 er)).drew.setCell ⟨rb, ro, none⟩ (.string ⟨#[]⟩)).setCell ⟨rb, ro + 1, none⟩ (.int .i64 er)).drew := by
  have mixed := mixed
  unfold lackE
  refine callsD_of_wpS Try.func110 rfl fun c₀ cs hu => ?_
  apply wpS_seq
  apply wpS_region
  simp [wpOpsS, go_sem, recoverD, hu, Try.ntmps110, Exit.thenS]
  have hnil : ∀ w : World, (binOp BinOp.eql 20 (.iface 143 (.agg #[.int .i64 er])) .nilIface).run Try.prog w = .ok (.bool false) w := fun _ => by kernel_rfl
  have hta : ∀ w : World, (Instr.typeAssert (.iface 143 (.agg #[.int .i64 er])) 20 143 true).run Try.prog w = .ok (.tuple #[.agg #[.int .i64 er], .bool true]) w := fun _ => by kernel_rfl
  refine wpS_of_wp ?_
  have ht : (#[.pointer (some ⟨pv, 0, none⟩), .pointer (some ⟨rv, 0, none⟩), .pointer (some ⟨xv, 0, none⟩), .pointer (some ⟨ev, 0, none⟩)] ++ (Array.replicate 28 undef).setIfInBounds 4 (.iface 143 (.agg #[.int .i64 er])) : Array Value) = #[.pointer (some ⟨pv, 0, none⟩), .pointer (some ⟨rv, 0, none⟩), .pointer (some ⟨xv, 0, none⟩), .pointer (some ⟨ev, 0, none⟩), undef, undef, undef, undef, (.iface 143 (.agg #[.int .i64 er])), undef, undef, undef, undef, undef, undef, undef, undef, undef, undef, undef, undef, undef, undef, undef, undef, undef, undef, undef, undef, undef, undef, undef] := by simp [Array.replicate, List.replicate]
  rw [ht]
  have HB : Below w.heap.size w (w.alloc (.cells #[.int .i64 er] 143)) := (Below.refl _ w).alloc (Nat.le_refl _) _
  have hl : (w.alloc (.cells #[.int .i64 er] 143)).cell? ⟨w.heap.size, 0, none⟩ = some (.int .i64 er) := by simp [go_sem]
  have k2 := (HB.cell (p := ⟨rv, 0, none⟩) l1).trans h2
  have k4 := (HB.cell (p := ⟨xv, 0, none⟩) l2).trans h4
  have k5 := (HB.frozen (p := ⟨xv, 0, none⟩) l2).trans h5
  have k6 := (HB.cell (p := ⟨ev, 0, none⟩) l3).trans h6
  have k7 := (HB.frozen (p := ⟨ev, 0, none⟩) l3).trans h7
  have k8 := (HB.cell (p := ⟨rb, ro, none⟩) l4).trans h8
  have k9 := (HB.frozen (p := ⟨rb, ro, none⟩) l4).trans h9
  have k10 := (HB.cell (p := ⟨rb, ro + 1, none⟩) l4).trans h10
  have k11 := (HB.frozen (p := ⟨rb, ro + 1, none⟩) l4).trans h11
  have n1 : w.heap.size ≠ xv := by omega
  have n2 : w.heap.size ≠ ev := by omega
  have n3 : rb ≠ w.heap.size := by omega
  go_wp2
  clear HB h2 h4 h5 h6 h7 h8 h9 h10 h11 l1 l2 l3 l4
  generalize w.heap.size = lb at *
  generalize hw1 : w.alloc (.cells #[.int .i64 er] 143) = w1 at *
  have HW1 := Go.Lib.hid hw1
  clear hw1
  have q2 : (⟨xv, 0, none⟩ : Addr) ≠ ⟨rv, 0, none⟩ := fun e => d1 (congrArg Addr.block e)
  have q3 : (⟨ev, 0, none⟩ : Addr) ≠ ⟨rv, 0, none⟩ := fun e => d2 (congrArg Addr.block e)
  go_region_o
  all_goals go_wp2
  have f1 : ∀ (a : Addr) (v : Value), a.block ≠ xv → a.block ≠ ev → w1.cell? a = some v → (((w1.setCell ⟨xv, 0, none⟩ (.slice none 0 0)).setCell ⟨ev, 0, none⟩ (.int .i64 er)).drew).cell? a = some v := by
    intro a v a1 a2 h
    have e1 : (⟨ev, 0, none⟩ : Addr) ≠ a := fun e => a2 (by rw [← e])
    have e2 : (⟨xv, 0, none⟩ : Addr) ≠ a := fun e => a1 (by rw [← e])
    show ((w1.setCell ⟨xv, 0, none⟩ (.slice none 0 0)).setCell ⟨ev, 0, none⟩ (.int .i64 er)).cell? a = some v
    rw [World.cell?_setCell_other _ _ _ _ e1, World.cell?_setCell_other _ _ _ _ e2]; exact h
  have f2 : ∀ (a : Addr), w1.frozen? a = false → (((w1.setCell ⟨xv, 0, none⟩ (.slice none 0 0)).setCell ⟨ev, 0, none⟩ (.int .i64 er)).drew).frozen? a = false := by
    intro a h
    show ((w1.setCell ⟨xv, 0, none⟩ (.slice none 0 0)).setCell ⟨ev, 0, none⟩ (.int .i64 er)).frozen? a = false
    simp [go_sem, h]
  have z2 := f1 _ _ (Ne.symm d1) (Ne.symm d2) k2
  have z8 := f1 _ _ (Ne.symm d4) (Ne.symm d5) k8
  have z9 := f2 _ k9
  have z10 := f1 _ _ (Ne.symm d4) (Ne.symm d5) k10
  have z11 := f2 _ k11
  have zl := f1 _ _ n1 n2 hl
  clear f1 f2 k2 k4 k5 k6 k7 k8 k9 k10 k11 hl q2 q3
  generalize hw2 : ((w1.setCell ⟨xv, 0, none⟩ (.slice none 0 0)).setCell ⟨ev, 0, none⟩ (.int .i64 er)).drew = w2 at *
  have HW2 := Go.Lib.hid hw2
  clear hw2
  have q4 : (⟨rb, ro, none⟩ : Addr) ≠ ⟨lb, 0, none⟩ := fun e => n3 (congrArg Addr.block e)
  have q5 : (⟨rb, ro, none⟩ : Addr) ≠ ⟨rv, 0, none⟩ := fun e => d6 (congrArg Addr.block e)
  go_region_o
  all_goals go_wp2
  have e1 : w.alloc (.cells #[.int .i64 er] 143) = w1 := HW1
  have e2 : ((w1.setCell ⟨xv, 0, none⟩ (.slice none 0 0)).setCell ⟨ev, 0, none⟩ (.int .i64 er)).drew = w2 := HW2
  refine ⟨rfl, _, rfl, .tuple #[], ?_, rfl, rfl, ?_⟩
  · simp [results, Try.results110]
  · rw [e1, ← e2]; rfl
set_option maxHeartbeats 2000000 in
theorem readL_lack (rb ro : Nat) (h : FuncId) (cap : Array Value) (s : ByteArray) (er : Int) (w : World) (hr0 : rb < w.heap.size) (h1 : w.cell? ⟨rb, ro, none⟩ = some (.string s)) (h2 : w.cell? ⟨rb, ro + 1, none⟩ = some (.int .i64 0)) (h3 : w.frozen? ⟨rb, ro, none⟩ = false) (h4 : w.frozen? ⟨rb, ro + 1, none⟩ = false)
    (he : ∀ args w, (callFunc h args).run Try.prog w = .ok (.enter h args) w) (H : HowLack h cap s er w) :
    Calls Try.prog 101 #[.pointer (some ⟨rb, ro, none⟩), .func (.func h) #[] cap] w (LackPost rb ro er (.slice none 0 0) w) := by
  have hmf : ∀ (fn : Fn) (first cap : Array Value) (w : World), (Instr.makeFunc fn first cap).run Try.prog w = .ok (.func fn first cap) w := fun _ _ _ _ => rfl
  have k1 : ∀ o1 o2 o3, (((w.alloc o1).alloc o2).alloc o3).cell? ⟨rb, ro, none⟩ = some (.string s) := fun o1 o2 o3 =>
    ((((Below.refl _ w).alloc (Nat.le_refl _) o1).alloc (by simp) o2).alloc (by simp; omega) o3).cell (p := ⟨rb, ro, none⟩) hr0 |>.trans h1
  have k2 : ∀ o1 o2 o3, (((w.alloc o1).alloc o2).alloc o3).cell? ⟨rb, ro + 1, none⟩ = some (.int .i64 0) := fun o1 o2 o3 =>
    ((((Below.refl _ w).alloc (Nat.le_refl _) o1).alloc (by simp) o2).alloc (by simp; omega) o3).cell (p := ⟨rb, ro + 1, none⟩) hr0 |>.trans h2
  have HH := Go.Lib.hid H
  have HR := Go.Lib.hid hr0
  clear H hr0
  go_enter_defers Try.func101, Try.ntmps101
  go_wp2
  generalize hW : ((((w.alloc (Obj.cells #[Value.pointer (some { block := rb, off := ro })] 70)).alloc (Obj.cells #[(.slice none 0 0)] 49)).alloc (Obj.cells #[.int .i64 0] 37)).alloc (Obj.cells #[Value.string s] 115)).alloc (Obj.cells #[Value.pointer (some { block := w.heap.size + 1 + 1 + 1, off := 0 })] 112) = W
  have hr0 : rb < w.heap.size := HR
  obtain ⟨b0, b1, b2, b3, b4, hsz⟩ := chain5 w _ _ _ _ _ W hW
  have hBW : Below w.heap.size w W := by
    rw [← hW]
    exact (((((Below.refl _ w).alloc (Nat.le_refl _) _).alloc (by simp) _).alloc (by simp; omega) _).alloc (by simp; omega) _).alloc (by simp; omega) _
  clear hW k1 k2
  have c3 : W.cell? ⟨w.heap.size + 1 + 1 + 1, 0, none⟩ = some (.string s) := cell_one b3
  refine ((HH : HowLack h cap s er w) (w.heap.size + 1 + 1 + 1) W hBW (by omega) (by omega) c3 (froz_one b3)).mono ?_
  rintro r w2 ⟨rfl, pv, hB⟩
  have hk : ∀ k, k < w.heap.size + 5 → k ≠ w.heap.size + 1 + 1 + 1 → w2.heap[k]? = W.heap[k]? := fun k h1 h2 => (hB.block k (by omega)).trans (setCell_blk (Ne.symm h2))
  have e0 : w2.heap[w.heap.size]? = _ := (hk _ (by omega) (by omega)).trans b0
  have e1 : w2.heap[w.heap.size + 1]? = _ := (hk _ (by omega) (by omega)).trans b1
  have e2 : w2.heap[w.heap.size + 1 + 1]? = _ := (hk _ (by omega) (by omega)).trans b2
  have hB2 : Below w.heap.size w w2 := (hBW.setCell (p := ⟨w.heap.size + 1 + 1 + 1, 0, none⟩) (by show _ ≤ w.heap.size + 1 + 1 + 1; omega) pv).trans (hB.mono (by omega))
  have hz2 : W.heap.size ≤ w2.heap.size := by have := hB.size; simpa [World.setCell] using this
  clear hk hB b0 b1 b2 b3 b4 c3 hBW
  have er1 : w2.heap[rb]? = w.heap[rb]? := hB2.block rb hr0
  refine leaves_cons (f := 110) (args := #[.pointer (some ⟨w.heap.size + 1 + 1 + 1 + 1, 0, none⟩), .pointer (some ⟨w.heap.size, 0, none⟩), .pointer (some ⟨w.heap.size + 1, 0, none⟩), .pointer (some ⟨w.heap.size + 1 + 1, 0, none⟩)]) (by simp) (by simp [go_sem]) ?_
  refine (caughtL _ _ _ _ rb ro er w2 (cell_one e0) (.slice none 0 0) (.int .i64 0) (.string s) (.int .i64 0) (cell_one e1) (froz_one e1) (cell_one e2) (froz_one e2)
    (cell_blk (a := ⟨rb, ro, none⟩) er1 h1) (froz_blk (a := ⟨rb, ro, none⟩) er1 h3) (cell_blk (a := ⟨rb, ro + 1, none⟩) er1 h2) (froz_blk (a := ⟨rb, ro + 1, none⟩) er1 h4)
    (by omega) (by omega) (by omega) (by omega) (by omega) (by omega) (by omega) (by omega) (by omega) (by omega)).mono ?_
  rintro e u' w3 ⟨rfl, rfl, hw3⟩
  have n1 : rb ≠ w.heap.size + 1 := by omega
  have n2 : rb ≠ w.heap.size + 1 + 1 := by omega
  have lt1 : w.heap.size + 1 < w2.heap.size := by omega
  have lt2 : w.heap.size + 1 + 1 < w2.heap.size := by omega
  have y1 : w3.cell? ⟨w.heap.size + 1, 0, none⟩ = some (.slice none 0 0) := by
    have z : w3.heap[w.heap.size + 1]? = some (Obj.cells #[(.slice none 0 0)] 49) := by
      rw [hw3]
      show ((((((w2.alloc _).setCell _ _).setCell _ _).setCell _ _).setCell _ _)).heap[_]? = _
      rw [setCell_blk (by exact n1), setCell_blk (by exact n1), setCell_blk (by show w.heap.size + 1 + 1 ≠ w.heap.size + 1; omega), blk_setCell (by rw [alloc_get, if_neg (by omega)]; exact e1)]
      rfl
    exact cell_one z
  have y2 : w3.cell? ⟨w.heap.size + 1 + 1, 0, none⟩ = some (.int .i64 er) := by
    have z : w3.heap[w.heap.size + 1 + 1]? = some (Obj.cells #[.int .i64 er] 37) := by
      rw [hw3]
      show ((((((w2.alloc _).setCell _ _).setCell _ _).setCell _ _).setCell _ _)).heap[_]? = _
      rw [setCell_blk (by exact n2), setCell_blk (by exact n2), blk_setCell ((setCell_blk (by show w.heap.size + 1 ≠ w.heap.size + 1 + 1; omega)).trans (by rw [alloc_get, if_neg (by omega)]; exact e2))]
      rfl
    exact cell_one z
  have hB3 : Below w.heap.size ((w.setCell ⟨rb, ro, none⟩ (.string ⟨#[]⟩)).setCell ⟨rb, ro + 1, none⟩ (.int .i64 er)) w3 := by
    rw [hw3]
    exact (below_both (below_both (((((hB2.alloc (by omega) _).setCell (by show w.heap.size ≤ w.heap.size + 1; omega) _).setCell (by show w.heap.size ≤ w.heap.size + 1 + 1; omega) _).drew)) _ _) _ _).drew
  clear hw3 e0 e1 e2 er1 hB2 hz2 lt1 lt2 n1 n2 h1 h2 h3 h4 hsz
  simp [Leaves, settle, results, Try.results101, go_sem, y1, y2]
  exact ⟨rfl, hB3⟩
set_option maxHeartbeats 2000000 in
theorem readL_wrong (rb ro : Nat) (how : Value) (er : Int) (w : World) (hr0 : rb < w.heap.size) (h2 : w.cell? ⟨rb, ro + 1, none⟩ = some (.int .i64 er)) (hne : er ≠ 0) :
    Calls Try.prog 101 #[.pointer (some ⟨rb, ro, none⟩), how] w fun r w' => r = .returned (.tuple #[(.slice none 0 0), .int .i64 er]) ∧ Below w.heap.size w w' := by
  have mixed := mixed
  have k2 : ∀ o1 o2 o3, (((w.alloc o1).alloc o2).alloc o3).cell? ⟨rb, ro + 1, none⟩ = some (.int .i64 er) := fun o1 o2 o3 =>
    ((((Below.refl _ w).alloc (Nat.le_refl _) o1).alloc (by simp) o2).alloc (by simp; omega) o3).cell (p := ⟨rb, ro + 1, none⟩) hr0 |>.trans h2
  have q1 : (⟨w.heap.size + 1, 0, none⟩ : Addr) ≠ ⟨rb, ro + 1, none⟩ := by intro e; have e := congrArg Addr.block e; simp at e; omega
  have hbne : (er != 0) = true := by simpa using hne
  clear h2 hr0 hne
  go_enter_defers Try.func101, Try.ntmps101
  go_wp2
  go_region_o
  all_goals go_wp2
  simp [bodyPostD, Leaves, results, Try.results101, go_sem]
  exact ((((Below.refl _ w).alloc (Nat.le_refl _) _).alloc (by simp) _).alloc (by simp; omega) _).drew
theorem readL_nil (how : Value) (w : World) :
    Calls Try.prog 101 #[.pointer none, how] w fun r w' => r = .returned (.tuple #[(.slice none 0 0), .int .i64 2]) ∧ Below w.heap.size w w' := by
  go_enter_defers Try.func101, Try.ntmps101
  go_wp2
  simp [bodyPostD, Leaves, results, Try.results101, go_sem]
  exact (((Below.refl _ w).alloc (Nat.le_refl _) _).alloc (by simp) _).alloc (by simp; omega) _
end Go.Proofs.Rdr

namespace Go.Proofs.Rdr
open Go Go.RowKit Go.Proofs
end Go.Proofs.Rdr
