/- tally: votes as plain data: how many members sent one of a sort. -/
import GoSem.Core.World
import Derived.Test.YtcikbnhbihljmaaGb
import Derived.WalkKit
import Derived.OwnWalk
import Derived.Shelf.Abstract
import Derived.Test.YtcikbnhbihljmaaChecked
import Derived.RangeFuncNested
import Derived.RangeFuncBound
import Derived.RangeFuncCalls
import Derived.RangeFuncLeaves
import Derived.Shelf.RegionOpen
import Derived.OwnWalkIn
import Derived.TacticsInMore
import Derived.LoopNIn
import Derived.LoopIn
import Derived.Maps.AppendAt
import Derived.Shelf.SlSortCmp.NoneTotal
import Derived.Shelf.SlicesG.Cmp
import Derived.RegionCalls
import Derived.StillTailTactics
import Derived.Sort.Grow
import Derived.Test.YtcikbnhbihljmaaGe

namespace Go.Proofs.Tly
open Go

structure Vt where
 fr : Int
 rd : Int
 kd : Int
 va : Int
 tx : ByteArray
 deriving Inhabited
def encV (v : Vt) : Value := .agg #[.int .i64 v.fr, .int .i64 v.rd, .int .u8 v.kd, .int .i64 v.va, .string v.tx]
def dec : Value → Vt
 | .agg ⟨[.int _ a, .int _ b, .int _ c, .int _ d, .string s]⟩ => ⟨a, b, c, d, s⟩
 | _ => default
def dv (e : MapEntry) : Vt := dec e.val

def cnt (p : Vt → Bool) (l : List Vt) (f : Nat) : Nat := (l.filter fun v => p v && v.fr == (f : Int)).length
def mem (p : Vt → Bool) (n : Nat) (l : List Vt) : Nat := ((List.range (n + 1)).filter fun f => cnt p l f != 0).length

theorem cnt_perm {p : Vt → Bool} {l m : List Vt} (h : l.Perm m) (f : Nat) : cnt p l f = cnt p m f := (h.filter _).length_eq
theorem mem_perm {p : Vt → Bool} {l m : List Vt} (h : l.Perm m) (n : Nat) : mem p n l = mem p n m := by
 unfold mem; congr 2; funext f; rw [cnt_perm h]
theorem cnt_le (p : Vt → Bool) (l : List Vt) (f : Nat) : cnt p l f ≤ l.length := List.length_filter_le _ _
theorem mem_le (p : Vt → Bool) (n : Nat) (l : List Vt) : mem p n l ≤ n + 1 := by
 unfold mem; have := List.length_filter_le (fun f => cnt p l f != 0) (List.range (n + 1)); simpa using this
theorem cnt_nil (p : Vt → Bool) (f : Nat) : cnt p [] f = 0 := rfl
theorem mem_nil (p : Vt → Bool) (n : Nat) : mem p n [] = 0 := by
 unfold mem; simp [cnt_nil]
theorem cnt_no {p : Vt → Bool} {v : Vt} (h : p v = false) (l : List Vt) (f : Nat) : cnt p (l ++ [v]) f = cnt p l f := by
 unfold cnt; simp [List.filter_append, h]
theorem mem_no {p : Vt → Bool} {v : Vt} (h : p v = false) (n : Nat) (l : List Vt) : mem p n (l ++ [v]) = mem p n l := by
 unfold mem; congr 2; funext f; rw [cnt_no h]
theorem cnt_same {p : Vt → Bool} {v : Vt} (h : p v = true) {f : Nat} (hf : v.fr = (f : Int)) (l : List Vt) : cnt p (l ++ [v]) f = cnt p l f + 1 := by
 unfold cnt; simp [List.filter_append, h, hf]
theorem cnt_other {p : Vt → Bool} {v : Vt} {f g : Nat} (hf : v.fr = (f : Int)) (hg : g ≠ f) (l : List Vt) : cnt p (l ++ [v]) g = cnt p l g := by
 unfold cnt
 have : ((f : Int) == (g : Int)) = false := by simp; omega
 simp [List.filter_append, hf, this]
theorem filter_one_more {L : List Nat} (hn : L.Nodup) {f : Nat} (hf : f ∈ L) {q q' : Nat → Bool} (hq : q f = false) (hq' : q' f = true) (ho : ∀ x, x ≠ f → q' x = q x) : (L.filter q').length = (L.filter q).length + 1 := by
 induction L with
 | nil => cases hf
 | cons a L ih =>
  simp only [List.nodup_cons] at hn
  by_cases ha : a = f
  · subst ha
    have : L.filter q' = L.filter q := List.filter_congr fun x hx => ho x (fun e => hn.1 (e ▸ hx))
    simp [hq, hq', this]
  · have hf' : f ∈ L := by
     rcases List.mem_cons.1 hf with h | h
     · exact absurd h.symm ha
     · exact h
    simp only [List.filter_cons, ho a ha]
    cases q a <;> simp [ih hn.2 hf']
theorem mem_new {p : Vt → Bool} {v : Vt} (h : p v = true) {n f : Nat} (hf : v.fr = (f : Int)) (hn : f ≤ n) {l : List Vt} (h0 : cnt p l f = 0) : mem p n (l ++ [v]) = mem p n l + 1 := by
 unfold mem
 refine filter_one_more (List.nodup_range) (f := f) (by simp; omega) (by simp [h0]) (by simp [cnt_same h hf]) fun x hx => by rw [cnt_other hf hx]
theorem mem_old {p : Vt → Bool} {v : Vt} {n f : Nat} (hf : v.fr = (f : Int)) {l : List Vt} (h0 : cnt p l f ≠ 0) : mem p n (l ++ [v]) = mem p n l := by
 unfold mem; congr 2; funext x
 by_cases hx : x = f
 · subst hx
   cases hp : p v with
   | true => rw [cnt_same hp hf]; simp [h0]
   | false => rw [cnt_no hp]
 · rw [cnt_other hf hx]
end Go.Proofs.Tly

namespace Go.Proofs.Tly
open Go Go.RowKit Go.Rm Go.Proofs

theorem cell_al {W : World} {a : Addr} {v : Value} (o : Obj) (h : W.cell? a = some v) : (W.alloc o).cell? a = some v := by
 have hb : a.block < W.heap.size := by
  unfold World.cell? at h
  cases hx : W.heap[a.block]? with
  | none => rw [hx] at h; simp at h
  | some _ => exact (Array.getElem?_eq_some_iff.1 hx).1
 rw [World.cell?_alloc_lt W o a hb]; exact h
theorem ret_bool {a b : Bool} (h : a = b) : Ending.returned (.bool a) = .returned (.bool b) := by rw [h]

set_option maxHeartbeats 400000 in
theorem sent1 (v : Vt) (rd : Int) (br : Nat) (w : World) (hr : w.cell? ⟨br, 0, none⟩ = some (.int .i64 rd)) :
 Calls Try.prog 68 #[encV v, .pointer (some ⟨br, 0, none⟩)] w fun e w' => e = .returned (.bool (v.rd == rd)) ∧ w' = w.alloc (.cells #[.int .i64 v.fr, .int .i64 v.rd, .int .u8 v.kd, .int .i64 v.va, .string v.tx] 64) := by
 unfold encV
 have hr1 : ∀ o, (w.alloc o).cell? ⟨br, 0, none⟩ = some (.int .i64 rd) := fun o => cell_al o hr
 go_enter Try.func68, Try.ntmps68
 go_wp2
 go_ret
 exact ⟨rfl, rfl⟩
set_option maxHeartbeats 400000 in
theorem all1 (v : Vt) (rd kd : Int) (br bk : Nat) (w : World) (hr : w.cell? ⟨br, 0, none⟩ = some (.int .i64 rd)) (hk : w.cell? ⟨bk, 0, none⟩ = some (.int .u8 kd)) :
 Calls Try.prog 59 #[encV v, .pointer (some ⟨br, 0, none⟩), .pointer (some ⟨bk, 0, none⟩)] w fun e w' => e = .returned (.bool (v.rd == rd && v.kd == kd)) ∧ w' = w.alloc (.cells #[.int .i64 v.fr, .int .i64 v.rd, .int .u8 v.kd, .int .i64 v.va, .string v.tx] 64) := by
 unfold encV
 have hr1 : ∀ o, (w.alloc o).cell? ⟨br, 0, none⟩ = some (.int .i64 rd) := fun o => cell_al o hr
 have hk1 : ∀ o, (w.alloc o).cell? ⟨bk, 0, none⟩ = some (.int .u8 kd) := fun o => cell_al o hk
 go_enter Try.func59, Try.ntmps59
 go_wp2
 all_goals
  go_ret
  refine ⟨ret_bool ?_, by simp_all⟩
  simp_all
set_option maxHeartbeats 1000000 in
theorem count1 (v : Vt) (rd kd : Int) (tx : ByteArray) (br bk bt : Nat) (w : World) (hr : w.cell? ⟨br, 0, none⟩ = some (.int .i64 rd)) (hk : w.cell? ⟨bk, 0, none⟩ = some (.int .u8 kd)) (ht : w.cell? ⟨bt, 0, none⟩ = some (.string tx)) :
 Calls Try.prog 73 #[encV v, .pointer (some ⟨br, 0, none⟩), .pointer (some ⟨bk, 0, none⟩), .pointer (some ⟨bt, 0, none⟩)] w fun e w' => e = .returned (.bool (v.rd == rd && v.kd == kd && v.tx.toList == tx.toList)) ∧ w' = w.alloc (.cells #[.int .i64 v.fr, .int .i64 v.rd, .int .u8 v.kd, .int .i64 v.va, .string v.tx] 64) := by
 unfold encV
 have hr1 : ∀ o, (w.alloc o).cell? ⟨br, 0, none⟩ = some (.int .i64 rd) := fun o => cell_al o hr
 have hk1 : ∀ o, (w.alloc o).cell? ⟨bk, 0, none⟩ = some (.int .u8 kd) := fun o => cell_al o hk
 have ht1 : ∀ o, (w.alloc o).cell? ⟨bt, 0, none⟩ = some (.string tx) := fun o => cell_al o ht
 go_enter Try.func73, Try.ntmps73
 go_wp2
 all_goals
  go_ret
  refine ⟨ret_bool ?_, by simp_all⟩
  simp_all
end Go.Proofs.Tly

namespace Go.Proofs.Tly
open Go Go.RowKit Go.Rm Go.Proofs

theorem ret_int {a b : Int} (h : a = b) : Ending.returned (.int .i64 a) = .returned (.int .i64 b) := by rw [h]
theorem made_zero (k : Nat) : (madeCells (Value.int .i64 0).cells (k * 1)).toList = List.replicate k (Value.int .i64 0) := by
 apply List.ext_getElem
 · simp [madeCells]
 · intro i h1 h2
   simp [madeCells, Value.cells, Nat.mod_one]
theorem hid {p : Prop} (h : p) : RowKit.Hid p := h
def Had (w : World) (bh n : Nat) (p : Vt → Bool) (l : List Vt) : Prop := ∀ f, f ≤ n → w.cell? ⟨bh, f, none⟩ = some (.int .i64 (cnt p l f : Int)) ∧ w.frozen? ⟨bh, f, none⟩ = false
theorem cell_lt {W : World} {a : Addr} {v : Value} (h : W.cell? a = some v) : a.block < W.heap.size := by
 unfold World.cell? at h
 cases hx : W.heap[a.block]? with
 | none => rw [hx] at h; simp at h
 | some _ => exact (Array.getElem?_eq_some_iff.1 hx).1
theorem cell_blk {W W' : World} {a : Addr} (h : W'.heap[a.block]? = W.heap[a.block]?) : W'.cell? a = W.cell? a ∧ W'.frozen? a = W.frozen? a := by
 unfold World.cell? World.frozen?; rw [h]; exact ⟨rfl, rfl⟩
theorem cell_gb {W W' : World} {a : Addr} {v : Value} {row : Option Nat} (h : W.cell? a = some v) (hg : W.grownBy W' row) (hr : some a.block ≠ row) : W'.cell? a = some v :=
 (cell_blk (hg.block _ (cell_lt h) hr)).1.trans h
theorem blk_gb {W W' : World} {b : Nat} {o : Obj} {row : Option Nat} (h : W.heap[b]? = some o) (hg : W.grownBy W' row) (hr : some b ≠ row) : W'.heap[b]? = some o :=
 (hg.block _ (Array.getElem?_eq_some_iff.1 h).1 hr).trans h
theorem cell_below {W W' : World} {n : Nat} {a : Addr} {v : Value} (h : W.cell? a = some v) (hb : Below n W W') (hn : a.block < n) : W'.cell? a = some v := (hb.cell hn).trans h

theorem info3 : (Try.prog.info? 3).map (fun i => (i.zero, i.size, i.bytes)) = some (some (.int .i64 0), 1, 8) := by kernel_rfl
set_option maxRecDepth 100000 in
set_option maxHeartbeats 1000000 in
theorem members_any (g : FuncId) (cb : Array Value) (p : Vt → Bool) (bt ot bm n : Nat) (es : Array MapEntry) (clock : Nat) (w : World) (hn : n ≤ 1000000) (hsz : es.size ≤ 1000000)
 (h0 : w.cell? ⟨bt, ot, none⟩ = some (.int .i64 (n : Int))) (h1 : w.cell? ⟨bt, ot + 1, none⟩ = some (.map (some bm))) (hb : w.heap[bm]? = some (.map es clock)) (hs : Stamps es clock)
 (hv : ∀ e ∈ es.toList, e.val = encV (dv e) ∧ ∃ f : Nat, (dv e).fr = (f : Int) ∧ f ≤ n)
 (eg : ∀ args w, (callFunc g args).run Try.prog w = .ok (.enter g args) w)
 (hg : ∀ (W : World) (v : Vt), Below w.heap.size w W → Calls Try.prog g (#[encV v] ++ cb) W fun e W' => e = .returned (.bool (p v)) ∧ Below W.heap.size W W') :
 Calls Try.prog 58 #[.pointer (some ⟨bt, ot, none⟩), .func (.func g) #[] cb] w fun e w' => e = .returned (.int .i64 (mem p n (es.toList.map dv) : Int)) ∧ Below w.heap.size w w' := by
 obtain ⟨i0, hi, hz0, hz1, hz2⟩ := info_parts info3
 go_enter Try.func58, Try.ntmps58
 go_wp2_with (first
  | (at_make; refine wpList_make_full _ rfl _ _ 68 rfl w.heap.size 3 i0 (.int .i64 0) 1 Try.underlying68 hi hz0 hz1 .i64 .i64 _ _ (n + 1) rfl rfl (by push_cast; rfl) (by push_cast; rfl) (by rw [hz2]; omega) (by unfold maxLen; omega) (Nat.le_refl _) ?_; intro w1 hown hgr; have hc1 := cell_gb h1 hgr (by simp); have hb1 := blk_gb hb hgr (by simp))
  | (at_range; refine wpList_range_raw rfl _ 76 rfl 95 64 Try.underlying76 rfl hb1 hs ?_; intro w2 hw2 hrg)
  | go_in)
 go_frame
 have hlt1 : w.heap.size < w1.heap.size := (hown.lt w.heap.size rfl).2
 have hbt := cell_lt h0
 have hbm := (Array.getElem?_eq_some_iff.1 hb).1
 simp only at hbt
 have hHad : Had w2 w.heap.size n p [] := by
  obtain ⟨_, h | ⟨gg, cap, cur, he, _, hcur, _, _, hcs, htk⟩⟩ := hown
  · cases h.1
  · injection he with he1 he2 he3
    injection he1 with he1
    injection he1 with he1
    subst he1
    have hz : cur.toList = List.replicate (n + 1) (Value.int .i64 0) := by
     have h1 : cur.toList.take ((n + 1) * 1) = cur.toList := List.take_of_length_le (by simp [hcs, ← he3])
     rw [← h1, htk]
     exact made_zero _
    have hblk : w2.heap[w.heap.size]? = some (.cells cur 3 (0, 0)) := by rw [hw2, Below.heap_alloc _ _ _ hlt1]; exact hcur
    intro f hf
    have hcf : cur[f]? = some (.int .i64 0) := by
     rw [← Array.getElem?_toList, hz, List.getElem?_replicate, if_pos (by omega)]
    constructor
    · unfold World.cell?; simp only [hblk]; simpa [cnt_nil] using hcf
    · unfold World.frozen?; simp only [hblk]; simp
 have hB2 : Below w.heap.size w w2 := by
  rw [hw2]
  exact ((Below.refl _ _).grown hgr (Nat.le_refl _) (fun k e => by cases e)).alloc (by omega) _
 go_loopw [6] (fun x wr => ∃ (done todo : List MapEntry), Rng wr bm w1.heap.size es clock done todo ∧ x = .int .i64 (mem p n (done.map dv) : Int) ∧ Had wr w.heap.size n p (done.map dv) ∧ Below w.heap.size w wr ∧ w1.heap.size < wr.heap.size)
  (fun _ wr => wr.rangeLeft bm w1.heap.size)
 case atStart => exact ⟨[], es.toList, hrg, by simp [mem_nil], hHad, hB2, by rw [hw2]; simp⟩
 case round =>
  obtain ⟨done, todo, hrg, rfl, hH, hB, hws⟩ := hrel
  go_wp2_with (first
   | (at_next; refine wpList_next_raw rfl _ rfl rfl hrg ?_ ?_)
   | go_in)
  · intro h0
    subst h0
    have hm : mem p n (done.map dv) = mem p n (es.toList.map dv) := mem_perm (by simpa using hrg.2.2.2.map dv) n
    go_wp2
    go_ret
    exact ⟨ret_int (by rw [hm]), hB⟩
  · rintro ⟨k0, x0, b0⟩ todo' w3 hp hrg3 hg3 hs3 hen
    obtain ⟨hx, f, hf, hfn⟩ := hv ⟨k0, x0, b0⟩ ((hrg.2.2.2).subset (List.mem_append_right _ (hp.symm.subset List.mem_cons_self)))
    obtain ⟨v, hvd, hx⟩ : ∃ v, dv ⟨k0, x0, b0⟩ = v ∧ x0 = encV v := ⟨_, rfl, hx⟩
    subst hx
    rw [hvd] at hf
    have hgv := hg (w3.alloc (.cells #[.int .i64 v.fr, .int .i64 v.rd, .int .u8 v.kd, .int .i64 v.va, .string v.tx] 64)) v (((hB.grown hg3 (by omega) (fun k e => by cases e; omega))).alloc (by omega) _)
    dsimp only [encV] at hen hgv ⊢
    rw [hf] at hen hgv ⊢
    have hcl := cnt_le p (done.map dv) f
    have hml := mem_le p n (done.map dv)
    have hdl : done.length ≤ es.size := by
     have := hrg.2.2.2.length_eq
     simp at this
     omega
    simp only [List.length_map] at hcl
    have hcl2 : cnt p (done.map dv) f ≤ 1000000 := by omega
    have hml2 : mem p n (done.map dv) ≤ 1000001 := by omega
    clear hcl hml hdl
    have hbm1 : bm < w1.heap.size := by omega
    have hH3 : ∀ W4, Below (w3.alloc (.cells #[.int .i64 v.fr, .int .i64 v.rd, .int .u8 v.kd, .int .i64 v.va, .string v.tx] 64)).heap.size (w3.alloc (.cells #[.int .i64 v.fr, .int .i64 v.rd, .int .u8 v.kd, .int .i64 v.va, .string v.tx] 64)) W4 → Rng W4 bm w1.heap.size es clock (done ++ [⟨k0, encV v, b0⟩]) todo' ∧ Had W4 w.heap.size n p (done.map dv) ∧ Below w.heap.size w W4 ∧ wr.heap.size < W4.heap.size ∧ W4.cell? ⟨wr.heap.size, 0, none⟩ = some (.int .i64 v.fr) := by
     intro W4 hb4
     have hsz4 := hb4.size
     simp only [World.size_alloc] at hsz4
     have hblk : ∀ j, j < wr.heap.size → j ≠ w1.heap.size → W4.heap[j]? = wr.heap[j]? := fun j hj hne => by
      rw [hb4.block j (by simp; omega), Below.heap_alloc _ _ _ (by omega)]
      exact hg3.block j hj (by simpa using hne)
     refine ⟨hrg3.of_blocks ?_ ?_, fun g hg => ?_, ?_, by omega, ?_⟩
     · rw [hb4.block bm (by simp; omega), Below.heap_alloc _ _ _ (by omega)]
     · rw [hb4.block w1.heap.size (by simp; omega), Below.heap_alloc _ _ _ (by omega)]
     · obtain ⟨q1, q2⟩ := cell_blk (W := wr) (W' := W4) (a := ⟨w.heap.size, g, none⟩) (hblk _ (by simp; omega) (by simp; omega))
       rw [q1, q2]; exact hH g hg
     · refine (((hB.grown hg3 (by omega) (fun k e => by cases e; omega))).alloc (by omega) (.cells #[.int .i64 v.fr, .int .i64 v.rd, .int .u8 v.kd, .int .i64 v.va, .string v.tx] 64)).trans (hb4.mono (by simp; omega))
     · rw [← hs3, hb4.cell (p := ⟨w3.heap.size, 0, none⟩) (by simp), World.cell?_alloc_new]; rfl
    have hvd' : dv ⟨k0, encV v, b0⟩ = v := rfl
    have hdone : (done ++ [⟨k0, encV v, b0⟩] : List MapEntry).map dv = done.map dv ++ [v] := by simp [hvd']
    have HD := hid hdone
    have HL := hid hrg.left_eq
    have HP := hid hp
    have HF := hid hf
    rw [hf] at hH3
    clear hdone hvd' hvd hp
    cases hpv : p v with
    | false =>
     rw [hpv] at hgv
     go_wp2_with (first | (go_at_fn g; refine hgv.mono ?_; clear hgv; rintro e w4 ⟨rfl, hb4⟩; obtain ⟨r1, r2, r3, r4, r5⟩ := hH3 w4 hb4) | go_in)
     go_roundw
     case rel => exact ⟨done ++ [({ key := k0, val := encV v, born := b0 } : MapEntry)], todo', r1, by rw [HD.out, mem_no hpv], fun g hg => by rw [HD.out, cnt_no hpv]; exact r2 g hg, r3, by omega⟩
     case measure => rw [r1.left_eq, HL.out, HP.out.length_eq]; simp
    | true =>
     rw [hpv] at hgv
     have hfin : ∀ W4, Rng W4 bm w1.heap.size es clock (done ++ [⟨k0, encV v, b0⟩]) todo' → Had W4 w.heap.size n p (done.map dv) → Below w.heap.size w W4 → wr.heap.size < W4.heap.size → ∀ x, x = Value.int .i64 (cnt p (done.map dv) f + 1 : Int) → 
      Rng (W4.setCell ⟨w.heap.size, f, none⟩ x) bm w1.heap.size es clock (done ++ [⟨k0, encV v, b0⟩]) todo' ∧ Had (W4.setCell ⟨w.heap.size, f, none⟩ x) w.heap.size n p ((done ++ [⟨k0, encV v, b0⟩] : List MapEntry).map dv) ∧ Below w.heap.size w (W4.setCell ⟨w.heap.size, f, none⟩ x) ∧ w1.heap.size < (W4.setCell ⟨w.heap.size, f, none⟩ x).heap.size := by
      rintro W4 r1 r2 r3 r4 x rfl
      refine ⟨r1.of_blocks (Below.heap_setCell _ _ _ _ (by simp; omega)) (Below.heap_setCell _ _ _ _ (by simp; omega)), fun g hg => ?_, r3.setCell (p := ⟨w.heap.size, f, none⟩) (Nat.le_refl _) _, by simp [World.setCell]; omega⟩
      rw [HD.out, World.frozen?_setCell]
      refine ⟨?_, (r2 g hg).2⟩
      by_cases hgf : g = f
      · subst hgf
        rw [World.cell?_setCell_same _ _ _ (r2 g hg).1, cnt_same hpv HF.out]
        simp
      · rw [World.cell?_setCell_other _ _ _ _ (by simp), cnt_other HF.out hgf]
        exact (r2 g hg).1
     by_cases hc0 : cnt p (done.map dv) f = 0
     · have HC := hid hc0
       have ht : ((cnt p (done.map dv) f : Int) == 0) = true := by simp [hc0]
       clear hc0
       go_wp2_with (first | (go_at_fn g; refine hgv.mono ?_; clear hgv; rintro e w4 ⟨rfl, hb4⟩; obtain ⟨r1, r2, r3, r4, r5⟩ := hH3 w4 hb4; obtain ⟨r6, r7⟩ := r2 f hfn) | go_in)
       go_roundw
       case rel =>
        obtain ⟨z1, z2, z3, z4⟩ := hfin w4 r1 r2 r3 r4 _ rfl
        exact ⟨done ++ [⟨k0, encV v, b0⟩], todo', z1, by rw [HD.out, mem_new hpv HF.out hfn HC.out]; simp, z2, z3, z4⟩
       case measure =>
        obtain ⟨z1, z2, z3, z4⟩ := hfin w4 r1 r2 r3 r4 _ rfl
        rw [z1.left_eq, HL.out, HP.out.length_eq]; simp
     · have HC := hid hc0
       have ht : ((cnt p (done.map dv) f : Int) == 0) = false := by simp [hc0]
       clear hc0
       go_wp2_with (first | (go_at_fn g; refine hgv.mono ?_; clear hgv; rintro e w4 ⟨rfl, hb4⟩; obtain ⟨r1, r2, r3, r4, r5⟩ := hH3 w4 hb4; obtain ⟨r6, r7⟩ := r2 f hfn) | go_in)
       go_roundw
       case rel =>
        obtain ⟨z1, z2, z3, z4⟩ := hfin w4 r1 r2 r3 r4 _ rfl
        exact ⟨done ++ [⟨k0, encV v, b0⟩], todo', z1, by rw [HD.out, mem_old HF.out HC.out], z2, z3, z4⟩
       case measure =>
        obtain ⟨z1, z2, z3, z4⟩ := hfin w4 r1 r2 r3 r4 _ rfl
        rw [z1.left_eq, HL.out, HP.out.length_eq]; simp
end Go.Proofs.Tly

namespace Go.Proofs.Tly
open Go Go.RowKit Go.Rm Go.Proofs

structure At (w : World) (bt ot n : Nat) (es : Array MapEntry) : Prop where
 count : w.cell? ⟨bt, ot, none⟩ = some (.int .i64 (n : Int))
 map : ∃ bm clock, w.cell? ⟨bt, ot + 1, none⟩ = some (.map (some bm)) ∧ w.heap[bm]? = some (.map es clock) ∧ Stamps es clock
 few : n ≤ 1000000
 size : es.size ≤ 1000000
 votes : ∀ e ∈ es.toList, e.val = encV (dv e) ∧ ∃ f : Nat, (dv e).fr = (f : Int) ∧ f ≤ n

theorem At.below {w w' : World} {bt ot n : Nat} {es : Array MapEntry} (h : At w bt ot n es) (hb : Below w.heap.size w w') : At w' bt ot n es := by
 obtain ⟨h1, ⟨bm, clock, h2, h3, h4⟩, h5, h6, h7⟩ := h
 exact ⟨cell_below h1 hb (cell_lt h1), ⟨bm, clock, cell_below h2 hb (cell_lt h2), (hb.block _ (Array.getElem?_eq_some_iff.1 h3).1).trans h3, h4⟩, h5, h6, h7⟩
theorem At.alloc {w : World} {bt ot n : Nat} {es : Array MapEntry} (h : At w bt ot n es) (o : Obj) : At (w.alloc o) bt ot n es := h.below ((Below.refl _ _).alloc (Nat.le_refl _) _)

theorem members_at (g : FuncId) (cb : Array Value) (p : Vt → Bool) {bt ot n : Nat} {es : Array MapEntry} {w : World} (h : At w bt ot n es)
 (eg : ∀ args w, (callFunc g args).run Try.prog w = .ok (.enter g args) w)
 (hg : ∀ (W : World) (v : Vt), Below w.heap.size w W → Calls Try.prog g (#[encV v] ++ cb) W fun e W' => e = .returned (.bool (p v)) ∧ Below W.heap.size W W') :
 Calls Try.prog 58 #[.pointer (some ⟨bt, ot, none⟩), .func (.func g) #[] cb] w fun e w' => e = .returned (.int .i64 (mem p n (es.toList.map dv) : Int)) ∧ Below w.heap.size w w' := by
 obtain ⟨h1, ⟨bm, clock, h2, h3, h4⟩, h5, h6, h7⟩ := h
 exact members_any g cb p bt ot bm n es clock w h5 h6 h1 h2 h3 h4 h7 eg hg

set_option maxHeartbeats 1000000 in
theorem sent_any {bt ot n : Nat} {es : Array MapEntry} {w : World} (h : At w bt ot n es) (rd : Int) :
 Calls Try.prog 55 #[.pointer (some ⟨bt, ot, none⟩), .int .i64 rd] w fun e w' => e = .returned (.int .i64 (mem (fun v => v.rd == rd) n (es.toList.map dv) : Int)) ∧ Below w.heap.size w w' := by
 have hm := members_at 68 #[.pointer (some ⟨w.heap.size, 0, none⟩)] (fun v => v.rd == rd) (h.alloc (.cells #[.int .i64 rd] 3)) (enters_of Try.func68 (by kernel_rfl) rfl) (fun W v hb =>
  (sent1 v rd w.heap.size W (cell_below (World.cell?_alloc_new ..) hb (by simp))).mono fun e W' ⟨he, hw⟩ => ⟨he, hw ▸ (Below.refl _ _).alloc (Nat.le_refl _) _⟩)
 go_enter Try.func55, Try.ntmps55
 go_wp2_with (first | (go_at_call 58; refine hm.mono ?_; clear hm; rintro e w4 ⟨rfl, hb4⟩) | go_in)
 go_ret
 exact ⟨rfl, ((Below.refl _ _).alloc (Nat.le_refl _) _).trans (hb4.mono (by simp))⟩
set_option maxHeartbeats 1000000 in
theorem all_any {bt ot n : Nat} {es : Array MapEntry} {w : World} (h : At w bt ot n es) (rd kd : Int) :
 Calls Try.prog 43 #[.pointer (some ⟨bt, ot, none⟩), .int .i64 rd, .int .u8 kd] w fun e w' => e = .returned (.int .i64 (mem (fun v => v.rd == rd && v.kd == kd) n (es.toList.map dv) : Int)) ∧ Below w.heap.size w w' := by
 have hm := members_at 59 #[.pointer (some ⟨w.heap.size, 0, none⟩), .pointer (some ⟨w.heap.size + 1, 0, none⟩)] (fun v => v.rd == rd && v.kd == kd) ((h.alloc (.cells #[.int .i64 rd] 3)).alloc (.cells #[.int .u8 kd] 5)) (enters_of Try.func59 (by kernel_rfl) rfl) (fun W v hb =>
  (all1 v rd kd w.heap.size (w.heap.size + 1) W (cell_below (World.cell?_alloc2_first ..) hb (by simp; omega)) (cell_below (World.cell?_alloc2_new ..) hb (by simp))).mono fun e W' ⟨he, hw⟩ => ⟨he, hw ▸ (Below.refl _ _).alloc (Nat.le_refl _) _⟩)
 go_enter Try.func43, Try.ntmps43
 go_wp2_with (first | (go_at_call 58; refine hm.mono ?_; clear hm; rintro e w4 ⟨rfl, hb4⟩) | go_in)
 go_ret
 exact ⟨rfl, (((Below.refl _ _).alloc (Nat.le_refl _) _).alloc (by simp) _).trans (hb4.mono (by simp; omega))⟩
set_option maxHeartbeats 1000000 in
theorem count_any {bt ot n : Nat} {es : Array MapEntry} {w : World} (h : At w bt ot n es) (rd kd : Int) (tx : ByteArray) :
 Calls Try.prog 66 #[.pointer (some ⟨bt, ot, none⟩), .int .i64 rd, .int .u8 kd, .string tx] w fun e w' => e = .returned (.int .i64 (mem (fun v => v.rd == rd && v.kd == kd && v.tx.toList == tx.toList) n (es.toList.map dv) : Int)) ∧ Below w.heap.size w w' := by
 have hm := members_at 73 #[.pointer (some ⟨w.heap.size, 0, none⟩), .pointer (some ⟨w.heap.size + 1, 0, none⟩), .pointer (some ⟨w.heap.size + 1 + 1, 0, none⟩)] (fun v => v.rd == rd && v.kd == kd && v.tx.toList == tx.toList) (((h.alloc (.cells #[.int .i64 rd] 3)).alloc (.cells #[.int .u8 kd] 5)).alloc (.cells #[.string tx] 9)) (enters_of Try.func73 (by kernel_rfl) rfl) (fun W v hb =>
  (count1 v rd kd tx w.heap.size (w.heap.size + 1) (w.heap.size + 1 + 1) W (cell_below (cell_al _ (World.cell?_alloc2_first ..)) hb (by simp; omega)) (cell_below (cell_al _ (World.cell?_alloc2_new ..)) hb (by simp)) (cell_below (by rw [show w.heap.size + 1 + 1 = ((w.alloc (.cells #[.int .i64 rd] 3)).alloc (.cells #[.int .u8 kd] 5)).heap.size by simp]; exact World.cell?_alloc_new ..) hb (by simp))).mono fun e W' ⟨he, hw⟩ => ⟨he, hw ▸ (Below.refl _ _).alloc (Nat.le_refl _) _⟩)
 go_enter Try.func66, Try.ntmps66
 go_wp2_with (first | (go_at_call 58; refine hm.mono ?_; clear hm; rintro e w4 ⟨rfl, hb4⟩) | go_in)
 go_ret
 exact ⟨rfl, ((((Below.refl _ _).alloc (Nat.le_refl _) _).alloc (by simp) _).alloc (by simp; omega) _).trans (hb4.mono (by simp; omega))⟩
end Go.Proofs.Tly

namespace Go.Proofs.Tly
open Go Go.RowKit Go.Rm Go.Proofs Go.Shelf

theorem rng_walks {w w' : World} {b r : Nat} {es : Array MapEntry} {clock : Nat} {done todo : List MapEntry} (h : Rng w b r es clock done todo) (hk : KeepsWalks w w') : Rng w' b r es clock done todo := by
 obtain ⟨hb, hs, ⟨seen, c0, hr, hc, ht⟩, hp⟩ := h
 exact ⟨hk.same b _ hb rfl, hs, ⟨seen, c0, hk.same r _ hr rfl, hc, ht⟩, hp⟩
theorem rng_iter {w : World} {b r : Nat} {es : Array MapEntry} {clock : Nat} {done todo : List MapEntry} (h : Rng w b r es clock done todo) : ∃ o : Obj, w.heap[r]? = some o ∧ o.isWalk = true := by
 obtain ⟨hb, hs, ⟨seen, c0, hr, hc, ht⟩, hp⟩ := h
 exact ⟨_, hr, rfl⟩

attribute [local go_sem] Oper.semAt_some
set_option maxRecDepth 100000 in
set_option maxHeartbeats 1000000 in
theorem vals1_in (F : Fence) (n : Nat) (h94 : F.fn 62) (hro : F.round = none) (hn : 1 ≤ n) (l Bm bm : Nat) (es : Array MapEntry) (clock : Nat) (J Jx : List Vt → World → Prop)
 (hY : ∀ pre x W, J pre W → pre.length < es.size → YieldAt F (n - 1) Try.prog l #[encV x] W fun e W' =>
  (e = .returned (.bool true) ∧ J (pre ++ [x]) W' ∧ KeepsWalks W W') ∨ (e = .returned (.bool false) ∧ Jx (pre ++ [x]) W'))
 (W : World) (hJ : AbidesFrom W.heap.size J) (hm : W.cell? ⟨Bm, 0, none⟩ = some (.map (some bm))) (hb : W.heap[bm]? = some (.map es clock)) (hs : Stamps es clock) (hv : ∀ e ∈ es.toList, e.val = encV (dv e)) (h0 : J [] W) :
 CallsIn F n Try.prog 62 #[.func (.yield l) #[] #[], .pointer (some ⟨Bm, 0, none⟩)] W fun e W' => (∃ v, e = .returned v) ∧
  ((∃ xs, xs.Perm (es.toList.map dv) ∧ J xs W') ∨ (∃ pre, True ∧ Jx pre W')) := by
 refine callsIn_of_wp Try.func62 rfl h94 ?_ hro
 simp only [Try.ntmps62, List.size_toArray, List.length_cons, List.length_nil, Nat.reduceAdd, Nat.reduceSub, Array.replicate_succ, Array.replicate_zero, List.push_toArray, List.append_toArray, List.nil_append, List.cons_append]
 gi_wp2_with (first
  | (gi_at_range; refine wpListIn_range_raw rfl _ 76 rfl 95 64 Try.underlying76 rfl hb hs ?_; intro w0 hw0 hrg0)
  | gi_in)
 go_frame
 gi_loopw [4] (fun _ wr => ∃ (done todo : List MapEntry), Rng wr bm W.heap.size es clock done todo ∧ J (done.map dv) wr)
  (fun _ wr => wr.rangeLeft bm W.heap.size)
 case atStart =>
  exact ⟨[], es.toList, hrg0, hJ [] W w0 none h0 (by rw [hw0]; exact World.grownBy_alloc W _ none) (fun r e => by cases e)⟩
 case round =>
  obtain ⟨done, todo, hrg, hJs⟩ := hrel
  gi_wp2_with (first
   | (gi_at_next; refine wpListIn_next_raw rfl _ rfl rfl hrg ?_ ?_)
   | gi_in)
  · intro hc0
    subst hc0
    gi_wp2
    go_end0
    exact ⟨⟨_, rfl⟩, .inl ⟨_, by simpa using hrg.2.2.2.map dv, hJs⟩⟩
  · rintro ⟨k0, x0, b0⟩ todo' w2 hp hrg2 hg2 hs2 hen
    have hx := hv ⟨k0, x0, b0⟩ ((hrg.2.2.2).subset (List.mem_append_right _ (hp.symm.subset List.mem_cons_self)))
    obtain ⟨v, hvd, hx⟩ : ∃ v, dv ⟨k0, x0, b0⟩ = v ∧ x0 = encV v := ⟨_, rfl, hx⟩
    subst hx
    have hJ2 : J (done.map dv) w2 := hJ _ wr w2 (some W.heap.size) hJs hg2 (fun r e => by cases e; exact ⟨Nat.le_refl _, rng_iter hrg⟩)
    have hJ3 : J (done.map dv) (w2.alloc (.cells #[.int .i64 v.fr, .int .i64 v.rd, .int .u8 v.kd, .int .i64 v.va, .string v.tx] 64)) := hJ _ w2 _ none hJ2 (World.grownBy_alloc _ _ none) (fun r e => by cases e)
    have hdl : done.length < es.size := by
     have h1 := hrg.2.2.2.length_eq
     have h2 := hp.length_eq
     simp at h1 h2
     omega
    obtain ⟨fn, tmps, assign, body, hy, hR⟩ := hY (done.map dv) v _ hJ3 (by simpa using hdl)
    have hdone : (done ++ [⟨k0, encV v, b0⟩] : List MapEntry).map dv = done.map dv ++ [v] := by simp [hvd]
    have HD := hid hdone
    have HL := hid hrg.left_eq
    have HP := hid hp
    have hrg3 := hrg2.kept (World.grownBy_alloc w2 (.cells #[.int .i64 v.fr, .int .i64 v.rd, .int .u8 v.kd, .int .i64 v.va, .string v.tx] 64) none) (by simp) (by simp)
    clear hdone hvd hp hJ2 hJ3 hdl
    dsimp only [encV] at hen hy hR ⊢
    gi_wp2
    refine hR.mono ?_
    rintro e W3 (⟨rfl, hJ3, hk3⟩ | ⟨rfl, hJx3⟩)
    · gi_wp2
      have hrg4 := rng_walks hrg3 hk3
      go_roundw
      case rel => exact ⟨done ++ [⟨k0, encV v, b0⟩], todo', hrg4, by rw [HD.out]; exact hJ3⟩
      case measure => rw [hrg4.left_eq, HL.out, HP.out.length_eq]; simp
    · gi_wp2
      refine bodyPost_ret (results_none rfl _ _ _) rfl ?_
      exact ⟨⟨_, rfl⟩, .inr ⟨_, trivial, hJx3⟩⟩
end Go.Proofs.Tly

namespace Go.Proofs.Tly
open Go Go.RowKit Go.Rm Go.Proofs Go.Shelf

def cellsV (v : Vt) : List Value := [.int .i64 v.fr, .int .i64 v.rd, .int .u8 v.kd, .int .i64 v.va, .string v.tx]
theorem info55 : (Try.prog.info? 64).map (fun i => (i.zero, i.size, i.bytes)) = some (some (.agg #[.int .i64 0, .int .i64 0, .int .u8 0, .int .i64 0, .string ⟨#[]⟩]), 5, 48) := by kernel_rfl

theorem vals_stops (F : Fence) (n : Nat) (h94 : F.fn 62) (hro : F.round = none) (hn : 1 ≤ n) (Bm bm : Nat) (es : Array MapEntry) (clock : Nat) (w : World) (hBm : Bm < w.heap.size)
 (hm : w.cell? ⟨Bm, 0, none⟩ = some (.map (some bm))) (hb : w.heap[bm]? = some (.map es clock)) (hs : Stamps es clock) (hv : ∀ e ∈ es.toList, e.val = encV (dv e)) :
 SeqStopsK F n Try.prog 62 #[.pointer (some ⟨Bm, 0, none⟩)] (fun v : Vt => #[encV v]) KeepsWalks (fun xs => xs.Perm (es.toList.map dv)) (fun _ => True) es.size w := fun l J Jx W hW hJ _ hY h0 =>
 vals1_in F n h94 hro hn l Bm bm es clock J Jx hY W hJ ((hW.cell (p := ⟨Bm, 0, none⟩) hBm).trans hm) ((hW.block bm (Array.getElem?_eq_some_iff.1 hb).1).trans hb) hs hv h0

theorem cellsV_new (W : World) (v : Vt) (t : TypeId) : ∀ j u, (cellsV v)[j]? = some u → (W.alloc (.cells #[.int .i64 v.fr, .int .i64 v.rd, .int .u8 v.kd, .int .i64 v.va, .string v.tx] t)).cell? ((⟨W.heap.size, 0, none⟩ : Addr).add j) = some u := by
 intro j u hj
 have : (⟨W.heap.size, 0, none⟩ : Addr).add j = ⟨W.heap.size, j, none⟩ := by
  unfold Addr.add; split <;> simp_all
 rw [this, World.cell?_alloc_new]
 exact (List.getElem?_toArray (xs := cellsV v)).trans hj
theorem cellsV_one (v : Vt) : ∀ u ∈ cellsV v, u.oneCell' = true := by
 intro u hu
 simp [cellsV] at hu
 rcases hu with rfl | rfl | rfl | rfl | rfl <;> rfl

attribute [local go_sem] Oper.semAt_some
set_option maxRecDepth 100000 in
set_option maxHeartbeats 4000000 in
theorem appendSeq_in (F : Fence) (n : Nat) (h118 : F.fn 70) (h94 : F.fn 62) (hro : F.round = none) (hn : 3 ≤ n) (Bm bm : Nat) (es : Array MapEntry) (clock : Nat) (w : World) (hsz : es.size ≤ 1000000)
 (hm : w.cell? ⟨Bm, 0, none⟩ = some (.map (some bm))) (hb : w.heap[bm]? = some (.map es clock)) (hs : Stamps es clock) (hv : ∀ e ∈ es.toList, e.val = encV (dv e)) :
 CallsIn F n Try.prog 70 #[.slice none 0 0, .func (.func 62) #[] #[.pointer (some ⟨Bm, 0, none⟩)]] w fun e W' => ∃ (v : Value) (xs : List Vt), e = .returned v ∧ xs.Perm (es.toList.map dv) ∧ W'.ownsRow w.heap.size 64 5 v xs.length (xs.flatMap cellsV) ∧ (v = .slice none 0 0 ↔ xs = []) ∧ Below w.heap.size w W' := by
 have h1 : 1 ≤ n := by omega
 have hBm := cell_lt hm
 simp only at hBm
 obtain ⟨i0, hi, hz0, hz1, hz2⟩ := info_parts info55
 refine callsIn_of_wp_marks Try.func70 rfl h118 ?_ hro
 simp only [Try.ntmps70, List.size_toArray, List.length_cons, List.length_nil, Nat.reduceAdd, Nat.reduceSub, Array.replicate_succ, Array.replicate_zero, List.push_toArray, List.append_toArray, List.nil_append, List.cons_append]
 gi_wp2
 have bS := Boxed.new w 39 (.slice none 0 0)
 have hB0 : Below w.heap.size w (w.alloc (.cells #[.slice none 0 0] 39)) := (Below.refl _ w).alloc (Nat.le_refl _) _
 have hm0 := cell_al (.cells #[.slice none 0 0] 39) hm
 have hb0 : (w.alloc (.cells #[.slice none 0 0] 39)).heap[bm]? = some (.map es clock) := (Below.heap_alloc _ _ _ (Array.getElem?_eq_some_iff.1 hb).1).trans hb
 have hsz0 : (w.alloc (.cells #[.slice none 0 0] 39)).heap.size = w.heap.size + 1 := by simp
 have hr0 := World.ownsRow_nil (w.alloc (.cells #[.slice none 0 0] 39)) w.heap.size 64 5
 obtain ⟨W0, hW0⟩ : ∃ W0, w.alloc (.cells #[.slice none 0 0] 39) = W0 := ⟨_, rfl⟩
 rw [hW0] at bS hB0 hm0 hb0 hsz0 hr0 ⊢
 clear hW0
 refine wpIn_rangeFunc_ownH hro h1 (gf := 62) (lb := #[.pointer (some ⟨Bm, 0, none⟩)]) rfl h94 (enters_of Try.func62 (by kernel_rfl) rfl)
  (vals_stops F (n - 1) h94 hro (by omega) Bm bm es clock W0 (by omega) hm0 hb0 hs hv) walksK_t walksK_b (Below.refl _ _) (fun _ => rfl)
  (fun pre W => (∃ v, Boxed W w.heap.size 39 v ∧ W.ownsRow w.heap.size 64 5 v pre.length (pre.flatMap cellsV) ∧ (v = .slice none 0 0 ↔ pre = [])) ∧ Below w.heap.size w W)
  (fun _ _ _ => False)
  (OwnFrom.and (Own.from (holdsRow_own w.heap.size w.heap.size 39 64 5 (fun pre : List Vt => pre.length) (fun pre => pre.flatMap cellsV) (fun pre v => (v = .slice none 0 0 ↔ pre = []))) _) (ownFrom_below (Nat.le_refl _) (by omega)))
  (fun _ _ _ _ _ hs _ _ => hs)
  ⟨⟨_, bS, hr0, by simp⟩, hB0⟩
  (fun x a' W => ∃ Bx, w.heap.size < Bx ∧ W.heap[Bx]? = some (.cells #[.int .i64 x.fr, .int .i64 x.rd, .int .u8 x.kd, .int .i64 x.va, .string x.tx] 64 (0, 0)) ∧ a' = { tmps := #[.slice none 0 0, .func (.func 62) #[] #[.pointer (some ⟨Bm, 0, none⟩)], .pointer (some ⟨w.heap.size, 0, none⟩), undef, .slice none 0 0, .pointer (some ⟨Bx, 0, none⟩), .func (.func 62) #[] #[.pointer (some ⟨Bm, 0, none⟩)], encV x, undef, undef, undef, undef, undef], defers := [] })
  (fun x a' _ X Y row hs hg hr => by
   obtain ⟨Bx, h1, h2, h3⟩ := hs
   refine ⟨Bx, h1, (hg.block Bx (Array.getElem?_eq_some_iff.1 h2).1 (fun e => ?_)).trans h2, h3⟩
   obtain ⟨_, o, ho, hc⟩ := hr Bx e.symm
   rw [h2] at ho; cases ho; cases hc)
  ?assign ?body ?done ?stop
 case assign =>
  rintro l pre x W K ⟨⟨v, bS1, hr1, hnl⟩, hB1⟩ hK
  dsimp only [encV] at hK ⊢
  gi_wp2
  refine hK _ _ ((KeepsOthers.alloc _ _).from _) (KeepsWalks.alloc _ _) ⟨⟨v, bS1.alloc _, hr1.alloc _, hnl⟩, hB1.alloc hB1.size _⟩ ⟨W.heap.size, bS1.lt, ?_, rfl⟩
  exact World.alloc_heap_new W _
 case body =>
  rintro l pre x a' W hl ⟨r, hr⟩ ⟨⟨v, bS1, hr1, _⟩, hB1⟩ ⟨Bx, hBx, bX, rfl⟩ hlt
  have cB := bS1.cell
  have hle := hB1.size
  have cX : ∀ j u, (cellsV x)[j]? = some u → W.cell? ⟨Bx, j, none⟩ = some u := fun j u hj => by
   unfold World.cell?; simp only [bX]; exact (List.getElem?_toArray (xs := cellsV x)).trans hj
  have c0 := cX 0 _ rfl
  have c1 := cX 1 _ rfl
  have c2 := cX 2 _ rfl
  have c3 := cX 3 _ rfl
  have c4 := cX 4 _ rfl
  clear cX
  dsimp only [encV]
  gi_wp2_with (first
   | (gi_at_builtin; refine wpListIn_append_own _ rfl _ _ 39 rfl w.heap.size 64 i0 _ 5 48 Try.underlying39 hi hz0 hz1 hz2 rfl (by decide) _ _ _ rfl (hr1.alloc _) ⟨W.heap.size, 0, none⟩ 1 1 (cellsV x) rfl rfl (cellsV_new _ _ _) (cellsV_one x) (by unfold maxLen; omega) (by omega) (by simp; omega) ?_; intro v' w1 hown' hgrow _; obtain ⟨g', cap', rfl⟩ := ownsRow_succ hown'; obtain ⟨hv1, hv2, hr2, hk2, hb2⟩ := bS1.appended (by decide) hr1 hle (Nat.le_refl _) hown' hgrow; have hc1 := hv1.cell; have hf1 := hv1.frozen)
   | gi_in)
  refine ⟨hk2.from _, ?_, ⟨⟨_, hv2, ?_, by simp⟩, hB1.trans hb2⟩⟩
  · exact ⟨hk2.size, fun k o hk ho => hk2.same k o hk (Obj.not_cells_of_walk ho)⟩
  · simpa using hr2
 case done =>
  rintro D xs W hD hxs ⟨⟨v, bS1, hr1, hnl⟩, hB1⟩ hK
  have cS := bS1.cell
  gi_wp2
  refine ⟨by simp, .inl ⟨_, _, rfl, run_takeDeferred hK, ?_⟩⟩
  exact ⟨_, results_tmp rfl _ _ _, v, xs, rfl, hxs, ownsRow_putObj hr1 _ hK rfl, hnl, hB1.trans (belowK_b (w := w) (Nat.le_refl _) W D _ _ (by omega) hK rfl rfl)⟩
 case stop =>
  rintro D c pre W _ _ h _
  exact h.elim
end Go.Proofs.Tly

namespace Go.Proofs
open Go.Shelf
def Try.cmpInt_ren : Go.Shelf.Ren := ⟨fun | 5 => 49 | 7 => 63 | n => n, fun | 22 => 3 | 3 => 3 | 4 => 4 | n => n, fun | n => n⟩
theorem Try.cmpInt : Go.Proofs.SlLaysC2.n5 Try.prog Try.cmpInt_ren := {
 mixed := by kernel_rfl
 f5 := ⟨Try.f49.name, by decide, Try.func49.trans (congrArg some (by kernel_rfl))⟩
 f7 := ⟨Try.f63.name, by decide, Try.func63.trans (congrArg some (by kernel_rfl))⟩
 t3 := Try.underlying3
 a3 := Try.isAgg3
 z3 := Try.sizeOf3
 v3 := Try.zeroValue3
 t4 := Try.underlying4
 a4 := Try.isAgg4
 z4 := Try.sizeOf4
 v4 := Try.zeroValue4
 t22 := Try.underlying3
 a22 := Try.isAgg3
 z22 := Try.sizeOf3
 v22 := Try.zeroValue3 }
def Try.sortV_ren : Go.Shelf.Ren := ⟨fun | 6 => 61 | 15 => 72 | 14 => 71 | 28 => 82 | 29 => 83 | 20 => 74 | 21 => 75 | 22 => 76 | 23 => 77 | 24 => 78 | 25 => 79 | 26 => 80 | 27 => 81 | 46 => 84 | 47 => 85 | 48 => 86 | 49 => 87 | 50 => 88 | 57 => 89 | n => n, fun | 22 => 39 | 24 => 64 | 25 => 99 | 3 => 3 | 39 => 121 | 0 => 0 | 53 => 131 | 55 => 101 | 4 => 4 | 46 => 124 | 45 => 123 | 50 => 128 | 5 => 5 | 9 => 9 | 66 => 133 | 70 => 137 | 76 => 139 | 77 => 140 | n => n, fun | n => n⟩
theorem Try.sortV : Go.Proofs.SlLaysF0.n6 Try.prog Try.sortV_ren := {
 mixed := by kernel_rfl
 f6 := ⟨Try.f61.name, by decide, Try.func61.trans (congrArg some (by kernel_rfl))⟩
 f14 := ⟨Try.f71.name, by decide, Try.func71.trans (congrArg some (by kernel_rfl))⟩
 f15 := Try.func72.trans (congrArg some (by kernel_rfl))
 f20 := ⟨Try.f74.name, by decide, Try.func74.trans (congrArg some (by kernel_rfl))⟩
 f21 := ⟨Try.f75.name, by decide, Try.func75.trans (congrArg some (by kernel_rfl))⟩
 f22 := ⟨Try.f76.name, by decide, Try.func76.trans (congrArg some (by kernel_rfl))⟩
 f23 := ⟨Try.f77.name, by decide, Try.func77.trans (congrArg some (by kernel_rfl))⟩
 f24 := ⟨Try.f78.name, by decide, Try.func78.trans (congrArg some (by kernel_rfl))⟩
 f25 := ⟨Try.f79.name, by decide, Try.func79.trans (congrArg some (by kernel_rfl))⟩
 f26 := ⟨Try.f80.name, by decide, Try.func80.trans (congrArg some (by kernel_rfl))⟩
 f27 := ⟨Try.f81.name, by decide, Try.func81.trans (congrArg some (by kernel_rfl))⟩
 f28 := Try.func82.trans (congrArg some (by kernel_rfl))
 f29 := Try.func83.trans (congrArg some (by kernel_rfl))
 f46 := ⟨Try.f84.name, by decide, Try.func84.trans (congrArg some (by kernel_rfl))⟩
 f47 := Try.func85.trans (congrArg some (by kernel_rfl))
 f48 := Try.func86.trans (congrArg some (by kernel_rfl))
 f49 := ⟨Try.f87.name, by decide, Try.func87.trans (congrArg some (by kernel_rfl))⟩
 f50 := ⟨Try.f88.name, by decide, Try.func88.trans (congrArg some (by kernel_rfl))⟩
 f57 := ⟨Try.f89.name, by decide, Try.func89.trans (congrArg some (by kernel_rfl))⟩
 t0 := Try.underlying0
 a0 := Try.isAgg0
 z0 := Try.sizeOf0
 v0 := Try.zeroValue0
 t3 := Try.underlying3
 a3 := Try.isAgg3
 z3 := Try.sizeOf3
 v3 := Try.zeroValue3
 t4 := Try.underlying4
 a4 := Try.isAgg4
 z4 := Try.sizeOf4
 v4 := Try.zeroValue4
 t5 := Try.underlying5
 a5 := Try.isAgg5
 z5 := Try.sizeOf5
 v5 := Try.zeroValue5
 t9 := Try.underlying9
 a9 := Try.isAgg9
 z9 := Try.sizeOf9
 v9 := Try.zeroValue9
 t22 := Try.underlying39
 a22 := Try.isAgg39
 z22 := Try.sizeOf39
 v22 := Try.zeroValue39
 t25 := Try.underlying99
 a25 := Try.isAgg99
 z25 := Try.sizeOf99
 v25 := Try.zeroValue99
 t39 := Try.underlying121
 a39 := Try.isAgg121
 z39 := Try.sizeOf121
 v39 := Try.zeroValue121
 t45 := Try.underlying123
 a45 := Try.isAgg123
 z45 := Try.sizeOf123
 v45 := Try.zeroValue123
 t46 := Try.underlying124
 a46 := Try.isAgg124
 z46 := Try.sizeOf124
 v46 := Try.zeroValue124
 t50 := Try.underlying128
 a50 := Try.isAgg128
 z50 := Try.sizeOf128
 v50 := Try.zeroValue128
 t53 := Try.underlying131
 a53 := Try.isAgg131
 z53 := Try.sizeOf131
 v53 := Try.zeroValue131
 t55 := Try.underlying101
 a55 := Try.isAgg101
 z55 := Try.sizeOf101
 v55 := Try.zeroValue101
 t66 := Try.underlying133
 a66 := Try.isAgg133
 z66 := Try.sizeOf133
 v66 := Try.zeroValue133
 t70 := Try.underlying137
 a70 := Try.isAgg137
 z70 := Try.sizeOf137
 v70 := Try.zeroValue137
 t76 := Try.underlying139
 a76 := Try.isAgg139
 z76 := Try.sizeOf139
 v76 := Try.zeroValue139
 t77 := Try.underlying140
 a77 := Try.isAgg140
 z77 := Try.sizeOf140
 v77 := Try.zeroValue140 }
end Go.Proofs

namespace Go.Proofs.Tly
open Go Go.RowKit Go.Rm Go.Proofs Go.Shelf Go.Lib
set_option maxHeartbeats 1000000 in
theorem cmpInt (a b : Int) (w : World) : Calls Try.prog 49 #[.int .i64 a, .int .i64 b] w fun e w' => e = .returned (.int .i64 (Lib.compareInt a b)) ∧ w = w' := by
 have hcon := AnyG.cmp_Compare_int Try.cmpInt a b w
 change Calls Try.prog 49 _ _ _ at hcon
 exact hcon.mono fun _ _ ⟨h1, h2⟩ => ⟨h1, h2.symm⟩
set_option maxHeartbeats 1000000 in
theorem cmpU8 (a b : Int) (w : World) : Calls Try.prog 50 #[.int .u8 a, .int .u8 b] w fun e w' => e = .returned (.int .i64 (Lib.compareInt a b)) ∧ w = w' := by
 go_enter Try.func50, Try.ntmps50
 go_wp2
 all_goals
  go_ret
  refine ⟨ret_int ?_, rfl⟩
  unfold Lib.compareInt
  (repeat' split) <;> first | rfl | omega

def or3 (a b c : Int) : Int := if a ≠ 0 then a else if b ≠ 0 then b else c
set_option maxHeartbeats 1000000 in
theorem cmpOr (a b c : Int) (B : Nat) (w : World) (h0 : w.cell? ⟨B, 0, none⟩ = some (.int .i64 a)) (h1 : w.cell? ⟨B, 1, none⟩ = some (.int .i64 b)) (h2 : w.cell? ⟨B, 2, none⟩ = some (.int .i64 c)) :
 Calls Try.prog 48 #[.slice (some ⟨B, 0, none⟩) 3 3] w fun e w' => e = .returned (.int .i64 (or3 a b c)) ∧ w = w' := by
 by_cases ha : a = 0
 · by_cases hb : b = 0
   · by_cases hc : c = 0
     · subst ha; subst hb; subst hc
       go_enter Try.func48, Try.ntmps48
       go_wp2
       refine wp_loop_rounds 4 ?_
       rw [rounds_succ]
       go_wp2
       rw [rounds_succ]
       go_wp2
       rw [rounds_succ]
       go_wp2
       rw [rounds_succ]
       go_wp2
       go_ret
       exact ⟨rfl, rfl⟩
     · subst ha; subst hb
       have hc' : (c != 0) = true := by simp [hc]
       have H := hid hc
       clear hc
       go_enter Try.func48, Try.ntmps48
       go_wp2
       refine wp_loop_rounds 3 ?_
       rw [rounds_succ]
       go_wp2
       rw [rounds_succ]
       go_wp2
       rw [rounds_succ]
       go_wp2
       go_ret
       exact ⟨ret_int (by simp [or3]), rfl⟩
   · subst ha
     have hb' : (b != 0) = true := by simp [hb]
     have H := hid hb
     clear hb
     go_enter Try.func48, Try.ntmps48
     go_wp2
     refine wp_loop_rounds 2 ?_
     rw [rounds_succ]
     go_wp2
     rw [rounds_succ]
     go_wp2
     go_ret
     exact ⟨ret_int (by simp [or3, H.out]), rfl⟩
 · have ha' : (a != 0) = true := by simp [ha]
   have H := hid ha
   clear ha
   go_enter Try.func48, Try.ntmps48
   go_wp2
   refine wp_loop_rounds 1 ?_
   rw [rounds_succ]
   go_wp2
   go_ret
   exact ⟨ret_int (by simp [or3, H.out]), rfl⟩
end Go.Proofs.Tly

namespace Go.Proofs.Tly
open Go Go.RowKit Go.Rm Go.Proofs Go.Shelf Go.Lib Go.Sort

theorem calls_still {P : Program} {f : FuncId} {args : Array Value} {w : World} {v : Value} (h : Calls P f args w fun e w' => e = .returned v ∧ w = w') : Calls P f args w (fun e w'' => e = .returned v ∧ w'' = w) := h.mono fun _ _ ⟨a, b⟩ => ⟨a, b.symm⟩
def cf (x y : Vt) : Int := or3 (Lib.compareInt x.rd y.rd) (Lib.compareInt x.fr y.fr) (Lib.compareInt x.kd y.kd)
set_option maxRecDepth 100000 in
set_option maxHeartbeats 1000000 in
theorem closure65 (x y : Vt) (W : World) : Calls Try.prog 47 #[encV x, encV y] W fun e w' => e = .returned (.int .i64 (cf x y)) ∧ ∃ q os', w' = grow (W.drewN q) os' := by
 unfold encV cf
 have hc1 := fun W => calls_still (cmpInt x.rd y.rd W)
 have hc2 := fun W => calls_still (cmpInt x.fr y.fr W)
 have hc3 := fun W => calls_still (cmpU8 x.kd y.kd W)
 generalize Lib.compareInt x.rd y.rd = r1 at hc1 ⊢
 generalize Lib.compareInt x.fr y.fr = r2 at hc2 ⊢
 generalize Lib.compareInt x.kd y.kd = r3 at hc3 ⊢
 go_enter Try.func47, Try.ntmps47
 go_wp2
 have cx := cellsV_new W x 64
 have cy := cellsV_new (W.alloc (.cells #[.int .i64 x.fr, .int .i64 x.rd, .int .u8 x.kd, .int .i64 x.va, .string x.tx] 64)) y 64
 have hW2 : ∃ W2, ((W.alloc (.cells #[.int .i64 x.fr, .int .i64 x.rd, .int .u8 x.kd, .int .i64 x.va, .string x.tx] 64)).alloc (.cells #[.int .i64 y.fr, .int .i64 y.rd, .int .u8 y.kd, .int .i64 y.va, .string y.tx] 64)) = W2 := ⟨_, rfl⟩
 obtain ⟨W2, hW2⟩ := hW2
 have x0 : W2.cell? ⟨W.heap.size, 0, none⟩ = some (.int .i64 x.fr) := by rw [← hW2]; exact cell_al _ (cx 0 _ rfl)
 have x1 : W2.cell? ⟨W.heap.size, 1, none⟩ = some (.int .i64 x.rd) := by rw [← hW2]; exact cell_al _ (cx 1 _ rfl)
 have x2 : W2.cell? ⟨W.heap.size, 2, none⟩ = some (.int .u8 x.kd) := by rw [← hW2]; exact cell_al _ (cx 2 _ rfl)
 have y0 : W2.cell? ⟨W.heap.size + 1, 0, none⟩ = some (.int .i64 y.fr) := by rw [← hW2]; simp
 have y1 : W2.cell? ⟨W.heap.size + 1, 1, none⟩ = some (.int .i64 y.rd) := by rw [← hW2]; simp
 have y2 : W2.cell? ⟨W.heap.size + 1, 2, none⟩ = some (.int .u8 y.kd) := by rw [← hW2]; simp
 rw [hW2]
 have HW2 := hid hW2
 have hsz : W2.heap.size = W.heap.size + 2 := by rw [← hW2]; simp
 clear cx cy hW2
 refine wp_region_still_tail 15 (by kernel_rfl) (by kernel_rfl) ?_
 change wpStill _ _ W2.drew _ _ _
 have x0' : W2.drew.cell? ⟨W.heap.size, 0, none⟩ = some (.int .i64 x.fr) := x0
 have x1' : W2.drew.cell? ⟨W.heap.size, 1, none⟩ = some (.int .i64 x.rd) := x1
 have x2' : W2.drew.cell? ⟨W.heap.size, 2, none⟩ = some (.int .u8 x.kd) := x2
 have y0' : W2.drew.cell? ⟨W.heap.size + 1, 0, none⟩ = some (.int .i64 y.fr) := y0
 have y1' : W2.drew.cell? ⟨W.heap.size + 1, 1, none⟩ = some (.int .i64 y.rd) := y1
 have y2' : W2.drew.cell? ⟨W.heap.size + 1, 2, none⟩ = some (.int .u8 y.kd) := y2
 have hsz' : W2.drew.heap.size = W.heap.size + 2 := hsz
 clear x0 x1 x2 y0 y1 y2 hsz
 obtain ⟨W3, hW3⟩ : ∃ W3, W2.drew = W3 := ⟨_, rfl⟩
 rw [hW3] at x0' x1' x2' y0' y1' y2' hsz' ⊢
 have HW3 := hid hW3
 clear hW3
 have HS := hid hsz'
 clear hsz'
 simp only [List.take_succ_cons, List.take_zero, List.drop_succ_cons, List.drop_zero]
 repeat still_step
 still_call (hc1 W3)
 repeat still_step
 still_call (hc2 W3)
 repeat still_step
 still_call (hc3 W3)
 repeat still_step
 try refine wpStill_nil ?_
 have hOr := cmpOr r1 r2 r3 W2.heap.size (W2.alloc (.cells #[.int .i64 r1, .int .i64 r2, .int .i64 r3] 3)).drew (World.cell?_alloc_new ..) (World.cell?_alloc_new ..) (World.cell?_alloc_new ..)
 go_wp2_with (first | (go_at_call 48; refine hOr.mono ?_; clear hOr; rintro e w' ⟨rfl, rfl⟩) | go_in)
 go_ret
 exact ⟨rfl, 1, _, by rw [← HW2.out, alloc_eq_grow, alloc_eq_grow, alloc_eq_grow, drew_grow, drew_grow, drew_grow, grow_grow, grow_grow]; rfl⟩
end Go.Proofs.Tly

namespace Go.Proofs.Tly
open Go Go.RowKit Go.Rm Go.Proofs Go.Shelf Go.Lib Go.Sort

def ltV (x y : Vt) : Bool := decide (x.rd < y.rd ∨ (x.rd = y.rd ∧ (x.fr < y.fr ∨ (x.fr = y.fr ∧ x.kd < y.kd))))
theorem lt_cf (x y : Vt) : ltOf cf x y = ltV x y := by
 unfold ltOf cf or3 ltV Lib.compareInt
 by_cases h1 : x.rd < y.rd
 · simp [h1]
 · by_cases h2 : y.rd < x.rd
   · have h3 : ¬ x.rd = y.rd := by omega
     simp [h1, h2, h3]
   · have h3 : x.rd = y.rd := by omega
     by_cases h4 : x.fr < y.fr
     · simp [h3, h4]
     · by_cases h5 : y.fr < x.fr
       · have h6 : ¬ x.fr = y.fr := by omega
         simp [h3, h4, h5, h6]
       · have h6 : x.fr = y.fr := by omega
         by_cases h7 : x.kd < y.kd
         · simp [h3, h6, h7]
         · by_cases h8 : y.kd < x.kd <;> simp [h3, h6, h7, h8]
theorem ltV_iff (x y : Vt) : ltV x y = true ↔ (x.rd < y.rd ∨ (x.rd = y.rd ∧ (x.fr < y.fr ∨ (x.fr = y.fr ∧ x.kd < y.kd)))) := by unfold ltV; simp
theorem ltV_not (x y : Vt) : ltV x y = false ↔ (y.rd < x.rd ∨ (x.rd = y.rd ∧ (y.fr < x.fr ∨ (x.fr = y.fr ∧ y.kd ≤ x.kd)))) := by
 unfold ltV; simp only [decide_eq_false_iff_not]; omega
theorem swoV : SWO (ltOf cf) where
 irrefl x := by rw [lt_cf, ltV_not]; omega
 trans x y z h1 h2 := by rw [lt_cf, ltV_iff] at *; omega
 ntrans x y z h1 h2 := by rw [lt_cf, ltV_not] at *; omega

theorem flat_get : ∀ (l : List Vt) (t : Nat), t < l.length * 5 → (l.flatMap cellsV)[t]? = some ((cellsV (l.toArray[t / 5]!))[t % 5]!) := by
 intro l
 induction l with
 | nil => intro t h; simp at h
 | cons v l ih =>
  intro t h
  rw [List.flatMap_cons]
  have hl : (cellsV v).length = 5 := rfl
  by_cases ht : t < 5
  · rw [List.getElem?_append_left (by omega)]
    have h1 : t / 5 = 0 := by omega
    have h2 : t % 5 = t := by omega
    rw [h1, h2]
    have : ((v :: l).toArray)[0]! = v := by simp
    rw [this]
    rw [List.getElem?_eq_getElem (by omega), getElem!_pos _ _ (by omega)]
  · rw [List.getElem?_append_right (by omega), hl, ih (t - 5) (by simp at h; omega)]
    have h1 : t / 5 = (t - 5) / 5 + 1 := by omega
    have h2 : t % 5 = (t - 5) % 5 := by omega
    rw [h1, h2]
    have : ((v :: l).toArray)[(t - 5) / 5 + 1]! = l.toArray[(t - 5) / 5]! := by simp
    rw [this]
theorem flat_len (l : List Vt) : (l.flatMap cellsV).length = l.length * 5 := by
 induction l with
 | nil => rfl
 | cons v l ih => rw [List.flatMap_cons, List.length_append, ih, List.length_cons]; simp [cellsV]; omega

theorem total_on {ys : List Vt} (hso : ys.Pairwise fun x y => ltV x y = true) {a b : Vt} (ha : a ∈ ys) (hb : b ∈ ys) : a = b ∨ ltV a b = true ∨ ltV b a = true := by
 obtain ⟨i, hi, rfl⟩ := List.getElem_of_mem ha
 obtain ⟨j, hj, rfl⟩ := List.getElem_of_mem hb
 rw [List.pairwise_iff_getElem] at hso
 rcases Nat.lt_trichotomy i j with h | h | h
 · exact .inr (.inl (hso i j hi hj h))
 · subst h; exact .inl rfl
 · exact .inr (.inr (hso j i hj hi h))

set_option maxHeartbeats 1000000 in
theorem sort_any (blk cap : Nat) (xs ys : List Vt) (W : World) (base : Nat) (hown : W.ownsRow base 64 5 (.slice (some ⟨blk, 0, none⟩) xs.length cap) xs.length (xs.flatMap cellsV)) (hsz : xs.length < 4611686018427387904)
 (hys : ys.Perm xs) (hso : ys.Pairwise fun x y => ltV x y = true) :
 Calls Try.prog 61 #[.slice (some ⟨blk, 0, none⟩) xs.length cap, .func (.func 47) #[] #[]] W fun e W' => e = .returned (.tuple #[]) ∧ W'.ownsRow base 64 5 (.slice (some ⟨blk, 0, none⟩) xs.length cap) ys.length (ys.flatMap cellsV) ∧ Below base W W' := by
 obtain ⟨_, h | ⟨gg, cp, cur, he, hbase, hcur, hnc, hcm, hcs, htk⟩⟩ := hown
 · cases h.1
 · injection he with he1 he2 he3
   injection he1 with he1
   injection he1 with he1
   subst he1 he3
   have hH : HoldsK cellsV 5 W blk 0 xs.toArray := by
    intro j hj
    rw [size_flatK] at hj
    rw [get_flatK _ _ _ _ hj]
    simp at hj
    have hg := flat_get xs j hj
    rw [← htk, List.getElem?_take, if_pos hj] at hg
    have hg' : cur[j]? = some ((cellsV (xs.toArray[j / 5]!))[j % 5]!) := by simpa using hg
    constructor
    · unfold World.cell?; simp only [hcur]; simpa using hg'
    · unfold World.frozen?; simp only [hcur]; simp
   have eg : ∀ args w, (callFunc 47 args).run Try.prog w = .ok (.enter 47 args) w := enters_of Try.func47 (by kernel_rfl) rfl
   have hcon := AnyQ.slices_SortFunc Try.sortV 5 Try.isAgg64 Try.sizeOf64 cellsV (fun _ => rfl) (fun v => cellsV_one v) cf swoV 47 #[] blk 0 cap xs.toArray W eg (fun _ _ _ _ x y => closure65 x y _) hH (Array.getElem?_eq_some_iff.1 hcur).1 (by simpa using hsz)
   change Calls Try.prog 61 _ _ _ at hcon
   refine Calls.mono hcon ?_
   rintro e w' ⟨rfl, d', n, os, hp, hs, rfl⟩
   obtain ⟨hds, _, hperm⟩ := hp
   have e1 : d'.extract 0 xs.toArray.size = d' := by rw [← hds]; exact Array.extract_size
   rw [e1, Array.extract_size] at hperm
   have hd : d'.toList = ys := by
    refine List.Perm.eq_of_pairwise (le := fun x y => ltV y x = false) ?_ ?_ ?_ (hperm.trans hys.symm)
    · intro a b ha hb h1 h2
      rcases total_on hso (hys.symm.subset (by simpa using hperm.subset ha)) hb with h | h | h
      · exact h
      · rw [h] at h2; cases h2
      · rw [h] at h1; cases h1
    · rw [List.pairwise_iff_getElem]
      intro i j hi hj hij
      have hi' : i < d'.size := by simpa using hi
      have hj' : j < d'.size := by simpa using hj
      have := hs i j (Nat.zero_le _) hij (by omega)
      rw [getElem!_pos d' j hj', getElem!_pos d' i hi', lt_cf] at this
      simpa using this
    · refine hso.imp fun {a b} h => ?_
      cases hba : ltV b a with
      | false => rfl
      | true => rw [ltV_iff] at h hba; omega
   have hlen : ys.length = xs.length := hys.length_eq
   have hbl := (Array.getElem?_eq_some_iff.1 hcur).1
   have hput : (putRowK cellsV 5 (Go.Sort.ahead W n) blk 0 d').heap[blk]? = some (.cells (putCells id 0 (flatK cellsV 5 d') cur) 64 (0, 0)) := by
    show ((Go.Sort.ahead W n).heap.modify blk _)[blk]? = _
    rw [Array.getElem?_modify, if_pos rfl]
    show Option.map _ W.heap[blk]? = _
    rw [hcur]; rfl
   have hgr : ∀ k, k < W.heap.size → (sortWorldK cellsV 5 W blk 0 n d' os).heap[k]? = (putRowK cellsV 5 (Go.Sort.ahead W n) blk 0 d').heap[k]? := by
    intro k hk
    show ((putRowK cellsV 5 (Go.Sort.ahead W n) blk 0 d').heap ++ os)[k]? = _
    rw [Array.getElem?_append_left]
    show k < (W.heap.modify blk _).size
    rw [Array.size_modify]; exact hk
   have hoth : ∀ k, k ≠ blk → (putRowK cellsV 5 (Go.Sort.ahead W n) blk 0 d').heap[k]? = W.heap[k]? := by
    intro k hk
    show (W.heap.modify blk _)[k]? = _
    rw [Array.getElem?_modify, if_neg (Ne.symm hk)]
   refine ⟨rfl, ⟨flat_len _, .inr ⟨blk, cap, _, by rw [hlen], hbase, (hgr blk hbl).trans hput, by omega, hcm, by simp [putCells, hcs], ?_⟩⟩, rfl, rfl, rfl, ?_, fun k hk => (hgr k (by omega)).trans (hoth k (by omega))⟩
   · have hfs : (flatK cellsV 5 d').size = ys.length * 5 := by rw [size_flatK, ← hd]; simp
     apply List.ext_getElem?
     intro t
     rw [List.getElem?_take]
     by_cases ht : t < ys.length * 5
     · rw [if_pos ht]
       have hg := flat_get ys t ht
       rw [hg]
       have htc : t < cur.size := by rw [hcs]; have : xs.length * 5 ≤ cap * 5 := Nat.mul_le_mul_right _ hnc; omega
       have : (putCells id 0 (flatK cellsV 5 d') cur)[t]? = some ((flatK cellsV 5 d')[t]!) := by
        unfold putCells
        rw [Array.getElem?_mapIdx, Array.getElem?_eq_getElem htc]
        simp [hfs, ht]
       rw [Array.getElem?_toList, this, get_flatK _ _ _ _ (by rw [← hfs, size_flatK] at ht; exact ht)]
       have : d' = ys.toArray := by rw [← hd]
       rw [this]
     · rw [if_neg ht, List.getElem?_eq_none (by rw [flat_len]; omega)]
   · show W.heap.size ≤ ((W.heap.modify blk _) ++ os).size
     rw [Array.size_append, Array.size_modify]; omega
end Go.Proofs.Tly

namespace Go.Proofs.Tly
open Go Go.RowKit Go.Rm Go.Proofs Go.Shelf Go.Lib Go.Sort

theorem ownsRow_mono {W : World} {base base' : Nat} {e : TypeId} {size : Nat} {v : Value} {n : Nat} {xs : List Value} (h : W.ownsRow base e size v n xs) (hb : base' ≤ base) : W.ownsRow base' e size v n xs := by
 obtain ⟨h1, h | ⟨g, cap, cur, h2, h3, h5⟩⟩ := h
 · exact ⟨h1, .inl h⟩
 · exact ⟨h1, .inr ⟨g, cap, cur, h2, Nat.le_trans hb h3, h5⟩⟩
set_option maxHeartbeats 1000000 in
theorem collect_any (Bm bm : Nat) (es : Array MapEntry) (clock : Nat) (w : World) (hsz : es.size ≤ 1000000)
 (hm : w.cell? ⟨Bm, 0, none⟩ = some (.map (some bm))) (hb : w.heap[bm]? = some (.map es clock)) (hs : Stamps es clock) (hv : ∀ e ∈ es.toList, e.val = encV (dv e)) :
 Calls Try.prog 60 #[.func (.func 62) #[] #[.pointer (some ⟨Bm, 0, none⟩)]] w fun e W' => ∃ (v : Value) (xs : List Vt), e = .returned v ∧ xs.Perm (es.toList.map dv) ∧ W'.ownsRow w.heap.size 64 5 v xs.length (xs.flatMap cellsV) ∧ (v = .slice none 0 0 ↔ xs = []) ∧ Below w.heap.size w W' := by
 have hcon := (callsIn_wide (n := 3)).1 (appendSeq_in _ 3 trivial trivial rfl (by omega) Bm bm es clock w hsz hm hb hs hv)
 go_enter Try.func60, Try.ntmps60
 go_wp2_with (first | (go_at_call 70; refine hcon.mono ?_; clear hcon; rintro e w' ⟨v, xs, rfl, h1, h2, hnl, h3⟩) | go_in)
 go_ret
 exact ⟨v, xs, rfl, h1, h2, hnl, h3⟩

set_option maxHeartbeats 1000000 in
theorem sorted_any (Bm bm : Nat) (es : Array MapEntry) (clock : Nat) (w : World) (hsz : es.size ≤ 1000000)
 (hm : w.cell? ⟨Bm, 0, none⟩ = some (.map (some bm))) (hb : w.heap[bm]? = some (.map es clock)) (hs : Stamps es clock) (hv : ∀ e ∈ es.toList, e.val = encV (dv e))
 (ys : List Vt) (hys : ys.Perm (es.toList.map dv)) (hso : ys.Pairwise fun x y => ltV x y = true) :
 Calls Try.prog 45 #[.func (.func 62) #[] #[.pointer (some ⟨Bm, 0, none⟩)], .func (.func 47) #[] #[]] w fun e W' => ∃ v : Value, e = .returned v ∧ W'.ownsRow w.heap.size 64 5 v ys.length (ys.flatMap cellsV) ∧ (v = .slice none 0 0 ↔ ys = []) ∧ Below w.heap.size w W' := by
 have hcon := collect_any Bm bm es clock w hsz hm hb hs hv
 have hlen : ys.length = es.size := by rw [hys.length_eq]; simp
 go_enter Try.func45, Try.ntmps45
 go_wp2_with (first | (go_at_call 60; refine hcon.mono ?_; clear hcon; rintro e w' ⟨v, xs, rfl, h1, h2, hnl, h3⟩) | fail)
 have hyx : ys.Perm xs := hys.trans h1.symm
 have hxl := hyx.length_eq
 rcases h2.2 with ⟨rfl, h0⟩ | ⟨g, cap, cur, rfl, _⟩
 · have hns := AnyF.slices_SortFunc_none Try.sortV none 0 (.func (.func 47) #[] #[]) w'
   change Calls Try.prog 61 _ _ _ at hns
   have hnil : ys = [] := List.eq_nil_of_length_eq_zero (by omega)
   go_wp2_with (first | (go_at_call 61; refine hns.mono ?_; clear hns; rintro e w1 ⟨rfl, rfl⟩) | go_in)
   go_ret
   exact ⟨_, rfl, by rw [hnil]; exact World.ownsRow_nil _ _ _ _, by simp [hnil], h3⟩
 · have hns := sort_any g cap xs ys w' w.heap.size h2 (by omega) hyx hso
   have HX := hid hxl
   clear hxl hlen
   go_wp2_with (first | (go_at_call 61; refine hns.mono ?_; clear hns; rintro e w1 ⟨rfl, h4, h5⟩) | go_in)
   go_ret
   exact ⟨_, rfl, h4, ⟨fun h => (nomatch h), fun h => (by rw [h] at hyx; have := hnl.2 hyx.symm.eq_nil; cases this)⟩, h3.trans h5⟩

set_option maxHeartbeats 1000000 in
theorem votes_any {bt ot n : Nat} {es : Array MapEntry} {w : World} (h : At w bt ot n es) (ys : List Vt) (hys : ys.Perm (es.toList.map dv)) (hso : ys.Pairwise fun x y => ltV x y = true) :
 Calls Try.prog 25 #[.pointer (some ⟨bt, ot, none⟩)] w fun e W' => ∃ v : Value, e = .returned v ∧ W'.ownsRow w.heap.size 64 5 v ys.length (ys.flatMap cellsV) ∧ (v = .slice none 0 0 ↔ ys = []) ∧ Below w.heap.size w W' := by
 obtain ⟨h1, ⟨bm, clock, h2, h3, h4⟩, h5, h6, h7⟩ := h
 have hcon := sorted_any w.heap.size bm es clock (w.alloc (.cells #[.map (some bm)] 76)) h6 (World.cell?_alloc_new ..) ((Below.heap_alloc _ _ _ (Array.getElem?_eq_some_iff.1 h3).1).trans h3) h4 (fun e he => (h7 e he).1) ys hys hso
 go_enter Try.func25, Try.ntmps25
 go_wp2_with (first | (go_at_call 45; refine hcon.mono ?_; clear hcon; rintro e w' ⟨v, rfl, q1, qn, q2⟩) | go_in)
 go_ret
 exact ⟨_, rfl, ownsRow_mono q1 (by simp), qn, ((Below.refl _ _).alloc (Nat.le_refl _) _).trans (q2.mono (by simp))⟩
end Go.Proofs.Tly

namespace Go.Am
open Go.RowKit Go.MapKept Go.Proofs Go.Proofs.Tly Go.Rm

noncomputable def voteK (v : Value) (z : Bool) (k : Nat → Int → Int → List UInt8 → Bool) : Bool :=
 match v with
 | .agg ⟨[.int .i64 (.ofNat f), .int .i64 r, .int .u8 q, .int .i64 _, .string s]⟩ => k f r q s.data.toList
 | _ => z
noncomputable def okEs (n c : Nat) (es : List MapEntry) : Bool :=
 lrec (β := Nat → Bool) (fun _ => true) (fun e _ ih lo => match Nat.ble lo e.born, Nat.blt e.born c, voteK e.val false (fun f _ _ _ => Nat.ble f n) with
  | true, true, true => ih (Nat.succ e.born)
  | _, _, _ => false) es 0
noncomputable def tallyK (σ : St) (v : Value) (k : Nat → List MapEntry → Bool) : Bool :=
 match v with
 | .pointer (some ⟨i, o, none⟩) => readK σ i o 2 fun l => match l with
  | [.int .i64 (.ofNat n), .map (some m)] => getK σ.h m fun ob => match ob with
   | .map es c => lenK es fun q => match Nat.ble n 1000000, Nat.ble q 1000000, okEs n c es with
    | true, true, true => k n es
    | _, _, _ => false
   | _ => false
  | _ => false
 | _ => false

theorem voteK_ok {v : Value} {n : Nat} (h : voteK v false (fun f _ _ _ => Nat.ble f n) = true) : v = encV (dec v) ∧ flat1 v = true ∧ ∃ f : Nat, (dec v).fr = (f : Int) ∧ f ≤ n := by
 unfold voteK at h
 split at h
 · rename_i f r q va s
   exact ⟨rfl, rfl, f, rfl, by simpa using h⟩
 · cases h
theorem okEs_go : ∀ {es : List MapEntry} {n c lo : Nat}, (lrec (β := Nat → Bool) (fun _ => true) (fun e _ ih lo => match Nat.ble lo e.born, Nat.blt e.born c, voteK e.val false (fun f _ _ _ => Nat.ble f n) with
 | true, true, true => ih (Nat.succ e.born)
 | _, _, _ => false) es lo) = true → (∀ e ∈ es, lo ≤ e.born ∧ e.born < c ∧ e.val = encV (dv e) ∧ flat1 e.val = true ∧ ∃ f : Nat, (dv e).fr = (f : Int) ∧ f ≤ n) ∧ (es.map (·.born)).Nodup := by
 intro es
 induction es with
 | nil => intro n c lo _; simp
 | cons e es ih =>
  intro n c lo h
  rw [lrec_cons] at h
  split at h
  · rename_i h1 h2 h3
    obtain ⟨g1, g2⟩ := ih h
    obtain ⟨k1, k0, k2⟩ := voteK_ok h3
    have h1' : lo ≤ e.born := by simpa using h1
    have h2' : e.born < c := by
     have := h2
     simp only [Nat.blt_eq] at this
     exact this
    refine ⟨fun x hx => ?_, ?_⟩
    · rcases List.mem_cons.1 hx with rfl | hx
      · exact ⟨h1', h2', k1, k0, k2⟩
      · obtain ⟨q1, q2⟩ := g1 x hx
        exact ⟨by omega, q2⟩
    · simp only [List.map_cons, List.nodup_cons]
      refine ⟨fun hm => ?_, g2⟩
      obtain ⟨x, hx, hb⟩ := List.mem_map.1 hm
      have := (g1 x hx).1
      omega
  · cases h

section
variable {w0 : World} {ρ : Rn} {σ : St} {w : World}
theorem ents_eq {l l' : List MapEntry} (h : EntsRel ρ l l') (hf : ∀ e ∈ l, flat1 e.val = true) : l' = l := by
 apply List.ext_getElem?
 intro k
 cases hk : l[k]? with
 | none =>
  rw [List.getElem?_eq_none_iff] at *
  rw [← h.1]; exact hk
 | some e =>
  have hlt : k < l'.length := by rw [← h.1]; exact (List.getElem?_eq_some_iff.1 hk).1
  rw [List.getElem?_eq_getElem hlt]
  obtain ⟨h1, _, h3, h4⟩ := h.2 k e l'[k] hk (List.getElem?_eq_getElem hlt)
  have h5 := h4.flat1_eq (hf e (List.mem_of_getElem? hk))
  congr 1
  cases hx : l'[k]
  rw [hx] at h1 h3 h5
  cases e
  simp at *
  exact ⟨h1, h5, h3⟩

theorem tallyK_true {v v' : Value} {k : Nat → List MapEntry → Bool} (hk : tallyK σ v k = true) (h : Rel Try.prog w0 ρ σ w) (hv : VR ρ v v') :
 ∃ bt ot n es, v' = .pointer (some ⟨bt, ot, none⟩) ∧ k n es = true ∧ At w bt ot n ⟨es⟩ := by
 unfold tallyK at hk
 split at hk
 · rename_i i o
   obtain ⟨vs, e, c, ho, hle, hk⟩ := readK_true hk
   split at hk
   · rename_i n m hl
     obtain ⟨ob, hob, hk⟩ := getK_true hk
     split at hk
     · rename_i es clk
       rw [lenK_eq] at hk
       split at hk
       · rename_i c1 c2 c3
         obtain ⟨g1, g2⟩ := okEs_go c3
         cases hv with
         | flat h => simp [flat0] at h
         | ptr hL =>
          rename_i L
          have e0 : vs[o]? = some (.int .i64 (.ofNat n)) := by
           have := congrArg (·[0]?) hl
           simpa [List.getElem?_take, List.getElem?_drop] using this
          have e1 : vs[o + 1]? = some (.map (some m)) := by
           have := congrArg (·[1]?) hl
           simpa [List.getElem?_take, List.getElem?_drop] using this
          obtain ⟨u0, hu0, hr0⟩ := h.readCell ho hL e0
          obtain ⟨u1, hu1, hr1⟩ := h.readCell ho hL e1
          obtain rfl := hr0.of_flat rfl
          cases hr1 with
          | flat h => simp [flat0] at h
          | map hM =>
           rename_i M
           obtain ⟨M', es', hM', _, hb, hes⟩ := h.map' hob
           rw [hM] at hM'; injection hM' with hM'; subst hM'
           have hes' : es'.toList = es := ents_eq hes fun e he => (g1 e he).2.2.2.1
           refine ⟨_, _, n, es, rfl, hk, ⟨hu0, ⟨M.b, clk, hu1, ?_, ⟨fun x hx => (g1 x hx).2.1, g2⟩⟩, by simpa using c1, by simpa using c2, fun e he => ⟨(g1 e he).2.2.1, (g1 e he).2.2.2.2⟩⟩⟩
           rw [hb, ← hes']
       · cases hk
     · cases hk
   · cases hk
 · cases hk
end
end Go.Am

namespace Go.Am
open Go.RowKit Go.MapKept Go.Proofs Go.Proofs.Tly Go.Rm

noncomputable def hasB (pe : MapEntry → Nat → Bool) (es : List MapEntry) (i : Nat) : Bool := lrec (β := Bool) false (fun e _ ih => bcase (pe e i) true ih) es
noncomputable def memK (pe : MapEntry → Nat → Bool) (es : List MapEntry) (n : Nat) (K : Nat → Bool) : Bool :=
 nrec (β := Nat → Bool) K (fun i ih acc => bcase (hasB pe es i) (forceN (Nat.succ acc) ih) (ih acc)) (Nat.succ n) 0
theorem hasB_eq {pe : MapEntry → Nat → Bool} {p : Vt → Bool} {i : Nat} : ∀ {es : List MapEntry}, (∀ e ∈ es, pe e i = (p (dv e) && (dv e).fr == (i : Int))) → hasB pe es i = (cnt p (es.map dv) i != 0) := by
 intro es
 induction es with
 | nil => intro _; rfl
 | cons e es ih =>
  intro h
  have ih := ih fun x hx => h x (List.mem_cons_of_mem _ hx)
  unfold hasB at ih ⊢
  rw [lrec_cons, h e List.mem_cons_self, ih]
  unfold cnt
  rw [List.map_cons, List.filter_cons]
  cases hb : (p (dv e) && (dv e).fr == (i : Int)) <;> simp [bcase]
theorem memK_go {pe : MapEntry → Nat → Bool} {es : List MapEntry} {K : Nat → Bool} : ∀ (m acc : Nat), nrec (β := Nat → Bool) K (fun i ih acc => bcase (hasB pe es i) (forceN (Nat.succ acc) ih) (ih acc)) m acc = K (acc + ((List.range m).filter fun i => hasB pe es i).length) := by
 intro m
 induction m with
 | zero => intro acc; simp [nrec_zero]
 | succ m ih =>
  intro acc
  rw [nrec_succ, List.range_succ, List.filter_append, List.length_append]
  cases hb : hasB pe es m
  · show nrec K _ m acc = _
    rw [ih]; simp [hb]
  · show forceN (Nat.succ acc) (nrec K _ m) = _
    rw [forceN_eq, ih]; simp [hb]; congr 1; omega
theorem memK_eq {pe : MapEntry → Nat → Bool} {p : Vt → Bool} {es : List MapEntry} {n : Nat} {K : Nat → Bool} (h : ∀ i, ∀ e ∈ es, pe e i = (p (dv e) && (dv e).fr == (i : Int))) : memK pe es n K = K (mem p n (es.map dv)) := by
 unfold memK mem
 rw [memK_go]
 congr 1
 simp only [Nat.zero_add]
 congr 2
 funext i
 rw [hasB_eq (h i)]

noncomputable def andB (a b : Bool) : Bool := bcase a b false
theorem andB_eq (a b : Bool) : andB a b = (a && b) := by cases a <;> rfl
noncomputable def lessB (a b : MapEntry) : Bool :=
 voteK a.val false fun f r q _ => voteK b.val false fun f' r' q' _ => bcase (ltI r r') true (andB (eqI r r') (bcase (Nat.blt f f') true (andB (Nat.beq f f') (ltI q q'))))
noncomputable def insK (e : MapEntry) (l : List MapEntry) (k : List MapEntry → Bool) : Bool :=
 lrec (β := (List MapEntry → Bool) → Bool) (fun k => k [e]) (fun x t ih k => bcase (lessB e x) (k (e :: x :: t)) (ih fun t' => k (x :: t'))) l k
noncomputable def sortK (es : List MapEntry) (k : List MapEntry → Bool) : Bool :=
 lrec (β := (List MapEntry → Bool) → Bool) (fun k => k []) (fun e _ ih k => ih fun s => insK e s k) es k
noncomputable def chainB (l : List MapEntry) : Bool :=
 lrec (β := Bool) true (fun e t ih => match t with | [] => true | x :: _ => bcase (lessB e x) ih false) l
noncomputable def flatK' (l : List MapEntry) (k : List Value → Bool) : Bool :=
 lrec (β := (List Value → Bool) → Bool) (fun k => k []) (fun e _ ih k => match e.val with | .agg ⟨vs⟩ => ih fun t => appK vs t k | _ => false) l k

theorem insK_true {e : MapEntry} : ∀ {l : List MapEntry} {k : List MapEntry → Bool}, insK e l k = true → ∃ s, s.Perm (e :: l) ∧ k s = true := by
 intro l
 induction l with
 | nil => intro k h; exact ⟨[e], .refl _, h⟩
 | cons x t ih =>
  intro k h
  unfold insK at h ih
  rw [lrec_cons] at h
  cases hb : lessB e x
  · rw [hb] at h
    obtain ⟨s, hs, hk⟩ := ih h
    exact ⟨x :: s, (hs.cons x).trans (List.Perm.swap e x t), hk⟩
  · rw [hb] at h
    exact ⟨_, .refl _, h⟩
theorem sortK_true : ∀ {es : List MapEntry} {k : List MapEntry → Bool}, sortK es k = true → ∃ s, s.Perm es ∧ k s = true := by
 intro es
 induction es with
 | nil => intro k h; exact ⟨[], .refl _, h⟩
 | cons e es ih =>
  intro k h
  unfold sortK at h ih
  rw [lrec_cons] at h
  obtain ⟨s, hs, h⟩ := ih h
  obtain ⟨s', hs', h⟩ := insK_true h
  exact ⟨s', hs'.trans (hs.cons e), h⟩
theorem lessB_lt {a b : MapEntry} (h : lessB a b = true) : ltV (dv a) (dv b) = true := by
 unfold lessB voteK at h
 split at h
 · rename_i f r q va s ha
   split at h
   · rename_i f' r' q' va' s' hb
     rw [ltV_iff]
     unfold dv
     rw [ha, hb]
     simp only [dec]
     dsimp only at h
     cases h1 : ltI r r'
     · rw [h1] at h
       simp only [bcase, andB_eq, eqI_eq, Bool.and_eq_true, beq_iff_eq] at h
       obtain ⟨h2, h3⟩ := h
       refine .inr ⟨h2, ?_⟩
       cases h4 : Nat.blt f f'
       · rw [h4] at h3
         simp only [Bool.and_eq_true, Nat.beq_eq, ltI_eq, decide_eq_true_eq] at h3
         exact .inr ⟨by rw [h3.1], h3.2⟩
       · simp only [Nat.blt_eq] at h4
         exact .inl (by simpa using h4)
     · rw [ltI_eq, decide_eq_true_eq] at h1
       exact .inl h1
   · cases h
 · cases h
theorem chainB_pw : ∀ {l : List MapEntry}, chainB l = true → (l.map dv).Pairwise fun x y => ltV x y = true := by
 intro l
 induction l with
 | nil => intro _; exact .nil
 | cons e t ih =>
  intro h
  unfold chainB at h ih
  rw [lrec_cons] at h
  cases t with
  | nil => simp
  | cons x t =>
   simp only at h
   cases hb : lessB e x
   · rw [hb] at h; cases h
   · rw [hb] at h
     have hp := ih h
     rw [List.map_cons, List.pairwise_cons]
     refine ⟨fun y hy => ?_, hp⟩
     have hx := lessB_lt hb
     rw [List.map_cons] at hy
     rcases List.mem_cons.1 hy with rfl | hy
     · exact hx
     · have := (List.pairwise_cons.1 hp).1 y hy
       rw [ltV_iff] at hx this ⊢
       omega
theorem flatK'_true : ∀ {l : List MapEntry} {k : List Value → Bool}, flatK' l k = true → (∀ e ∈ l, e.val = encV (dv e)) → k ((l.map dv).flatMap cellsV) = true := by
 intro l
 induction l with
 | nil => intro k h _; exact h
 | cons e t ih =>
  intro k h he
  unfold flatK' at h ih
  rw [lrec_cons] at h
  split at h
  · rename_i vs hv
    have := ih h fun x hx => he x (List.mem_cons_of_mem _ hx)
    rw [appK_eq] at this
    have hvs : vs = cellsV (dv e) := by
     have := he e List.mem_cons_self
     rw [hv] at this
     injection this with this
     injection this
    rw [List.map_cons, List.flatMap_cons, ← hvs]
    exact this
  · cases h
end Go.Am

namespace Go.Am
open Go.RowKit Go.MapKept Go.Proofs Go.Proofs.Tly Go.Rm

noncomputable def ovSent (args : List Value) (σ : St) (K : VK) : Bool :=
 match args with
 | [t, .int .i64 rd] => tallyK σ t fun n es => memK (fun e i => voteK e.val false fun f r _ _ => andB (eqI r rd) (Nat.beq f i)) es n fun c => K (.int .i64 (.ofNat c)) σ
 | _ => false
noncomputable def ovAll (args : List Value) (σ : St) (K : VK) : Bool :=
 match args with
 | [t, .int .i64 rd, .int .u8 kd] => tallyK σ t fun n es => memK (fun e i => voteK e.val false fun f r q _ => andB (andB (eqI r rd) (eqI q kd)) (Nat.beq f i)) es n fun c => K (.int .i64 (.ofNat c)) σ
 | _ => false
noncomputable def ovCount (args : List Value) (σ : St) (K : VK) : Bool :=
 match args with
 | [t, .int .i64 rd, .int .u8 kd, .string tx] => tallyK σ t fun n es => memK (fun e i => voteK e.val false fun f r q s => andB (andB (andB (eqI r rd) (eqI q kd)) (eqL8 s tx.data.toList)) (Nat.beq f i)) es n fun c => K (.int .i64 (.ofNat c)) σ
 | _ => false
noncomputable def ovVotes (args : List Value) (σ : St) (K : VK) : Bool :=
 match args with
 | [t] => tallyK σ t fun _ es => sortK es fun ss => match chainB ss with
  | true => flatK' ss fun cs => lenK ss fun n => match n with
   | 0 => K (.slice none 0 0) σ
   | n' + 1 => newK σ (.cells cs 64 (.grown [])) fun i σ => K (.slice (some ⟨i, 0, some 0⟩) (n' + 1) (n' + 1)) σ
  | false => false
 | _ => false

theorem voteK_at {v : Value} {u : Vt} {f : Nat} (h : v = encV u) (hf : u.fr = (f : Int)) (z : Bool) (k : Nat → Int → Int → List UInt8 → Bool) : voteK v z k = k f u.rd u.kd u.tx.data.toList := by
 subst h; unfold encV; rw [hf]; rfl
theorem beq_cast (f i : Nat) : Nat.beq f i = ((f : Int) == (i : Int)) := by
 rw [Bool.eq_iff_iff]; simp only [Nat.beq_eq, beq_iff_eq]; omega

section
variable {w0 : World}
theorem ov_number {f : FuncId} {args' : List Value} {σ : St} {K : VK} {ρ : Rn} {w : World} {c : Nat} (h : Rel Try.prog w0 ρ σ w) (hk : K (.int .i64 (.ofNat c)) σ = true)
 (hc : Calls Try.prog f ⟨args'⟩ w fun e w' => e = .returned (.int .i64 (c : Int)) ∧ Below w.heap.size w w') : CallsIn (fnc none) 0 Try.prog f ⟨args'⟩ w (Back Try.prog w0 ρ w K) := by
 refine callsIn_wide.2 (hc.mono ?_)
 rintro e w' ⟨rfl, hb⟩
 obtain ⟨h1, h2⟩ := h.below hb
 exact ⟨_, rfl, ρ, _, σ, hk, .flat rfl, h1, h2⟩

theorem int_arg {ρ : Rn} {q : IntKind} {n : Int} {v : Value} (h : VR ρ (.int q n) v) : v = .int q n := h.of_flat rfl
theorem string_arg {ρ : Rn} {s : ByteArray} {v : Value} (h : VR ρ (.string s) v) : v = .string s := h.of_flat rfl

theorem ovSent_ok : CallOk Try.prog w0 (fun f' args σ K => match Nat.beq f' 55 with | true => ovSent args σ K | false => false) := by
 intro f args σ K ρ w args' hk h ha
 dsimp only at hk
 split at hk
 · rename_i hf
   obtain rfl : f = 55 := by simpa using hf
   refine ⟨enters_of Try.func55 (by kernel_rfl) rfl ⟨args'⟩, ?_⟩
   unfold ovSent at hk
   split at hk
   · rename_i t rd
     obtain ⟨t', l', rfl, ht, ha⟩ := ha.inv_cons
     obtain ⟨r', l', rfl, hr, ha⟩ := ha.inv_cons
     cases ha.inv_nil
     obtain rfl := int_arg hr
     obtain ⟨bt, ot, n, es, rfl, hk, hat⟩ := tallyK_true hk h ht
     rw [memK_eq (p := fun v => v.rd == rd) (fun i e he => by
      obtain ⟨h1, f, h2, h3⟩ := hat.votes e he
      rw [voteK_at h1 h2, andB_eq, eqI_eq, h2, beq_cast])] at hk
     exact ov_number h hk (sent_any hat rd)
   · cases hk
 · cases hk
theorem ovAll_ok : CallOk Try.prog w0 (fun f' args σ K => match Nat.beq f' 43 with | true => ovAll args σ K | false => false) := by
 intro f args σ K ρ w args' hk h ha
 dsimp only at hk
 split at hk
 · rename_i hf
   obtain rfl : f = 43 := by simpa using hf
   refine ⟨enters_of Try.func43 (by kernel_rfl) rfl ⟨args'⟩, ?_⟩
   unfold ovAll at hk
   split at hk
   · rename_i t rd kd
     obtain ⟨t', l', rfl, ht, ha⟩ := ha.inv_cons
     obtain ⟨r', l', rfl, hr, ha⟩ := ha.inv_cons
     obtain ⟨k', l', rfl, hq, ha⟩ := ha.inv_cons
     cases ha.inv_nil
     obtain rfl := int_arg hr
     obtain rfl := int_arg hq
     obtain ⟨bt, ot, n, es, rfl, hk, hat⟩ := tallyK_true hk h ht
     rw [memK_eq (p := fun v => v.rd == rd && v.kd == kd) (fun i e he => by
      obtain ⟨h1, f, h2, h3⟩ := hat.votes e he
      rw [voteK_at h1 h2, andB_eq, andB_eq, eqI_eq, eqI_eq, h2, beq_cast])] at hk
     exact ov_number h hk (all_any hat rd kd)
   · cases hk
 · cases hk
theorem ovCount_ok : CallOk Try.prog w0 (fun f' args σ K => match Nat.beq f' 66 with | true => ovCount args σ K | false => false) := by
 intro f args σ K ρ w args' hk h ha
 dsimp only at hk
 split at hk
 · rename_i hf
   obtain rfl : f = 66 := by simpa using hf
   refine ⟨enters_of Try.func66 (by kernel_rfl) rfl ⟨args'⟩, ?_⟩
   unfold ovCount at hk
   split at hk
   · rename_i t rd kd tx
     obtain ⟨t', l', rfl, ht, ha⟩ := ha.inv_cons
     obtain ⟨r', l', rfl, hr, ha⟩ := ha.inv_cons
     obtain ⟨k', l', rfl, hq, ha⟩ := ha.inv_cons
     obtain ⟨x', l', rfl, hx, ha⟩ := ha.inv_cons
     cases ha.inv_nil
     obtain rfl := int_arg hr
     obtain rfl := int_arg hq
     obtain rfl := string_arg hx
     obtain ⟨bt, ot, n, es, rfl, hk, hat⟩ := tallyK_true hk h ht
     rw [memK_eq (p := fun v => v.rd == rd && v.kd == kd && v.tx.toList == tx.toList) (fun i e he => by
      obtain ⟨h1, f, h2, h3⟩ := hat.votes e he
      rw [voteK_at h1 h2, andB_eq, andB_eq, andB_eq, eqI_eq, eqI_eq, eqL8_eq, h2, beq_cast, Lib.toList_data, Lib.toList_data])] at hk
     exact ov_number h hk (count_any hat rd kd tx)
   · cases hk
 · cases hk
theorem size55 : sizeT Try.prog 64 = some 5 := by kernel_rfl
theorem cellsV_flat (l : List Vt) : ∀ v ∈ l.flatMap cellsV, flat0 v = true := by
 intro v hv
 obtain ⟨x, _, hx⟩ := List.mem_flatMap.1 hv
 simp [cellsV] at hx
 rcases hx with rfl | rfl | rfl | rfl | rfl <;> rfl
theorem ovVotes_ok : CallOk Try.prog w0 (fun f' args σ K => match Nat.beq f' 25 with | true => ovVotes args σ K | false => false) := by
 intro f args σ K ρ w args' hk h ha
 dsimp only at hk
 split at hk
 · rename_i hf
   obtain rfl : f = 25 := by simpa using hf
   refine ⟨enters_of Try.func25 (by kernel_rfl) rfl ⟨args'⟩, ?_⟩
   unfold ovVotes at hk
   split at hk
   · rename_i t
     obtain ⟨t', l', rfl, ht, ha⟩ := ha.inv_cons
     cases ha.inv_nil
     obtain ⟨bt, ot, n, es, rfl, hk, hat⟩ := tallyK_true hk h ht
     obtain ⟨ss, hperm, hk⟩ := sortK_true hk
     split at hk
     · rename_i hch
       have hk := flatK'_true hk fun e he => (hat.votes e (hperm.subset he)).1
       rw [lenK_eq] at hk
       refine callsIn_wide.2 ((votes_any hat (ss.map dv) (hperm.map dv) (chainB_pw hch)).mono ?_)
       rintro e w' ⟨v, rfl, hown, hnil, hb⟩
       split at hk
       · rename_i h0
         obtain rfl := hnil.2 (List.eq_nil_of_length_eq_zero (by simpa using h0))
         obtain ⟨h1, h2⟩ := h.below hb
         exact ⟨_, rfl, ρ, _, σ, hk, .flat rfl, h1, h2⟩
       · rename_i n' hn'
         rw [newK_eq] at hk
         rcases hown.2 with ⟨rfl, h0⟩ | ⟨g, cap, cur, rfl, hg, hcur, hnc, hcm, hcs, htk⟩
         · simp at h0; rw [h0] at hn'; simp at hn'
         · have hlen : (ss.map dv).length = n' + 1 := by simpa using hn'
           obtain ⟨h1, h2⟩ := h.belowRow hb size55 hg hcur (VRs.flat (cellsV_flat (ss.map dv))) (by rw [Go.Proofs.Tly.flat_len]; exact htk)
           refine ⟨_, rfl, _, _, _, hk, ?_, h1, h2⟩
           rw [hlen]
           have := VR.sliceIn (ρ := ρ.put σ.n ⟨g, 0, cur.size, 5⟩) (i := σ.n) (o := 0) (n := n' + 1) (c := n' + 1) (c' := cap) (Rn.put_same _ _ _) (by omega) (Nat.le_refl _) (by simp [hcs]) (by simp)
           simpa using this
     · cases hk
   · cases hk
 · cases hk

noncomputable def ovT (f : FuncId) : Option (List Value → St → VK → Bool) :=
 bcase (Nat.beq f 66) (some ovCount) (bcase (Nat.beq f 25) (some ovVotes) (bcase (Nat.beq f 43) (some ovAll) (bcase (Nat.beq f 55) (some ovSent) none)))
theorem ovT_ok : OvOk Try.prog w0 ovT := by
 intro f g hg
 unfold ovT at hg
 cases h1 : Nat.beq f 66
 · rw [h1] at hg
   cases h2 : Nat.beq f 25
   · rw [h2] at hg
     cases h3 : Nat.beq f 43
     · rw [h3] at hg
       cases h4 : Nat.beq f 55
       · rw [h4] at hg; cases hg
       · rw [h4] at hg
         cases hg
         obtain rfl : f = 55 := by simpa using h4
         exact ovSent_ok
     · rw [h3] at hg
       cases hg
       obtain rfl : f = 43 := by simpa using h3
       exact ovAll_ok
   · rw [h2] at hg
     cases hg
     obtain rfl : f = 25 := by simpa using h2
     exact ovVotes_ok
 · rw [h1] at hg
   cases hg
   obtain rfl : f = 66 := by simpa using h1
   exact ovCount_ok
end
end Go.Am

set_option linter.unusedVariables false
set_option maxRecDepth 100000
namespace Go.Am
noncomputable abbrev PP : Program := Go.Proofs.Try.prog
abbrev c_law16_BallotState : FuncId := 3
abbrev c_law16_works : FuncId := 4
abbrev c_law16_long : FuncId := 5
abbrev c_ballot_New : FuncId := 6
abbrev c_law16_BallotState_1 : FuncId := 7
abbrev c_ballot_Ballot_Put : FuncId := 8
abbrev c_ballot_Ballot_Do : FuncId := 9
abbrev c_ballot_Ballot_Tick : FuncId := 10
abbrev c_ballot_Ballot_State : FuncId := 11
abbrev c_ballot_Load : FuncId := 12
abbrev c_ref16_Same : FuncId := 13
abbrev c_law16_back : FuncId := 14
abbrev c_ref14_Msgs : FuncId := 15
abbrev c_tally_New : FuncId := 20
abbrev c_ballot_Ballot_put : FuncId := 21
abbrev c_ballot_Ballot_do : FuncId := 22
abbrev c_tally_Tally_Rounds : FuncId := 23
abbrev c_ballot_Ballot_late : FuncId := 24
abbrev c_tally_Tally_Votes : FuncId := 25
abbrev c_ballot_place : FuncId := 26
abbrev c_ref15_Same : FuncId := 27
abbrev c_law16_votes : FuncId := 28
abbrev c_ref14_Same : FuncId := 29
abbrev c_ballot_Ballot_proposer : FuncId := 30
abbrev c_tally_Tally_Put : FuncId := 31
abbrev c_ballot_Ballot_decide : FuncId := 32
abbrev c_ballot_Ballot_skip : FuncId := 33
abbrev c_ballot_Ballot_fresh : FuncId := 34
abbrev c_ballot_Ballot_old : FuncId := 35
abbrev c_ballot_Ballot_lock : FuncId := 36
abbrev c_ballot_Ballot_nothing : FuncId := 37
abbrev c_ballot_Ballot_propose : FuncId := 38
abbrev c_slices_Compact_list_int_int : FuncId := 39
abbrev c_ballot_Ballot_to : FuncId := 40
abbrev c_ballot_Ballot_say : FuncId := 41
abbrev c_ballot_Ballot_enough : FuncId := 42
abbrev c_tally_Tally_All : FuncId := 43
abbrev c_ballot_Ballot_begin : FuncId := 44
abbrev c_tally_Vote_may : FuncId := 51
abbrev c_ballot_Ballot_proposal : FuncId := 52
abbrev c_ballot_Ballot_agreed : FuncId := 53
abbrev c_slices_Backward_list_int_int : FuncId := 54
abbrev c_tally_Tally_Sent : FuncId := 55
abbrev c_slices_Contains_list_string_string : FuncId := 56
abbrev c_ballot_Ballot_prevote : FuncId := 57
abbrev c_tally_Tally_Proposal : FuncId := 65
abbrev c_tally_Tally_Count : FuncId := 66
abbrev c_slices_Backward_list_int_int_1 : FuncId := 67
abbrev c_slices_Index_list_string_string : FuncId := 69
noncomputable def tbS : FuncId → LiveT := lookF [(3, ⟨lookL [(23, [5, 13, 15, 18, 20, 22], [13, 18], [12]), (17, [5, 13, 15, 17, 18, 20, 21], [5, 13, 15, 17, 18, 20], []), (8, [4, 5, 13, 15, 16], [5, 13, 15], [])], lookJ []⟩),
 (5, ⟨lookL [(7, [0, 3, 4, 5], [0, 3, 4], []), (3, [0, 3, 4], [3], [])], lookJ []⟩),
 (10, ⟨lookL [], lookJ [(8, [0, 1, 2, 7])]⟩),
 (12, ⟨lookL [(5, [1, 4, 79, 80, 81], [1, 4], [2, 3])], lookJ []⟩),
 (15, ⟨lookL [(4, [0, 1, 5], [], [4])], lookJ []⟩),
 (22, ⟨lookL [(8, [0, 3, 6, 7, 27, 28, 29], [0, 3, 6, 7], []), (6, [0, 3, 6, 7], [7], [])], lookJ [(5, [0, 3, 6])]⟩),
 (23, ⟨lookL [(3, [3, 7, 8, 9], [3], [])], lookJ []⟩),
 (27, ⟨lookL [(4, [0, 1, 5], [], [4])], lookJ []⟩),
 (28, ⟨lookL [(3, [0, 3, 4], [3], [])], lookJ []⟩),
 (29, ⟨lookL [(4, [2, 3, 5], [], [4])], lookJ []⟩),
 (32, ⟨lookL [(2, [0, 14, 15, 16], [], [4, 5])], lookJ []⟩),
 (33, ⟨lookL [(1000003, [2, 4, 5], [], [])], lookJ []⟩),
 (1400003, ⟨lookL [(1000000, [2, 4, 5], [], [])], lookJ []⟩),
 (38, ⟨lookL [], lookJ [(4, [0, 6, 7])]⟩),
 (39, ⟨lookL [(9, [0, 3, 4, 5], [0, 3], []), (4, [0, 3], [0], [2])], lookJ [(10, [0, 3, 4, 5])]⟩),
 (48, ⟨lookL [(3, [3, 6, 7, 8], [3], [2])], lookJ []⟩),
 (51, ⟨lookL [], lookJ [(8, [2, 49])]⟩),
 (57, ⟨lookL [], lookJ [(4, [0, 1])]⟩),
 (58, ⟨lookL [(6, [1, 5, 6, 21], [6], [])], lookJ [(11, [1, 5, 6, 8, 21])]⟩),
 (62, ⟨lookL [(1, [0, 6], [], [])], lookJ []⟩),
 (67, ⟨lookL [(1, [0, 1, 3], [], [])], lookJ []⟩),
 (69, ⟨lookL [(2, [0, 1, 7, 8], [], [4])], lookJ []⟩),
 (70, ⟨lookL [(1000003, [2], [], [])], lookJ []⟩),
 (1130003, ⟨lookL [(1000000, [2], [], [])], lookJ []⟩),
 (71, ⟨lookL [(2, [0, 1, 2, 3, 4, 10, 11], [], [])], lookJ [(17, [0, 1, 2, 3, 4, 10, 11, 12, 13]), (15, [0, 1, 2, 3, 4, 10, 11, 12, 13, 14]), (10, [0, 1, 2, 3, 4, 10, 11, 12])]⟩),
 (74, ⟨lookL [(4, [0, 1, 2, 3, 8, 9], [0, 1, 2, 3, 8], []), (1, [0, 1, 2, 3, 8], [], [])], lookJ []⟩),
 (75, ⟨lookL [(8, [0, 3, 8, 9, 12], [], []), (4, [0, 3, 8, 9, 10, 11], [0, 3, 8, 9, 10], [])], lookJ []⟩),
 (76, ⟨lookL [(5, [0, 1, 8, 9, 10, 11], [], [])], lookJ [(10, [0, 1, 8, 9, 10, 11, 12])]⟩),
 (77, ⟨lookL [], lookJ [(12, [11, 13]), (11, [0, 3, 11, 12, 13, 14])]⟩),
 (78, ⟨lookL [(2, [0, 8, 9], [], [])], lookJ []⟩),
 (79, ⟨lookL [(20, [0, 1, 2, 3, 9, 10, 12], [0, 1, 2, 3, 9, 10], []), (14, [0, 1, 2, 3, 9, 10, 11], [0, 1, 2, 3, 9, 10], []), (5, [0, 1, 2, 3, 9, 10], [0, 1, 2, 3, 9, 10], []), (3, [0, 1, 2, 3, 9, 10], [], [8])], lookJ [(4, [0, 1, 2, 3, 9, 10]), (18, [0, 1, 2, 3, 9, 10])]⟩),
 (80, ⟨lookL [(5, [0, 1, 4, 11, 12], [0, 1, 4, 11, 12], []), (3, [0, 1, 4, 11, 12], [0, 1, 4, 11, 12], []), (3, [0, 1, 4, 11, 12], [11], [])], lookJ []⟩),
 (81, ⟨lookL [(15, [0, 1, 4, 12, 13], [0, 1, 4, 12, 13], []), (13, [0, 1, 4, 12, 13], [0, 1, 4, 12, 13], []), (13, [0, 1, 4, 12, 13], [0, 1, 13], []), (5, [0, 1, 4, 12, 13], [0, 1, 4, 12, 13], []), (3, [0, 1, 4, 12, 13], [0, 1, 4, 12, 13], [])], lookJ []⟩),
 (82, ⟨lookL [], lookJ [(7, [0, 2]), (4, [0, 2])]⟩),
 (83, ⟨lookL [], lookJ [(10, [0, 2]), (7, [0, 2]), (4, [0, 2])]⟩),
 (84, ⟨lookL [(1, [0, 2, 3, 4, 10], [], [])], lookJ [(5, [0, 2, 3, 4, 10, 11])]⟩)]
end Go.Am

set_option linter.unusedVariables false
set_option maxRecDepth 100000
namespace Go.Am

/-! slices.Backward[[]int,int] -/
noncomputable def r_slices_Backward_list_int_int (x : VE) (a0 : V) (σ : Hp) (K : KV) : Prop :=
 vBox 68 a0 σ fun v0 σ =>
 vRet (.func c_slices_Backward_list_int_int_1 [] [v0]) σ K
theorem f_slices_Backward_list_int_int (x : VE) (a0 : V) (σ : Hp) (K : KV) : fnV PP tbS c_slices_Backward_list_int_int x [a0] σ K = r_slices_Backward_list_int_int x a0 σ K := by kernel_rfl

/-! slices.Backward[[]int,int]$1 -/
noncomputable def l_slices_Backward_list_int_int_1_rd (x : VE) (m : Nat) (t0 t1 t3 : V) (σ : Hp) (K : KV) : Prop := vjmpL PP tbS c_slices_Backward_list_int_int_1 x [.r, .d] m [] [t0, t1, t3] σ K
noncomputable def r_slices_Backward_list_int_int_1 (x : VE) (a0 a1 : V) (σ : Hp) (K : KV) : Prop :=
 vLd a1 σ fun v0 σ =>
 vLenS v0 fun v1 =>
 vBin PP .sub 3 v1 (.int .i64 (.ofNat 1)) fun v2 =>
 l_slices_Backward_list_int_int_1_rd x x.most a0 a1 v2 σ K
theorem f_slices_Backward_list_int_int_1 (x : VE) (a0 a1 : V) (σ : Hp) (K : KV) : fnV PP tbS c_slices_Backward_list_int_int_1 x [a0, a1] σ K = r_slices_Backward_list_int_int_1 x a0 a1 σ K := by kernel_rfl
noncomputable def l_slices_Backward_list_int_int_1_rdB (x : VE) (m0 : Nat) (t0 t1 t3 : V) (σ : Hp) (K : KV) : Prop :=
 vDrop σ fun σ =>
 vBin PP .geq 3 t3 (.int .i64 (.ofNat 0)) fun v0 =>
 vIf v0 (vLd t1 σ fun v1 σ =>
 vIdx 1 v1 t3 fun v2 =>
 vLd v2 σ fun v3 σ =>
 vCallV x t0 [t3, v3] σ fun v4 σ =>
 vUn .not v4 fun v5 =>
 vIf v5 (vRet (.tuple []) σ K) (vBin PP .sub 3 t3 (.int .i64 (.ofNat 1)) fun v6 =>
 l_slices_Backward_list_int_int_1_rd x m0 t0 t1 v6 σ K)) (vRet (.tuple []) σ K)
theorem l_slices_Backward_list_int_int_1_rdE (x : VE) (m0 : Nat) (t0 t1 t3 : V) (σ : Hp) (K : KV) : l_slices_Backward_list_int_int_1_rd x (m0 + 1) t0 t1 t3 σ K = l_slices_Backward_list_int_int_1_rdB x m0 t0 t1 t3 σ K := by kernel_rfl

/-! slices.Compact[[]int,int] -/
noncomputable def l_slices_Compact_list_int_int_rrlrd (x : VE) (m : Nat) (t0 t3 : V) (σ : Hp) (K : KV) : Prop := vjmpL PP tbS c_slices_Compact_list_int_int x [.r, .r, .l, .r, .d] m [] [t0, t3] σ K
noncomputable def l_slices_Compact_list_int_int_rrlrddrldrlrlrd (x : VE) (m : Nat) (m0 : Nat) (t0 t3 t4 t5 : V) (σ : Hp) (K : KV) : Prop := vjmpL PP tbS c_slices_Compact_list_int_int x [.r, .r, .l, .r, .d, .d, .r, .l, .d, .r, .l, .r, .l, .r, .d] m [m0] [t0, t3, t4, t5] σ K
noncomputable def j_slices_Compact_list_int_int_rrlrddrldrlrlrddrr (x : VE) (m0 : Nat) (m1 : Nat) (t0 t3 t4 t5 : V) (σ : Hp) (K : KV) : Prop := vjmpJ PP tbS c_slices_Compact_list_int_int x [.r, .r, .l, .r, .d, .d, .r, .l, .d, .r, .l, .r, .l, .r, .d, .d, .r, .r] [m0, m1] [t0, t3, t4, t5] σ K
noncomputable def r_slices_Compact_list_int_int (x : VE) (a0 : V) (σ : Hp) (K : KV) : Prop :=
 vLenS a0 fun v0 =>
 vBin PP .lss 3 v0 (.int .i64 (.ofNat 2)) fun v1 =>
 vIf v1 (vRet a0 σ K) (l_slices_Compact_list_int_int_rrlrd x x.most a0 (.int .i64 (.ofNat 1)) σ K)
theorem f_slices_Compact_list_int_int (x : VE) (a0 : V) (σ : Hp) (K : KV) : fnV PP tbS c_slices_Compact_list_int_int x [a0] σ K = r_slices_Compact_list_int_int x a0 σ K := by kernel_rfl
noncomputable def l_slices_Compact_list_int_int_rrlrdB (x : VE) (m0 : Nat) (t0 t3 : V) (σ : Hp) (K : KV) : Prop :=
 vDrop σ fun σ =>
 vLenS t0 fun v0 =>
 vBin PP .lss 3 t3 v0 fun v1 =>
 vIf v1 (vIdx 1 t0 t3 fun v2 =>
 vLd v2 σ fun v3 σ =>
 vBin PP .sub 3 t3 (.int .i64 (.ofNat 1)) fun v4 =>
 vIdx 1 t0 v4 fun v5 =>
 vLd v5 σ fun v6 σ =>
 vBin PP .eql 3 v3 v6 fun v7 =>
 vIf v7 (vSlS 3 1 t0 (some t3) none none σ fun v8 =>
 l_slices_Compact_list_int_int_rrlrddrldrlrlrd x x.most m0 t0 t3 v8 (.int .i64 (.ofNat 1)) σ K) (vBin PP .add 3 t3 (.int .i64 (.ofNat 1)) fun v9 =>
 l_slices_Compact_list_int_int_rrlrd x m0 t0 v9 σ K)) (vRet t0 σ K)
theorem l_slices_Compact_list_int_int_rrlrdE (x : VE) (m0 : Nat) (t0 t3 : V) (σ : Hp) (K : KV) : l_slices_Compact_list_int_int_rrlrd x (m0 + 1) t0 t3 σ K = l_slices_Compact_list_int_int_rrlrdB x m0 t0 t3 σ K := by kernel_rfl
noncomputable def l_slices_Compact_list_int_int_rrlrddrldrlrlrdB (x : VE) (m1 : Nat) (m0 : Nat) (t0 t3 t4 t5 : V) (σ : Hp) (K : KV) : Prop :=
 vDrop σ fun σ =>
 vLenS t4 fun v0 =>
 vBin PP .lss 3 t5 v0 fun v1 =>
 vIf v1 (vIdx 1 t4 t5 fun v2 =>
 vLd v2 σ fun v3 σ =>
 vBin PP .sub 3 t5 (.int .i64 (.ofNat 1)) fun v4 =>
 vIdx 1 t4 v4 fun v5 =>
 vLd v5 σ fun v6 σ =>
 vBin PP .neq 3 v3 v6 fun v7 =>
 vIf v7 (vIdx 1 t4 t5 fun v8 =>
 vLd v8 σ fun v9 σ =>
 vIdx 1 t0 t3 fun v10 =>
 vSt 1 v10 v9 σ fun σ =>
 vBin PP .add 3 t3 (.int .i64 (.ofNat 1)) fun v11 =>
 j_slices_Compact_list_int_int_rrlrddrldrlrlrddrr x m0 m1 t0 v11 t4 t5 σ K) (j_slices_Compact_list_int_int_rrlrddrldrlrlrddrr x m0 m1 t0 t3 t4 t5 σ K)) (vSlS 3 1 t0 (some t3) none none σ fun v12 =>
 vClear [(.int .i64 (.ofNat 0))] v12 σ fun σ =>
 vSlS 3 1 t0 none (some t3) none σ fun v13 =>
 vRet v13 σ K)
theorem l_slices_Compact_list_int_int_rrlrddrldrlrlrdE (x : VE) (m1 : Nat) (m0 : Nat) (t0 t3 t4 t5 : V) (σ : Hp) (K : KV) : l_slices_Compact_list_int_int_rrlrddrldrlrlrd x (m1 + 1) m0 t0 t3 t4 t5 σ K = l_slices_Compact_list_int_int_rrlrddrldrlrlrdB x m1 m0 t0 t3 t4 t5 σ K := by kernel_rfl
noncomputable def j_slices_Compact_list_int_int_rrlrddrldrlrlrddrrB (x : VE) (m0 : Nat) (m1 : Nat) (t0 t3 t4 t5 : V) (σ : Hp) (K : KV) : Prop :=
 vDrop σ fun σ =>
 vBin PP .add 3 t5 (.int .i64 (.ofNat 1)) fun v0 =>
 l_slices_Compact_list_int_int_rrlrddrldrlrlrd x m1 m0 t0 t3 t4 v0 σ K
theorem j_slices_Compact_list_int_int_rrlrddrldrlrlrddrrE0 (x : VE) (m0 : Nat) (m1 : Nat) (t0 t3 t4 t5 : V) (σ : Hp) (K : KV) : vjmp0 PP tbS c_slices_Compact_list_int_int x [.r, .r, .l, .r, .d, .d, .r, .l, .d, .r, .l, .r, .l, .r, .d, .d, .r, .r] [m0, m1] [t0, t3, t4, t5] σ K = j_slices_Compact_list_int_int_rrlrddrldrlrlrddrrB x m0 m1 t0 t3 t4 t5 σ K := by kernel_rfl
theorem j_slices_Compact_list_int_int_rrlrddrldrlrlrddrrE (x : VE) (hm : x.most ≠ 0) (m0 : Nat) (m1 : Nat) (t0 t3 t4 t5 : V) (σ : Hp) (K : KV) : j_slices_Compact_list_int_int_rrlrddrldrlrlrddrr x m0 m1 t0 t3 t4 t5 σ K = j_slices_Compact_list_int_int_rrlrddrldrlrlrddrrB x m0 m1 t0 t3 t4 t5 σ K := (vjmpJ_eq (hm := hm) ..).trans (j_slices_Compact_list_int_int_rrlrddrldrlrlrddrrE0 x m0 m1 t0 t3 t4 t5 σ K)

/-! cmp.Compare[int] -/
end Go.Am

set_option linter.unusedVariables false
set_option maxRecDepth 100000
namespace Go.Am

/-! (*consistory/ballot.Ballot).Done -/
/-! (*consistory/ballot.Ballot).put -/
noncomputable def r_ballot_Ballot_put (x : VE) (a0 a1 : V) (σ : Hp) (K : KV) : Prop :=
 vBox 64 a1 σ fun v0 σ =>
 vFld 2 v0 fun v1 =>
 vLd v1 σ fun v2 σ =>
 vBin PP .eql 5 v2 (.int .u8 (.ofNat 2)) fun v3 =>
 shutP x.most (vGuard true v3 (fun k => vFld 1 v0 fun v4 =>
 k v4 σ) σ fun v5 σ =>
 shutP x.most (vGuard true v3 (fun k => vLd v5 σ fun v6 σ =>
 k v6 σ) σ fun v7 σ =>
 shutP x.most (vGuard true v3 (fun k => vBin PP .lss 3 v7 (.int .i64 (.ofNat 0)) fun v8 =>
 k v8 σ) σ fun v9 σ =>
 shutP x.most (vGuard true v3 (fun k => k v9 σ) σ fun v10 σ =>
 shutP x.most (vGuard false v10 (fun k => vFld 0 v0 fun v11 =>
 k v11 σ) σ fun v12 σ =>
 shutP x.most (vGuard false v10 (fun k => vLd v12 σ fun v13 σ =>
 k v13 σ) σ fun v14 σ =>
 shutP x.most (vGuard false v10 (fun k => k a0 σ) σ fun v15 σ =>
 shutP x.most (vGuard false v10 (fun k => vFld 1 v0 fun v16 =>
 k v16 σ) σ fun v17 σ =>
 shutP x.most (vGuard false v10 (fun k => vLd v17 σ fun v18 σ =>
 k v18 σ) σ fun v19 σ =>
 shutP x.most (vGuard false v10 (fun k => x.call c_ballot_Ballot_proposer [v15, v19] σ fun v20 σ =>
 k v20 σ) σ fun v21 σ =>
 shutP x.most (vGuardC false v10 v14 (fun k => vLd v12 σ fun v22 _ =>
 vSame v22 v14 k) (shutP x.most (vGuardC true v3 v7 (fun k => vLd v5 σ fun v23 _ =>
 vSame v23 v7 k) (vLd v1 σ fun v24 _ =>
 vSame v24 v2 (shutP x.most (vGuard false v10 (fun k => vBin PP .neq 3 v14 v21 fun v25 =>
 k v25 σ) σ fun v26 σ =>
 shutP x.most (vGuard true v3 (fun k => shutP x.most (vPick v10 (.bool true) v26 fun v27 =>
 k v27 σ)) σ fun v28 σ =>
 shutP x.most (vPick v3 v28 (.bool false) fun v29 =>
 vIf v29 (vRet (.bool false) σ K) (vNil PP a0 fun v30 =>
 vFld 15 v30 fun v31 =>
 vLd v31 σ fun v32 σ =>
 vLdN 5 v0 σ fun v33 σ =>
 x.call c_tally_Tally_Put [v32, v33] σ fun v34 σ =>
 vRet v34 σ K)))))))))))))))))))
theorem f_ballot_Ballot_put (x : VE) (a0 a1 : V) (σ : Hp) (K : KV) : fnV PP tbS c_ballot_Ballot_put x [a0, a1] σ K = r_ballot_Ballot_put x a0 a1 σ K := by kernel_rfl

/-! (*consistory/ballot.Ballot).do -/
noncomputable def j_ballot_Ballot_do_rdrrr (x : VE) (t0 t3 t6 : V) (σ : Hp) (K : KV) : Prop := vjmpJ PP tbS c_ballot_Ballot_do x [.r, .d, .r, .r, .r] [] [t0, t3, t6] σ K
noncomputable def l_ballot_Ballot_do_rdrrrrrld (x : VE) (m : Nat) (t0 t3 t6 t7 : V) (σ : Hp) (K : KV) : Prop := vjmpL PP tbS c_ballot_Ballot_do x [.r, .d, .r, .r, .r, .r, .r, .l, .d] m [] [t0, t3, t6, t7] σ K
noncomputable def l_ballot_Ballot_do_rdrrrrrlddrdlrd (x : VE) (m : Nat) (m0 : Nat) (t0 t3 t6 t7 t27 t28 t29 : V) (σ : Hp) (K : KV) : Prop := vjmpL PP tbS c_ballot_Ballot_do x [.r, .d, .r, .r, .r, .r, .r, .l, .d, .d, .r, .d, .l, .r, .d] m [m0] [t0, t3, t6, t7, t27, t28, t29] σ K
noncomputable def r_ballot_Ballot_do (x : VE) (a0 a1 : V) (σ : Hp) (K : KV) : Prop :=
 vBox 67 a1 σ fun v0 σ =>
 vBuild [.nilFunc, .nilFunc, .nilFunc, .nilFunc, .nilFunc, .nilFunc, .nilFunc] [(0, 1, (.func c_ballot_Ballot_decide [] [])), (1, 1, (.func c_ballot_Ballot_skip [] [])), (2, 1, (.func c_ballot_Ballot_fresh [] [])), (3, 1, (.func c_ballot_Ballot_old [] [])), (4, 1, (.func c_ballot_Ballot_lock [] [])), (5, 1, (.func c_ballot_Ballot_nothing [] [])), (6, 1, (.func c_ballot_Ballot_propose [] []))] fun v1 =>
 vAlloc [.nilFunc, .nilFunc, .nilFunc, .nilFunc, .nilFunc, .nilFunc, .nilFunc] 82 σ fun v2 σ =>
 vSt 7 v2 v1 σ fun σ =>
 vSlA 7 1 v2 none none none fun v3 =>
 vNil PP a0 fun v4 =>
 vFld 0 v4 fun v5 =>
 vFld 3 v5 fun v6 =>
 vLd v6 σ fun v7 σ =>
 vBin PP .eql 3 v7 (.int .i64 (.ofNat 0)) fun v8 =>
 vIf v8 (vSlA 7 1 v2 none (some (.int .i64 (.ofNat 1))) none fun v9 =>
 j_ballot_Ballot_do_rdrrr x a0 v0 v9 σ K) (j_ballot_Ballot_do_rdrrr x a0 v0 v3 σ K)
theorem f_ballot_Ballot_do (x : VE) (a0 a1 : V) (σ : Hp) (K : KV) : fnV PP tbS c_ballot_Ballot_do x [a0, a1] σ K = r_ballot_Ballot_do x a0 a1 σ K := by kernel_rfl
noncomputable def j_ballot_Ballot_do_rdrrrB (x : VE) (t0 t3 t6 : V) (σ : Hp) (K : KV) : Prop :=
 vDrop σ fun σ =>
 l_ballot_Ballot_do_rdrrrrrld x x.most t0 t3 t6 .nil σ K
theorem j_ballot_Ballot_do_rdrrrE0 (x : VE) (t0 t3 t6 : V) (σ : Hp) (K : KV) : vjmp0 PP tbS c_ballot_Ballot_do x [.r, .d, .r, .r, .r] [] [t0, t3, t6] σ K = j_ballot_Ballot_do_rdrrrB x t0 t3 t6 σ K := by kernel_rfl
theorem j_ballot_Ballot_do_rdrrrE (x : VE) (hm : x.most ≠ 0) (t0 t3 t6 : V) (σ : Hp) (K : KV) : j_ballot_Ballot_do_rdrrr x t0 t3 t6 σ K = j_ballot_Ballot_do_rdrrrB x t0 t3 t6 σ K := (vjmpJ_eq (hm := hm) ..).trans (j_ballot_Ballot_do_rdrrrE0 x t0 t3 t6 σ K)
noncomputable def l_ballot_Ballot_do_rdrrrrrldB (x : VE) (m0 : Nat) (t0 t3 t6 t7 : V) (σ : Hp) (K : KV) : Prop :=
 vDrop σ fun σ =>
 vNil PP t0 fun v0 =>
 vFld 0 v0 fun v1 =>
 vFld 13 v1 fun v2 =>
 vLd v2 σ fun v3 σ =>
 vBin PP .eql 9 v3 (.str []) fun v4 =>
 vIf v4 (vLenS t6 fun v5 =>
 l_ballot_Ballot_do_rdrrrrrlddrdlrd x x.most m0 t0 t3 t6 t7 t6 v5 (.int .i64 (.ofNat 0)) σ K) (vRet t7 σ K)
theorem l_ballot_Ballot_do_rdrrrrrldE (x : VE) (m0 : Nat) (t0 t3 t6 t7 : V) (σ : Hp) (K : KV) : l_ballot_Ballot_do_rdrrrrrld x (m0 + 1) t0 t3 t6 t7 σ K = l_ballot_Ballot_do_rdrrrrrldB x m0 t0 t3 t6 t7 σ K := by kernel_rfl
noncomputable def l_ballot_Ballot_do_rdrrrrrlddrdlrdB (x : VE) (m1 : Nat) (m0 : Nat) (t0 t3 t6 t7 t27 t28 t29 : V) (σ : Hp) (K : KV) : Prop :=
 vDrop σ fun σ =>
 vBin PP .lss 3 t29 t28 fun v0 =>
 vIf v0 (vIdx 1 t27 t29 fun v1 =>
 vLd v1 σ fun v2 σ =>
 vLdN 2 t3 σ fun v3 σ =>
 vCallV x v2 [t0, v3] σ fun v4 σ =>
 vExt 0 v4 fun v5 =>
 vExt 1 v4 fun v6 =>
 vIf v6 (vApp 31 11 112 t7 v5 σ fun v7 σ =>
 l_ballot_Ballot_do_rdrrrrrld x m0 t0 t3 t6 v7 σ K) (vBin PP .add 3 t29 (.int .i64 (.ofNat 1)) fun v8 =>
 l_ballot_Ballot_do_rdrrrrrlddrdlrd x m1 m0 t0 t3 t6 t7 t27 t28 v8 σ K)) (vRet t7 σ K)
theorem l_ballot_Ballot_do_rdrrrrrlddrdlrdE (x : VE) (m1 : Nat) (m0 : Nat) (t0 t3 t6 t7 t27 t28 t29 : V) (σ : Hp) (K : KV) : l_ballot_Ballot_do_rdrrrrrlddrdlrd x (m1 + 1) m0 t0 t3 t6 t7 t27 t28 t29 σ K = l_ballot_Ballot_do_rdrrrrrlddrdlrdB x m1 m0 t0 t3 t6 t7 t27 t28 t29 σ K := by kernel_rfl

/-! (*consistory/ballot.Ballot).late -/
noncomputable def r_ballot_Ballot_late (x : VE) (a0 : V) (σ : Hp) (K : KV) : Prop :=
 vNil PP a0 fun v0 =>
 vFld 0 v0 fun v1 =>
 vFld 5 v1 fun v2 =>
 vLd v2 σ fun v3 σ =>
 vBin PP .eql 3 v3 (.int .i64 (.ofNat 1)) fun v4 =>
 vIf v4 (x.call c_ballot_Ballot_to [a0, (.int .i64 (.ofNat 2))] σ fun v5 σ =>
 x.call c_ballot_Ballot_say [a0, (.int .u8 (.ofNat 3)), (.int .i64 (.ofNat 0)), (.str [])] σ fun v6 σ =>
 vRet v6 σ K) (vBin PP .eql 3 v3 (.int .i64 (.ofNat 2)) fun v7 =>
 vIf v7 (vNil PP a0 fun v8 =>
 vFld 15 v8 fun v9 =>
 vLd v9 σ fun v10 σ =>
 vNil PP a0 fun v11 =>
 vFld 0 v11 fun v12 =>
 vFld 4 v12 fun v13 =>
 vLd v13 σ fun v14 σ =>
 x.call c_tally_Tally_All [v10, v14, (.int .u8 (.ofNat 3))] σ fun v15 σ =>
 x.call c_ballot_Ballot_enough [a0, v15] σ fun v16 σ =>
 vIf v16 (x.call c_ballot_Ballot_to [a0, (.int .i64 (.ofNat 3))] σ fun v17 σ =>
 x.call c_ballot_Ballot_say [a0, (.int .u8 (.ofNat 4)), (.int .i64 (.ofNat 0)), (.str [])] σ fun v18 σ =>
 vRet v18 σ K) (vRet .nil σ K)) (vBin PP .eql 3 v3 (.int .i64 (.ofNat 3)) fun v19 =>
 vIf v19 (vNil PP a0 fun v20 =>
 vFld 15 v20 fun v21 =>
 vLd v21 σ fun v22 σ =>
 vNil PP a0 fun v23 =>
 vFld 0 v23 fun v24 =>
 vFld 4 v24 fun v25 =>
 vLd v25 σ fun v26 σ =>
 x.call c_tally_Tally_All [v22, v26, (.int .u8 (.ofNat 4))] σ fun v27 σ =>
 x.call c_ballot_Ballot_enough [a0, v27] σ fun v28 σ =>
 shutP x.most (vGuard true v28 (fun k => k a0 σ) σ fun v29 σ =>
 shutP x.most (vGuard true v28 (fun k => vNil PP v29 fun v30 =>
 k v30 σ) σ fun v31 σ =>
 shutP x.most (vGuard true v28 (fun k => vFld 0 v31 fun v32 =>
 k v32 σ) σ fun v33 σ =>
 shutP x.most (vGuard true v28 (fun k => vFld 4 v33 fun v34 =>
 k v34 σ) σ fun v35 σ =>
 shutP x.most (vGuard true v28 (fun k => vLd v35 σ fun v36 σ =>
 k v36 σ) σ fun v37 σ =>
 shutP x.most (vGuard true v28 (fun k => vBin PP .lss 3 v37 (.int .i64 (.ofNat 99)) fun v38 =>
 k v38 σ) σ fun v39 σ =>
 shutP x.most (vPick v28 v39 (.bool false) fun v40 =>
 vIf v40 (vNil PP a0 fun v41 =>
 vFld 0 v41 fun v42 =>
 vFld 4 v42 fun v43 =>
 vLd v43 σ fun v44 σ =>
 vBin PP .add 3 v44 (.int .i64 (.ofNat 1)) fun v45 =>
 x.call c_ballot_Ballot_begin [a0, v45] σ fun v46 σ =>
 vRet .nil σ K) (vRet .nil σ K))))))))) (vRet .nil σ K)))
theorem f_ballot_Ballot_late (x : VE) (a0 : V) (σ : Hp) (K : KV) : fnV PP tbS c_ballot_Ballot_late x [a0] σ K = r_ballot_Ballot_late x a0 σ K := by kernel_rfl

/-! consistory/ballot.place -/
noncomputable def r_ballot_place (x : VE) (a0 a1 a2 : V) (σ : Hp) (K : KV) : Prop :=
 vLenT a0 fun v0 =>
 vBin PP .leq 3 v0 (.int .i64 (.ofNat 2048)) fun v1 =>
 shutP x.most (vGuard true v1 (fun k => k a1 σ) σ fun v2 σ =>
 shutP x.most (vGuard true v1 (fun k => vBin PP .geq 3 v2 (.int .i64 (.negSucc 0)) fun v3 =>
 k v3 σ) σ fun v4 σ =>
 shutP x.most (vPick v1 v4 (.bool false) fun v5 =>
 shutP x.most (vGuard true v5 (fun k => k a1 σ) σ fun v6 σ =>
 shutP x.most (vGuard true v5 (fun k => k a2 σ) σ fun v7 σ =>
 shutP x.most (vGuard true v5 (fun k => vBin PP .leq 3 v6 v7 fun v8 =>
 k v8 σ) σ fun v9 σ =>
 shutP x.most (vPick v5 v9 (.bool false) fun v10 =>
 shutP x.most (vGuard true v10 (fun k => k a0 σ) σ fun v11 σ =>
 shutP x.most (vGuard true v10 (fun k => vBin PP .eql 9 v11 (.str []) fun v12 =>
 k v12 σ) σ fun v13 σ =>
 shutP x.most (vGuard true v10 (fun k => k a1 σ) σ fun v14 σ =>
 shutP x.most (vGuard true v10 (fun k => vBin PP .eql 3 v14 (.int .i64 (.negSucc 0)) fun v15 =>
 k v15 σ) σ fun v16 σ =>
 shutP x.most (vGuard true v10 (fun k => vBin PP .eql 4 v13 v16 fun v17 =>
 k v17 σ) σ fun v18 σ =>
 shutP x.most (vPick v10 v18 (.bool false) fun v19 =>
 vRet v19 σ K)))))))))))))
theorem f_ballot_place (x : VE) (a0 a1 a2 : V) (σ : Hp) (K : KV) : fnV PP tbS c_ballot_place x [a0, a1, a2] σ K = r_ballot_place x a0 a1 a2 σ K := by kernel_rfl

/-! consistory/consistoryref15.Same -/
noncomputable def l_ref15_Same_rrlrd (x : VE) (m : Nat) (t0 t1 t5 : V) (σ : Hp) (K : KV) : Prop := vjmpL PP tbS c_ref15_Same x [.r, .r, .l, .r, .d] m [] [t0, t1, t5] σ K
noncomputable def r_ref15_Same (x : VE) (a0 a1 : V) (σ : Hp) (K : KV) : Prop :=
 vLenS a0 fun v0 =>
 vLenS a1 fun v1 =>
 vBin PP .neq 3 v0 v1 fun v2 =>
 vIf v2 (vRet (.bool false) σ K) (l_ref15_Same_rrlrd x x.most a0 a1 (.int .i64 (.ofNat 0)) σ K)
theorem f_ref15_Same (x : VE) (a0 a1 : V) (σ : Hp) (K : KV) : fnV PP tbS c_ref15_Same x [a0, a1] σ K = r_ref15_Same x a0 a1 σ K := by kernel_rfl
noncomputable def l_ref15_Same_rrlrdB (x : VE) (m0 : Nat) (t0 t1 t5 : V) (σ : Hp) (K : KV) : Prop :=
 vDrop σ fun σ =>
 vLenS t0 fun v0 =>
 vBin PP .lss 3 t5 v0 fun v1 =>
 vIf v1 (vIdx 5 t0 t5 fun v2 =>
 vLdN 5 v2 σ fun v3 σ =>
 vIdx 5 t1 t5 fun v4 =>
 vLdN 5 v4 σ fun v5 σ =>
 vAgg PP .neq 100 v3 v5 fun v6 =>
 vIf v6 (vRet (.bool false) σ K) (vBin PP .add 3 t5 (.int .i64 (.ofNat 1)) fun v7 =>
 l_ref15_Same_rrlrd x m0 t0 t1 v7 σ K)) (vRet (.bool true) σ K)
theorem l_ref15_Same_rrlrdE (x : VE) (m0 : Nat) (t0 t1 t5 : V) (σ : Hp) (K : KV) : l_ref15_Same_rrlrd x (m0 + 1) t0 t1 t5 σ K = l_ref15_Same_rrlrdB x m0 t0 t1 t5 σ K := by kernel_rfl

/-! consistory/consistorylaw16.votes -/
noncomputable def l_law16_votes_rrlrd (x : VE) (m : Nat) (t0 t3 t4 : V) (σ : Hp) (K : KV) : Prop := vjmpL PP tbS c_law16_votes x [.r, .r, .l, .r, .d] m [] [t0, t3, t4] σ K
noncomputable def r_law16_votes (x : VE) (a0 : V) (σ : Hp) (K : KV) : Prop :=
 l_law16_votes_rrlrd x x.most a0 .nil (.int .i64 (.ofNat 0)) σ K
theorem f_law16_votes (x : VE) (a0 : V) (σ : Hp) (K : KV) : fnV PP tbS c_law16_votes x [a0] σ K = r_law16_votes x a0 σ K := by kernel_rfl
noncomputable def l_law16_votes_rrlrdB (x : VE) (m0 : Nat) (t0 t3 t4 : V) (σ : Hp) (K : KV) : Prop :=
 vDrop σ fun σ =>
 vLenS t0 fun v0 =>
 vBin PP .lss 3 t4 v0 fun v1 =>
 vIf v1 (vIdx 5 t0 t4 fun v2 =>
 vLdN 5 v2 σ fun v3 σ =>
 vBuildS 100 1 [(.int .i64 (.ofNat 0)), (.int .i64 (.ofNat 0)), (.int .u8 (.ofNat 0)), (.int .i64 (.ofNat 0)), (.string ⟨⟨[]⟩⟩)] [(0, 5, v3)] σ fun v4 σ =>
 vApp 100 5 48 t3 v4 σ fun v5 σ =>
 vBin PP .add 3 t4 (.int .i64 (.ofNat 1)) fun v6 =>
 l_law16_votes_rrlrd x m0 t0 v5 v6 σ K) (vRet t3 σ K)
theorem l_law16_votes_rrlrdE (x : VE) (m0 : Nat) (t0 t3 t4 : V) (σ : Hp) (K : KV) : l_law16_votes_rrlrd x (m0 + 1) t0 t3 t4 σ K = l_law16_votes_rrlrdB x m0 t0 t3 t4 σ K := by kernel_rfl

/-! consistory/consistoryref14.Same -/
noncomputable def l_ref14_Same_rrlrd (x : VE) (m : Nat) (t2 t3 t5 : V) (σ : Hp) (K : KV) : Prop := vjmpL PP tbS c_ref14_Same x [.r, .r, .l, .r, .d] m [] [t2, t3, t5] σ K
noncomputable def r_ref14_Same (x : VE) (a0 a1 : V) (σ : Hp) (K : KV) : Prop :=
 vBox 31 a0 σ fun v0 σ =>
 vBox 31 a1 σ fun v1 σ =>
 vFld 0 v0 fun v2 =>
 vLd v2 σ fun v3 σ =>
 vFld 0 v1 fun v4 =>
 vLd v4 σ fun v5 σ =>
 vBin PP .neq 5 v3 v5 fun v6 =>
 shutP x.most (vGuard false v6 (fun k => vFld 1 v0 fun v7 =>
 k v7 σ) σ fun v8 σ =>
 shutP x.most (vGuard false v6 (fun k => vLd v8 σ fun v9 σ =>
 k v9 σ) σ fun v10 σ =>
 shutP x.most (vGuard false v6 (fun k => vFld 1 v1 fun v11 =>
 k v11 σ) σ fun v12 σ =>
 shutP x.most (vGuard false v6 (fun k => vLd v12 σ fun v13 σ =>
 k v13 σ) σ fun v14 σ =>
 shutP x.most (vGuard false v6 (fun k => vBin PP .neq 3 v10 v14 fun v15 =>
 k v15 σ) σ fun v16 σ =>
 shutP x.most (vPick v6 (.bool true) v16 fun v17 =>
 shutP x.most (vGuard false v17 (fun k => vFld 2 v0 fun v18 =>
 k v18 σ) σ fun v19 σ =>
 shutP x.most (vGuard false v17 (fun k => vLd v19 σ fun v20 σ =>
 k v20 σ) σ fun v21 σ =>
 shutP x.most (vGuard false v17 (fun k => vFld 2 v1 fun v22 =>
 k v22 σ) σ fun v23 σ =>
 shutP x.most (vGuard false v17 (fun k => vLd v23 σ fun v24 σ =>
 k v24 σ) σ fun v25 σ =>
 shutP x.most (vGuard false v17 (fun k => vBin PP .neq 3 v21 v25 fun v26 =>
 k v26 σ) σ fun v27 σ =>
 shutP x.most (vPick v17 (.bool true) v27 fun v28 =>
 shutP x.most (vGuard false v28 (fun k => vFld 3 v0 fun v29 =>
 k v29 σ) σ fun v30 σ =>
 shutP x.most (vGuard false v28 (fun k => vLd v30 σ fun v31 σ =>
 k v31 σ) σ fun v32 σ =>
 shutP x.most (vGuard false v28 (fun k => vFld 3 v1 fun v33 =>
 k v33 σ) σ fun v34 σ =>
 shutP x.most (vGuard false v28 (fun k => vLd v34 σ fun v35 σ =>
 k v35 σ) σ fun v36 σ =>
 shutP x.most (vGuard false v28 (fun k => vBin PP .neq 3 v32 v36 fun v37 =>
 k v37 σ) σ fun v38 σ =>
 shutP x.most (vPick v28 (.bool true) v38 fun v39 =>
 shutP x.most (vGuard false v39 (fun k => vFld 4 v0 fun v40 =>
 k v40 σ) σ fun v41 σ =>
 shutP x.most (vGuard false v39 (fun k => vLd v41 σ fun v42 σ =>
 k v42 σ) σ fun v43 σ =>
 shutP x.most (vGuard false v39 (fun k => vFld 4 v1 fun v44 =>
 k v44 σ) σ fun v45 σ =>
 shutP x.most (vGuard false v39 (fun k => vLd v45 σ fun v46 σ =>
 k v46 σ) σ fun v47 σ =>
 shutP x.most (vGuard false v39 (fun k => vBin PP .neq 3 v43 v47 fun v48 =>
 k v48 σ) σ fun v49 σ =>
 shutP x.most (vPick v39 (.bool true) v49 fun v50 =>
 shutP x.most (vGuard false v50 (fun k => vFld 5 v0 fun v51 =>
 k v51 σ) σ fun v52 σ =>
 shutP x.most (vGuard false v50 (fun k => vLd v52 σ fun v53 σ =>
 k v53 σ) σ fun v54 σ =>
 shutP x.most (vGuard false v50 (fun k => vFld 5 v1 fun v55 =>
 k v55 σ) σ fun v56 σ =>
 shutP x.most (vGuard false v50 (fun k => vLd v56 σ fun v57 σ =>
 k v57 σ) σ fun v58 σ =>
 shutP x.most (vGuard false v50 (fun k => vBin PP .neq 3 v54 v58 fun v59 =>
 k v59 σ) σ fun v60 σ =>
 shutP x.most (vPick v50 (.bool true) v60 fun v61 =>
 shutP x.most (vGuard false v61 (fun k => vFld 6 v0 fun v62 =>
 k v62 σ) σ fun v63 σ =>
 shutP x.most (vGuard false v61 (fun k => vLd v63 σ fun v64 σ =>
 k v64 σ) σ fun v65 σ =>
 shutP x.most (vGuard false v61 (fun k => vFld 6 v1 fun v66 =>
 k v66 σ) σ fun v67 σ =>
 shutP x.most (vGuard false v61 (fun k => vLd v67 σ fun v68 σ =>
 k v68 σ) σ fun v69 σ =>
 shutP x.most (vGuard false v61 (fun k => vBin PP .neq 3 v65 v69 fun v70 =>
 k v70 σ) σ fun v71 σ =>
 shutP x.most (vPick v61 (.bool true) v71 fun v72 =>
 shutP x.most (vGuard false v72 (fun k => vFld 7 v0 fun v73 =>
 k v73 σ) σ fun v74 σ =>
 shutP x.most (vGuard false v72 (fun k => vLd v74 σ fun v75 σ =>
 k v75 σ) σ fun v76 σ =>
 shutP x.most (vGuard false v72 (fun k => vFld 7 v1 fun v77 =>
 k v77 σ) σ fun v78 σ =>
 shutP x.most (vGuard false v72 (fun k => vLd v78 σ fun v79 σ =>
 k v79 σ) σ fun v80 σ =>
 shutP x.most (vGuard false v72 (fun k => vBin PP .neq 3 v76 v80 fun v81 =>
 k v81 σ) σ fun v82 σ =>
 shutP x.most (vPick v72 (.bool true) v82 fun v83 =>
 shutP x.most (vGuard false v83 (fun k => vFld 8 v0 fun v84 =>
 k v84 σ) σ fun v85 σ =>
 shutP x.most (vGuard false v83 (fun k => vLd v85 σ fun v86 σ =>
 k v86 σ) σ fun v87 σ =>
 shutP x.most (vGuard false v83 (fun k => vFld 8 v1 fun v88 =>
 k v88 σ) σ fun v89 σ =>
 shutP x.most (vGuard false v83 (fun k => vLd v89 σ fun v90 σ =>
 k v90 σ) σ fun v91 σ =>
 shutP x.most (vGuard false v83 (fun k => vBin PP .neq 3 v87 v91 fun v92 =>
 k v92 σ) σ fun v93 σ =>
 shutP x.most (vPick v83 (.bool true) v93 fun v94 =>
 shutP x.most (vGuard false v94 (fun k => vFld 9 v0 fun v95 =>
 k v95 σ) σ fun v96 σ =>
 shutP x.most (vGuard false v94 (fun k => vLd v96 σ fun v97 σ =>
 k v97 σ) σ fun v98 σ =>
 shutP x.most (vGuard false v94 (fun k => vFld 9 v1 fun v99 =>
 k v99 σ) σ fun v100 σ =>
 shutP x.most (vGuard false v94 (fun k => vLd v100 σ fun v101 σ =>
 k v101 σ) σ fun v102 σ =>
 shutP x.most (vGuard false v94 (fun k => vBin PP .neq 9 v98 v102 fun v103 =>
 k v103 σ) σ fun v104 σ =>
 shutP x.most (vPick v94 (.bool true) v104 fun v105 =>
 shutP x.most (vGuard false v105 (fun k => vFld 10 v0 fun v106 =>
 k v106 σ) σ fun v107 σ =>
 shutP x.most (vGuard false v105 (fun k => vLd v107 σ fun v108 σ =>
 k v108 σ) σ fun v109 σ =>
 shutP x.most (vGuard false v105 (fun k => vLenS v109 fun v110 =>
 k v110 σ) σ fun v111 σ =>
 shutP x.most (vGuard false v105 (fun k => vFld 10 v1 fun v112 =>
 k v112 σ) σ fun v113 σ =>
 shutP x.most (vGuard false v105 (fun k => vLd v113 σ fun v114 σ =>
 k v114 σ) σ fun v115 σ =>
 shutP x.most (vGuard false v105 (fun k => vLenS v115 fun v116 =>
 k v116 σ) σ fun v117 σ =>
 shutP x.most (vGuard false v105 (fun k => vBin PP .neq 3 v111 v117 fun v118 =>
 k v118 σ) σ fun v119 σ =>
 shutP x.most (vPick v105 (.bool true) v119 fun v120 =>
 vIf v120 (vRet (.bool false) σ K) (l_ref14_Same_rrlrd x x.most v0 v1 (.int .i64 (.ofNat 0)) σ K)))))))))))))))))))))))))))))))))))))))))))))))))))))))))))))))
theorem f_ref14_Same (x : VE) (a0 a1 : V) (σ : Hp) (K : KV) : fnV PP tbS c_ref14_Same x [a0, a1] σ K = r_ref14_Same x a0 a1 σ K := by kernel_rfl
noncomputable def l_ref14_Same_rrlrdB (x : VE) (m0 : Nat) (t2 t3 t5 : V) (σ : Hp) (K : KV) : Prop :=
 vDrop σ fun σ =>
 vFld 10 t2 fun v0 =>
 vLd v0 σ fun v1 σ =>
 vLenS v1 fun v2 =>
 vBin PP .lss 3 t5 v2 fun v3 =>
 vIf v3 (vFld 10 t2 fun v4 =>
 vLd v4 σ fun v5 σ =>
 vIdx 1 v5 t5 fun v6 =>
 vLd v6 σ fun v7 σ =>
 vFld 10 t3 fun v8 =>
 vLd v8 σ fun v9 σ =>
 vIdx 1 v9 t5 fun v10 =>
 vLd v10 σ fun v11 σ =>
 vBin PP .neq 101 v7 v11 fun v12 =>
 vIf v12 (vRet (.bool false) σ K) (vBin PP .add 3 t5 (.int .i64 (.ofNat 1)) fun v13 =>
 l_ref14_Same_rrlrd x m0 t2 t3 v13 σ K)) (vRet (.bool true) σ K)
theorem l_ref14_Same_rrlrdE (x : VE) (m0 : Nat) (t2 t3 t5 : V) (σ : Hp) (K : KV) : l_ref14_Same_rrlrd x (m0 + 1) t2 t3 t5 σ K = l_ref14_Same_rrlrdB x m0 t2 t3 t5 σ K := by kernel_rfl

/-! (*consistory/ballot.Ballot).proposer -/
noncomputable def r_ballot_Ballot_proposer (x : VE) (a0 a1 : V) (σ : Hp) (K : KV) : Prop :=
 vNil PP a0 fun v0 =>
 vFld 0 v0 fun v1 =>
 vFld 0 v1 fun v2 =>
 vLd v2 σ fun v3 σ =>
 vBin PP .add 3 v3 a1 fun v4 =>
 vNil PP a0 fun v5 =>
 vFld 0 v5 fun v6 =>
 vFld 1 v6 fun v7 =>
 vLd v7 σ fun v8 σ =>
 vBin PP .rem 3 v4 v8 fun v9 =>
 vBin PP .add 3 (.int .i64 (.ofNat 1)) v9 fun v10 =>
 vRet v10 σ K
theorem f_ballot_Ballot_proposer (x : VE) (a0 a1 : V) (σ : Hp) (K : KV) : fnV PP tbS c_ballot_Ballot_proposer x [a0, a1] σ K = r_ballot_Ballot_proposer x a0 a1 σ K := by kernel_rfl

/-! (*consistory/ballot.Ballot).decide -/
noncomputable def l_ballot_Ballot_decide_rlrd (x : VE) (m : Nat) (t0 t14 t15 t16 : V) (σ : Hp) (K : KV) : Prop := vjmpL PP tbS c_ballot_Ballot_decide x [.r, .l, .r, .d] m [] [t0, t14, t15, t16] σ K
noncomputable def r_ballot_Ballot_decide (x : VE) (a0 a1 : V) (σ : Hp) (K : KV) : Prop :=
 vBox 67 a1 σ fun v0 σ =>
 vNil PP a0 fun v1 =>
 vFld 15 v1 fun v2 =>
 vLd v2 σ fun v3 σ =>
 x.call c_tally_Tally_Rounds [v3] σ fun v4 σ =>
 vLenS v4 fun v5 =>
 l_ballot_Ballot_decide_rlrd x x.most a0 v4 v5 (.int .i64 (.ofNat 0)) σ K
theorem f_ballot_Ballot_decide (x : VE) (a0 a1 : V) (σ : Hp) (K : KV) : fnV PP tbS c_ballot_Ballot_decide x [a0, a1] σ K = r_ballot_Ballot_decide x a0 a1 σ K := by kernel_rfl
noncomputable def l_ballot_Ballot_decide_rlrdB (x : VE) (m0 : Nat) (t0 t14 t15 t16 : V) (σ : Hp) (K : KV) : Prop :=
 vDrop σ fun σ =>
 vBin PP .lss 3 t16 t15 fun v0 =>
 vIf v0 (vIdx 1 t14 t16 fun v1 =>
 vLd v1 σ fun v2 σ =>
 x.call c_ballot_Ballot_proposal [t0, v2] σ fun v3 σ =>
 vExt 0 v3 fun v4 =>
 vExt 1 v3 fun v5 =>
 vAlloc [(.int .i64 (.ofNat 0)), (.int .i64 (.ofNat 0)), (.int .u8 (.ofNat 0)), (.int .i64 (.ofNat 0)), (.string ⟨⟨[]⟩⟩)] 64 σ fun v6 σ =>
 vSt 5 v6 v4 σ fun σ =>
 shutP x.most (vGuard true v5 (fun k => k t0 σ) σ fun v7 σ =>
 shutP x.most (vGuard true v5 (fun k => k v2 σ) σ fun v8 σ =>
 shutP x.most (vGuard true v5 (fun k => vFld 4 v6 fun v9 =>
 k v9 σ) σ fun v10 σ =>
 shutP x.most (vGuard true v5 (fun k => vLd v10 σ fun v11 σ =>
 k v11 σ) σ fun v12 σ =>
 shutP x.most (vGuard true v5 (fun k => x.call c_ballot_Ballot_agreed [v7, v8, (.int .u8 (.ofNat 4)), v12] σ fun v13 σ =>
 k v13 σ) σ fun v14 σ =>
 shutP x.most (vPick v5 v14 (.bool false) fun v15 =>
 vIf v15 (vFld 4 v6 fun v16 =>
 vLd v16 σ fun v17 σ =>
 vNil PP t0 fun v18 =>
 vFld 0 v18 fun v19 =>
 vFld 13 v19 fun v20 =>
 vSt 1 v20 v17 σ fun σ =>
 vRet (.tuple [.nil, (.bool true)]) σ K) (vBin PP .add 3 t16 (.int .i64 (.ofNat 1)) fun v21 =>
 l_ballot_Ballot_decide_rlrd x m0 t0 t14 t15 v21 σ K)))))))) (vRet (.tuple [.nil, (.bool false)]) σ K)
theorem l_ballot_Ballot_decide_rlrdE (x : VE) (m0 : Nat) (t0 t14 t15 t16 : V) (σ : Hp) (K : KV) : l_ballot_Ballot_decide_rlrd x (m0 + 1) t0 t14 t15 t16 σ K = l_ballot_Ballot_decide_rlrdB x m0 t0 t14 t15 t16 σ K := by kernel_rfl

end Go.Am

set_option linter.unusedVariables false
namespace Go.Am
structure Vo where
 fr : Int
 rd : Int
 kd : Nat
 vl : Int
 tx : List UInt8
def Vo.dt (v : Vo) : List Dt := [.int .i64 v.fr, .int .i64 v.rd, .int .u8 (.ofNat v.kd), .int .i64 v.vl, .str v.tx]
def Vo.vv (v : Vo) : List V := [.int .i64 v.fr, .int .i64 v.rd, .int .u8 (.ofNat v.kd), .int .i64 v.vl, .str v.tx]
def voD (l : List Vo) : List Dt := l.flatMap Vo.dt
def voV (l : List Vo) : List V := l.flatMap Vo.vv
theorem voD_len (l : List Vo) : (voD l).length = l.length * 5 := by
 induction l with
 | nil => rfl
 | cons v l ih => simp [voD, Vo.dt] at ih ⊢; omega
theorem voD_at (l : List Vo) (i : Nat) (v : Vo) (h : l[i]? = some v) : ((voD l).drop (i * 5)).take 5 = v.dt := by
 induction l generalizing i with
 | nil => simp at h
 | cons a l ih =>
  cases i with
  | zero => simp at h; subst h; simp [voD, Vo.dt]
  | succ i =>
   have := ih i (by simpa using h)
   rw [← this]
   simp only [voD, List.flatMap_cons]
   rw [show (i + 1) * 5 = a.dt.length + i * 5 by simp [Vo.dt]; omega, ← List.drop_drop]
   simp
theorem voV_T (l : List Vo) (τ : Tag) : voV l = (voD l).map (T τ) := by
 induction l with
 | nil => rfl
 | cons v l ih => simp [voV, voD, Vo.vv, Vo.dt, T] at ih ⊢; exact ih
theorem voV_len (l : List Vo) : (voV l).length = l.length * 5 := by rw [voV_T l (.root 0), List.length_map, voD_len]
theorem voV_take (l : List Vo) (i : Nat) (h : i < l.length) : voV (l.take (i + 1)) = voV (l.take i) ++ l[i].vv := by
 rw [List.take_add_one, List.getElem?_eq_getElem h]
 simp only [voV, List.flatMap_append, List.flatMap_cons, List.flatMap_nil, List.append_nil, Option.toList]
theorem votes_go {x : VE} {K : KV} {τ : Tag} {l : List Vo} {σ0 : Hp} (hl : l.length ≤ 1000000) (hk : ∀ τ, K (.list τ (voD l) l.length) σ0) : ∀ (m i : Nat) (t : V) (σ σ2 : Hp), l.length ≤ i + m → i ≤ l.length → Made 100 5 σ0 t σ (voV (l.take i)) i → Hle σ σ2 → l_law16_votes_rrlrd x (m + 1) (.list τ (voD l) l.length) t (.int .i64 (.ofNat i)) σ2 K := by
 intro m
 have fin : ∀ {i : Nat} {t : V} {σ : Hp}, l.length ≤ i → i ≤ l.length → Made 100 5 σ0 t σ (voV (l.take i)) i → vRet t σ K := by
  intro i t σ h1 h2 a
  have : i = l.length := by omega
  subst this
  rw [List.take_length] at a
  refine a.ret (cs := voD l) (by rw [voV_len, voD_len]) (fun j v d e1 e2 => ?_) hk
  rw [voV_T l (.root 0), List.getElem?_map, e2] at e1
  injection e1 with e1
  subst e1
  exact .T
 induction m with
 | zero =>
  intro i t σ σ2 hm hi a hs
  rw [l_law16_votes_rrlrdE]
  unfold l_law16_votes_rrlrdB
  refine vDrop_to σ hs ?_
  rw [vLenS_l, vBinI_lss, vIf_b, if_neg (by simp; omega)]
  exact fin hm hi a
 | succ m ih =>
  intro i t σ σ2 hm hi a hs
  rw [l_law16_votes_rrlrdE]
  unfold l_law16_votes_rrlrdB
  refine vDrop_to σ hs ?_
  rw [vLenS_l, vBinI_lss, vIf_b]
  by_cases hlt : i < l.length
  · rw [if_pos (by simp; omega), vIdx_l hlt, vLdN_l, vPart_ok (by rw [voD_len]; omega), voD_at l i l[i] (List.getElem?_eq_getElem hlt)]
    refine vBuildS_one rfl rfl rfl rfl fun j hj => ?_
    refine a.app (bytes := 48) (m := 1) (new := l[i].vv) (.upd_new hj) (fun q hq => a.le.none (upd_none hq).2) (fun k hq => vSrc_own upd_same rfl hq) (by omega) rfl rfl (by omega) ?_
    intro t2 σ4 σ3 b hle
    rw [vBinI_add, next_i (by omega)]
    rw [← voV_take l i hlt] at b
    exact ih (i + 1) t2 σ3 σ4 (by omega) (by omega) b hle
  · rw [if_neg (by simp; omega)]
    exact fin (by omega) hi a
theorem votes_s {x : VE} {K : KV} {τ : Tag} {l : List Vo} {σ : Hp} (hl : l.length ≤ 1000000) (hm : l.length < x.most) (hk : ∀ τ, K (.list τ (voD l) l.length) σ) : fnV PP tbS c_law16_votes x [.list τ (voD l) l.length] σ K := by
 rw [f_law16_votes]
 unfold r_law16_votes
 obtain ⟨m, e⟩ := Nat.exists_eq_succ_of_ne_zero (show x.most ≠ 0 by omega)
 have := votes_go (x := x) (τ := τ) hl hk m 0 .nil σ σ (by omega) (by omega) .nil (.refl σ)
 rw [e]
 exact this
end Go.Am

set_option linter.unusedVariables false
namespace Go.Am
def ints (l : List Int) : List V := l.map (V.int .i64)
def intsD (l : List Int) : List Dt := l.map (Dt.int .i64)
theorem ints_len (l : List Int) : (ints l).length = l.length := by simp [ints]
theorem intsD_len (l : List Int) : (intsD l).length = l.length := by simp [intsD]
theorem getD_get {l : List Int} {p : Nat} (h : p < l.length) : l.getD p 0 = l[p] := by rw [List.getD_eq_getElem?_getD, List.getElem?_eq_getElem h]; rfl
theorem ints_get {l : List Int} {p : Nat} (h : p < l.length) : (ints l)[p]? = some (.int .i64 (l.getD p 0)) := by
 unfold ints
 rw [List.getElem?_map, List.getElem?_eq_getElem h, getD_get h]; rfl
theorem ints_set (l : List Int) (p : Nat) (z : Int) : (ints l).set p (.int .i64 z) = ints (l.set p z) := by
 unfold ints; rw [List.map_set]
def kp (zs : List Int) (j : Nat) : Bool := decide (j = 0) || !decide (zs.getD j 0 = zs.getD (j - 1) 0)
def dq (zs : List Int) : Nat → List Int
 | 0 => []
 | j + 1 => if kp zs j then dq zs j ++ [zs.getD j 0] else dq zs j
def dd (zs : List Int) : List Int := dq zs zs.length
theorem dq_same {zs : List Int} {j : Nat} (h0 : 0 < j) (h : zs.getD j 0 = zs.getD (j - 1) 0) : dq zs (j + 1) = dq zs j := by
 conv => lhs; unfold dq
 rw [show kp zs j = false by unfold kp; rw [decide_eq_false (by omega), decide_eq_true h]; rfl]; rfl
theorem dq_new {zs : List Int} {j : Nat} (h : ¬ zs.getD j 0 = zs.getD (j - 1) 0) : dq zs (j + 1) = dq zs j ++ [zs.getD j 0] := by
 conv => lhs; unfold dq
 rw [show kp zs j = true by unfold kp; rw [decide_eq_false h]; simp]; rfl
theorem dq_len (zs : List Int) : ∀ j, (dq zs j).length ≤ j := by
 intro j
 induction j with
 | zero => exact Nat.le_refl _
 | succ j ih =>
  unfold dq
  split
  · rw [List.length_append]; simp; exact ih
  · omega
theorem prev_i {i : Nat} (h : 0 < i) (h2 : i < 4611686018427387904) : wrapI .i64 (Int.ofNat i - Int.ofNat 1) = Int.ofNat (i - 1) := by
 rw [wrap_small] <;> simp <;> omega
theorem upd_le {σ σ' : Hp} {i : Nat} {o : Ob} (h : Hle σ' σ) (e : σ' i = none) : Hle σ' (upd σ i o) := fun j q hq => by
 by_cases hj : j = i
 · subst hj; rw [e] at hq; cases hq
 · rw [upd_other hj]; exact h j q hq
section
variable {x : VE} {K : KV} {zs : List Int} {i n : Nat} {σ' : Hp}
theorem comp2 (hn : zs.length = n) (hM : n < x.most) (hb : n < 1000000000) (hs : σ' i = none) (hk : ∀ τ, K (.list τ (intsD (dd zs)) (dd zs).length) σ') (m0 : Nat) {k : Nat} (k1 : 1 ≤ k) :
 ∀ (m k2 kk : Nat) (σ : Hp) (cur : List Int), Hle σ' σ → σ i = some (.gro (ints cur) 3 n) → cur.length = n → 1 ≤ k2 → k + k2 ≤ n → n ≤ k + k2 + m → kk = (dq zs (k + k2)).length → kk < k + k2 → cur.take kk = dq zs (k + k2) → cur.drop (k + k2 - 1) = zs.drop (k + k2 - 1) →
  l_slices_Compact_list_int_int_rrlrddrldrlrlrd x (m + 1) m0 (.acc i n) (.int .i64 (.ofNat kk)) (.asl i n (k * 1) (n - k) (n - k)) (.int .i64 (.ofNat k2)) σ K := by
 have fin : ∀ (k2 kk : Nat) (σ : Hp) (cur : List Int), Hle σ' σ → σ i = some (.gro (ints cur) 3 n) → cur.length = n → k + k2 = n → kk = (dq zs (k + k2)).length → kk < k + k2 → cur.take kk = dq zs (k + k2) →
  (vSlS 3 1 (.acc i n) (some (.int .i64 (.ofNat kk))) none none σ fun v12 => vClear [(.int .i64 (.ofNat 0))] v12 σ fun σ => vSlS 3 1 (.acc i n) none (some (.int .i64 (.ofNat kk))) none σ fun v13 => vRet v13 σ K) := by
  intro k2 kk σ cur hle hi hc hk2 e1 e2 e3
  refine vSlS_lo hi (by omega) ?_
  refine vClear_asl hi rfl (by omega) (by simp [ints_len]; omega) ?_
  refine vSlS_hi upd_same (by omega) (by omega) ?_
  have e4 : dq zs (k + k2) = dd zs := by rw [hk2, ← hn]; rfl
  rw [e4] at e1 e3
  have e5 : (dd zs).length = kk := e1.symm
  refine ⟨σ', fun τ => .list (τ 0) (intsD (dd zs)) kk, upd_le hle hs, fun τ => .one (.dat (.asl (cs := intsD (dd zs)) upd_same hs (by omega) ?_ ?_)), fun τ => by rw [← e5]; exact hk _⟩
  · rw [intsD_len, e5]; unfold splice; simp [ints_len]; omega
  · intro j v d h1 h2
    have hj : j < kk := by have := (List.getElem?_eq_some_iff.1 h2).1; rw [intsD_len] at this; omega
    have h3 : (ints cur)[j]? = some v := by
     unfold splice at h1
     rw [Nat.zero_add, List.append_assoc, List.getElem?_append_left (by rw [List.length_take, ints_len]; omega), List.getElem?_take, if_pos (by omega)] at h1
     exact h1
    rw [ints_get (by omega)] at h3
    injection h3 with h3
    subst h3
    unfold intsD at h2
    rw [List.getElem?_map, ← e3, List.getElem?_take, if_pos hj, List.getElem?_eq_getElem (by omega)] at h2
    injection h2 with h2
    subst h2
    rw [getD_get (by omega)]
    exact .int
 intro m
 induction m with
 | zero =>
  intro k2 kk σ cur hle hi hc h2 hle2 hm e1 e2 e3 e4
  rw [l_slices_Compact_list_int_int_rrlrddrldrlrlrdE]
  unfold l_slices_Compact_list_int_int_rrlrddrldrlrlrdB
  refine vDrop_here ?_
  rw [vLenS_asl, vBinI_lss, vIf_b, if_neg (by simp; omega)]
  exact fin k2 kk σ cur hle hi hc (by omega) e1 e2 e3
 | succ m ih =>
  intro k2 kk σ cur hle hi hc h2 hle2 hm e1 e2 e3 e4
  rw [l_slices_Compact_list_int_int_rrlrddrldrlrlrdE]
  unfold l_slices_Compact_list_int_int_rrlrddrldrlrlrdB
  refine vDrop_here ?_
  rw [vLenS_asl, vBinI_lss, vIf_b]
  by_cases hlt : k2 < n - k
  · have cell : ∀ p, k + k2 - 1 ≤ p → p < n → cur.getD p 0 = zs.getD p 0 := by
     intro p h1 h3
     have := congrArg (fun l : List Int => l.getD (p - (k + k2 - 1)) 0) e4
     simp only [List.getD_eq_getElem?_getD, List.getElem?_drop] at this
     rw [show k + k2 - 1 + (p - (k + k2 - 1)) = p by omega] at this
     simpa [List.getD_eq_getElem?_getD] using this
    rw [if_pos (by simp; omega), vIdx_asl hlt]
    refine vLd_g hi (ints_get (by omega)) ?_
    rw [vBinI_sub, prev_i (by omega) (by omega), vIdx_asl (by omega)]
    refine vLd_g hi (ints_get (by omega)) ?_
    rw [vBinI_neq, vIf_b]
    have c1 : cur.getD (k * 1 + k2 * 1) 0 = zs.getD (k + k2) 0 := by rw [show k * 1 + k2 * 1 = k + k2 by omega]; exact cell _ (by omega) (by omega)
    have c2 : cur.getD (k * 1 + (k2 - 1) * 1) 0 = zs.getD (k + k2 - 1) 0 := by rw [show k * 1 + (k2 - 1) * 1 = k + k2 - 1 by omega]; exact cell _ (by omega) (by omega)
    rw [c1, c2]
    have next : ∀ (σ2 : Hp) (cur2 : List Int) (kk2 : Nat), Hle σ' σ2 → σ2 i = some (.gro (ints cur2) 3 n) → cur2.length = n → kk2 = (dq zs (k + (k2 + 1))).length → kk2 < k + (k2 + 1) → cur2.take kk2 = dq zs (k + (k2 + 1)) → cur2.drop (k + k2) = zs.drop (k + k2) → j_slices_Compact_list_int_int_rrlrddrldrlrlrddrr x m0 (m + 1) (.acc i n) (.int .i64 (.ofNat kk2)) (.asl i n (k * 1) (n - k) (n - k)) (.int .i64 (.ofNat k2)) σ2 K := by
     intro σ2 cur2 kk2 q1 q2 q3 q4 q5 q6 q7
     rw [j_slices_Compact_list_int_int_rrlrddrldrlrlrddrrE x (by omega)]
     unfold j_slices_Compact_list_int_int_rrlrddrldrlrlrddrrB
     refine vDrop_here ?_
     rw [vBinI_add, next_i (by omega)]
     exact ih (k2 + 1) kk2 σ2 cur2 q1 q2 q3 (by omega) (by omega) (by omega) q4 q5 q6 (by rw [show k + (k2 + 1) - 1 = k + k2 by omega]; exact q7)
    have hd1 : cur.drop (k + k2) = zs.drop (k + k2) := by
     have := congrArg (List.drop 1) e4
     rwa [List.drop_drop, List.drop_drop, show k + k2 - 1 + 1 = k + k2 by omega] at this
    have hz : ¬ k + k2 = 0 := by omega
    by_cases hd : zs.getD (k + k2) 0 = zs.getD (k + k2 - 1) 0
    · rw [if_neg (by simp only [hd]; simp)]
      have e5 : dq zs (k + (k2 + 1)) = dq zs (k + k2) := dq_same (show 0 < k + k2 by omega) hd
      exact next σ cur kk hle hi hc (by rw [e5]; exact e1) (by omega) (by rw [e5]; exact e3) hd1
    · rw [if_pos (by rw [decide_eq_false hd]; rfl), vIdx_asl hlt]
      refine vLd_g hi (ints_get (by omega)) ?_
      rw [c1, vIdx_acc (by omega), Nat.mul_one]
      refine vSt_g hi rfl (by rw [ints_len]; omega) ?_
      rw [splice_one (by rw [ints_len]; omega), ints_set, vBinI_add, next_i (show kk < 4611686018427387904 by have := dq_len zs (k + k2); omega)]
      have e5 : dq zs (k + (k2 + 1)) = dq zs (k + k2) ++ [zs.getD (k + k2) 0] := dq_new hd
      refine next _ _ (kk + 1) (upd_le hle hs) upd_same (by simp; omega) (by rw [e5, List.length_append, ← e1]; rfl) (by omega) ?_ ?_
      · rw [e5, ← e3]
        apply List.ext_getElem?
        intro p
        rw [List.getElem?_take]
        by_cases h1 : p < kk
        · rw [if_pos (by omega), List.getElem?_set_ne (by omega), List.getElem?_append_left (by rw [List.length_take]; omega), List.getElem?_take, if_pos h1]
        · by_cases h3 : p = kk
          · subst h3
            rw [if_pos (by omega), List.getElem?_set_self (by omega), List.getElem?_append_right (by rw [List.length_take]; omega), List.length_take]
            rw [show p - min p cur.length = 0 by omega]; rfl
          · rw [if_neg (by omega), List.getElem?_eq_none (by simp; omega)]
      · rw [List.drop_set_of_lt (by omega)]; exact hd1
  · rw [if_neg (by simp; omega)]
    exact fin k2 kk σ cur hle hi hc (by omega) e1 e2 e3
theorem comp1 (hn : zs.length = n) (hM : n < x.most) (hb : n < 1000000000) (hs : σ' i = none) (hk : ∀ τ, K (.list τ (intsD (dd zs)) (dd zs).length) σ') {σ : Hp} (hle : Hle σ' σ) (hi : σ i = some (.gro (ints zs) 3 n)) :
 ∀ (m k : Nat), 1 ≤ k → k ≤ n → n ≤ k + m → dq zs k = zs.take k → l_slices_Compact_list_int_int_rrlrd x (m + 1) (.acc i n) (.int .i64 (.ofNat k)) σ K := by
 have fin : ∀ k, n = k → dq zs k = zs.take k → vRet (.acc i n) σ K := by
  intro k h1 h2
  subst h1
  have e4 : dd zs = zs := by unfold dd; rw [hn, h2, ← hn, List.take_length]
  refine ⟨σ', fun τ => .list (τ 0) (intsD zs) n, hle, fun τ => .one (.dat (.acc hi hs (by rw [ints_len, intsD_len]) ?_)), fun τ => by have := hk (τ 0); rwa [e4, hn] at this⟩
  intro j v d h3 h4
  unfold ints at h3
  unfold intsD at h4
  rw [List.getElem?_map] at h3 h4
  cases hq : zs[j]? with
  | none => rw [hq] at h3; cases h3
  | some z => rw [hq] at h3 h4; injection h3 with h3; injection h4 with h4; subst h3 h4; exact .int
 intro m
 induction m with
 | zero =>
  intro k h1 h2 h3 h4
  rw [l_slices_Compact_list_int_int_rrlrdE]
  unfold l_slices_Compact_list_int_int_rrlrdB
  refine vDrop_here ?_
  rw [vLenS_acc, vBinI_lss, vIf_b, if_neg (by simp; omega)]
  exact fin k (by omega) h4
 | succ m ih =>
  intro k h1 h2 h3 h4
  rw [l_slices_Compact_list_int_int_rrlrdE]
  unfold l_slices_Compact_list_int_int_rrlrdB
  refine vDrop_here ?_
  rw [vLenS_acc, vBinI_lss, vIf_b]
  by_cases hlt : k < n
  · rw [if_pos (by simp; omega), vIdx_acc hlt]
    refine vLd_g hi (ints_get (by omega)) ?_
    rw [vBinI_sub, prev_i (by omega) (by omega), vIdx_acc (by omega)]
    refine vLd_g hi (ints_get (by omega)) ?_
    rw [vBinI_eql, vIf_b, Nat.mul_one, Nat.mul_one]
    have hz : ¬ k = 0 := by omega
    by_cases hd : zs.getD k 0 = zs.getD (k - 1) 0
    · rw [if_pos (by simp only [hd]; simp)]
      refine vSlS_lo hi hlt ?_
      obtain ⟨p, hp⟩ := Nat.exists_eq_succ_of_ne_zero (show x.most ≠ 0 by omega)
      rw [hp]
      have e5 : dq zs (k + 1) = zs.take k := (dq_same (by omega) hd).trans h4
      have e6 : (dq zs (k + 1)).length = k := by rw [e5, List.length_take]; omega
      exact comp2 hn hM hb hs hk (m + 1) h1 p 1 k σ zs hle hi hn (Nat.le_refl _) (by omega) (by omega) e6.symm (by omega) e5.symm rfl
    · rw [if_neg (by rw [decide_eq_false hd]; simp), vBinI_add, next_i (by omega)]
      refine ih (k + 1) (by omega) (by omega) (by omega) ?_
      rw [dq_new hd, List.take_add_one, List.getElem?_eq_getElem (by omega), h4, getD_get (by omega)]
      rfl
  · rw [if_neg (by simp; omega)]
    exact fin k (by omega) h4
end
section
variable {ov : OvV} {M d i n : Nat} {x : VE} {σ σ' : Hp} {K : KV} {zs : List Int}
theorem compact_s (hf : ov c_slices_Compact_list_int_int = none) (hx : Deep PP tbS ov M (d + 1) x) (hn : zs.length = n) (hM : n < M) (hb : n < 1000000000) (hs : σ' i = none) (hle : Hle σ' σ) (h1 : 1 ≤ n) (hi : σ i = some (.gro (ints zs) 3 n)) (hk : ∀ τ, K (.list τ (intsD (dd zs)) (dd zs).length) σ') : x.call c_slices_Compact_list_int_int [.acc i n] σ K := by
 refine hx.call hf fun y hy => ?_
 rw [f_slices_Compact_list_int_int]
 unfold r_slices_Compact_list_int_int
 have hm : y.most = M := hy.most
 rw [vLenS_acc, vBinI_lss, vIf_b]
 have one : dq zs 1 = zs.take 1 := by
  cases zs with
  | nil => simp at hn; omega
  | cons a l => rfl
 by_cases h2 : n < 2
 · rw [if_pos (by simp; omega)]
   have e : n = 1 := by omega
   subst e
   have e4 : dd zs = zs := by unfold dd; rw [hn, one, ← hn, List.take_length]
   refine ⟨σ', fun τ => .list (τ 0) (intsD zs) 1, hle, fun τ => .one (.dat (.acc hi hs (by rw [ints_len, intsD_len]) ?_)), fun τ => by have := hk (τ 0); rwa [e4, hn] at this⟩
   intro j v d h3 h4
   unfold ints at h3
   unfold intsD at h4
   rw [List.getElem?_map] at h3 h4
   cases hq : zs[j]? with
   | none => rw [hq] at h3; cases h3
   | some z => rw [hq] at h3 h4; injection h3 with h3; injection h4 with h4; subst h3 h4; exact .int
 · rw [if_neg (by simp; omega)]
   obtain ⟨p, hp⟩ := Nat.exists_eq_succ_of_ne_zero (show y.most ≠ 0 by omega)
   rw [hp]
   exact comp1 hn (by omega) hb hs hk hle hi p 1 (Nat.le_refl _) h1 (by omega) one
end
end Go.Am

set_option linter.unusedVariables false
set_option maxRecDepth 100000
namespace Go.Am

/-! (*consistory/ballot.Ballot).fresh -/
noncomputable def r_ballot_Ballot_fresh (x : VE) (a0 a1 : V) (σ : Hp) (K : KV) : Prop :=
 vBox 67 a1 σ fun v0 σ =>
 vNil PP a0 fun v1 =>
 vFld 0 v1 fun v2 =>
 vFld 4 v2 fun v3 =>
 vLd v3 σ fun v4 σ =>
 x.call c_ballot_Ballot_proposal [a0, v4] σ fun v5 σ =>
 vExt 0 v5 fun v6 =>
 vExt 1 v5 fun v7 =>
 vAlloc [(.int .i64 (.ofNat 0)), (.int .i64 (.ofNat 0)), (.int .u8 (.ofNat 0)), (.int .i64 (.ofNat 0)), (.string ⟨⟨[]⟩⟩)] 64 σ fun v8 σ =>
 vSt 5 v8 v6 σ fun σ =>
 vNil PP a0 fun v9 =>
 vFld 0 v9 fun v10 =>
 vFld 5 v10 fun v11 =>
 vLd v11 σ fun v12 σ =>
 vBin PP .neq 3 v12 (.int .i64 (.ofNat 1)) fun v13 =>
 shutP x.most (vGuard false v13 (fun k => k v7 σ) σ fun v14 σ =>
 shutP x.most (vGuard false v13 (fun k => vUn .not v14 fun v15 =>
 k v15 σ) σ fun v16 σ =>
 shutP x.most (vPick v13 (.bool true) v16 fun v17 =>
 shutP x.most (vGuard false v17 (fun k => vFld 3 v8 fun v18 =>
 k v18 σ) σ fun v19 σ =>
 shutP x.most (vGuard false v17 (fun k => vLd v19 σ fun v20 σ =>
 k v20 σ) σ fun v21 σ =>
 shutP x.most (vGuard false v17 (fun k => vBin PP .neq 3 v21 (.int .i64 (.negSucc 0)) fun v22 =>
 k v22 σ) σ fun v23 σ =>
 shutP x.most (vPick v17 (.bool true) v23 fun v24 =>
 shutP x.most (vGuard false v24 (fun k => vFld 1 v0 fun v25 =>
 k v25 σ) σ fun v26 σ =>
 shutP x.most (vGuard false v24 (fun k => vLd v26 σ fun v27 σ =>
 k v27 σ) σ fun v28 σ =>
 shutP x.most (vGuard false v24 (fun k => vFld 4 v8 fun v29 =>
 k v29 σ) σ fun v30 σ =>
 shutP x.most (vGuard false v24 (fun k => vLd v30 σ fun v31 σ =>
 k v31 σ) σ fun v32 σ =>
 shutP x.most (vGuard false v24 (fun k => x.call c_slices_Contains_list_string_string [v28, v32] σ fun v33 σ =>
 k v33 σ) σ fun v34 σ =>
 shutP x.most (vGuard false v24 (fun k => vUn .not v34 fun v35 =>
 k v35 σ) σ fun v36 σ =>
 shutP x.most (vPick v24 (.bool true) v36 fun v37 =>
 vIf v37 (vRet (.tuple [.nil, (.bool false)]) σ K) (vFld 4 v8 fun v38 =>
 vLd v38 σ fun v39 σ =>
 vNil PP a0 fun v40 =>
 vFld 0 v40 fun v41 =>
 vFld 7 v41 fun v42 =>
 vLd v42 σ fun v43 σ =>
 vBin PP .eql 9 v43 (.str []) fun v44 =>
 x.call c_ballot_Ballot_prevote [a0, v39, v44] σ fun v45 σ =>
 vLd v42 σ fun v46 _ =>
 vSame v46 v43 (vExt 0 v45 fun v47 =>
 vExt 1 v45 fun v48 =>
 vRet (.tuple [v47, v48]) σ K))))))))))))))))
theorem f_ballot_Ballot_fresh (x : VE) (a0 a1 : V) (σ : Hp) (K : KV) : fnV PP tbS c_ballot_Ballot_fresh x [a0, a1] σ K = r_ballot_Ballot_fresh x a0 a1 σ K := by kernel_rfl

/-! (*consistory/ballot.Ballot).old -/
noncomputable def r_ballot_Ballot_old (x : VE) (a0 a1 : V) (σ : Hp) (K : KV) : Prop :=
 vBox 67 a1 σ fun v0 σ =>
 vNil PP a0 fun v1 =>
 vFld 0 v1 fun v2 =>
 vFld 4 v2 fun v3 =>
 vLd v3 σ fun v4 σ =>
 x.call c_ballot_Ballot_proposal [a0, v4] σ fun v5 σ =>
 vExt 0 v5 fun v6 =>
 vExt 1 v5 fun v7 =>
 vAlloc [(.int .i64 (.ofNat 0)), (.int .i64 (.ofNat 0)), (.int .u8 (.ofNat 0)), (.int .i64 (.ofNat 0)), (.string ⟨⟨[]⟩⟩)] 64 σ fun v8 σ =>
 vSt 5 v8 v6 σ fun σ =>
 vNil PP a0 fun v9 =>
 vFld 0 v9 fun v10 =>
 vFld 5 v10 fun v11 =>
 vLd v11 σ fun v12 σ =>
 vBin PP .neq 3 v12 (.int .i64 (.ofNat 1)) fun v13 =>
 shutP x.most (vGuard false v13 (fun k => k v7 σ) σ fun v14 σ =>
 shutP x.most (vGuard false v13 (fun k => vUn .not v14 fun v15 =>
 k v15 σ) σ fun v16 σ =>
 shutP x.most (vPick v13 (.bool true) v16 fun v17 =>
 shutP x.most (vGuard false v17 (fun k => vFld 3 v8 fun v18 =>
 k v18 σ) σ fun v19 σ =>
 shutP x.most (vGuard false v17 (fun k => vLd v19 σ fun v20 σ =>
 k v20 σ) σ fun v21 σ =>
 shutP x.most (vGuard false v17 (fun k => vBin PP .eql 3 v21 (.int .i64 (.negSucc 0)) fun v22 =>
 k v22 σ) σ fun v23 σ =>
 shutP x.most (vPick v17 (.bool true) v23 fun v24 =>
 shutP x.most (vGuard false v24 (fun k => k a0 σ) σ fun v25 σ =>
 shutP x.most (vGuard false v24 (fun k => vFld 3 v8 fun v26 =>
 k v26 σ) σ fun v27 σ =>
 shutP x.most (vGuard false v24 (fun k => vLd v27 σ fun v28 σ =>
 k v28 σ) σ fun v29 σ =>
 shutP x.most (vGuard false v24 (fun k => vFld 4 v8 fun v30 =>
 k v30 σ) σ fun v31 σ =>
 shutP x.most (vGuard false v24 (fun k => vLd v31 σ fun v32 σ =>
 k v32 σ) σ fun v33 σ =>
 shutP x.most (vGuard false v24 (fun k => x.call c_ballot_Ballot_agreed [v25, v29, (.int .u8 (.ofNat 3)), v33] σ fun v34 σ =>
 k v34 σ) σ fun v35 σ =>
 shutP x.most (vGuard false v24 (fun k => vUn .not v35 fun v36 =>
 k v36 σ) σ fun v37 σ =>
 shutP x.most (vPick v24 (.bool true) v37 fun v38 =>
 vIf v38 (vRet (.tuple [.nil, (.bool false)]) σ K) (vFld 4 v8 fun v39 =>
 vLd v39 σ fun v40 σ =>
 vNil PP a0 fun v41 =>
 vFld 0 v41 fun v42 =>
 vFld 9 v42 fun v43 =>
 vLd v43 σ fun v44 σ =>
 vFld 3 v8 fun v45 =>
 vLd v45 σ fun v46 σ =>
 vBin PP .leq 3 v44 v46 fun v47 =>
 x.call c_ballot_Ballot_prevote [a0, v40, v47] σ fun v48 σ =>
 vLd v45 σ fun v49 _ =>
 vSame v49 v46 (vLd v43 σ fun v50 _ =>
 vSame v50 v44 (vExt 0 v48 fun v51 =>
 vExt 1 v48 fun v52 =>
 vRet (.tuple [v51, v52]) σ K))))))))))))))))))
theorem f_ballot_Ballot_old (x : VE) (a0 a1 : V) (σ : Hp) (K : KV) : fnV PP tbS c_ballot_Ballot_old x [a0, a1] σ K = r_ballot_Ballot_old x a0 a1 σ K := by kernel_rfl

/-! (*consistory/ballot.Ballot).lock -/
noncomputable def r_ballot_Ballot_lock (x : VE) (a0 a1 : V) (σ : Hp) (K : KV) : Prop :=
 vBox 67 a1 σ fun v0 σ =>
 vNil PP a0 fun v1 =>
 vFld 0 v1 fun v2 =>
 vFld 4 v2 fun v3 =>
 vLd v3 σ fun v4 σ =>
 x.call c_ballot_Ballot_proposal [a0, v4] σ fun v5 σ =>
 vExt 0 v5 fun v6 =>
 vExt 1 v5 fun v7 =>
 vAlloc [(.int .i64 (.ofNat 0)), (.int .i64 (.ofNat 0)), (.int .u8 (.ofNat 0)), (.int .i64 (.ofNat 0)), (.string ⟨⟨[]⟩⟩)] 64 σ fun v8 σ =>
 vSt 5 v8 v6 σ fun σ =>
 vNil PP a0 fun v9 =>
 vFld 0 v9 fun v10 =>
 vFld 5 v10 fun v11 =>
 vLd v11 σ fun v12 σ =>
 vBin PP .eql 3 v12 (.int .i64 (.ofNat 1)) fun v13 =>
 shutP x.most (vGuard false v13 (fun k => k a0 σ) σ fun v14 σ =>
 shutP x.most (vGuard false v13 (fun k => vNil PP v14 fun v15 =>
 k v15 σ) σ fun v16 σ =>
 shutP x.most (vGuard false v13 (fun k => vFld 0 v16 fun v17 =>
 k v17 σ) σ fun v18 σ =>
 shutP x.most (vGuard false v13 (fun k => vFld 12 v18 fun v19 =>
 k v19 σ) σ fun v20 σ =>
 shutP x.most (vGuard false v13 (fun k => vLd v20 σ fun v21 σ =>
 k v21 σ) σ fun v22 σ =>
 shutP x.most (vPick v13 (.bool true) v22 fun v23 =>
 shutP x.most (vGuard false v23 (fun k => k v7 σ) σ fun v24 σ =>
 shutP x.most (vGuard false v23 (fun k => vUn .not v24 fun v25 =>
 k v25 σ) σ fun v26 σ =>
 shutP x.most (vPick v23 (.bool true) v26 fun v27 =>
 shutP x.most (vGuard false v27 (fun k => k a0 σ) σ fun v28 σ =>
 shutP x.most (vGuard false v27 (fun k => k a0 σ) σ fun v29 σ =>
 shutP x.most (vGuard false v27 (fun k => vNil PP v29 fun v30 =>
 k v30 σ) σ fun v31 σ =>
 shutP x.most (vGuard false v27 (fun k => vFld 0 v31 fun v32 =>
 k v32 σ) σ fun v33 σ =>
 shutP x.most (vGuard false v27 (fun k => vFld 4 v33 fun v34 =>
 k v34 σ) σ fun v35 σ =>
 shutP x.most (vGuard false v27 (fun k => vLd v35 σ fun v36 σ =>
 k v36 σ) σ fun v37 σ =>
 shutP x.most (vGuard false v27 (fun k => vFld 4 v8 fun v38 =>
 k v38 σ) σ fun v39 σ =>
 shutP x.most (vGuard false v27 (fun k => vLd v39 σ fun v40 σ =>
 k v40 σ) σ fun v41 σ =>
 shutP x.most (vGuard false v27 (fun k => x.call c_ballot_Ballot_agreed [v28, v37, (.int .u8 (.ofNat 3)), v41] σ fun v42 σ =>
 k v42 σ) σ fun v43 σ =>
 shutP x.most (vGuardC false v13 v22 (fun k => vLd v20 σ fun v44 _ =>
 vSame v44 v22 k) (vLd v11 σ fun v45 _ =>
 vSame v45 v12 (shutP x.most (vGuard false v27 (fun k => vUn .not v43 fun v46 =>
 k v46 σ) σ fun v47 σ =>
 shutP x.most (vPick v27 (.bool true) v47 fun v48 =>
 vIf v48 (vRet (.tuple [.nil, (.bool false)]) σ K) (vFld 4 v8 fun v49 =>
 vLd v49 σ fun v50 σ =>
 vNil PP a0 fun v51 =>
 vFld 0 v51 fun v52 =>
 vFld 4 v52 fun v53 =>
 vLd v53 σ fun v54 σ =>
 vNil PP a0 fun v55 =>
 vFld 0 v55 fun v56 =>
 vFld 12 v56 fun v57 =>
 vSt 1 v57 (.bool true) σ fun σ =>
 vLd v49 σ fun v58 _ =>
 vSame v58 v50 (vNil PP a0 fun v59 =>
 vFld 0 v59 fun v60 =>
 vFld 8 v60 fun v61 =>
 vSt 1 v61 v50 σ fun σ =>
 vNil PP a0 fun v62 =>
 vFld 0 v62 fun v63 =>
 vFld 10 v63 fun v64 =>
 vSt 1 v64 v54 σ fun σ =>
 vNil PP a0 fun v65 =>
 vFld 0 v65 fun v66 =>
 vFld 5 v66 fun v67 =>
 vLd v67 σ fun v68 σ =>
 vBin PP .eql 3 v68 (.int .i64 (.ofNat 3)) fun v69 =>
 vIf v69 (vRet (.tuple [.nil, (.bool true)]) σ K) (vFld 4 v8 fun v70 =>
 vLd v70 σ fun v71 σ =>
 vNil PP a0 fun v72 =>
 vFld 0 v72 fun v73 =>
 vFld 4 v73 fun v74 =>
 vLd v74 σ fun v75 σ =>
 vNil PP a0 fun v76 =>
 vFld 0 v76 fun v77 =>
 vFld 7 v77 fun v78 =>
 vSt 1 v78 v71 σ fun σ =>
 vNil PP a0 fun v79 =>
 vFld 0 v79 fun v80 =>
 vFld 9 v80 fun v81 =>
 vSt 1 v81 v75 σ fun σ =>
 x.call c_ballot_Ballot_to [a0, (.int .i64 (.ofNat 3))] σ fun v82 σ =>
 vFld 4 v8 fun v83 =>
 vLd v83 σ fun v84 σ =>
 x.call c_ballot_Ballot_say [a0, (.int .u8 (.ofNat 4)), (.int .i64 (.ofNat 0)), v84] σ fun v85 σ =>
 vRet (.tuple [v85, (.bool true)]) σ K))))))))))))))))))))))))))
theorem f_ballot_Ballot_lock (x : VE) (a0 a1 : V) (σ : Hp) (K : KV) : fnV PP tbS c_ballot_Ballot_lock x [a0, a1] σ K = r_ballot_Ballot_lock x a0 a1 σ K := by kernel_rfl

/-! (*consistory/ballot.Ballot).nothing -/
noncomputable def r_ballot_Ballot_nothing (x : VE) (a0 a1 : V) (σ : Hp) (K : KV) : Prop :=
 vBox 67 a1 σ fun v0 σ =>
 vNil PP a0 fun v1 =>
 vFld 0 v1 fun v2 =>
 vFld 5 v2 fun v3 =>
 vLd v3 σ fun v4 σ =>
 vBin PP .neq 3 v4 (.int .i64 (.ofNat 2)) fun v5 =>
 shutP x.most (vGuard false v5 (fun k => k a0 σ) σ fun v6 σ =>
 shutP x.most (vGuard false v5 (fun k => k a0 σ) σ fun v7 σ =>
 shutP x.most (vGuard false v5 (fun k => vNil PP v7 fun v8 =>
 k v8 σ) σ fun v9 σ =>
 shutP x.most (vGuard false v5 (fun k => vFld 0 v9 fun v10 =>
 k v10 σ) σ fun v11 σ =>
 shutP x.most (vGuard false v5 (fun k => vFld 4 v11 fun v12 =>
 k v12 σ) σ fun v13 σ =>
 shutP x.most (vGuard false v5 (fun k => vLd v13 σ fun v14 σ =>
 k v14 σ) σ fun v15 σ =>
 shutP x.most (vGuard false v5 (fun k => x.call c_ballot_Ballot_agreed [v6, v15, (.int .u8 (.ofNat 3)), (.str [])] σ fun v16 σ =>
 k v16 σ) σ fun v17 σ =>
 shutP x.most (vGuard false v5 (fun k => vUn .not v17 fun v18 =>
 k v18 σ) σ fun v19 σ =>
 shutP x.most (vPick v5 (.bool true) v19 fun v20 =>
 vIf v20 (vRet (.tuple [.nil, (.bool false)]) σ K) (x.call c_ballot_Ballot_to [a0, (.int .i64 (.ofNat 3))] σ fun v21 σ =>
 x.call c_ballot_Ballot_say [a0, (.int .u8 (.ofNat 4)), (.int .i64 (.ofNat 0)), (.str [])] σ fun v22 σ =>
 vRet (.tuple [v22, (.bool true)]) σ K))))))))))
theorem f_ballot_Ballot_nothing (x : VE) (a0 a1 : V) (σ : Hp) (K : KV) : fnV PP tbS c_ballot_Ballot_nothing x [a0, a1] σ K = r_ballot_Ballot_nothing x a0 a1 σ K := by kernel_rfl

/-! (*consistory/ballot.Ballot).propose -/
noncomputable def j_ballot_Ballot_propose_rrr (x : VE) (t0 t6 t7 : V) (σ : Hp) (K : KV) : Prop := vjmpJ PP tbS c_ballot_Ballot_propose x [.r, .r, .r] [] [t0, t6, t7] σ K
noncomputable def r_ballot_Ballot_propose (x : VE) (a0 a1 : V) (σ : Hp) (K : KV) : Prop :=
 vBox 67 a1 σ fun v0 σ =>
 vNil PP a0 fun v1 =>
 vFld 0 v1 fun v2 =>
 vFld 8 v2 fun v3 =>
 vLd v3 σ fun v4 σ =>
 vNil PP a0 fun v5 =>
 vFld 0 v5 fun v6 =>
 vFld 10 v6 fun v7 =>
 vLd v7 σ fun v8 σ =>
 vBin PP .eql 9 v4 (.str []) fun v9 =>
 vIf v9 (vFld 0 v0 fun v10 =>
 vLd v10 σ fun v11 σ =>
 j_ballot_Ballot_propose_rrr x a0 v11 (.int .i64 (.negSucc 0)) σ K) (j_ballot_Ballot_propose_rrr x a0 v4 v8 σ K)
theorem f_ballot_Ballot_propose (x : VE) (a0 a1 : V) (σ : Hp) (K : KV) : fnV PP tbS c_ballot_Ballot_propose x [a0, a1] σ K = r_ballot_Ballot_propose x a0 a1 σ K := by kernel_rfl
noncomputable def j_ballot_Ballot_propose_rrrB (x : VE) (t0 t6 t7 : V) (σ : Hp) (K : KV) : Prop :=
 vDrop σ fun σ =>
 vNil PP t0 fun v0 =>
 vFld 0 v0 fun v1 =>
 vFld 5 v1 fun v2 =>
 vLd v2 σ fun v3 σ =>
 vBin PP .neq 3 v3 (.int .i64 (.ofNat 1)) fun v4 =>
 shutP x.most (vGuard false v4 (fun k => k t0 σ) σ fun v5 σ =>
 shutP x.most (vGuard false v4 (fun k => vNil PP v5 fun v6 =>
 k v6 σ) σ fun v7 σ =>
 shutP x.most (vGuard false v4 (fun k => vFld 0 v7 fun v8 =>
 k v8 σ) σ fun v9 σ =>
 shutP x.most (vGuard false v4 (fun k => vFld 11 v9 fun v10 =>
 k v10 σ) σ fun v11 σ =>
 shutP x.most (vGuard false v4 (fun k => vLd v11 σ fun v12 σ =>
 k v12 σ) σ fun v13 σ =>
 shutP x.most (vPick v4 (.bool true) v13 fun v14 =>
 shutP x.most (vGuard false v14 (fun k => k t0 σ) σ fun v15 σ =>
 shutP x.most (vGuard false v14 (fun k => k t0 σ) σ fun v16 σ =>
 shutP x.most (vGuard false v14 (fun k => vNil PP v16 fun v17 =>
 k v17 σ) σ fun v18 σ =>
 shutP x.most (vGuard false v14 (fun k => vFld 0 v18 fun v19 =>
 k v19 σ) σ fun v20 σ =>
 shutP x.most (vGuard false v14 (fun k => vFld 4 v20 fun v21 =>
 k v21 σ) σ fun v22 σ =>
 shutP x.most (vGuard false v14 (fun k => vLd v22 σ fun v23 σ =>
 k v23 σ) σ fun v24 σ =>
 shutP x.most (vGuard false v14 (fun k => k t0 σ) σ fun v25 σ =>
 shutP x.most (vGuard false v14 (fun k => vNil PP v25 fun v26 =>
 k v26 σ) σ fun v27 σ =>
 shutP x.most (vGuard false v14 (fun k => vFld 0 v27 fun v28 =>
 k v28 σ) σ fun v29 σ =>
 shutP x.most (vGuard false v14 (fun k => vFld 3 v29 fun v30 =>
 k v30 σ) σ fun v31 σ =>
 shutP x.most (vGuard false v14 (fun k => vLd v31 σ fun v32 σ =>
 k v32 σ) σ fun v33 σ =>
 shutP x.most (vGuard false v14 (fun k => x.call c_ballot_Ballot_proposer [v15, v24] σ fun v34 σ =>
 k v34 σ) σ fun v35 σ =>
 shutP x.most (vGuardC false v14 v33 (fun k => vLd v31 σ fun v36 _ =>
 vSame v36 v33 k) (shutP x.most (vGuardC false v4 v13 (fun k => vLd v11 σ fun v37 _ =>
 vSame v37 v13 k) (vLd v2 σ fun v38 _ =>
 vSame v38 v3 (shutP x.most (vGuard false v14 (fun k => vBin PP .neq 3 v35 v33 fun v39 =>
 k v39 σ) σ fun v40 σ =>
 shutP x.most (vPick v14 (.bool true) v40 fun v41 =>
 shutP x.most (vGuard false v41 (fun k => k t6 σ) σ fun v42 σ =>
 shutP x.most (vGuard false v41 (fun k => vBin PP .eql 9 v42 (.str []) fun v43 =>
 k v43 σ) σ fun v44 σ =>
 shutP x.most (vPick v41 (.bool true) v44 fun v45 =>
 vIf v45 (vRet (.tuple [.nil, (.bool false)]) σ K) (vNil PP t0 fun v46 =>
 vFld 0 v46 fun v47 =>
 vFld 11 v47 fun v48 =>
 vSt 1 v48 (.bool true) σ fun σ =>
 x.call c_ballot_Ballot_say [t0, (.int .u8 (.ofNat 2)), t7, t6] σ fun v49 σ =>
 vRet (.tuple [v49, (.bool true)]) σ K)))))))))))))))))))))))))))))
theorem j_ballot_Ballot_propose_rrrE0 (x : VE) (t0 t6 t7 : V) (σ : Hp) (K : KV) : vjmp0 PP tbS c_ballot_Ballot_propose x [.r, .r, .r] [] [t0, t6, t7] σ K = j_ballot_Ballot_propose_rrrB x t0 t6 t7 σ K := by kernel_rfl
theorem j_ballot_Ballot_propose_rrrE (x : VE) (hm : x.most ≠ 0) (t0 t6 t7 : V) (σ : Hp) (K : KV) : j_ballot_Ballot_propose_rrr x t0 t6 t7 σ K = j_ballot_Ballot_propose_rrrB x t0 t6 t7 σ K := (vjmpJ_eq (hm := hm) ..).trans (j_ballot_Ballot_propose_rrrE0 x t0 t6 t7 σ K)

/-! (*consistory/ballot.Ballot).to -/
noncomputable def r_ballot_Ballot_to (x : VE) (a0 a1 : V) (σ : Hp) (K : KV) : Prop :=
 vNil PP a0 fun v0 =>
 vFld 0 v0 fun v1 =>
 vFld 5 v1 fun v2 =>
 vSt 1 v2 a1 σ fun σ =>
 vNil PP a0 fun v3 =>
 vFld 0 v3 fun v4 =>
 vFld 6 v4 fun v5 =>
 vSt 1 v5 (.int .i64 (.ofNat 0)) σ fun σ =>
 vRet (.tuple []) σ K
theorem f_ballot_Ballot_to (x : VE) (a0 a1 : V) (σ : Hp) (K : KV) : fnV PP tbS c_ballot_Ballot_to x [a0, a1] σ K = r_ballot_Ballot_to x a0 a1 σ K := by kernel_rfl

/-! (*consistory/ballot.Ballot).say -/
noncomputable def r_ballot_Ballot_say (x : VE) (a0 a1 a2 a3 : V) (σ : Hp) (K : KV) : Prop :=
 vNil PP a0 fun v0 =>
 vFld 0 v0 fun v1 =>
 vFld 3 v1 fun v2 =>
 vLd v2 σ fun v3 σ =>
 vNil PP a0 fun v4 =>
 vFld 0 v4 fun v5 =>
 vFld 4 v5 fun v6 =>
 vLd v6 σ fun v7 σ =>
 vBuild [(.int .i64 (.ofNat 0)), (.int .i64 (.ofNat 0)), (.int .u8 (.ofNat 0)), (.int .i64 (.ofNat 0)), (.string ⟨⟨[]⟩⟩)] [(0, 1, v3), (1, 1, v7), (2, 1, a1), (3, 1, a2), (4, 1, a3)] fun v8 =>
 x.call c_ballot_Ballot_put [a0, v8] σ fun v9 σ =>
 vLd v6 σ fun v10 _ =>
 vSame v10 v7 (vLd v2 σ fun v11 _ =>
 vSame v11 v3 (vNil PP a0 fun v12 =>
 vFld 0 v12 fun v13 =>
 vFld 0 v13 fun v14 =>
 vLd v14 σ fun v15 σ =>
 vNil PP a0 fun v16 =>
 vFld 0 v16 fun v17 =>
 vFld 4 v17 fun v18 =>
 vLd v18 σ fun v19 σ =>
 vBuild [(.int .u8 (.ofNat 0)), (.int .i64 (.ofNat 0)), (.int .i64 (.ofNat 0)), (.int .i64 (.ofNat 0)), (.int .i64 (.ofNat 0)), (.int .i64 (.ofNat 0)), (.int .i64 (.ofNat 0)), (.int .i64 (.ofNat 0)), (.int .i64 (.ofNat 0)), (.string ⟨⟨[]⟩⟩), (.slice none 0 0)] [(0, 1, a1), (3, 1, v15), (4, 1, v19), (5, 1, a2), (9, 1, a3)] fun v20 =>
 vLd v18 σ fun v21 _ =>
 vSame v21 v19 (vLd v14 σ fun v22 _ =>
 vSame v22 v15 ((vBuildS 31 1 [(.int .u8 (.ofNat 0)), (.int .i64 (.ofNat 0)), (.int .i64 (.ofNat 0)), (.int .i64 (.ofNat 0)), (.int .i64 (.ofNat 0)), (.int .i64 (.ofNat 0)), (.int .i64 (.ofNat 0)), (.int .i64 (.ofNat 0)), (.int .i64 (.ofNat 0)), (.string ⟨⟨[]⟩⟩), (.slice none 0 0)] [(0, 11, v20)] σ fun v23 σ =>
 True) ∧ (vBuildS 31 1 [(.int .u8 (.ofNat 0)), (.int .i64 (.ofNat 0)), (.int .i64 (.ofNat 0)), (.int .i64 (.ofNat 0)), (.int .i64 (.ofNat 0)), (.int .i64 (.ofNat 0)), (.int .i64 (.ofNat 0)), (.int .i64 (.ofNat 0)), (.int .i64 (.ofNat 0)), (.string ⟨⟨[]⟩⟩), (.slice none 0 0)] [(0, 11, v20)] σ fun v24 σ =>
 vRet v24 σ K)))))
theorem f_ballot_Ballot_say (x : VE) (a0 a1 a2 a3 : V) (σ : Hp) (K : KV) : fnV PP tbS c_ballot_Ballot_say x [a0, a1, a2, a3] σ K = r_ballot_Ballot_say x a0 a1 a2 a3 σ K := by kernel_rfl

/-! (*consistory/ballot.Ballot).enough -/
noncomputable def r_ballot_Ballot_enough (x : VE) (a0 a1 : V) (σ : Hp) (K : KV) : Prop :=
 vNil PP a0 fun v0 =>
 vFld 0 v0 fun v1 =>
 vFld 1 v1 fun v2 =>
 vLd v2 σ fun v3 σ =>
 vNil PP a0 fun v4 =>
 vFld 0 v4 fun v5 =>
 vFld 2 v5 fun v6 =>
 vLd v6 σ fun v7 σ =>
 vBin PP .sub 3 v3 v7 fun v8 =>
 vBin PP .geq 3 a1 v8 fun v9 =>
 vRet v9 σ K
theorem f_ballot_Ballot_enough (x : VE) (a0 a1 : V) (σ : Hp) (K : KV) : fnV PP tbS c_ballot_Ballot_enough x [a0, a1] σ K = r_ballot_Ballot_enough x a0 a1 σ K := by kernel_rfl

/-! (*consistory/ballot.Ballot).begin -/
noncomputable def r_ballot_Ballot_begin (x : VE) (a0 a1 : V) (σ : Hp) (K : KV) : Prop :=
 x.call c_ballot_Ballot_to [a0, (.int .i64 (.ofNat 1))] σ fun v0 σ =>
 vNil PP a0 fun v1 =>
 vFld 0 v1 fun v2 =>
 vFld 4 v2 fun v3 =>
 vSt 1 v3 a1 σ fun σ =>
 vNil PP a0 fun v4 =>
 vFld 0 v4 fun v5 =>
 vFld 11 v5 fun v6 =>
 vSt 1 v6 (.bool false) σ fun σ =>
 vNil PP a0 fun v7 =>
 vFld 0 v7 fun v8 =>
 vFld 12 v8 fun v9 =>
 vSt 1 v9 (.bool false) σ fun σ =>
 vRet (.tuple []) σ K
theorem f_ballot_Ballot_begin (x : VE) (a0 a1 : V) (σ : Hp) (K : KV) : fnV PP tbS c_ballot_Ballot_begin x [a0, a1] σ K = r_ballot_Ballot_begin x a0 a1 σ K := by kernel_rfl

/-! (consistory/tally.Vote).may -/
noncomputable def j_tally_Vote_may_rrlrdrrr (x : VE) (t2 t49 : V) (σ : Hp) (K : KV) : Prop := vjmpJ PP tbS c_tally_Vote_may x [.r, .r, .l, .r, .d, .r, .r, .r] [] [t2, t49] σ K
noncomputable def r_tally_Vote_may (x : VE) (a0 a1 : V) (σ : Hp) (K : KV) : Prop :=
 vBox 64 a0 σ fun v0 σ =>
 vFld 0 v0 fun v1 =>
 vLd v1 σ fun v2 σ =>
 vBin PP .lss 3 v2 (.int .i64 (.ofNat 1)) fun v3 =>
 shutP x.most (vGuard false v3 (fun k => vFld 0 v0 fun v4 =>
 k v4 σ) σ fun v5 σ =>
 shutP x.most (vGuard false v3 (fun k => vLd v5 σ fun v6 σ =>
 k v6 σ) σ fun v7 σ =>
 shutP x.most (vGuard false v3 (fun k => k a1 σ) σ fun v8 σ =>
 shutP x.most (vGuard false v3 (fun k => vBin PP .gtr 3 v7 v8 fun v9 =>
 k v9 σ) σ fun v10 σ =>
 shutP x.most (vPick v3 (.bool true) v10 fun v11 =>
 shutP x.most (vGuard false v11 (fun k => vFld 1 v0 fun v12 =>
 k v12 σ) σ fun v13 σ =>
 shutP x.most (vGuard false v11 (fun k => vLd v13 σ fun v14 σ =>
 k v14 σ) σ fun v15 σ =>
 shutP x.most (vGuard false v11 (fun k => vBin PP .lss 3 v15 (.int .i64 (.ofNat 0)) fun v16 =>
 k v16 σ) σ fun v17 σ =>
 shutP x.most (vPick v11 (.bool true) v17 fun v18 =>
 shutP x.most (vGuard false v18 (fun k => vFld 1 v0 fun v19 =>
 k v19 σ) σ fun v20 σ =>
 shutP x.most (vGuard false v18 (fun k => vLd v20 σ fun v21 σ =>
 k v21 σ) σ fun v22 σ =>
 shutP x.most (vGuard false v18 (fun k => vBin PP .geq 3 v22 (.int .i64 (.ofNat 100)) fun v23 =>
 k v23 σ) σ fun v24 σ =>
 shutP x.most (vPick v18 (.bool true) v24 fun v25 =>
 shutP x.most (vGuard false v25 (fun k => vFld 4 v0 fun v26 =>
 k v26 σ) σ fun v27 σ =>
 shutP x.most (vGuard false v25 (fun k => vLd v27 σ fun v28 σ =>
 k v28 σ) σ fun v29 σ =>
 shutP x.most (vGuard false v25 (fun k => vLenT v29 fun v30 =>
 k v30 σ) σ fun v31 σ =>
 shutP x.most (vGuard false v25 (fun k => vBin PP .gtr 3 v31 (.int .i64 (.ofNat 2048)) fun v32 =>
 k v32 σ) σ fun v33 σ =>
 shutP x.most (vPick v25 (.bool true) v33 fun v34 =>
 vIf v34 (vRet (.bool false) σ K) (vFld 2 v0 fun v35 =>
 vLd v35 σ fun v36 σ =>
 vBin PP .eql 5 v36 (.int .u8 (.ofNat 2)) fun v37 =>
 vIf v37 (vFld 4 v0 fun v38 =>
 vLd v38 σ fun v39 σ =>
 vBin PP .neq 9 v39 (.str []) fun v40 =>
 shutP x.most (vGuard true v40 (fun k => vFld 3 v0 fun v41 =>
 k v41 σ) σ fun v42 σ =>
 shutP x.most (vGuard true v40 (fun k => vLd v42 σ fun v43 σ =>
 k v43 σ) σ fun v44 σ =>
 shutP x.most (vGuard true v40 (fun k => vBin PP .geq 3 v44 (.int .i64 (.negSucc 0)) fun v45 =>
 k v45 σ) σ fun v46 σ =>
 shutP x.most (vPick v40 v46 (.bool false) fun v47 =>
 shutP x.most (vGuard true v47 (fun k => vFld 3 v0 fun v48 =>
 k v48 σ) σ fun v49 σ =>
 shutP x.most (vGuard true v47 (fun k => vLd v49 σ fun v50 σ =>
 k v50 σ) σ fun v51 σ =>
 shutP x.most (vGuard true v47 (fun k => vFld 1 v0 fun v52 =>
 k v52 σ) σ fun v53 σ =>
 shutP x.most (vGuard true v47 (fun k => vLd v53 σ fun v54 σ =>
 k v54 σ) σ fun v55 σ =>
 shutP x.most (vGuard true v47 (fun k => vBin PP .lss 3 v51 v55 fun v56 =>
 k v56 σ) σ fun v57 σ =>
 shutP x.most (vPick v47 v57 (.bool false) fun v58 =>
 vRet v58 σ K))))))))))) (vBin PP .eql 5 v36 (.int .u8 (.ofNat 3)) fun v59 =>
 vIf v59 (j_tally_Vote_may_rrlrdrrr x v0 v59 σ K) (vBin PP .eql 5 v36 (.int .u8 (.ofNat 4)) fun v60 =>
 j_tally_Vote_may_rrlrdrrr x v0 v60 σ K)))))))))))))))))))))
theorem f_tally_Vote_may (x : VE) (a0 a1 : V) (σ : Hp) (K : KV) : fnV PP tbS c_tally_Vote_may x [a0, a1] σ K = r_tally_Vote_may x a0 a1 σ K := by kernel_rfl
noncomputable def j_tally_Vote_may_rrlrdrrrB (x : VE) (t2 t49 : V) (σ : Hp) (K : KV) : Prop :=
 vDrop σ fun σ =>
 vIf t49 (vFld 3 t2 fun v0 =>
 vLd v0 σ fun v1 σ =>
 vBin PP .eql 3 v1 (.int .i64 (.ofNat 0)) fun v2 =>
 vRet v2 σ K) (vRet (.bool false) σ K)
theorem j_tally_Vote_may_rrlrdrrrE0 (x : VE) (t2 t49 : V) (σ : Hp) (K : KV) : vjmp0 PP tbS c_tally_Vote_may x [.r, .r, .l, .r, .d, .r, .r, .r] [] [t2, t49] σ K = j_tally_Vote_may_rrlrdrrrB x t2 t49 σ K := by kernel_rfl
theorem j_tally_Vote_may_rrlrdrrrE (x : VE) (hm : x.most ≠ 0) (t2 t49 : V) (σ : Hp) (K : KV) : j_tally_Vote_may_rrlrdrrr x t2 t49 σ K = j_tally_Vote_may_rrlrdrrrB x t2 t49 σ K := (vjmpJ_eq (hm := hm) ..).trans (j_tally_Vote_may_rrlrdrrrE0 x t2 t49 σ K)

/-! (*consistory/ballot.Ballot).proposal -/
noncomputable def r_ballot_Ballot_proposal (x : VE) (a0 a1 : V) (σ : Hp) (K : KV) : Prop :=
 vAlloc [(.int .i64 (.ofNat 0)), (.int .i64 (.ofNat 0)), (.int .u8 (.ofNat 0)), (.int .i64 (.ofNat 0)), (.string ⟨⟨[]⟩⟩)] 64 σ fun v0 σ =>
 vNil PP a0 fun v1 =>
 vFld 15 v1 fun v2 =>
 vLd v2 σ fun v3 σ =>
 x.call c_ballot_Ballot_proposer [a0, a1] σ fun v4 σ =>
 vLd v2 σ fun v5 _ =>
 vSame v5 v3 (x.call c_tally_Tally_Proposal [v3, a1, v4] σ fun v6 σ =>
 vExt 0 v6 fun v7 =>
 vExt 1 v6 fun v8 =>
 vSt 5 v0 v7 σ fun σ =>
 vLdN 5 v0 σ fun v9 _ =>
 vRet (.tuple [v9, v8]) σ K)
theorem f_ballot_Ballot_proposal (x : VE) (a0 a1 : V) (σ : Hp) (K : KV) : fnV PP tbS c_ballot_Ballot_proposal x [a0, a1] σ K = r_ballot_Ballot_proposal x a0 a1 σ K := by kernel_rfl

/-! (*consistory/ballot.Ballot).agreed -/
noncomputable def r_ballot_Ballot_agreed (x : VE) (a0 a1 a2 a3 : V) (σ : Hp) (K : KV) : Prop :=
 vNil PP a0 fun v0 =>
 vFld 15 v0 fun v1 =>
 vLd v1 σ fun v2 σ =>
 x.call c_tally_Tally_Count [v2, a1, a2, a3] σ fun v3 σ =>
 x.call c_ballot_Ballot_enough [a0, v3] σ fun v4 σ =>
 vRet v4 σ K
theorem f_ballot_Ballot_agreed (x : VE) (a0 a1 a2 a3 : V) (σ : Hp) (K : KV) : fnV PP tbS c_ballot_Ballot_agreed x [a0, a1, a2, a3] σ K = r_ballot_Ballot_agreed x a0 a1 a2 a3 σ K := by kernel_rfl

/-! (*consistory/ballot.Ballot).prevote -/
noncomputable def j_ballot_Ballot_prevote_rrr (x : VE) (t0 t1 : V) (σ : Hp) (K : KV) : Prop := vjmpJ PP tbS c_ballot_Ballot_prevote x [.r, .r, .r] [] [t0, t1] σ K
noncomputable def r_ballot_Ballot_prevote (x : VE) (a0 a1 a2 : V) (σ : Hp) (K : KV) : Prop :=
 x.call c_ballot_Ballot_to [a0, (.int .i64 (.ofNat 2))] σ fun v0 σ =>
 vUn .not a2 fun v1 =>
 shutP x.most (vGuard true v1 (fun k => k a0 σ) σ fun v2 σ =>
 shutP x.most (vGuard true v1 (fun k => vNil PP v2 fun v3 =>
 k v3 σ) σ fun v4 σ =>
 shutP x.most (vGuard true v1 (fun k => vFld 0 v4 fun v5 =>
 k v5 σ) σ fun v6 σ =>
 shutP x.most (vGuard true v1 (fun k => vFld 7 v6 fun v7 =>
 k v7 σ) σ fun v8 σ =>
 shutP x.most (vGuard true v1 (fun k => vLd v8 σ fun v9 σ =>
 k v9 σ) σ fun v10 σ =>
 shutP x.most (vGuard true v1 (fun k => k a1 σ) σ fun v11 σ =>
 shutP x.most (vGuard true v1 (fun k => vBin PP .neq 9 v10 v11 fun v12 =>
 k v12 σ) σ fun v13 σ =>
 shutP x.most (vPick v1 v13 (.bool false) fun v14 =>
 vIf v14 (j_ballot_Ballot_prevote_rrr x a0 (.str []) σ K) (j_ballot_Ballot_prevote_rrr x a0 a1 σ K)))))))))
theorem f_ballot_Ballot_prevote (x : VE) (a0 a1 a2 : V) (σ : Hp) (K : KV) : fnV PP tbS c_ballot_Ballot_prevote x [a0, a1, a2] σ K = r_ballot_Ballot_prevote x a0 a1 a2 σ K := by kernel_rfl
noncomputable def j_ballot_Ballot_prevote_rrrB (x : VE) (t0 t1 : V) (σ : Hp) (K : KV) : Prop :=
 vDrop σ fun σ =>
 x.call c_ballot_Ballot_say [t0, (.int .u8 (.ofNat 3)), (.int .i64 (.ofNat 0)), t1] σ fun v0 σ =>
 vRet (.tuple [v0, (.bool true)]) σ K
theorem j_ballot_Ballot_prevote_rrrE0 (x : VE) (t0 t1 : V) (σ : Hp) (K : KV) : vjmp0 PP tbS c_ballot_Ballot_prevote x [.r, .r, .r] [] [t0, t1] σ K = j_ballot_Ballot_prevote_rrrB x t0 t1 σ K := by kernel_rfl
theorem j_ballot_Ballot_prevote_rrrE (x : VE) (hm : x.most ≠ 0) (t0 t1 : V) (σ : Hp) (K : KV) : j_ballot_Ballot_prevote_rrr x t0 t1 σ K = j_ballot_Ballot_prevote_rrrB x t0 t1 σ K := (vjmpJ_eq (hm := hm) ..).trans (j_ballot_Ballot_prevote_rrrE0 x t0 t1 σ K)

/-! slices.Contains[[]string,string] -/
noncomputable def r_slices_Contains_list_string_string (x : VE) (a0 a1 : V) (σ : Hp) (K : KV) : Prop :=
 x.call c_slices_Index_list_string_string [a0, a1] σ fun v0 σ =>
 vBin PP .geq 3 v0 (.int .i64 (.ofNat 0)) fun v1 =>
 vRet v1 σ K
theorem f_slices_Contains_list_string_string (x : VE) (a0 a1 : V) (σ : Hp) (K : KV) : fnV PP tbS c_slices_Contains_list_string_string x [a0, a1] σ K = r_slices_Contains_list_string_string x a0 a1 σ K := by kernel_rfl

/-! slices.Index[[]string,string] -/
noncomputable def l_slices_Index_list_string_string_rlrd (x : VE) (m : Nat) (t0 t1 t7 t8 : V) (σ : Hp) (K : KV) : Prop := vjmpL PP tbS c_slices_Index_list_string_string x [.r, .l, .r, .d] m [] [t0, t1, t7, t8] σ K
noncomputable def r_slices_Index_list_string_string (x : VE) (a0 a1 : V) (σ : Hp) (K : KV) : Prop :=
 vLenS a0 fun v0 =>
 l_slices_Index_list_string_string_rlrd x x.most a0 a1 v0 (.int .i64 (.ofNat 0)) σ K
theorem f_slices_Index_list_string_string (x : VE) (a0 a1 : V) (σ : Hp) (K : KV) : fnV PP tbS c_slices_Index_list_string_string x [a0, a1] σ K = r_slices_Index_list_string_string x a0 a1 σ K := by kernel_rfl
noncomputable def l_slices_Index_list_string_string_rlrdB (x : VE) (m0 : Nat) (t0 t1 t7 t8 : V) (σ : Hp) (K : KV) : Prop :=
 vDrop σ fun σ =>
 vBin PP .lss 3 t8 t7 fun v0 =>
 vIf v0 (vIdx 1 t0 t8 fun v1 =>
 vLd v1 σ fun v2 σ =>
 vBin PP .eql 9 t1 v2 fun v3 =>
 vIf v3 (vRet t8 σ K) (vBin PP .add 3 t8 (.int .i64 (.ofNat 1)) fun v4 =>
 l_slices_Index_list_string_string_rlrd x m0 t0 t1 t7 v4 σ K)) (vRet (.int .i64 (.negSucc 0)) σ K)
theorem l_slices_Index_list_string_string_rlrdE (x : VE) (m0 : Nat) (t0 t1 t7 t8 : V) (σ : Hp) (K : KV) : l_slices_Index_list_string_string_rlrd x (m0 + 1) t0 t1 t7 t8 σ K = l_slices_Index_list_string_string_rlrdB x m0 t0 t1 t7 t8 σ K := by kernel_rfl

/-! (*consistory/tally.Tally).Rounds -/
noncomputable def l_tally_Tally_Rounds_rrlrd (x : VE) (m : Nat) (t3 t7 t8 t9 : V) (σ : Hp) (K : KV) : Prop := vjmpL PP tbS c_tally_Tally_Rounds x [.r, .r, .l, .r, .d] m [] [t3, t7, t8, t9] σ K
noncomputable def r_tally_Tally_Rounds (x : VE) (a0 : V) (σ : Hp) (K : KV) : Prop :=
 x.call c_tally_Tally_Votes [a0] σ fun v0 σ =>
 vLenS v0 fun v1 =>
 l_tally_Tally_Rounds_rrlrd x x.most .nil v0 v1 (.int .i64 (.ofNat 0)) σ K
theorem f_tally_Tally_Rounds (x : VE) (a0 : V) (σ : Hp) (K : KV) : fnV PP tbS c_tally_Tally_Rounds x [a0] σ K = r_tally_Tally_Rounds x a0 σ K := by kernel_rfl
noncomputable def l_tally_Tally_Rounds_rrlrdB (x : VE) (m0 : Nat) (t3 t7 t8 t9 : V) (σ : Hp) (K : KV) : Prop :=
 vDrop σ fun σ =>
 vBin PP .lss 3 t9 t8 fun v0 =>
 vIf v0 (vIdx 5 t7 t9 fun v1 =>
 vLdN 5 v1 σ fun v2 σ =>
 vAlloc [(.int .i64 (.ofNat 0)), (.int .i64 (.ofNat 0)), (.int .u8 (.ofNat 0)), (.int .i64 (.ofNat 0)), (.string ⟨⟨[]⟩⟩)] 64 σ fun v3 σ =>
 vSt 5 v3 v2 σ fun σ =>
 vFld 1 v3 fun v4 =>
 vLd v4 σ fun v5 σ =>
 vBuildS 3 1 [(.int .i64 (.ofNat 0))] [(0, 1, v5)] σ fun v6 σ =>
 vApp 3 1 8 t3 v6 σ fun v7 σ =>
 vBin PP .add 3 t9 (.int .i64 (.ofNat 1)) fun v8 =>
 l_tally_Tally_Rounds_rrlrd x m0 v7 t7 t8 v8 σ K) (x.call c_slices_Compact_list_int_int [t3] σ fun v9 σ =>
 vRet v9 σ K)
theorem l_tally_Tally_Rounds_rrlrdE (x : VE) (m0 : Nat) (t3 t7 t8 t9 : V) (σ : Hp) (K : KV) : l_tally_Tally_Rounds_rrlrd x (m0 + 1) t3 t7 t8 t9 σ K = l_tally_Tally_Rounds_rrlrdB x m0 t3 t7 t8 t9 σ K := by kernel_rfl

end Go.Am

set_option linter.unusedVariables false
set_option maxRecDepth 100000
namespace Go.Am

/-! consistory/tally.New -/
noncomputable def r_tally_New (x : VE) (a0 : V) (σ : Hp) (K : KV) : Prop :=
 vBin PP .lss 3 a0 (.int .i64 (.ofNat 1)) fun v0 =>
 shutP x.most (vGuard false v0 (fun k => k a0 σ) σ fun v1 σ =>
 shutP x.most (vGuard false v0 (fun k => vBin PP .gtr 3 v1 (.int .i64 (.ofNat 7)) fun v2 =>
 k v2 σ) σ fun v3 σ =>
 shutP x.most (vPick v0 (.bool true) v3 fun v4 =>
 vIf v4 (vRet (.tuple [.nilp, (.int .i64 (.ofNat 1))]) σ K) (vNewMap σ fun v5 σ =>
 vBuild [(.int .i64 (.ofNat 0)), (.map none)] [(0, 1, a0), (1, 1, v5)] fun v6 =>
 vBox 78 v6 σ fun v7 σ =>
 vRet (.tuple [v7, (.int .i64 (.ofNat 0))]) σ K))))
theorem f_tally_New (x : VE) (a0 : V) (σ : Hp) (K : KV) : fnV PP tbS c_tally_New x [a0] σ K = r_tally_New x a0 σ K := by kernel_rfl

/-! (*consistory/tally.Tally).Put -/
noncomputable def r_tally_Tally_Put (x : VE) (a0 a1 : V) (σ : Hp) (K : KV) : Prop :=
 vBox 64 a1 σ fun v0 σ =>
 vBin PP .eql 57 a0 .nilp fun v1 =>
 shutP x.most (vGuard false v1 (fun k => vLdN 5 v0 σ fun v2 σ =>
 k v2 σ) σ fun v3 σ =>
 shutP x.most (vGuard false v1 (fun k => k a0 σ) σ fun v4 σ =>
 shutP x.most (vGuard false v1 (fun k => vNil PP v4 fun v5 =>
 k v5 σ) σ fun v6 σ =>
 shutP x.most (vGuard false v1 (fun k => vFld 0 v6 fun v7 =>
 k v7 σ) σ fun v8 σ =>
 shutP x.most (vGuard false v1 (fun k => vLd v8 σ fun v9 σ =>
 k v9 σ) σ fun v10 σ =>
 shutP x.most (vGuard false v1 (fun k => x.call c_tally_Vote_may [v3, v10] σ fun v11 σ =>
 k v11 σ) σ fun v12 σ =>
 shutP x.most (vGuard false v1 (fun k => vUn .not v12 fun v13 =>
 k v13 σ) σ fun v14 σ =>
 shutP x.most (vPick v1 (.bool true) v14 fun v15 =>
 vIf v15 (vRet (.bool false) σ K) (vFld 1 v0 fun v16 =>
 vLd v16 σ fun v17 σ =>
 vFld 0 v0 fun v18 =>
 vLd v18 σ fun v19 σ =>
 vFld 2 v0 fun v20 =>
 vLd v20 σ fun v21 σ =>
 vBuild [(.int .i64 (.ofNat 0)), (.int .i64 (.ofNat 0)), (.int .u8 (.ofNat 0))] [(0, 1, v17), (1, 1, v19), (2, 1, v21)] fun v22 =>
 vAlloc [(.int .i64 (.ofNat 0)), (.int .i64 (.ofNat 0)), (.int .u8 (.ofNat 0))] 95 σ fun v23 σ =>
 vSt 3 v23 v22 σ fun σ =>
 vNil PP a0 fun v24 =>
 vFld 1 v24 fun v25 =>
 vLd v25 σ fun v26 σ =>
 vLdN 3 v23 σ fun v27 σ =>
 vLook (.many [.int .i64, .int .i64, .int .u8]) (.agg [(.int .i64 (.ofNat 0)), (.int .i64 (.ofNat 0)), (.int .u8 (.ofNat 0)), (.int .i64 (.ofNat 0)), (.str [])]) true v26 v27 σ fun v28 σ =>
 vExt 0 v28 fun v29 =>
 vExt 1 v28 fun v30 =>
 vLook (.many [.int .i64, .int .i64, .int .u8]) (.agg [(.int .i64 (.ofNat 0)), (.int .i64 (.ofNat 0)), (.int .u8 (.ofNat 0)), (.int .i64 (.ofNat 0)), (.str [])]) true v26 v27 σ fun v31 _ =>
 vSame v31 v28 (vLdN 3 v23 σ fun v32 _ =>
 vSame v32 v27 (vLd v25 σ fun v33 _ =>
 vSame v33 v26 ((vAlloc [(.int .i64 (.ofNat 0)), (.int .i64 (.ofNat 0)), (.int .u8 (.ofNat 0)), (.int .i64 (.ofNat 0)), (.string ⟨⟨[]⟩⟩)] 64 σ fun v34 σ =>
 True) ∧ (vAlloc [(.int .i64 (.ofNat 0)), (.int .i64 (.ofNat 0)), (.int .u8 (.ofNat 0)), (.int .i64 (.ofNat 0)), (.string ⟨⟨[]⟩⟩)] 64 σ fun v35 σ =>
 vSt 5 v35 v29 σ fun σ =>
 vIf v30 (vRet (.bool false) σ K) (vNil PP a0 fun v36 =>
 vFld 1 v36 fun v37 =>
 vLd v37 σ fun v38 σ =>
 vLdN 3 v23 σ fun v39 σ =>
 vLdN 5 v0 σ fun v40 σ =>
 vMapUp (.many [.int .i64, .int .i64, .int .u8]) v38 v39 v40 σ fun σ =>
 vRet (.bool true) σ K))))))))))))))
theorem f_tally_Tally_Put (x : VE) (a0 a1 : V) (σ : Hp) (K : KV) : fnV PP tbS c_tally_Tally_Put x [a0, a1] σ K = r_tally_Tally_Put x a0 a1 σ K := by kernel_rfl

/-! (*consistory/tally.Tally).Proposal -/
noncomputable def r_tally_Tally_Proposal (x : VE) (a0 a1 a2 : V) (σ : Hp) (K : KV) : Prop :=
 vAlloc [(.int .i64 (.ofNat 0)), (.int .i64 (.ofNat 0)), (.int .u8 (.ofNat 0)), (.int .i64 (.ofNat 0)), (.string ⟨⟨[]⟩⟩)] 64 σ fun v0 σ =>
 vBin PP .eql 57 a0 .nilp fun v1 =>
 vIf v1 (vBuild [(.int .i64 (.ofNat 0)), (.int .i64 (.ofNat 0)), (.int .u8 (.ofNat 0)), (.int .i64 (.ofNat 0)), (.string ⟨⟨[]⟩⟩)] [] fun v2 =>
 vSt 5 v0 v2 σ fun σ =>
 vLdN 5 v0 σ fun v3 _ =>
 vRet (.tuple [v3, (.bool false)]) σ K) (vNil PP a0 fun v4 =>
 vFld 1 v4 fun v5 =>
 vLd v5 σ fun v6 σ =>
 vBuild [(.int .i64 (.ofNat 0)), (.int .i64 (.ofNat 0)), (.int .u8 (.ofNat 0))] [(0, 1, a1), (1, 1, a2), (2, 1, (.int .u8 (.ofNat 2)))] fun v7 =>
 vLook (.many [.int .i64, .int .i64, .int .u8]) (.agg [(.int .i64 (.ofNat 0)), (.int .i64 (.ofNat 0)), (.int .u8 (.ofNat 0)), (.int .i64 (.ofNat 0)), (.str [])]) true v6 v7 σ fun v8 σ =>
 vExt 0 v8 fun v9 =>
 vExt 1 v8 fun v10 =>
 vAlloc [(.int .i64 (.ofNat 0)), (.int .i64 (.ofNat 0)), (.int .u8 (.ofNat 0)), (.int .i64 (.ofNat 0)), (.string ⟨⟨[]⟩⟩)] 64 σ fun v11 σ =>
 vSt 5 v11 v9 σ fun σ =>
 vLdN 5 v11 σ fun v12 σ =>
 vSt 5 v0 v12 σ fun σ =>
 vLdN 5 v0 σ fun v13 _ =>
 vRet (.tuple [v13, v10]) σ K)
theorem f_tally_Tally_Proposal (x : VE) (a0 a1 a2 : V) (σ : Hp) (K : KV) : fnV PP tbS c_tally_Tally_Proposal x [a0, a1, a2] σ K = r_tally_Tally_Proposal x a0 a1 a2 σ K := by kernel_rfl

/-! (*consistory/tally.Tally).members -/
/-! (*consistory/ballot.Ballot).skip -/
noncomputable def r_ballot_Ballot_skip (x : VE) (a0 a1 : V) (σ : Hp) (K : KV) : Prop :=
 vBox 25 a0 σ fun v0 σ =>
 vBox 67 a1 σ fun v1 σ =>
 vAlloc [(.slice none 0 0)] 35 σ fun v2 σ =>
 vAlloc [(.bool false)] 4 σ fun v3 σ =>
 vLd v0 σ fun v4 σ =>
 vNil PP v4 fun v5 =>
 vFld 15 v5 fun v6 =>
 vLd v6 σ fun v7 σ =>
 x.call c_tally_Tally_Rounds [v7] σ fun v8 σ =>
 x.call c_slices_Backward_list_int_int [v8] σ fun v9 σ =>
 vRange x v9 [2, 4, 5] [v0, v2, v3] 40 (rgPs PP c_ballot_Ballot_skip [.r, .l, .r, .d]) (rgAs PP c_ballot_Ballot_skip [.r, .l, .r, .d]) (rgBo PP c_ballot_Ballot_skip [.r, .l, .r, .d]) σ fun pe σ =>
 vPend pe (vSt 1 v2 .nil σ fun σ =>
 vSt 1 v3 (.bool false) σ fun σ =>
 vLd v2 σ fun v11 _ =>
 vLd v3 σ fun v12 _ =>
 vRet (.tuple [v11, v12]) σ K) (vLd v2 σ fun v13 _ =>
 vLd v3 σ fun v14 _ =>
 vRet (.tuple [v13, v14]) σ K) (fun v10 => vExit v10 0 (vSt 1 v2 .nil σ fun σ =>
 vSt 1 v3 (.bool false) σ fun σ =>
 vLd v2 σ fun v15 _ =>
 vLd v3 σ fun v16 _ =>
 vRet (.tuple [v15, v16]) σ K) (False))
theorem f_ballot_Ballot_skip (x : VE) (a0 a1 : V) (σ : Hp) (K : KV) : fnV PP tbS c_ballot_Ballot_skip x [a0, a1] σ K = r_ballot_Ballot_skip x a0 a1 σ K := by kernel_rfl
noncomputable def rd_ballot_Ballot_skip_rlrd (x : VE) (l : Nat) (t2 t4 t5 a0 a1 : V) (σ : Hp) (K : KV) : Prop :=
 vBusy l σ fun σ =>
 vLd t2 σ fun v0 σ =>
 vNil PP v0 fun v1 =>
 vFld 0 v1 fun v2 =>
 vFld 4 v2 fun v3 =>
 vLd v3 σ fun v4 σ =>
 vBin PP .gtr 3 a1 v4 fun v5 =>
 shutP x.most (vGuard true v5 (fun k => vLd t2 σ fun v6 σ =>
 k v6 σ) σ fun v7 σ =>
 shutP x.most (vGuard true v5 (fun k => vNil PP v7 fun v8 =>
 k v8 σ) σ fun v9 σ =>
 shutP x.most (vGuard true v5 (fun k => vFld 15 v9 fun v10 =>
 k v10 σ) σ fun v11 σ =>
 shutP x.most (vGuard true v5 (fun k => vLd v11 σ fun v12 σ =>
 k v12 σ) σ fun v13 σ =>
 shutP x.most (vGuard true v5 (fun k => k a1 σ) σ fun v14 σ =>
 shutP x.most (vGuard true v5 (fun k => vLd t2 σ fun v15 σ =>
 k v15 σ) σ fun v16 σ =>
 shutP x.most (vGuard true v5 (fun k => vNil PP v16 fun v17 =>
 k v17 σ) σ fun v18 σ =>
 shutP x.most (vGuard true v5 (fun k => vFld 0 v18 fun v19 =>
 k v19 σ) σ fun v20 σ =>
 shutP x.most (vGuard true v5 (fun k => vFld 2 v20 fun v21 =>
 k v21 σ) σ fun v22 σ =>
 shutP x.most (vGuard true v5 (fun k => vLd v22 σ fun v23 σ =>
 k v23 σ) σ fun v24 σ =>
 shutP x.most (vGuard true v5 (fun k => x.call c_tally_Tally_Sent [v13, v14] σ fun v25 σ =>
 k v25 σ) σ fun v26 σ =>
 shutP x.most (vGuardC true v5 v24 (fun k => vLd v22 σ fun v27 _ =>
 vSame v27 v24 k) (shutP x.most (vGuardC true v5 v16 (fun k => vLd t2 σ fun v28 _ =>
 vSame v28 v16 k) (shutP x.most (vGuardC true v5 v7 (fun k => vLd t2 σ fun v29 _ =>
 vSame v29 v7 k) (vLd v3 σ fun v30 _ =>
 vSame v30 v4 (vLd t2 σ fun v31 _ =>
 vSame v31 v0 (shutP x.most (vGuard true v5 (fun k => vBin PP .gtr 3 v26 v24 fun v32 =>
 k v32 σ) σ fun v33 σ =>
 shutP x.most (vPick v5 v33 (.bool false) fun v34 =>
 vIf v34 (vLd t2 σ fun v35 σ =>
 x.call c_ballot_Ballot_begin [v35, a1] σ fun v36 σ =>
 vSt 1 t4 .nil σ fun σ =>
 vSt 1 t5 (.bool true) σ fun σ =>
 vOver l .done (some .ret) false σ K) (vOver l .ready none true σ K))))))))))))))))))))))
theorem g_ballot_Ballot_skip_rlrd (x : VE) (l : Nat) (t2 t4 t5 a0 a1 : V) (σ : Hp) (K : KV) : roundC PP tbS x 40 (rgPs PP c_ballot_Ballot_skip [.r, .l, .r, .d]) (rgAs PP c_ballot_Ballot_skip [.r, .l, .r, .d]) (rgBo PP c_ballot_Ballot_skip [.r, .l, .r, .d]) l [t2, t4, t5] [a0, a1] σ K = rd_ballot_Ballot_skip_rlrd x l t2 t4 t5 a0 a1 σ K := by kernel_rfl
theorem h_ballot_Ballot_skip_rlrd : [2, 4, 5] = rlive tbS 40 (rgBo PP c_ballot_Ballot_skip [.r, .l, .r, .d]) := by kernel_rfl

end Go.Am

set_option linter.unusedVariables false
set_option maxRecDepth 4000
namespace Go.Am
def Vo.may (v : Vo) (n : Int) : Bool := !(decide (v.fr < 1) || decide (n < v.fr) || decide (v.rd < 0) || decide (100 ≤ v.rd) || decide (2048 < v.tx.length)) &&
 (if v.kd = 2 then (!decide (v.tx = [])) && decide (-1 ≤ v.vl) && decide (v.vl < v.rd) else if v.kd = 3 ∨ v.kd = 4 then decide (v.vl = 0) else false)
variable {ov : OvV} {M n b t : Nat} {x : VE} {σ : Hp} {K : KV} {ty : TypeId}
theorem may_s (hM : M ≠ 0) (hf : ov c_tally_Vote_may = none) (hx : Deep PP tbS ov M (n + 1) x) {v : Vo} {z : Int} (hk : K (.bool (v.may z)) σ) : x.call c_tally_Vote_may [.agg v.vv, .int .i64 z] σ K := by
 refine hx.call hf fun y hy => ?_
 have hm : y.most ≠ 0 := by rw [hy.most]; exact hM
 rw [f_tally_Vote_may]
 unfold r_tally_Vote_may
 refine vBox_agg rfl fun i hi => ?_
 have hr : upd σ i (.row v.vv 64) i = some (.row v.vv 64) := upd_same
 have hle : Hle σ (upd σ i (.row v.vv 64)) := .upd_new hi
 generalize upd σ i (.row v.vv 64) = σ1 at hr hle
 have l0 : ∀ {K : KV}, vLd (.ptr i 0) σ1 K = K (.int .i64 v.fr) σ1 := vLd_p hr
 have l1 : ∀ {K : KV}, vLd (.ptr i 1) σ1 K = K (.int .i64 v.rd) σ1 := vLd_p hr
 have l2 : ∀ {K : KV}, vLd (.ptr i 2) σ1 K = K (.int .u8 (.ofNat v.kd)) σ1 := vLd_p hr
 have l3 : ∀ {K : KV}, vLd (.ptr i 3) σ1 K = K (.int .i64 v.vl) σ1 := vLd_p hr
 have l4 : ∀ {K : KV}, vLd (.ptr i 4) σ1 K = K (.str v.tx) σ1 := vLd_p hr
 have fin : ∀ {bb : Bool}, v.may z = bb → vRet (.bool bb) σ1 K := fun e => vRet_drop hle (by rw [← e]; exact hk)
 simp only [vFld_p, Nat.zero_add, l0, vBinI_lss, shutP_eq]
 have e1 : ∀ a b : Int, (Int.ofNat 1 = 1) := fun _ _ => rfl
 by_cases h1 : v.fr < 1
 · simp only [show decide (v.fr < Int.ofNat 1) = true from decide_eq_true h1, vGuard_ft, vPick_b, if_true, vIf_b]
   refine fin ?_; simp [Vo.may, h1]
 simp only [show decide (v.fr < Int.ofNat 1) = false from decide_eq_false h1, vGuard_t, vPick_b, if_false, Bool.false_eq_true, l0, vBinI_gtr]
 by_cases h2 : z < v.fr
 · simp only [decide_eq_true h2, vGuard_ft, vPick_b, if_true, vIf_b]
   refine fin ?_; simp [Vo.may, h2]
 simp only [decide_eq_false h2, vGuard_t, vPick_b, if_false, Bool.false_eq_true, l1, vBinI_lss]
 by_cases h3 : v.rd < 0
 · simp only [show decide (v.rd < Int.ofNat 0) = true from decide_eq_true h3, vGuard_ft, vPick_b, if_true, vIf_b]
   refine fin ?_; simp [Vo.may, h3]
 simp only [show decide (v.rd < Int.ofNat 0) = false from decide_eq_false h3, vGuard_t, vPick_b, if_false, Bool.false_eq_true, l1, vBinI_geq]
 by_cases h4 : 100 ≤ v.rd
 · simp only [show decide (Int.ofNat 100 ≤ v.rd) = true from decide_eq_true h4, vGuard_ft, if_true, vIf_b]
   refine fin ?_; simp [Vo.may, h4]
 simp only [show decide (Int.ofNat 100 ≤ v.rd) = false from decide_eq_false h4, vGuard_t, vPick_b, if_false, Bool.false_eq_true, vIf_b, l2, l4, vBinI_gtr, vBinI_eql, vBinS_neq, vLenT_s]
 by_cases h5 : 2048 < v.tx.length
 · simp only [show decide (Int.ofNat 2048 < Int.ofNat v.tx.length) = true from decide_eq_true (by simp; omega), if_true]
   refine fin ?_; simp [Vo.may, h5]
 simp only [show decide (Int.ofNat 2048 < Int.ofNat v.tx.length) = false from decide_eq_false (by simp; omega), if_false, Bool.false_eq_true]
 have hj : ∀ bb : Bool, (bb = true → v.may z = decide (v.vl = 0)) → (bb = false → v.may z = false) → j_tally_Vote_may_rrlrdrrr y (.ptr i 0) (.bool bb) σ1 K := by
  intro bb q1 q2
  rw [j_tally_Vote_may_rrlrdrrrE y hm]
  unfold j_tally_Vote_may_rrlrdrrrB
  refine vDrop_here ?_
  rw [vIf_b]
  cases bb with
  | true =>
   rw [if_pos rfl, vFld_p, Nat.zero_add, l3, vBinI_eql]
   exact fin (q1 rfl)
  | false => exact fin (q2 rfl)
 by_cases k2 : v.kd = 2
 · simp only [show decide (Int.ofNat v.kd = Int.ofNat 2) = true from decide_eq_true (by rw [k2]), if_true]
   by_cases k3 : v.tx = []
   · simp only [decide_eq_true k3, Bool.not_true, vGuard_tf, vPick_b, if_false, Bool.false_eq_true]
     refine fin ?_; simp [Vo.may, k2, k3]
   simp only [decide_eq_false k3, Bool.not_false, vGuard_t, vPick_b, if_true, l3, vBinI_geq]
   by_cases k4 : -1 ≤ v.vl
   · simp only [show decide (Int.negSucc 0 ≤ v.vl) = true from decide_eq_true k4, vGuard_t, if_true, l3, l1, vBinI_lss]
     refine fin ?_; simp [Vo.may, h1, h2, h3, h4, h5, k2, k3, k4]
   · simp only [show decide (Int.negSucc 0 ≤ v.vl) = false from decide_eq_false k4, vGuard_tf, if_false, Bool.false_eq_true]
     refine fin ?_; simp [Vo.may, k2, k4]
 · simp only [show decide (Int.ofNat v.kd = Int.ofNat 2) = false from decide_eq_false (fun e => k2 (Int.ofNat.inj e)), if_false, Bool.false_eq_true]
   by_cases k3 : v.kd = 3
   · simp only [show decide (Int.ofNat v.kd = Int.ofNat 3) = true from decide_eq_true (by rw [k3]), if_true]
     refine hj true (fun _ => ?_) (fun e => by cases e)
     simp [Vo.may, h1, h2, h3, h4, h5, k3]
   · simp only [show decide (Int.ofNat v.kd = Int.ofNat 3) = false from decide_eq_false (fun e => k3 (Int.ofNat.inj e)), if_false, Bool.false_eq_true]
     refine hj _ (fun e => ?_) (fun e => ?_)
     · have k4 : v.kd = 4 := Int.ofNat.inj (of_decide_eq_true e)
       simp [Vo.may, h1, h2, h3, h4, h5, k4]
     · have k4 : ¬ v.kd = 4 := fun q => of_decide_eq_false e (by rw [q])
       simp [Vo.may, k2, k3, k4]
end Go.Am

set_option linter.unusedVariables false
set_option maxRecDepth 4000
namespace Go.Am
def Vo.key (v : Vo) : V := .agg [.int .i64 v.rd, .int .i64 v.fr, .int .u8 (.ofNat v.kd)]
def eV (v : Vo) : V × V := (v.key, .agg v.vv)
def Vo.at (v : Vo) (r f : Int) (k : Nat) : Bool := decide (v.rd = r) && decide (v.fr = f) && decide (v.kd = k)
structure Tal (σ : Hp) (t m : Nat) (n : Int) (l : List Vo) : Prop where
 row : σ t = some (.row [.int .i64 n, .mapv m] 78)
 map : σ m = some (.map (l.map eV))
theorem Tal.le {σ σ' : Hp} {t m : Nat} {n : Int} {l : List Vo} (a : Tal σ t m n l) (h : Hle σ σ') : Tal σ' t m n l := ⟨h _ _ a.row, h _ _ a.map⟩
theorem key_eq {r f : Int} {k : Nat} {v : Vo} : (V.agg [.int .i64 r, .int .i64 f, .int .u8 (.ofNat k)] = v.key) ↔ v.at r f k = true := by
 unfold Vo.key Vo.at
 simp only [Bool.and_eq_true, decide_eq_true_eq]
 constructor
 · intro h
   injection h with h
   injection h with h1 h
   injection h with h2 h
   injection h with h3 h
   injection h1 with _ h1
   injection h2 with _ h2
   injection h3 with _ h3
   exact ⟨⟨h1.symm, h2.symm⟩, (Int.ofNat.inj h3).symm⟩
 · rintro ⟨⟨rfl, rfl⟩, rfl⟩; rfl
theorem vGet_eV (l : List Vo) (r f : Int) (k : Nat) : vGet (l.map eV) (.agg [.int .i64 r, .int .i64 f, .int .u8 (.ofNat k)]) = (l.find? fun v => v.at r f k).map fun v => .agg v.vv := by
 induction l with
 | nil => rfl
 | cons v l ih =>
  simp only [List.map_cons, vGet, eV, List.find?_cons]
  by_cases h : v.at r f k = true
  · rw [if_pos (key_eq.2 h), h]; rfl
  · rw [if_neg (fun e => h (key_eq.1 e))]
    simp only [Bool.not_eq_true] at h
    rw [h]
    exact ih
theorem vPut_eV (l : List Vo) (v : Vo) (h : l.find? (fun u => u.at v.rd v.fr v.kd) = none) : vPut (l.map eV) v.key (.agg v.vv) = (l ++ [v]).map eV := by
 induction l with
 | nil => rfl
 | cons u l ih =>
  simp only [List.find?_cons] at h
  split at h
  · cases h
  · rename_i hu
    simp only [List.map_cons, vPut, eV, List.cons_append]
    rw [if_neg (fun e => by rw [key_eq.1 e] at hu; cases hu)]
    exact congrArg _ (ih h)
theorem keys_ok (l : List Vo) : ∀ e ∈ l.map eV, ksOk (.many [.int .i64, .int .i64, .int .u8]) e.1 := by
 intro e he
 obtain ⟨v, _, rfl⟩ := List.mem_map.1 he
 exact ⟨rfl, rfl, rfl, trivial⟩
theorem kind57 : kindT PP 57 = some .ptr := by kernel_rfl
def voZ : Vo := ⟨0, 0, 0, 0, []⟩
variable {ov : OvV} {M n b t m : Nat} {x : VE} {σ : Hp} {K : KV} {ty : TypeId}
theorem prop_s (hf : ov c_tally_Tally_Proposal = none) (hx : Deep PP tbS ov M (n + 1) x) {z r f : Int} {l : List Vo} (a : Tal σ t m z l) (hk : K (.tuple [.agg (((l.find? fun v => v.at r f 2).getD voZ).vv), .bool (l.find? fun v => v.at r f 2).isSome]) σ) : x.call c_tally_Tally_Proposal [.ptr t 0, .int .i64 r, .int .i64 f] σ K := by
 refine hx.call hf fun y hy => ?_
 rw [f_tally_Tally_Proposal]
 unfold r_tally_Tally_Proposal
 refine vAlloc_to rfl fun i hi => ?_
 refine vBin_pn kind57 ?_
 rw [vIf_b, if_neg (by simp), vNil_p, vFld_p]
 have le1 : Hle σ (upd σ i (.row voZ.vv 64)) := .upd_new hi
 have a1 := a.le le1
 refine vLd_one a1.row rfl ?_
 have hb : ∀ {k : V → Prop}, k (.agg [.int .i64 r, .int .i64 f, .int .u8 (.ofNat 2)]) → vBuild [(.int .i64 (.ofNat 0)), (.int .i64 (.ofNat 0)), (.int .u8 (.ofNat 0))] [(0, 1, .int .i64 r), (1, 1, .int .i64 f), (2, 1, (.int .u8 (.ofNat 2)))] k := fun h => ⟨rfl, by simp, rfl, by simp [splice], rfl, by simp [splice], h⟩
 refine hb ?_
 have go : ∀ (w : List V) (is : Bool), w.length = 5 → w.all oneV = true → K (.tuple [.agg w, .bool is]) σ → vExt 0 (.tuple [.agg w, .bool is]) fun v9 => vExt 1 (.tuple [.agg w, .bool is]) fun v10 =>
  vAlloc [(.int .i64 (.ofNat 0)), (.int .i64 (.ofNat 0)), (.int .u8 (.ofNat 0)), (.int .i64 (.ofNat 0)), (.string ⟨⟨[]⟩⟩)] 64 (upd σ i (.row voZ.vv 64)) fun v11 σ =>
  vSt 5 v11 v9 σ fun σ => vLdN 5 v11 σ fun v12 σ => vSt 5 (.ptr i 0) v12 σ fun σ => vLdN 5 (.ptr i 0) σ fun v13 _ => vRet (.tuple [v13, v10]) σ K := by
  intro w is hw ho hk
  refine vExt_to rfl ?_
  refine vExt_to rfl ?_
  refine vAlloc_to (l := voZ.vv) rfl fun j hj => ?_
  obtain ⟨hji, hj0⟩ := upd_none hj
  refine vSt_all upd_same ho hw rfl ?_
  rw [upd_upd]
  refine vLdN_all upd_same hw ?_
  refine vSt_all (by rw [upd_other (Ne.symm hji)]; exact upd_same) ho hw rfl ?_
  refine vLdN_all upd_same hw ?_
  refine vRet_drop (σ' := σ) ?_ hk
  rw [upd_comm hji, upd_upd]
  exact (Hle.upd_new hi).trans (.upd_new (by rw [upd_other hji]; exact hj0))
 refine vLook_to a1.map ⟨rfl, rfl, rfl, trivial⟩ (keys_ok l) (fun v hv => ?_) (fun hv => ?_)
 · rw [vGet_eV] at hv
   cases hq : l.find? (fun v => v.at r f 2) with
   | none => rw [hq] at hv; cases hv
   | some u =>
    rw [hq] at hv hk
    injection hv with hv
    subst hv
    exact go u.vv true rfl rfl hk
 · rw [vGet_eV] at hv
   cases hq : l.find? (fun v => v.at r f 2) with
   | some u => rw [hq] at hv; cases hv
   | none =>
    rw [hq] at hk
    exact go voZ.vv false rfl rfl hk
end Go.Am

set_option linter.unusedVariables false
namespace Go.Am
open Go.RowKit Go.MapKept Go.Proofs
/-! a vote as the model has it -/
def encC (v : Vo) : List Value := [.int .i64 v.fr, .int .i64 v.rd, .int .u8 (.ofNat v.kd), .int .i64 v.vl, .string ⟨⟨v.tx⟩⟩]
def encVo (v : Vo) : Value := .agg ⟨encC v⟩
def Vo.lt (a b : Vo) : Bool := decide (a.rd < b.rd) || (decide (a.rd = b.rd) && (decide (a.fr < b.fr) || (decide (a.fr = b.fr) && decide (a.kd < b.kd))))
def insV (v : Vo) : List Vo → List Vo
 | [] => [v]
 | u :: l => if v.lt u then v :: u :: l else u :: insV v l
def sortV : List Vo → List Vo
 | [] => []
 | v :: l => insV v (sortV l)
def memV (p : Vo → Bool) (n : Nat) (l : List Vo) : Nat := ((List.range (n + 1)).filter fun (i : Nat) => l.any fun v => p v && decide (v.fr = (i : Int))).length
def Okl (n : Nat) (l : List Vo) : Prop := n ≤ 1000000 ∧ l.length ≤ 1000000 ∧ ∀ v ∈ l, 0 ≤ v.fr ∧ v.fr ≤ n
inductive EVo : List MapEntry → List Vo → Prop
 | nil : EVo [] []
 | cons {e : MapEntry} {v : Vo} {es : List MapEntry} {l : List Vo} (he : e.val = encVo v) (hf : ∃ f : Nat, v.fr = (f : Int)) (h : EVo es l) : EVo (e :: es) (v :: l)
section
variable {c : Cx} {σ : St} {C : Nat → Prop}
theorem vv_enc {v : Vo} {w : List Value} (r : VRL c σ C v.vv w) : w = encC v := by
 obtain ⟨a, w, rfl, r1, r⟩ := r.cons_inv
 obtain ⟨b, w, rfl, r2, r⟩ := r.cons_inv
 obtain ⟨d, w, rfl, r3, r⟩ := r.cons_inv
 obtain ⟨e, w, rfl, r4, r⟩ := r.cons_inv
 obtain ⟨f, w, rfl, r5, r⟩ := r.cons_inv
 rw [r.nil_inv]
 cases r1; cases r2; cases r3; cases r4; cases r5
 rfl
theorem vv_rel {v : Vo} : VRL c σ C v.vv (encC v) := .cons .int (.cons .int (.cons .int (.cons .int (.cons .str .nil))))
theorem ev_of {l : List Vo} : ∀ {es : List MapEntry}, EsR c σ C (l.map eV) es → (∀ v ∈ l, 0 ≤ v.fr) → EVo es l := by
 induction l with
 | nil =>
  intro es r _
  obtain rfl : es = [] := List.eq_nil_of_length_eq_zero (by have := r.1; simpa using this.symm)
  exact .nil
 | cons v l ih =>
  intro es r hf
  cases es with
  | nil => have := r.1; simp at this
  | cons e es =>
   have h0 := (r.2 0 (eV v) e rfl rfl).2
   have h1 : e.val = encVo v := by
    generalize e.val = w at h0
    have h0 : VR' c σ C (.agg v.vv) w := h0
    cases h0 with
    | @agg _ a' la ha => have := vv_enc (⟨la, ha⟩ : VRL c σ C v.vv a'); subst this; rfl
   exact .cons h1 ⟨v.fr.toNat, by have := hf v (.head _); omega⟩ (ih r.tail fun u hu => hf u (.tail _ hu))
end
theorem EVo.len {es : List MapEntry} {l : List Vo} (h : EVo es l) : es.length = l.length := by induction h with | nil => rfl | cons _ _ _ ih => simp [ih]
theorem voteK_enc {v : Vo} {f : Nat} (hf : v.fr = (f : Int)) (z : Bool) (k : Nat → Int → Int → List UInt8 → Bool) : voteK (encVo v) z k = k f v.rd (.ofNat v.kd) v.tx := by
 unfold encVo encC; rw [hf]; rfl
theorem okEs_of {n ck : Nat} : ∀ {es : List MapEntry} {l : List Vo} {lo : Nat}, EVo es l → (∀ v ∈ l, v.fr ≤ n) → (es.map (·.born)).Pairwise (· < ·) → (∀ e ∈ es, lo ≤ e.born ∧ e.born < ck) →
 (lrec (β := Nat → Bool) (fun _ => true) (fun e _ ih lo => match Nat.ble lo e.born, Nat.blt e.born ck, voteK e.val false (fun f _ _ _ => Nat.ble f n) with
  | true, true, true => ih (Nat.succ e.born)
  | _, _, _ => false) es lo) = true := by
 intro es
 induction es with
 | nil => intro l lo _ _ _ _; rfl
 | cons e es ih =>
  intro l lo h hn hp hb
  cases h with
  | @cons _ v _ l he hf h =>
   obtain ⟨f, hf⟩ := hf
   rw [lrec_cons]
   obtain ⟨b1, b2⟩ := hb e (.head _)
   rw [show Nat.ble lo e.born = true from Nat.ble_eq_true_of_le b1, show Nat.blt e.born ck = true from Nat.ble_eq_true_of_le b2, he, voteK_enc hf, show Nat.ble f n = true from Nat.ble_eq_true_of_le (by have := hn v (.head _); omega)]
   simp only
   rw [List.map_cons, List.pairwise_cons] at hp
   exact ih h (fun u hu => hn u (.tail _ hu)) hp.2 fun x hx => ⟨hp.1 _ (List.mem_map_of_mem hx), (hb x (.tail _ hx)).2⟩
theorem hasB_any {pe : MapEntry → Nat → Bool} (es : List MapEntry) (i : Nat) : hasB pe es i = es.any fun e => pe e i := by
 induction es with
 | nil => rfl
 | cons e es ih =>
  unfold hasB at ih ⊢
  rw [lrec_cons, ih, List.any_cons]
  cases pe e i <;> rfl
theorem EVo.any {pe : MapEntry → Nat → Bool} {p : Vo → Bool} {i : Nat} {es : List MapEntry} {l : List Vo} (h : EVo es l) (hp : ∀ (e : MapEntry) (v : Vo) (f : Nat), e.val = encVo v → v.fr = (f : Int) → pe e i = (p v && Nat.beq f i)) : (es.any fun e => pe e i) = l.any fun v => p v && decide (v.fr = (i : Int)) := by
 induction h with
 | nil => rfl
 | @cons e v es l he hf h ih =>
  obtain ⟨f, hf⟩ := hf
  rw [List.any_cons, List.any_cons, ih, hp e v f he hf, hf]
  congr 2
  rw [Bool.eq_iff_iff]
  simp only [Nat.beq_eq, decide_eq_true_eq]; omega
theorem memK_V {pe : MapEntry → Nat → Bool} {p : Vo → Bool} {n : Nat} {es : List MapEntry} {l : List Vo} (h : EVo es l) (hp : ∀ (e : MapEntry) (v : Vo) (f i : Nat), e.val = encVo v → v.fr = (f : Int) → pe e i = (p v && Nat.beq f i)) (K : Nat → Bool) : memK pe es n K = K (memV p n l) := by
 unfold memK memV
 rw [memK_go]
 congr 1
 rw [Nat.zero_add]
 congr 2
 funext i
 rw [hasB_any, h.any fun e v f => hp e v f i]
/-! sorted -/
theorem lessB_V {a b : MapEntry} {v u : Vo} {f g : Nat} (ha : a.val = encVo v) (hb : b.val = encVo u) (hf : v.fr = (f : Int)) (hg : u.fr = (g : Int)) : lessB a b = v.lt u := by
 unfold lessB
 rw [ha, hb, voteK_enc hf, voteK_enc hg]
 unfold Vo.lt
 rw [hf, hg]
 simp only [ltI_eq, eqI_eq, andB_eq]
 have e1 : ∀ x y : Nat, Nat.blt x y = decide ((x : Int) < (y : Int)) := fun x y => by rw [Bool.eq_iff_iff]; simp only [Nat.blt_eq, decide_eq_true_eq]; omega
 have e2 : ∀ x y : Nat, Nat.beq x y = decide ((x : Int) = (y : Int)) := fun x y => by rw [Bool.eq_iff_iff]; simp only [Nat.beq_eq, decide_eq_true_eq]; omega
 have e3 : decide (Int.ofNat v.kd < Int.ofNat u.kd) = decide (v.kd < u.kd) := by rw [Bool.eq_iff_iff]; simp
 have e4 : (v.rd == u.rd) = decide (v.rd = u.rd) := by rw [Bool.eq_iff_iff]; simp
 rw [e1, e2, e3, e4]
 cases decide (v.rd < u.rd) <;> cases decide ((f : Int) < (g : Int)) <;> rfl
theorem insK_V {e : MapEntry} {v : Vo} (he : e.val = encVo v) (hf : ∃ f : Nat, v.fr = (f : Int)) : ∀ {s : List MapEntry} {l : List Vo} {k : List MapEntry → Bool}, EVo s l → ∃ s', EVo s' (insV v l) ∧ insK e s k = k s' := by
 intro s
 induction s with
 | nil => intro l k h; cases h; exact ⟨[e], .cons he hf .nil, rfl⟩
 | cons x t ih =>
  intro l k h
  cases h with
  | @cons _ u _ l hx hg h =>
   obtain ⟨f, hf'⟩ := hf
   obtain ⟨g, hg'⟩ := hg
   have hl := lessB_V he hx hf' hg'
   unfold insV
   unfold insK at ih ⊢
   rw [lrec_cons, hl]
   cases v.lt u with
   | true => exact ⟨_, .cons he ⟨f, hf'⟩ (.cons hx ⟨g, hg'⟩ h), rfl⟩
   | false =>
    obtain ⟨s', h1, h2⟩ := ih (k := fun t' => k (x :: t')) h
    exact ⟨x :: s', .cons hx ⟨g, hg'⟩ h1, h2⟩
theorem sortK_V : ∀ {es : List MapEntry} {l : List Vo} {k : List MapEntry → Bool}, EVo es l → ∃ s, EVo s (sortV l) ∧ sortK es k = k s := by
 intro es
 induction es with
 | nil => intro l k h; cases h; exact ⟨[], .nil, rfl⟩
 | cons e es ih =>
  intro l k h
  cases h with
  | @cons _ v _ l he hf h =>
   unfold sortK at ih ⊢
   rw [lrec_cons]
   obtain ⟨s, h1, h2⟩ := ih (k := fun s => insK e s k) h
   obtain ⟨s', h3, h4⟩ := insK_V he hf (k := k) h1
   exact ⟨s', h3, h2.trans h4⟩
theorem chainB_V {s : List MapEntry} {l : List Vo} (h : EVo s l) (hp : l.Pairwise fun a b => a.lt b = true) : chainB s = true := by
 induction h with
 | nil => rfl
 | @cons e v es l he hf h ih =>
  rw [List.pairwise_cons] at hp
  have ih := ih hp.2
  unfold chainB at ih ⊢
  rw [lrec_cons, ih]
  cases h with
  | nil => rfl
  | @cons e2 u es l he2 hf2 h =>
   obtain ⟨f, hf'⟩ := hf
   obtain ⟨g, hg'⟩ := hf2
   show bcase (lessB e e2) true false = true
   rw [lessB_V he he2 hf' hg', hp.1 u (.head _)]; rfl
theorem flatK_V {s : List MapEntry} {l : List Vo} (h : EVo s l) : ∀ (k : List Value → Bool), flatK' s k = k (l.flatMap encC) := by
 induction h with
 | nil => intro k; rfl
 | @cons e v es l he hf h ih =>
  intro k
  unfold flatK' at ih ⊢
  rw [lrec_cons, he]
  show lrec (β := (List Value → Bool) → Bool) _ _ es (fun t => appK (encC v) t k) = _
  rw [ih, appK_eq, List.flatMap_cons]
section
variable {P : Program} {B : Nat → Prop} {σb : St} {c : Cx} {h : Hp} {σ : St}
theorem voV_rel {l : List Vo} {C : Nat → Prop} : VRL c σ C (voV l) (l.flatMap encC) := by
 induction l with
 | nil => exact .nil
 | cons v l ih => exact vv_rel.app ih
theorem tally_sim (s : VS P B σb c h σ) {t m n : Nat} {l : List Vo} (a : Tal h t m n l) (o : Okl n l) {b : Nat} (hb : c.ι t = some b) {k : Nat → List MapEntry → Bool} (hk : ∀ es, EVo es l → k n es = true) : tallyK σ (.pointer (some ⟨b, 0, none⟩)) k = true := by
 obtain ⟨b', ws, a1, a2, a3, a4, a5⟩ := s.row t _ _ a.row
 rw [hb] at a1; injection a1 with a1; subst a1
 obtain ⟨w1, ws, rfl, r1, a5⟩ := a5.cons_inv
 obtain ⟨w2, ws, rfl, r2, a5⟩ := a5.cons_inv
 rw [a5.nil_inv] at a4
 cases r1
 cases r2 with
 | mapv hm =>
  obtain ⟨bm, es, ck, q1, q2, q3, q4⟩ := s.mapB a.map
  rw [hm] at q1; injection q1 with q1; subst q1
  have ev := ev_of q3 fun v hv => (o.2.2 v hv).1
  unfold tallyK
  simp only
  rw [readK_h a4 (by simp)]
  show (getK σ.h _ _) = true
  rw [getO q2]
  simp only
  rw [lenK_eq, ev.len, show Nat.ble n 1000000 = true from Nat.ble_eq_true_of_le o.1, show Nat.ble l.length 1000000 = true from Nat.ble_eq_true_of_le o.2.1]
  have : okEs n ck es = true := okEs_of ev (fun v hv => (o.2.2 v hv).2) q4.1 fun e he => ⟨Nat.zero_le _, q4.2 e he⟩
  rw [this]
  exact hk es ev
/-! the contracts -/
def gSent (args : List V) (h : Hp) (K : KV) : Prop := ∃ (t m n : Nat) (l : List Vo) (r : Int), args = [.ptr t 0, .int .i64 r] ∧ Tal h t m n l ∧ Okl n l ∧ K (.int .i64 (.ofNat (memV (fun v => decide (v.rd = r)) n l))) h
def gAll (args : List V) (h : Hp) (K : KV) : Prop := ∃ (t m n : Nat) (l : List Vo) (r : Int) (kd : Nat), args = [.ptr t 0, .int .i64 r, .int .u8 (.ofNat kd)] ∧ Tal h t m n l ∧ Okl n l ∧ K (.int .i64 (.ofNat (memV (fun v => decide (v.rd = r) && decide (v.kd = kd)) n l))) h
def gCount (args : List V) (h : Hp) (K : KV) : Prop := ∃ (t m n : Nat) (l : List Vo) (r : Int) (kd : Nat) (tx : List UInt8), args = [.ptr t 0, .int .i64 r, .int .u8 (.ofNat kd), .str tx] ∧ Tal h t m n l ∧ Okl n l ∧ K (.int .i64 (.ofNat (memV (fun v => decide (v.rd = r) && decide (v.kd = kd) && decide (v.tx = tx)) n l))) h
def gVotes (args : List V) (h : Hp) (K : KV) : Prop := ∃ (t m n : Nat) (l : List Vo), args = [.ptr t 0] ∧ Tal h t m n l ∧ Okl n l ∧ ((sortV l).Pairwise fun a b => a.lt b = true) ∧
 ((sortV l = [] → K .nil h) ∧ (sortV l ≠ [] → ∀ i, h i = none → K (.acc i (sortV l).length) (upd h i (.gro (voV (sortV l)) 64 (sortV l).length))))
theorem eqI_d (x y : Int) : eqI x y = decide (x = y) := by rw [eqI_eq, Bool.eq_iff_iff]; simp
theorem eqK_d (x y : Nat) : eqI (Int.ofNat x) (Int.ofNat y) = decide (x = y) := by rw [eqI_d, Bool.eq_iff_iff]; simp only [decide_eq_true_eq]; exact ⟨Int.ofNat.inj, fun e => by rw [e]⟩
theorem gSent_sim {args : List V} {ws : List Value} {Kv : KV} {K : VK} (s : VS P B σb c h σ) (ra : VRL c σ (Liv B c h) args ws) (k : KR P B σb c h σ Kv K) (hv : gSent args h Kv) : ovSent ws σ K = true := by
 obtain ⟨t, m, n, l, r, rfl, a, o, hv⟩ := hv
 obtain ⟨w1, ws, rfl, r1, ra⟩ := ra.cons_inv
 obtain ⟨w2, ws, rfl, r2, ra⟩ := ra.cons_inv
 rw [ra.nil_inv]
 cases r2
 cases r1 with
 | ptr hb =>
  unfold ovSent
  refine tally_sim s a o hb fun es ev => ?_
  rw [memK_V (p := fun v => decide (v.rd = r)) ev (fun e v f i he hf => by rw [he, voteK_enc hf, andB_eq, eqI_d])]
  exact k.here s .int hv
theorem gAll_sim {args : List V} {ws : List Value} {Kv : KV} {K : VK} (s : VS P B σb c h σ) (ra : VRL c σ (Liv B c h) args ws) (k : KR P B σb c h σ Kv K) (hv : gAll args h Kv) : ovAll ws σ K = true := by
 obtain ⟨t, m, n, l, r, kd, rfl, a, o, hv⟩ := hv
 obtain ⟨w1, ws, rfl, r1, ra⟩ := ra.cons_inv
 obtain ⟨w2, ws, rfl, r2, ra⟩ := ra.cons_inv
 obtain ⟨w3, ws, rfl, r3, ra⟩ := ra.cons_inv
 rw [ra.nil_inv]
 cases r2; cases r3
 cases r1 with
 | ptr hb =>
  unfold ovAll
  refine tally_sim s a o hb fun es ev => ?_
  rw [memK_V (p := fun v => decide (v.rd = r) && decide (v.kd = kd)) ev (fun e v f i he hf => by rw [he, voteK_enc hf, andB_eq, andB_eq, eqI_d, eqK_d])]
  exact k.here s .int hv
theorem gCount_sim {args : List V} {ws : List Value} {Kv : KV} {K : VK} (s : VS P B σb c h σ) (ra : VRL c σ (Liv B c h) args ws) (k : KR P B σb c h σ Kv K) (hv : gCount args h Kv) : ovCount ws σ K = true := by
 obtain ⟨t, m, n, l, r, kd, tx, rfl, a, o, hv⟩ := hv
 obtain ⟨w1, ws, rfl, r1, ra⟩ := ra.cons_inv
 obtain ⟨w2, ws, rfl, r2, ra⟩ := ra.cons_inv
 obtain ⟨w3, ws, rfl, r3, ra⟩ := ra.cons_inv
 obtain ⟨w4, ws, rfl, r4, ra⟩ := ra.cons_inv
 rw [ra.nil_inv]
 cases r2; cases r3; cases r4
 cases r1 with
 | ptr hb =>
  unfold ovCount
  refine tally_sim s a o hb fun es ev => ?_
  rw [memK_V (p := fun v => decide (v.rd = r) && decide (v.kd = kd) && decide (v.tx = tx)) ev (fun e v f i he hf => by
   rw [he, voteK_enc hf, andB_eq, andB_eq, andB_eq, eqI_d, eqK_d, eqL8_eq]
   congr 2
   rw [Bool.eq_iff_iff]; simp)]
  exact k.here s .int hv
theorem gVotes_sim (hsz : sizeT P 64 = some 5) {args : List V} {ws : List Value} {Kv : KV} {K : VK} (s : VS P B σb c h σ) (ra : VRL c σ (Liv B c h) args ws) (k : KR P B σb c h σ Kv K) (hv : gVotes args h Kv) : ovVotes ws σ K = true := by
 obtain ⟨t, m, n, l, rfl, a, o, hp, hv0, hv1⟩ := hv
 obtain ⟨w1, ws, rfl, r1, ra⟩ := ra.cons_inv
 rw [ra.nil_inv]
 cases r1 with
 | ptr hb =>
  unfold ovVotes
  refine tally_sim s a o hb fun es ev => ?_
  obtain ⟨ss, e1, e2⟩ := sortK_V (k := fun ss => match chainB ss with
   | true => flatK' ss fun cs => lenK ss fun n => match n with
    | 0 => K (.slice none 0 0) σ
    | n' + 1 => newK σ (.cells cs 64 (.grown [])) fun i σ => K (.slice (some ⟨i, 0, some 0⟩) (n' + 1) (n' + 1)) σ
   | false => false) ev
  refine e2.trans ?_
  simp only [chainB_V e1 hp]
  rw [flatK_V e1, lenK_eq, e1.len]
  cases hs : sortV l with
  | nil =>
   exact k.here s .nil (hv0 hs)
  | cons v l' =>
   have hne : sortV l ≠ [] := by rw [hs]; simp
   obtain ⟨i, i1, i2, i3⟩ := s.fresh
   have hv := hv1 hne i i1
   rw [hs] at hv
   show newK σ (.cells ((v :: l').flatMap encC) 64 (.grown [])) (fun i σ => K (.slice (some ⟨i, 0, some 0⟩) (l'.length + 1) (l'.length + 1)) σ) = true
   rw [newK_eq]
   obtain ⟨s1, s2, s3, s4⟩ := s.newGro i1 i2 i3 (vs := voV (v :: l')) (ws := (v :: l').flatMap encC) (t := 64) (n := l'.length + 1) hsz (by rw [voV_len]; rfl) voV_rel
   exact k _ _ _ _ _ s2 s3 s1 (.acc s4) hv
theorem beq_ne {a b : Nat} (h : a ≠ b) : Nat.beq a b = false := by
 cases e : Nat.beq a b with
 | false => rfl
 | true => exact absurd (Nat.eq_of_beq_eq_true e) h
def gWorks (args : List V) (h : Hp) (K : KV) : Prop := args = [] ∧ K (.bool true) h
noncomputable def ovWk (args : List Value) (σ : St) (K : VK) : Bool := match args with
 | [] => K (.bool true) σ
 | _ => false
noncomputable def ovT2 (f : FuncId) : Option (List Value → St → VK → Bool) := bcase (Nat.beq f 4) (some ovWk) (ovT f)
noncomputable def gT (f : FuncId) : Option (List V → Hp → KV → Prop) :=
 if f = c_tally_Tally_Count then some gCount else if f = c_tally_Tally_Votes then some gVotes else if f = c_tally_Tally_All then some gAll else if f = c_tally_Tally_Sent then some gSent else if f = c_law16_works then some gWorks else none
theorem gT_sim (hsz : sizeT P 64 = some 5) : OvSim P B σb gT ovT2 := by
 have h1 : ∀ f, (f = c_tally_Tally_Count ∧ gT f = some gCount ∧ ovT2 f = some ovCount) ∨ (f = c_tally_Tally_Votes ∧ gT f = some gVotes ∧ ovT2 f = some ovVotes) ∨ (f = c_tally_Tally_All ∧ gT f = some gAll ∧ ovT2 f = some ovAll) ∨ (f = c_tally_Tally_Sent ∧ gT f = some gSent ∧ ovT2 f = some ovSent) ∨ (f = c_law16_works ∧ gT f = some gWorks ∧ ovT2 f = some ovWk) ∨ (gT f = none ∧ ovT2 f = none) := by
  intro f
  by_cases e1 : f = c_tally_Tally_Count
  · subst e1; exact .inl ⟨rfl, rfl, rfl⟩
  · by_cases e2 : f = c_tally_Tally_Votes
    · subst e2; exact .inr (.inl ⟨rfl, rfl, rfl⟩)
    · by_cases e3 : f = c_tally_Tally_All
      · subst e3; exact .inr (.inr (.inl ⟨rfl, rfl, rfl⟩))
      · by_cases e4 : f = c_tally_Tally_Sent
        · subst e4; exact .inr (.inr (.inr (.inl ⟨rfl, rfl, rfl⟩)))
        · by_cases e5 : f = c_law16_works
          · subst e5; exact .inr (.inr (.inr (.inr (.inl ⟨rfl, rfl, rfl⟩))))
          · refine .inr (.inr (.inr (.inr (.inr ⟨by unfold gT; rw [if_neg e1, if_neg e2, if_neg e3, if_neg e4, if_neg e5], ?_⟩))))
            unfold ovT2 ovT
            rw [show Nat.beq f 66 = false from beq_ne e1, show Nat.beq f 25 = false from beq_ne e2, show Nat.beq f 43 = false from beq_ne e3, show Nat.beq f 55 = false from beq_ne e4, show Nat.beq f 4 = false from beq_ne e5]
            rfl
 refine ⟨fun f hf => ?_, fun f g hg => ?_⟩
 · rcases h1 f with ⟨_, q, _⟩ | ⟨_, q, _⟩ | ⟨_, q, _⟩ | ⟨_, q, _⟩ | ⟨_, q, _⟩ | ⟨_, q⟩
   · rw [q] at hf; cases hf
   · rw [q] at hf; cases hf
   · rw [q] at hf; cases hf
   · rw [q] at hf; cases hf
   · rw [q] at hf; cases hf
   · exact q
 · rcases h1 f with ⟨_, q, q2⟩ | ⟨_, q, q2⟩ | ⟨_, q, q2⟩ | ⟨_, q, q2⟩ | ⟨_, q, q2⟩ | ⟨q, _⟩
   · rw [q] at hg; injection hg with hg; subst hg; exact ⟨_, q2, fun s ra k hv => gCount_sim s ra k hv⟩
   · rw [q] at hg; injection hg with hg; subst hg; exact ⟨_, q2, fun s ra k hv => gVotes_sim hsz s ra k hv⟩
   · rw [q] at hg; injection hg with hg; subst hg; exact ⟨_, q2, fun s ra k hv => gAll_sim s ra k hv⟩
   · rw [q] at hg; injection hg with hg; subst hg; exact ⟨_, q2, fun s ra k hv => gSent_sim s ra k hv⟩
   · rw [q] at hg
     injection hg with hg
     subst hg
     refine ⟨_, q2, fun {args ws c h σ Kv K} s ra k hv => ?_⟩
     obtain ⟨rfl, hv⟩ := hv
     rw [ra.nil_inv]
     exact k.here s .bool hv
   · rw [q] at hg; cases hg
end
end Go.Am

set_option linter.unusedVariables false
namespace Go.Am
structure Bs where
 h : Int
 n : Int
 t : Int
 me : Int
 rd : Int
 st : Int
 age : Int
 lock : List UInt8
 valid : List UInt8
 lockR : Int
 validR : Int
 prop : Bool
 seen : Bool
 dec : List UInt8
def bRow (s : Bs) (t : Nat) : List V := [.int .i64 s.h, .int .i64 s.n, .int .i64 s.t, .int .i64 s.me, .int .i64 s.rd, .int .i64 s.st, .int .i64 s.age, .str s.lock, .str s.valid, .int .i64 s.lockR, .int .i64 s.validR, .bool s.prop, .bool s.seen, .str s.dec, .nil, .ptr t 0]
variable {ov : OvV} {M n b t : Nat} {x : VE} {σ : Hp} {K : KV} {s : Bs} {ty : TypeId}
theorem enough_s (hf : ov c_ballot_Ballot_enough = none) (hx : Deep PP tbS ov M (n + 1) x) (hb : σ b = some (.row (bRow s t) ty)) {z : Int} (hs : -9223372036854775808 ≤ s.n - s.t ∧ s.n - s.t ≤ 9223372036854775807) (hk : K (.bool (decide (s.n - s.t ≤ z))) σ) : x.call c_ballot_Ballot_enough [.ptr b 0, .int .i64 z] σ K := by
 refine hx.call hf fun y _ => ?_
 rw [f_ballot_Ballot_enough]
 unfold r_ballot_Ballot_enough
 rw [vNil_p, vFld_p, vFld_p]
 refine vLd_one hb rfl ?_
 rw [vNil_p, vFld_p, vFld_p]
 refine vLd_one hb rfl ?_
 rw [vBinI_sub, wrap_small hs.1 hs.2, vBinI_geq]
 exact vRet_here hk
theorem proposer_s (hf : ov c_ballot_Ballot_proposer = none) (hx : Deep PP tbS ov M (n + 1) x) (hb : σ b = some (.row (bRow s t) ty)) {z : Int} (h0 : 0 ≤ s.h ∧ s.h ≤ 1000000) (h1 : 0 ≤ z ∧ z ≤ 1000000) (h2 : 0 < s.n ∧ s.n ≤ 1000000) (hk : K (.int .i64 (1 + (s.h + z) % s.n)) σ) : x.call c_ballot_Ballot_proposer [.ptr b 0, .int .i64 z] σ K := by
 refine hx.call hf fun y _ => ?_
 rw [f_ballot_Ballot_proposer]
 unfold r_ballot_Ballot_proposer
 rw [vNil_p, vFld_p, vFld_p]
 refine vLd_one hb rfl ?_
 rw [vBinI_add, wrap_small (by omega) (by omega), vNil_p, vFld_p, vFld_p]
 refine vLd_one hb rfl ?_
 have hm : (s.h + z).tmod s.n = (s.h + z) % s.n := Int.tmod_eq_emod_of_nonneg (by omega)
 have hp := Int.emod_nonneg (s.h + z) (show s.n ≠ 0 by omega)
 have hq := Int.emod_lt_of_pos (s.h + z) h2.1
 rw [vBinI_rem (by omega), hm, vBinI_add]
 have : wrapI .i64 (Int.ofNat 1 + (s.h + z) % s.n) = 1 + (s.h + z) % s.n := by rw [wrap_small] <;> (try simp) <;> omega
 rw [this]
 exact vRet_here hk
theorem to_s (hf : ov c_ballot_Ballot_to = none) (hx : Deep PP tbS ov M (n + 1) x) (hb : σ b = some (.row (bRow s t) ty)) {z : Int} (hk : K (.tuple []) (upd σ b (.row (bRow { s with st := z, age := 0 } t) ty))) : x.call c_ballot_Ballot_to [.ptr b 0, .int .i64 z] σ K := by
 refine hx.call hf fun y _ => ?_
 rw [f_ballot_Ballot_to]
 unfold r_ballot_Ballot_to
 rw [vNil_p, vFld_p, vFld_p]
 refine vSt_one hb rfl (by simp [bRow]) ?_
 rw [vNil_p, vFld_p, vFld_p]
 refine vSt_one upd_same rfl (by simp [bRow, splice]) ?_
 rw [upd_upd]
 exact vRet_here hk
theorem begin_s (hf : ov c_ballot_Ballot_begin = none) (hf2 : ov c_ballot_Ballot_to = none) (hx : Deep PP tbS ov M (n + 2) x) (hb : σ b = some (.row (bRow s t) ty)) {z : Int} (hk : K (.tuple []) (upd σ b (.row (bRow { s with st := 1, age := 0, rd := z, prop := false, seen := false } t) ty))) : x.call c_ballot_Ballot_begin [.ptr b 0, .int .i64 z] σ K := by
 refine hx.call hf fun y hy => ?_
 rw [f_ballot_Ballot_begin]
 unfold r_ballot_Ballot_begin
 refine to_s hf2 hy hb ?_
 rw [vNil_p, vFld_p, vFld_p]
 refine vSt_one upd_same rfl (by simp [bRow]) ?_
 rw [upd_upd, vNil_p, vFld_p, vFld_p]
 refine vSt_one upd_same rfl (by simp [bRow, splice]) ?_
 rw [upd_upd, vNil_p, vFld_p, vFld_p]
 refine vSt_one upd_same rfl (by simp [bRow, splice]) ?_
 rw [upd_upd]
 exact vRet_here hk
end Go.Am

set_option linter.unusedVariables false
set_option maxRecDepth 4000
namespace Go.Am
variable {ov : OvV} {M n b t m : Nat} {x : VE} {σ : Hp} {K : KV} {ty : TypeId}
theorem vUn_not {b : Bool} {k : V → Prop} : vUn .not (.bool b) k = k (.bool (!b)) := rfl
theorem vMapUp_to {sh : KSh} {a y : V} {es : List (V × V)} (hm : σ m = some (.map es)) (ha : ksOk sh a) (ho : ∀ e ∈ es, ksOk sh e.1) {k : Hp → Prop} (hk : k (upd σ m (.map (vPut es a y)))) : vMapUp sh (.mapv m) a y σ k := by
 unfold vMapUp
 simp only [hm]
 exact ⟨ha, ho, hk⟩
def Vo.free (v : Vo) (l : List Vo) : Bool := (l.find? fun u => u.at v.rd v.fr v.kd).isNone
theorem put_s (hM : M ≠ 0) (hf : ov c_tally_Tally_Put = none) (hf2 : ov c_tally_Vote_may = none) (hx : Deep PP tbS ov M (n + 2) x) {z : Int} {l : List Vo} {v : Vo} (a : Tal σ t m z l) (h1 : (v.may z && v.free l) = false → K (.bool false) σ) (h2 : (v.may z && v.free l) = true → K (.bool true) (upd σ m (.map ((l ++ [v]).map eV)))) : x.call c_tally_Tally_Put [.ptr t 0, .agg v.vv] σ K := by
 refine hx.call hf fun y hy => ?_
 rw [f_tally_Tally_Put]
 unfold r_tally_Tally_Put
 refine vBox_agg rfl fun i hi => ?_
 refine vBin_pn kind57 ?_
 simp only [shutP_eq, vGuard_t]
 have le1 : Hle σ (upd σ i (.row v.vv 64)) := .upd_new hi
 have ri : upd σ i (.row v.vv 64) i = some (.row v.vv 64) := upd_same
 generalize hσ1 : upd σ i (.row v.vv 64) = σ1 at le1 ri
 have a1 := a.le le1
 refine vLdN_all ri rfl ?_
 rw [vNil_p, vFld_p]
 refine vLd_one a1.row rfl ?_
 refine may_s hM hf2 hy ?_
 rw [vUn_not, vPick_b, if_neg (by simp), vIf_b]
 cases hmay : v.may z with
 | false =>
  rw [if_pos (by simp)]
  exact vRet_drop le1 (h1 (by rw [hmay]; rfl))
 | true =>
  rw [if_neg (by simp), vFld_p]
  refine vLd_one ri rfl ?_
  rw [vFld_p]
  refine vLd_one ri rfl ?_
  rw [vFld_p]
  refine vLd_one ri rfl ?_
  have hb : ∀ {k : V → Prop}, k (.agg [.int .i64 v.rd, .int .i64 v.fr, .int .u8 (.ofNat v.kd)]) → vBuild [(.int .i64 (.ofNat 0)), (.int .i64 (.ofNat 0)), (.int .u8 (.ofNat 0))] [(0, 1, .int .i64 v.rd), (1, 1, .int .i64 v.fr), (2, 1, (.int .u8 (.ofNat v.kd)))] k := fun h => ⟨rfl, by simp, rfl, by simp [splice], rfl, by simp [splice], h⟩
  refine hb ?_
  refine vAlloc_to (l := [.int .i64 0, .int .i64 0, .int .u8 0]) rfl fun j hj => ?_
  refine vSt_all upd_same (by rfl) (by rfl) (by rfl) ?_
  rw [upd_upd]
  have le2 : ∀ {cs : List V}, Hle σ1 (upd σ1 j (.row cs 95)) := .upd_new hj
  have rj : upd σ1 j (.row [.int .i64 v.rd, .int .i64 v.fr, .int .u8 (.ofNat v.kd)] 95) j = some (.row [.int .i64 v.rd, .int .i64 v.fr, .int .u8 (.ofNat v.kd)] 95) := upd_same
  have le2 := le2 (cs := [.int .i64 v.rd, .int .i64 v.fr, .int .u8 (.ofNat v.kd)])
  generalize upd σ1 j (.row [.int .i64 v.rd, .int .i64 v.fr, .int .u8 (.ofNat v.kd)] 95) = σ2 at le2 rj
  have a2 := a1.le le2
  have ri2 := le2 _ _ ri
  rw [vNil_p, vFld_p]
  refine vLd_one a2.row rfl ?_
  refine vLdN_all rj rfl ?_
  have look : ∀ (K : KV), K (.tuple [.agg (((l.find? fun u => u.at v.rd v.fr v.kd).getD voZ).vv), .bool (l.find? fun u => u.at v.rd v.fr v.kd).isSome]) σ2 → vLook (.many [.int .i64, .int .i64, .int .u8]) (.agg [(.int .i64 (.ofNat 0)), (.int .i64 (.ofNat 0)), (.int .u8 (.ofNat 0)), (.int .i64 (.ofNat 0)), (.str [])]) true (.mapv m) (.agg [.int .i64 v.rd, .int .i64 v.fr, .int .u8 (.ofNat v.kd)]) σ2 K := by
   intro K hk
   refine vLook_to a2.map ⟨rfl, rfl, rfl, trivial⟩ (keys_ok l) (fun w hw => ?_) (fun hw => ?_)
   · rw [vGet_eV] at hw
     cases hq : l.find? (fun u => u.at v.rd v.fr v.kd) with
     | none => rw [hq] at hw; cases hw
     | some u => rw [hq] at hw hk; injection hw with hw; subst hw; exact hk
   · rw [vGet_eV] at hw
     cases hq : l.find? (fun u => u.at v.rd v.fr v.kd) with
     | some u => rw [hq] at hw; cases hw
     | none => rw [hq] at hk; exact hk
  refine look _ ?_
  refine vExt_to rfl ?_
  refine vExt_to rfl ?_
  refine look _ ?_
  refine vSame_to rfl ?_
  refine vLdN_all rj rfl ?_
  refine vSame_to rfl ?_
  refine vLd_one a2.row rfl ?_
  refine vSame_to rfl ?_
  refine ⟨vAlloc_to (l := voZ.vv) rfl fun _ _ => trivial, ?_⟩
  refine vAlloc_to (l := voZ.vv) rfl fun k hk => ?_
  refine vSt_all upd_same (by rfl) (by rfl) (by rfl) ?_
  rw [upd_upd]
  have le3 := Hle.upd_new (a := .row ((l.find? fun u => u.at v.rd v.fr v.kd).getD voZ).vv 64) hk
  generalize upd σ2 k (.row ((l.find? fun u => u.at v.rd v.fr v.kd).getD voZ).vv 64) = σ3 at le3
  have a3 := a2.le le3
  rw [vIf_b]
  cases hq : l.find? (fun u => u.at v.rd v.fr v.kd) with
  | some u =>
   rw [if_pos (by rfl)]
   exact vRet_drop ((le1.trans le2).trans le3) (h1 (by simp [Vo.free, hq]))
  | none =>
   rw [if_neg (by simp), vNil_p, vFld_p]
   refine vLd_one a3.row rfl ?_
   refine vLdN_all (le3 _ _ rj) rfl ?_
   refine vLdN_all (le3 _ _ ri2) rfl ?_
   refine vMapUp_to a3.map (by exact ⟨rfl, rfl, rfl, trivial⟩) (by exact keys_ok l) ?_
   have hp := vPut_eV l v hq
   have hp : vPut (l.map eV) (.agg [.int .i64 v.rd, .int .i64 v.fr, .int .u8 (.ofNat v.kd)]) (.agg v.vv) = (l ++ [v]).map eV := hp
   rw [hp]
   exact vRet_drop (((le1.trans le2).trans le3).upd) (h2 (by simp [hmay, Vo.free, hq]))
end Go.Am

set_option linter.unusedVariables false
set_option maxRecDepth 4000
namespace Go.Am
variable {ov : OvV} {M n b t m : Nat} {x : VE} {σ : Hp} {K : KV} {ty : TypeId}
theorem tnew_s (hf : ov c_tally_New = none) (hx : Deep PP tbS ov M (n + 1) x) {z : Int} (h1 : ¬ (1 ≤ z ∧ z ≤ 7) → K (.tuple [.nilp, .int .i64 1]) σ)
 (h2 : 1 ≤ z → z ≤ 7 → ∀ m t, σ m = none → t ≠ m → σ t = none → K (.tuple [.ptr t 0, .int .i64 0]) (upd (upd σ m (.map [])) t (.row [.int .i64 z, .mapv m] 78))) : x.call c_tally_New [.int .i64 z] σ K := by
 refine hx.call hf fun y hy => ?_
 rw [f_tally_New]
 unfold r_tally_New
 rw [vBinI_lss]
 simp only [shutP_eq]
 by_cases a : z < 1
 · simp only [show decide (z < Int.ofNat 1) = true from decide_eq_true a, vGuard_ft, vPick_b, if_true, vIf_b]
   exact vRet_here (h1 (by omega))
 simp only [show decide (z < Int.ofNat 1) = false from decide_eq_false a, vGuard_t, vBinI_gtr, vPick_b, if_false, Bool.false_eq_true, vIf_b]
 by_cases b : 7 < z
 · rw [show decide (Int.ofNat 7 < z) = true from decide_eq_true b, if_pos rfl]
   exact vRet_here (h1 (by omega))
 rw [show decide (Int.ofNat 7 < z) = false from decide_eq_false b, if_neg (by simp)]
 intro m hm
 have hb : ∀ {k : V → Prop}, k (.agg [.int .i64 z, .mapv m]) → vBuild [(.int .i64 (.ofNat 0)), (.map none)] [(0, 1, .int .i64 z), (1, 1, .mapv m)] k := fun h => ⟨rfl, by simp, rfl, by simp [splice], h⟩
 refine hb ?_
 refine vBox_agg rfl fun t ht => ?_
 obtain ⟨htm, ht0⟩ := upd_none ht
 exact vRet_here (h2 (by omega) (by omega) m t hm htm ht0)
end Go.Am

set_option linter.unusedVariables false
set_option maxRecDepth 4000
namespace Go.Am
variable {ov : OvV} {M n b t m : Nat} {x : VE} {σ : Hp} {K : KV} {s : Bs} {ty : TypeId}
def Bs.pro (s : Bs) (r : Int) : Int := 1 + (s.h + r) % s.n
def Bs.takes (s : Bs) (l : List Vo) (v : Vo) : Bool := !(decide (v.kd = 2) && (decide (v.rd < 0) || !decide (v.fr = s.pro v.rd))) && (v.may s.n && v.free l)
theorem bput_s (hM : M ≠ 0) (hf : ov c_ballot_Ballot_put = none) (hf1 : ov c_ballot_Ballot_proposer = none) (hf2 : ov c_tally_Tally_Put = none) (hf3 : ov c_tally_Vote_may = none) (hx : Deep PP tbS ov M (n + 3) x) (hb : σ b = some (.row (bRow s t) ty)) {l : List Vo} {v : Vo} (a : Tal σ t m s.n l)
 (hh : 0 ≤ s.h ∧ s.h ≤ 1000000) (hn : 0 < s.n ∧ s.n ≤ 1000000) (hr : v.rd ≤ 1000000) (h1 : s.takes l v = false → K (.bool false) σ) (h2 : s.takes l v = true → K (.bool true) (upd σ m (.map ((l ++ [v]).map eV)))) : x.call c_ballot_Ballot_put [.ptr b 0, .agg v.vv] σ K := by
 refine hx.call hf fun y hy => ?_
 rw [f_ballot_Ballot_put]
 unfold r_ballot_Ballot_put
 refine vBox_agg rfl fun i hi => ?_
 have le1 : Hle σ (upd σ i (.row v.vv 64)) := .upd_new hi
 have ri : upd σ i (.row v.vv 64) i = some (.row v.vv 64) := upd_same
 have him : m ≠ i := fun e => by have := a.map; rw [e, hi] at this; cases this
 generalize hσ1 : upd σ i (.row v.vv 64) = σ1 at le1 ri
 have a1 := a.le le1
 have hb1 := le1 _ _ hb
 have l0 : ∀ {K : KV}, vLd (.ptr i 0) σ1 K = K (.int .i64 v.fr) σ1 := vLd_p ri
 have l1 : ∀ {K : KV}, vLd (.ptr i 1) σ1 K = K (.int .i64 v.rd) σ1 := vLd_p ri
 have l2 : ∀ {K : KV}, vLd (.ptr i 2) σ1 K = K (.int .u8 (.ofNat v.kd)) σ1 := vLd_p ri
 simp only [vFld_p, Nat.zero_add, l2, vBinI_eql, shutP_eq]
 -- where nothing is in the way
 have rest : (decide (v.kd = 2) && (decide (v.rd < 0) || !decide (v.fr = s.pro v.rd))) = false → (vNil PP (.ptr b 0) fun v30 => vFld 15 v30 fun v31 => vLd v31 σ1 fun v32 σ => vLdN 5 (.ptr i 0) σ fun v33 σ => y.call c_tally_Tally_Put [v32, v33] σ fun v34 σ => vRet v34 σ K) := by
  intro hc
  rw [vNil_p, vFld_p]
  refine vLd_one hb1 rfl ?_
  refine vLdN_all ri (by rfl) ?_
  refine put_s hM hf2 hf3 hy a1 (fun e => ?_) (fun e => ?_)
  · exact vRet_drop le1 (h1 (by unfold Bs.takes; rw [hc, e]; rfl))
  · exact vRet_drop le1.upd (h2 (by unfold Bs.takes; rw [hc, e]; rfl))
 have stop : (decide (v.kd = 2) && (decide (v.rd < 0) || !decide (v.fr = s.pro v.rd))) = true → vRet (.bool false) σ1 K := fun e => vRet_drop le1 (h1 (by unfold Bs.takes; rw [e]; rfl))
 by_cases k2 : v.kd = 2
 · simp only [show decide (Int.ofNat v.kd = Int.ofNat 2) = true from decide_eq_true (by rw [k2]), vGuard_t, l1, vBinI_lss]
   by_cases k3 : v.rd < 0
   · simp only [show decide (v.rd < Int.ofNat 0) = true from decide_eq_true k3, vGuard_ft, vGuardC_ft, vGuardC_t, l1, l2, vPick_b, if_true, vIf_b]
     refine vSame_to rfl (vSame_to rfl ?_)
     exact stop (by simp [k2, k3])
   · simp only [show decide (v.rd < Int.ofNat 0) = false from decide_eq_false k3, vGuard_t, l0, l1]
     refine proposer_s hf1 hy.less hb1 hh ⟨by omega, hr⟩ hn ?_
     simp only [vGuardC_t, l0, l1, l2, vBinI_neq, vPick_b, if_true, if_false, Bool.false_eq_true, vIf_b]
     refine vSame_to rfl (vSame_to rfl (vSame_to rfl ?_))
     by_cases k4 : v.fr = s.pro v.rd
     · have : decide (v.fr = 1 + (s.h + v.rd) % s.n) = true := decide_eq_true k4
       rw [this, if_neg (by simp)]
       exact rest (by simp [k3, k4])
     · have : decide (v.fr = 1 + (s.h + v.rd) % s.n) = false := decide_eq_false k4
       rw [this, if_pos (by simp)]
       exact stop (by simp [k2, k4])
 · simp only [show decide (Int.ofNat v.kd = Int.ofNat 2) = false from decide_eq_false (fun e => k2 (Int.ofNat.inj e)), vGuard_tf, vGuard_u, vGuardC_tf, vGuardC_u, l2, vPick_b, if_false, Bool.false_eq_true, vIf_b]
   refine vSame_to rfl ?_
   exact rest (by simp [k2])
end Go.Am
