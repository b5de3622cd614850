/- Ranging over a map, its entries as they lie: the laws at the operations, plain and within a fence. -/
import Derived.Maps.RangeWalk
import Derived.Sort.MapsRangeIn
import GoSem.Core.World
import Derived.Shelf.SlSortCmp.NoneTotal
import Derived.Shelf.SlicesG.Cmp
import Derived.Test.YtkdenfhambbebaaGreatDoorChecked
import Derived.WalkKit
import Derived.OwnWalk
import Derived.Shelf.Abstract
import Derived.RangeFuncNested
import Derived.RangeFuncBound
import Derived.RangeFuncCalls
import Derived.RangeFuncLeaves
import Derived.Shelf.RegionOpen
import Derived.OwnWalkIn
import Derived.TacticsInMore
import Derived.LoopNIn
import Derived.LoopIn
import Derived.Maps.AppendAt
import Derived.RegionCalls
import Derived.StillTailTactics
import Derived.Sort.Grow

namespace Go.Rm
open Go.ChangeMaps (setBlock)
open Go Go.ChangeMaps Go.MapKept

/-- entries whose stamps are unlike, and older than the clock -/
structure Stamps (es : Array MapEntry) (clock : Nat) : Prop where
  old : ∀ x ∈ es.toList, x.born < clock
  nodup : (es.toList.map (·.born)).Nodup

/-- block r goes over the map of block b: these entries have come, those are to come -/
def Rng (w : World) (b r : Nat) (es : Array MapEntry) (clock : Nat) (done todo : List MapEntry) : Prop :=
  w.heap[b]? = some (.map es clock) ∧ Stamps es clock ∧
  (∃ seen c0, w.heap[r]? = some (.mapIter (some b) clock seen c0) ∧ clock ≤ c0 ∧ todo = (leftOf es seen).toList) ∧ (done ++ todo).Perm es.toList

variable {P : Program} {w : World} {b r : Nat} {es : Array MapEntry} {clock : Nat} {done todo : List MapEntry}

theorem Rng.ne (h : Rng w b r es clock done todo) : r ≠ b := by
  obtain ⟨hb, _, ⟨seen, c0, hr, _⟩, _⟩ := h
  intro e
  rw [e, hb] at hr
  cases hr
theorem Rng.lt (h : Rng w b r es clock done todo) : r < w.heap.size := by
  obtain ⟨hb, _, ⟨seen, c0, hr, _⟩, _⟩ := h
  exact (Array.getElem?_eq_some_iff.1 hr).1
theorem Rng.lt_map (h : Rng w b r es clock done todo) : b < w.heap.size := (Array.getElem?_eq_some_iff.1 h.1).1
theorem Rng.left_eq (h : Rng w b r es clock done todo) : w.rangeLeft b r = todo.length := by
  obtain ⟨hb, _, ⟨seen, c0, hr, _, ht⟩, _⟩ := h
  simp only [World.rangeLeft, hb, hr, ht]
  simp
/-- other blocks turn, new ones come -/
theorem Rng.of_blocks {w' : World} (h : Rng w b r es clock done todo) (hb' : w'.heap[b]? = w.heap[b]?) (hr' : w'.heap[r]? = w.heap[r]?) : Rng w' b r es clock done todo := by
  obtain ⟨hb, hs, ⟨seen, c0, hr, hc, ht⟩, hp⟩ := h
  exact ⟨hb'.trans hb, hs, ⟨seen, c0, hr'.trans hr, hc, ht⟩, hp⟩
theorem Rng.kept {w' : World} {row : Option Nat} (h : Rng w b r es clock done todo) (hg : w.grownBy w' row) (hb' : some b ≠ row) (hr' : some r ≠ row) : Rng w' b r es clock done todo :=
  h.of_blocks (hg.block b h.lt_map hb') (hg.block r h.lt hr')

theorem heap_alloc_old (w : World) (o : Obj) {i : Nat} (h : i < w.heap.size) : (w.alloc o).heap[i]? = w.heap[i]? := (MapKept.heap_alloc w o).2 i h

/-- it begins -/
theorem Rng.start (hb : w.heap[b]? = some (.map es clock)) (hs : Stamps es clock) : Rng (w.alloc (.mapIter (some b) clock #[] clock)) b w.heap.size es clock [] es.toList := by
  have hlt := (Array.getElem?_eq_some_iff.1 hb).1
  refine ⟨((MapKept.heap_alloc w _).2 b hlt).trans hb, hs, ⟨#[], clock, (MapKept.heap_alloc w _).1, Nat.le_refl _, ?_⟩, by simp⟩
  unfold leftOf
  rw [Array.toList_filter, List.filter_eq_self.2]
  intro x _
  simp

theorem perm_filter_born {l : List MapEntry} (hn : (l.map (·.born)).Nodup) {e : MapEntry} (he : e ∈ l) : l.Perm (e :: l.filter (fun x => !(x.born == e.born))) := by
  induction l with
  | nil => cases he
  | cons a l ih =>
    simp only [List.map_cons, List.nodup_cons] at hn
    by_cases hae : a = e
    · subst hae
      simp only [List.filter_cons, beq_self_eq_true, Bool.not_true, Bool.false_eq_true, if_false]
      rw [List.filter_eq_self.2]
      intro x hx
      have : x.born ≠ a.born := fun h => hn.1 (h ▸ List.mem_map.2 ⟨x, hx, rfl⟩)
      simp [this]
    · have he' : e ∈ l := by
        rcases List.mem_cons.1 he with h | h
        · exact absurd h.symm hae
        · exact h
      have hb : a.born ≠ e.born := fun h => hn.1 (h ▸ List.mem_map.2 ⟨e, he', rfl⟩)
      have : (a :: l).filter (fun x => !(x.born == e.born)) = a :: l.filter (fun x => !(x.born == e.born)) := by
        simp [hb]
      rw [this]
      exact ((ih hn.2 he').cons a).trans (List.Perm.swap e a _)

/-- the step -/
theorem Rng.next (h : Rng w b r es clock done todo) (ty : TypeId) :
    (todo = [] ∧ (Instr.next (.pointer (some ⟨r, 0, none⟩)) false ty).run P w = .ok (.tuple #[.bool false]) w) ∨
    ∃ e todo' w', todo.Perm (e :: todo') ∧ (Instr.next (.pointer (some ⟨r, 0, none⟩)) false ty).run P w = .ok (.tuple #[.bool true, e.key, e.val]) w' ∧
      Rng w' b r es clock (done ++ [e]) todo' ∧ w.grownBy w' (some r) ∧ w'.heap.size = w.heap.size ∧ (Instr.entry (.pointer (some ⟨r, 0, none⟩))).run P w' = .ok (.tuple #[e.key, e.val]) w' := by
  have hne := h.ne
  obtain ⟨hb, hs, ⟨seen, c0, hr, hc, ht⟩, hp⟩ := h
  rcases run_next_at (P := P) w ty r b clock c0 seen es clock hr hb hs.old hc with ⟨h0, hrun⟩ | ⟨e, he, w1, hal, hrun⟩
  · left
    refine ⟨?_, hrun⟩
    rw [ht]
    exact List.eq_nil_of_length_eq_zero (by simpa using h0)
  · right
    have hem : e ∈ es.toList := by
      have := (mem_left he).1
      exact this
    have hr1 : w1.heap[r]? = some (.mapIter (some b) clock seen c0) := by rcases hal with rfl | rfl <;> exact hr
    have hb1 : w1.heap[b]? = some (.map es clock) := by rcases hal with rfl | rfl <;> exact hb
    have hset := heap_set (o' := .mapIter (some b) clock (seen.push e.born) clock) hr1
    have hb' : (setBlock w1 r (.mapIter (some b) clock (seen.push e.born) clock)).heap[b]? = some (.map es clock) := (hset.2 b (fun e1 => hne e1.symm)).trans hb1
    have hnl : ((leftOf es seen).toList.map (·.born)).Nodup := by
      refine hs.nodup.sublist ?_
      refine List.Sublist.map _ ?_
      unfold leftOf
      rw [Array.toList_filter]
      exact List.filter_sublist
    have hpe := perm_filter_born hnl he
    have hleft : (leftOf es (seen.push e.born)).toList = (leftOf es seen).toList.filter (fun x => !(x.born == e.born)) := by
      unfold leftOf
      rw [Array.toList_filter, Array.toList_filter, List.filter_filter]
      congr 1
      funext x
      rw [contains_push]
      cases seen.contains x.born <;> cases (x.born == e.born) <;> rfl
    refine ⟨e, (leftOf es (seen.push e.born)).toList, _, by rw [ht, hleft]; exact hpe, hrun, ⟨hb', hs, ⟨_, clock, hset.1, Nat.le_refl _, rfl⟩, ?_⟩, ?_, ?_, run_entry_at _ r b clock seen es clock e hset.1 hb' hem hs.nodup⟩
    · rw [hleft, List.append_assoc]
      exact ((hpe.symm).append_left done).trans (ht ▸ hp)
    · rcases hal with rfl | rfl <;> exact ⟨rfl, rfl, rfl, by simp [setBlock], fun i _ hi => hset.2 i (fun e1 => hi (by rw [e1]))⟩
    · rcases hal with rfl | rfl <;> simp [setBlock]

section
variable {ops : Array Oper} {rest : List Oper} {o : Oper} {a : Act} {Q : Exit → Act → World → Prop}
theorem wpList_range_raw (hg : o.guard = none) (m : Operand) (t : TypeId) (hop : o.op = Op.range t m) (k e : TypeId) (ht : P.underlying t = some (.map k e))
    (hm : a.eval m = .map (some b)) (hb : w.heap[b]? = some (.map es clock)) (hs : Stamps es clock)
    (hK : ∀ w', w' = w.alloc (.mapIter (some b) clock #[] clock) → Rng w' b w.heap.size es clock [] es.toList → wpList P ops Q rest (a.put o.dst (.pointer (some ⟨w.heap.size, 0, none⟩))) w') :
    wpList P ops Q (o :: rest) a w := by
  refine wpList_plain hg fun K' hK' => ?_
  unfold Oper.wp
  simp [execOp, hop, hm, run_range_map w t k e b es clock ht hb, Result.andThen]
  exact hK' _ _ (hK _ rfl (Rng.start hb hs))
theorem wpList_next_raw (hg : o.guard = none) (it : Operand) (hop : o.op = Op.next it false) (hit : a.eval it = .pointer (some ⟨r, 0, none⟩)) (h : Rng w b r es clock done todo)
    (hDone : todo = [] → wpList P ops Q rest (a.put o.dst (.tuple #[.bool false])) w)
    (hMore : ∀ (e : MapEntry) (todo' : List MapEntry) (w' : World), todo.Perm (e :: todo') → Rng w' b r es clock (done ++ [e]) todo' → w.grownBy w' (some r) → w'.heap.size = w.heap.size →
      (Instr.entry (.pointer (some ⟨r, 0, none⟩))).run P w' = .ok (.tuple #[e.key, e.val]) w' → wpList P ops Q rest (a.put o.dst (.tuple #[.bool true, e.key, e.val])) w') :
    wpList P ops Q (o :: rest) a w := by
  refine wpList_plain hg fun K' hK' => ?_
  unfold Oper.wp
  rcases h.next (P := P) o.type with ⟨h0, hrun⟩ | ⟨e, todo', w', hp, hrun, hrg, hgr, hsz, hen⟩
  · simp [execOp, hop, hit, hrun, Result.andThen]
    exact hK' _ _ (hDone h0)
  · simp [execOp, hop, hit, hrun, Result.andThen]
    exact hK' _ _ (hMore e todo' w' hp hrg hgr hsz hen)
variable {F : Fence} {n : Nat}
theorem wpListIn_range_raw (hg : o.guard = none) (m : Operand) (t : TypeId) (hop : o.op = Op.range t m) (k e : TypeId) (ht : P.underlying t = some (.map k e))
    (hm : a.eval m = .map (some b)) (hb : w.heap[b]? = some (.map es clock)) (hs : Stamps es clock)
    (hK : ∀ w', w' = w.alloc (.mapIter (some b) clock #[] clock) → Rng w' b w.heap.size es clock [] es.toList → wpListIn F n P ops Q rest (a.put o.dst (.pointer (some ⟨w.heap.size, 0, none⟩))) w') :
    wpListIn F n P ops Q (o :: rest) a w := by
  refine wpListIn_plain hg fun K' hK' => ?_
  unfold Oper.wpIn
  refine ⟨by simp [Oper.about, hop], ?_⟩
  rw [Oper.semAt_plain F _ _ (by rw [hop]; intro c hc'; cases hc')]
  simp [execOp, hop, hm, run_range_map w t k e b es clock ht hb, Result.andThen]
  exact hK' _ _ (hK _ rfl (Rng.start hb hs))
theorem wpListIn_next_raw (hg : o.guard = none) (it : Operand) (hop : o.op = Op.next it false) (hit : a.eval it = .pointer (some ⟨r, 0, none⟩)) (h : Rng w b r es clock done todo)
    (hDone : todo = [] → wpListIn F n P ops Q rest (a.put o.dst (.tuple #[.bool false])) w)
    (hMore : ∀ (e : MapEntry) (todo' : List MapEntry) (w' : World), todo.Perm (e :: todo') → Rng w' b r es clock (done ++ [e]) todo' → w.grownBy w' (some r) → w'.heap.size = w.heap.size →
      (Instr.entry (.pointer (some ⟨r, 0, none⟩))).run P w' = .ok (.tuple #[e.key, e.val]) w' → wpListIn F n P ops Q rest (a.put o.dst (.tuple #[.bool true, e.key, e.val])) w') :
    wpListIn F n P ops Q (o :: rest) a w := by
  refine wpListIn_plain hg fun K' hK' => ?_
  unfold Oper.wpIn
  refine ⟨by simp [Oper.about, hop], ?_⟩
  rw [Oper.semAt_plain F _ _ (by rw [hop]; intro c hc'; cases hc')]
  rcases h.next (P := P) o.type with ⟨h0, hrun⟩ | ⟨e, todo', w', hp, hrun, hrg, hgr, hsz, hen⟩
  · simp [execOp, hop, hit, hrun, Result.andThen]
    exact hK' _ _ (hDone h0)
  · simp [execOp, hop, hit, hrun, Result.andThen]
    exact hK' _ _ (hMore e todo' w' hp hrg hgr hsz hen)
end
end Go.Rm

namespace Go.Proofs.Tly
open Go

structure Vt where
  fr : Int
  rd : Int
  kd : Int
  va : Int
  tx : ByteArray
  deriving Inhabited
def encV (v : Vt) : Value := .agg #[.int .i64 v.fr, .int .i64 v.rd, .int .u8 v.kd, .int .i64 v.va, .string v.tx]
def encK (v : Vt) : Value := .agg #[.int .i64 v.rd, .int .i64 v.fr, .int .u8 v.kd]
def dec : Value → Vt
  | .agg ⟨[.int _ a, .int _ b, .int _ c, .int _ d, .string s]⟩ => ⟨a, b, c, d, s⟩
  | _ => default
theorem dec_enc (v : Vt) : dec (encV v) = v := rfl
def dv (e : MapEntry) : Vt := dec e.val

/-- how many of these votes, of which p holds, are from f -/
def cnt (p : Vt → Bool) (l : List Vt) (f : Nat) : Nat := (l.filter fun v => p v && v.fr == (f : Int)).length
/-- how many members sent such a one -/
def mem (p : Vt → Bool) (n : Nat) (l : List Vt) : Nat := ((List.range (n + 1)).filter fun f => cnt p l f != 0).length

theorem cnt_perm {p : Vt → Bool} {l m : List Vt} (h : l.Perm m) (f : Nat) : cnt p l f = cnt p m f := (h.filter _).length_eq
theorem mem_perm {p : Vt → Bool} {l m : List Vt} (h : l.Perm m) (n : Nat) : mem p n l = mem p n m := by
  unfold mem; congr 2; funext f; rw [cnt_perm h]
theorem cnt_le (p : Vt → Bool) (l : List Vt) (f : Nat) : cnt p l f ≤ l.length := List.length_filter_le _ _
theorem mem_le (p : Vt → Bool) (n : Nat) (l : List Vt) : mem p n l ≤ n + 1 := by
  unfold mem; have := List.length_filter_le (fun f => cnt p l f != 0) (List.range (n + 1)); simpa using this
theorem cnt_nil (p : Vt → Bool) (f : Nat) : cnt p [] f = 0 := rfl
theorem mem_nil (p : Vt → Bool) (n : Nat) : mem p n [] = 0 := by
  unfold mem; simp [cnt_nil]
theorem cnt_no {p : Vt → Bool} {v : Vt} (h : p v = false) (l : List Vt) (f : Nat) : cnt p (l ++ [v]) f = cnt p l f := by
  unfold cnt; simp [List.filter_append, h]
theorem mem_no {p : Vt → Bool} {v : Vt} (h : p v = false) (n : Nat) (l : List Vt) : mem p n (l ++ [v]) = mem p n l := by
  unfold mem; congr 2; funext f; rw [cnt_no h]
theorem cnt_same {p : Vt → Bool} {v : Vt} (h : p v = true) {f : Nat} (hf : v.fr = (f : Int)) (l : List Vt) : cnt p (l ++ [v]) f = cnt p l f + 1 := by
  unfold cnt; simp [List.filter_append, h, hf]
theorem cnt_other {p : Vt → Bool} {v : Vt} {f g : Nat} (hf : v.fr = (f : Int)) (hg : g ≠ f) (l : List Vt) : cnt p (l ++ [v]) g = cnt p l g := by
  unfold cnt
  have : ((f : Int) == (g : Int)) = false := by simp; omega
  simp [List.filter_append, hf, this]
theorem filter_one_more {L : List Nat} (hn : L.Nodup) {f : Nat} (hf : f ∈ L) {q q' : Nat → Bool} (hq : q f = false) (hq' : q' f = true) (ho : ∀ x, x ≠ f → q' x = q x) : (L.filter q').length = (L.filter q).length + 1 := by
  induction L with
  | nil => cases hf
  | cons a L ih =>
    simp only [List.nodup_cons] at hn
    by_cases ha : a = f
    · subst ha
      have : L.filter q' = L.filter q := List.filter_congr fun x hx => ho x (fun e => hn.1 (e ▸ hx))
      simp [hq, hq', this]
    · have hf' : f ∈ L := by
        rcases List.mem_cons.1 hf with h | h
        · exact absurd h.symm ha
        · exact h
      simp only [List.filter_cons, ho a ha]
      cases q a <;> simp [ih hn.2 hf']
theorem mem_new {p : Vt → Bool} {v : Vt} (h : p v = true) {n f : Nat} (hf : v.fr = (f : Int)) (hn : f ≤ n) {l : List Vt} (h0 : cnt p l f = 0) : mem p n (l ++ [v]) = mem p n l + 1 := by
  unfold mem
  refine filter_one_more (List.nodup_range) (f := f) (by simp; omega) (by simp [h0]) (by simp [cnt_same h hf]) fun x hx => by rw [cnt_other hf hx]
theorem mem_old {p : Vt → Bool} {v : Vt} {n f : Nat} (hf : v.fr = (f : Int)) {l : List Vt} (h0 : cnt p l f ≠ 0) : mem p n (l ++ [v]) = mem p n l := by
  unfold mem; congr 2; funext x
  by_cases hx : x = f
  · subst hx
    cases hp : p v with
    | true => rw [cnt_same hp hf]; simp [h0]
    | false => rw [cnt_no hp]
  · rw [cnt_other hf hx]
end Go.Proofs.Tly

namespace Go.Proofs
open Go.Shelf
def Tryz.cmpInt_ren : Go.Shelf.Ren := ⟨fun | 5 => 111 | 7 => 145 | n => n, fun | 22 => 3 | 3 => 3 | 4 => 4 | n => n, fun | n => n⟩
theorem Tryz.cmpInt : Go.Proofs.SlLaysC2.n5 Tryz.prog Tryz.cmpInt_ren := {
  mixed := by kernel_rfl
  f5 := ⟨Tryz.f111.name, by decide, Tryz.func111.trans (congrArg some (by kernel_rfl))⟩
  f7 := ⟨Tryz.f145.name, by decide, Tryz.func145.trans (congrArg some (by kernel_rfl))⟩
  t3 := Tryz.underlying3
  a3 := Tryz.isAgg3
  z3 := Tryz.sizeOf3
  v3 := Tryz.zeroValue3
  t4 := Tryz.underlying4
  a4 := Tryz.isAgg4
  z4 := Tryz.sizeOf4
  v4 := Tryz.zeroValue4
  t22 := Tryz.underlying3
  a22 := Tryz.isAgg3
  z22 := Tryz.sizeOf3
  v22 := Tryz.zeroValue3 }
def Tryz.sortV_ren : Go.Shelf.Ren := ⟨fun | 6 => 143 | 15 => 68 | 14 => 174 | 28 => 122 | 29 => 123 | 20 => 182 | 21 => 183 | 22 => 184 | 23 => 185 | 24 => 186 | 25 => 187 | 26 => 188 | 27 => 189 | 46 => 193 | 47 => 148 | 48 => 149 | 49 => 194 | 50 => 195 | 57 => 196 | n => n, fun | 22 => 46 | 24 => 85 | 25 => 148 | 3 => 3 | 39 => 114 | 0 => 0 | 53 => 159 | 55 => 53 | 4 => 4 | 46 => 151 | 45 => 150 | 50 => 156 | 5 => 5 | 9 => 9 | 66 => 181 | 70 => 185 | 76 => 204 | 77 => 205 | n => n, fun | n => n⟩
theorem Tryz.sortV : Go.Proofs.SlLaysF0.n6 Tryz.prog Tryz.sortV_ren := {
  mixed := by kernel_rfl
  f6 := ⟨Tryz.f143.name, by decide, Tryz.func143.trans (congrArg some (by kernel_rfl))⟩
  f14 := ⟨Tryz.f174.name, by decide, Tryz.func174.trans (congrArg some (by kernel_rfl))⟩
  f15 := Tryz.func68.trans (congrArg some (by kernel_rfl))
  f20 := ⟨Tryz.f182.name, by decide, Tryz.func182.trans (congrArg some (by kernel_rfl))⟩
  f21 := ⟨Tryz.f183.name, by decide, Tryz.func183.trans (congrArg some (by kernel_rfl))⟩
  f22 := ⟨Tryz.f184.name, by decide, Tryz.func184.trans (congrArg some (by kernel_rfl))⟩
  f23 := ⟨Tryz.f185.name, by decide, Tryz.func185.trans (congrArg some (by kernel_rfl))⟩
  f24 := ⟨Tryz.f186.name, by decide, Tryz.func186.trans (congrArg some (by kernel_rfl))⟩
  f25 := ⟨Tryz.f187.name, by decide, Tryz.func187.trans (congrArg some (by kernel_rfl))⟩
  f26 := ⟨Tryz.f188.name, by decide, Tryz.func188.trans (congrArg some (by kernel_rfl))⟩
  f27 := ⟨Tryz.f189.name, by decide, Tryz.func189.trans (congrArg some (by kernel_rfl))⟩
  f28 := Tryz.func122.trans (congrArg some (by kernel_rfl))
  f29 := Tryz.func123.trans (congrArg some (by kernel_rfl))
  f46 := ⟨Tryz.f193.name, by decide, Tryz.func193.trans (congrArg some (by kernel_rfl))⟩
  f47 := Tryz.func148.trans (congrArg some (by kernel_rfl))
  f48 := Tryz.func149.trans (congrArg some (by kernel_rfl))
  f49 := ⟨Tryz.f194.name, by decide, Tryz.func194.trans (congrArg some (by kernel_rfl))⟩
  f50 := ⟨Tryz.f195.name, by decide, Tryz.func195.trans (congrArg some (by kernel_rfl))⟩
  f57 := ⟨Tryz.f196.name, by decide, Tryz.func196.trans (congrArg some (by kernel_rfl))⟩
  t0 := Tryz.underlying0
  a0 := Tryz.isAgg0
  z0 := Tryz.sizeOf0
  v0 := Tryz.zeroValue0
  t3 := Tryz.underlying3
  a3 := Tryz.isAgg3
  z3 := Tryz.sizeOf3
  v3 := Tryz.zeroValue3
  t4 := Tryz.underlying4
  a4 := Tryz.isAgg4
  z4 := Tryz.sizeOf4
  v4 := Tryz.zeroValue4
  t5 := Tryz.underlying5
  a5 := Tryz.isAgg5
  z5 := Tryz.sizeOf5
  v5 := Tryz.zeroValue5
  t9 := Tryz.underlying9
  a9 := Tryz.isAgg9
  z9 := Tryz.sizeOf9
  v9 := Tryz.zeroValue9
  t22 := Tryz.underlying46
  a22 := Tryz.isAgg46
  z22 := Tryz.sizeOf46
  v22 := Tryz.zeroValue46
  t25 := Tryz.underlying148
  a25 := Tryz.isAgg148
  z25 := Tryz.sizeOf148
  v25 := Tryz.zeroValue148
  t39 := Tryz.underlying114
  a39 := Tryz.isAgg114
  z39 := Tryz.sizeOf114
  v39 := Tryz.zeroValue114
  t45 := Tryz.underlying150
  a45 := Tryz.isAgg150
  z45 := Tryz.sizeOf150
  v45 := Tryz.zeroValue150
  t46 := Tryz.underlying151
  a46 := Tryz.isAgg151
  z46 := Tryz.sizeOf151
  v46 := Tryz.zeroValue151
  t50 := Tryz.underlying156
  a50 := Tryz.isAgg156
  z50 := Tryz.sizeOf156
  v50 := Tryz.zeroValue156
  t53 := Tryz.underlying159
  a53 := Tryz.isAgg159
  z53 := Tryz.sizeOf159
  v53 := Tryz.zeroValue159
  t55 := Tryz.underlying53
  a55 := Tryz.isAgg53
  z55 := Tryz.sizeOf53
  v55 := Tryz.zeroValue53
  t66 := Tryz.underlying181
  a66 := Tryz.isAgg181
  z66 := Tryz.sizeOf181
  v66 := Tryz.zeroValue181
  t70 := Tryz.underlying185
  a70 := Tryz.isAgg185
  z70 := Tryz.sizeOf185
  v70 := Tryz.zeroValue185
  t76 := Tryz.underlying204
  a76 := Tryz.isAgg204
  z76 := Tryz.sizeOf204
  v76 := Tryz.zeroValue204
  t77 := Tryz.underlying205
  a77 := Tryz.isAgg205
  z77 := Tryz.sizeOf205
  v77 := Tryz.zeroValue205 }
end Go.Proofs

namespace Go.Proofs.Tly
open Go Go.RowKit Go.Rm Go.Proofs

theorem cell_al {W : World} {a : Addr} {v : Value} (o : Obj) (h : W.cell? a = some v) : (W.alloc o).cell? a = some v := by
  have hb : a.block < W.heap.size := by
    unfold World.cell? at h
    cases hx : W.heap[a.block]? with
    | none => rw [hx] at h; simp at h
    | some _ => exact (Array.getElem?_eq_some_iff.1 hx).1
  rw [World.cell?_alloc_lt W o a hb]; exact h
theorem ret_bool {a b : Bool} (h : a = b) : Ending.returned (.bool a) = .returned (.bool b) := by rw [h]

set_option maxHeartbeats 400000 in
theorem sent1 (v : Vt) (rd : Int) (br : Nat) (w : World) (hr : w.cell? ⟨br, 0, none⟩ = some (.int .i64 rd)) :
    Calls Tryz.prog 171 #[encV v, .pointer (some ⟨br, 0, none⟩)] w fun e w' => e = .returned (.bool (v.rd == rd)) ∧ w' = w.alloc (.cells #[.int .i64 v.fr, .int .i64 v.rd, .int .u8 v.kd, .int .i64 v.va, .string v.tx] 85) := by
  unfold encV
  have hr1 : ∀ o, (w.alloc o).cell? ⟨br, 0, none⟩ = some (.int .i64 rd) := fun o => cell_al o hr
  go_enter Tryz.func171, Tryz.ntmps171
  go_wp2
  go_ret
  exact ⟨rfl, rfl⟩
set_option maxHeartbeats 400000 in
theorem all1 (v : Vt) (rd kd : Int) (br bk : Nat) (w : World) (hr : w.cell? ⟨br, 0, none⟩ = some (.int .i64 rd)) (hk : w.cell? ⟨bk, 0, none⟩ = some (.int .u8 kd)) :
    Calls Tryz.prog 141 #[encV v, .pointer (some ⟨br, 0, none⟩), .pointer (some ⟨bk, 0, none⟩)] w fun e w' => e = .returned (.bool (v.rd == rd && v.kd == kd)) ∧ w' = w.alloc (.cells #[.int .i64 v.fr, .int .i64 v.rd, .int .u8 v.kd, .int .i64 v.va, .string v.tx] 85) := by
  unfold encV
  have hr1 : ∀ o, (w.alloc o).cell? ⟨br, 0, none⟩ = some (.int .i64 rd) := fun o => cell_al o hr
  have hk1 : ∀ o, (w.alloc o).cell? ⟨bk, 0, none⟩ = some (.int .u8 kd) := fun o => cell_al o hk
  go_enter Tryz.func141, Tryz.ntmps141
  go_wp2
  all_goals
    go_ret
    refine ⟨ret_bool ?_, by simp_all⟩
    simp_all
set_option maxHeartbeats 1000000 in
theorem count1 (v : Vt) (rd kd : Int) (tx : ByteArray) (br bk bt : Nat) (w : World) (hr : w.cell? ⟨br, 0, none⟩ = some (.int .i64 rd)) (hk : w.cell? ⟨bk, 0, none⟩ = some (.int .u8 kd)) (ht : w.cell? ⟨bt, 0, none⟩ = some (.string tx)) :
    Calls Tryz.prog 181 #[encV v, .pointer (some ⟨br, 0, none⟩), .pointer (some ⟨bk, 0, none⟩), .pointer (some ⟨bt, 0, none⟩)] w fun e w' => e = .returned (.bool (v.rd == rd && v.kd == kd && v.tx.toList == tx.toList)) ∧ w' = w.alloc (.cells #[.int .i64 v.fr, .int .i64 v.rd, .int .u8 v.kd, .int .i64 v.va, .string v.tx] 85) := by
  unfold encV
  have hr1 : ∀ o, (w.alloc o).cell? ⟨br, 0, none⟩ = some (.int .i64 rd) := fun o => cell_al o hr
  have hk1 : ∀ o, (w.alloc o).cell? ⟨bk, 0, none⟩ = some (.int .u8 kd) := fun o => cell_al o hk
  have ht1 : ∀ o, (w.alloc o).cell? ⟨bt, 0, none⟩ = some (.string tx) := fun o => cell_al o ht
  go_enter Tryz.func181, Tryz.ntmps181
  go_wp2
  all_goals
    go_ret
    refine ⟨ret_bool ?_, by simp_all⟩
    simp_all
end Go.Proofs.Tly

namespace Go.Proofs.Tly
open Go Go.RowKit Go.Rm Go.Proofs

theorem ret_int {a b : Int} (h : a = b) : Ending.returned (.int .i64 a) = .returned (.int .i64 b) := by rw [h]
theorem made_zero (k : Nat) : (madeCells (Value.int .i64 0).cells (k * 1)).toList = List.replicate k (Value.int .i64 0) := by
  apply List.ext_getElem
  · simp [madeCells]
  · intro i h1 h2
    simp [madeCells, Value.cells, Nat.mod_one]
theorem hid {p : Prop} (h : p) : RowKit.Hid p := h
def Had (w : World) (bh n : Nat) (p : Vt → Bool) (l : List Vt) : Prop := ∀ f, f ≤ n → w.cell? ⟨bh, f, none⟩ = some (.int .i64 (cnt p l f : Int)) ∧ w.frozen? ⟨bh, f, none⟩ = false
theorem cell_lt {W : World} {a : Addr} {v : Value} (h : W.cell? a = some v) : a.block < W.heap.size := by
  unfold World.cell? at h
  cases hx : W.heap[a.block]? with
  | none => rw [hx] at h; simp at h
  | some _ => exact (Array.getElem?_eq_some_iff.1 hx).1
theorem cell_blk {W W' : World} {a : Addr} (h : W'.heap[a.block]? = W.heap[a.block]?) : W'.cell? a = W.cell? a ∧ W'.frozen? a = W.frozen? a := by
  unfold World.cell? World.frozen?; rw [h]; exact ⟨rfl, rfl⟩
theorem cell_gb {W W' : World} {a : Addr} {v : Value} {row : Option Nat} (h : W.cell? a = some v) (hg : W.grownBy W' row) (hr : some a.block ≠ row) : W'.cell? a = some v :=
  (cell_blk (hg.block _ (cell_lt h) hr)).1.trans h
theorem blk_gb {W W' : World} {b : Nat} {o : Obj} {row : Option Nat} (h : W.heap[b]? = some o) (hg : W.grownBy W' row) (hr : some b ≠ row) : W'.heap[b]? = some o :=
  (hg.block _ (Array.getElem?_eq_some_iff.1 h).1 hr).trans h
theorem cell_below {W W' : World} {n : Nat} {a : Addr} {v : Value} (h : W.cell? a = some v) (hb : Below n W W') (hn : a.block < n) : W'.cell? a = some v := (hb.cell hn).trans h

theorem info3 : (Tryz.prog.info? 3).map (fun i => (i.zero, i.size, i.bytes)) = some (some (.int .i64 0), 1, 8) := by kernel_rfl
set_option maxRecDepth 100000 in
set_option maxHeartbeats 1000000 in
theorem members_any (g : FuncId) (cb : Array Value) (p : Vt → Bool) (bt ot bm n : Nat) (es : Array MapEntry) (clock : Nat) (w : World) (hn : n ≤ 1000000) (hsz : es.size ≤ 1000000)
    (h0 : w.cell? ⟨bt, ot, none⟩ = some (.int .i64 (n : Int))) (h1 : w.cell? ⟨bt, ot + 1, none⟩ = some (.map (some bm))) (hb : w.heap[bm]? = some (.map es clock)) (hs : Stamps es clock)
    (hv : ∀ e ∈ es.toList, e.val = encV (dv e) ∧ ∃ f : Nat, (dv e).fr = (f : Int) ∧ f ≤ n)
    (eg : ∀ args w, (callFunc g args).run Tryz.prog w = .ok (.enter g args) w)
    (hg : ∀ (W : World) (v : Vt), Below w.heap.size w W → Calls Tryz.prog g (#[encV v] ++ cb) W fun e W' => e = .returned (.bool (p v)) ∧ Below W.heap.size W W') :
    Calls Tryz.prog 140 #[.pointer (some ⟨bt, ot, none⟩), .func (.func g) #[] cb] w fun e w' => e = .returned (.int .i64 (mem p n (es.toList.map dv) : Int)) ∧ Below w.heap.size w w' := by
  obtain ⟨i0, hi, hz0, hz1, hz2⟩ := info_parts info3
  go_enter Tryz.func140, Tryz.ntmps140
  go_wp2_with (first
    | (at_make; refine wpList_make_full _ rfl _ _ 33 rfl w.heap.size 3 i0 (.int .i64 0) 1 Tryz.underlying33 hi hz0 hz1 .i64 .i64 _ _ (n + 1) rfl rfl (by push_cast; rfl) (by push_cast; rfl) (by rw [hz2]; omega) (by unfold maxLen; omega) (Nat.le_refl _) ?_; intro w1 hown hgr; have hc1 := cell_gb h1 hgr (by simp); have hb1 := blk_gb hb hgr (by simp))
    | (at_range; refine wpList_range_raw rfl _ 140 rfl 142 85 Tryz.underlying140 rfl hb1 hs ?_; intro w2 hw2 hrg)
    | go_in)
  go_frame
  have hlt1 : w.heap.size < w1.heap.size := (hown.lt w.heap.size rfl).2
  have hbt := cell_lt h0
  have hbm := (Array.getElem?_eq_some_iff.1 hb).1
  simp only at hbt
  have hHad : Had w2 w.heap.size n p [] := by
    obtain ⟨_, h | ⟨gg, cap, cur, he, _, hcur, _, _, hcs, htk⟩⟩ := hown
    · cases h.1
    · injection he with he1 he2 he3
      injection he1 with he1
      injection he1 with he1
      subst he1
      have hz : cur.toList = List.replicate (n + 1) (Value.int .i64 0) := by
        have h1 : cur.toList.take ((n + 1) * 1) = cur.toList := List.take_of_length_le (by simp [hcs, ← he3])
        rw [← h1, htk]
        exact made_zero _
      have hblk : w2.heap[w.heap.size]? = some (.cells cur 3 (0, 0)) := by rw [hw2, Below.heap_alloc _ _ _ hlt1]; exact hcur
      intro f hf
      have hcf : cur[f]? = some (.int .i64 0) := by
        rw [← Array.getElem?_toList, hz, List.getElem?_replicate, if_pos (by omega)]
      constructor
      · unfold World.cell?; simp only [hblk]; simpa [cnt_nil] using hcf
      · unfold World.frozen?; simp only [hblk]; simp
  have hB2 : Below w.heap.size w w2 := by
    rw [hw2]
    exact ((Below.refl _ _).grown hgr (Nat.le_refl _) (fun k e => by cases e)).alloc (by omega) _
  go_loopw [6] (fun x wr => ∃ (done todo : List MapEntry), Rng wr bm w1.heap.size es clock done todo ∧ x = .int .i64 (mem p n (done.map dv) : Int) ∧ Had wr w.heap.size n p (done.map dv) ∧ Below w.heap.size w wr ∧ w1.heap.size < wr.heap.size)
    (fun _ wr => wr.rangeLeft bm w1.heap.size)
  case atStart => exact ⟨[], es.toList, hrg, by simp [mem_nil], hHad, hB2, by rw [hw2]; simp⟩
  case round =>
    obtain ⟨done, todo, hrg, rfl, hH, hB, hws⟩ := hrel
    go_wp2_with (first
      | (at_next; refine wpList_next_raw rfl _ rfl rfl hrg ?_ ?_)
      | go_in)
    · intro h0
      subst h0
      have hm : mem p n (done.map dv) = mem p n (es.toList.map dv) := mem_perm (by simpa using hrg.2.2.2.map dv) n
      go_wp2
      go_ret
      exact ⟨ret_int (by rw [hm]), hB⟩
    · rintro ⟨k0, x0, b0⟩ todo' w3 hp hrg3 hg3 hs3 hen
      obtain ⟨hx, f, hf, hfn⟩ := hv ⟨k0, x0, b0⟩ ((hrg.2.2.2).subset (List.mem_append_right _ (hp.symm.subset List.mem_cons_self)))
      obtain ⟨v, hvd, hx⟩ : ∃ v, dv ⟨k0, x0, b0⟩ = v ∧ x0 = encV v := ⟨_, rfl, hx⟩
      subst hx
      rw [hvd] at hf
      have hgv := hg (w3.alloc (.cells #[.int .i64 v.fr, .int .i64 v.rd, .int .u8 v.kd, .int .i64 v.va, .string v.tx] 85)) v (((hB.grown hg3 (by omega) (fun k e => by cases e; omega))).alloc (by omega) _)
      dsimp only [encV] at hen hgv ⊢
      rw [hf] at hen hgv ⊢
      have hcl := cnt_le p (done.map dv) f
      have hml := mem_le p n (done.map dv)
      have hdl : done.length ≤ es.size := by
        have := hrg.2.2.2.length_eq
        simp at this
        omega
      simp only [List.length_map] at hcl
      have hcl2 : cnt p (done.map dv) f ≤ 1000000 := by omega
      have hml2 : mem p n (done.map dv) ≤ 1000001 := by omega
      clear hcl hml hdl
      have hbm1 : bm < w1.heap.size := by omega
      have hH3 : ∀ W4, Below (w3.alloc (.cells #[.int .i64 v.fr, .int .i64 v.rd, .int .u8 v.kd, .int .i64 v.va, .string v.tx] 85)).heap.size (w3.alloc (.cells #[.int .i64 v.fr, .int .i64 v.rd, .int .u8 v.kd, .int .i64 v.va, .string v.tx] 85)) W4 → Rng W4 bm w1.heap.size es clock (done ++ [⟨k0, encV v, b0⟩]) todo' ∧ Had W4 w.heap.size n p (done.map dv) ∧ Below w.heap.size w W4 ∧ wr.heap.size < W4.heap.size ∧ W4.cell? ⟨wr.heap.size, 0, none⟩ = some (.int .i64 v.fr) := by
        intro W4 hb4
        have hsz4 := hb4.size
        simp only [World.size_alloc] at hsz4
        have hblk : ∀ j, j < wr.heap.size → j ≠ w1.heap.size → W4.heap[j]? = wr.heap[j]? := fun j hj hne => by
          rw [hb4.block j (by simp; omega), Below.heap_alloc _ _ _ (by omega)]
          exact hg3.block j hj (by simpa using hne)
        refine ⟨hrg3.of_blocks ?_ ?_, fun g hg => ?_, ?_, by omega, ?_⟩
        · rw [hb4.block bm (by simp; omega), Below.heap_alloc _ _ _ (by omega)]
        · rw [hb4.block w1.heap.size (by simp; omega), Below.heap_alloc _ _ _ (by omega)]
        · obtain ⟨q1, q2⟩ := cell_blk (W := wr) (W' := W4) (a := ⟨w.heap.size, g, none⟩) (hblk _ (by simp; omega) (by simp; omega))
          rw [q1, q2]; exact hH g hg
        · refine (((hB.grown hg3 (by omega) (fun k e => by cases e; omega))).alloc (by omega) (.cells #[.int .i64 v.fr, .int .i64 v.rd, .int .u8 v.kd, .int .i64 v.va, .string v.tx] 85)).trans (hb4.mono (by simp; omega))
        · rw [← hs3, hb4.cell (p := ⟨w3.heap.size, 0, none⟩) (by simp), World.cell?_alloc_new]; rfl
      have hvd' : dv ⟨k0, encV v, b0⟩ = v := rfl
      have hdone : (done ++ [⟨k0, encV v, b0⟩] : List MapEntry).map dv = done.map dv ++ [v] := by simp [hvd']
      have HD := hid hdone
      have HL := hid hrg.left_eq
      have HP := hid hp
      have HF := hid hf
      rw [hf] at hH3
      clear hdone hvd' hvd hp
      cases hpv : p v with
      | false =>
        rw [hpv] at hgv
        go_wp2_with (first | (go_at_fn g; refine hgv.mono ?_; clear hgv; rintro e w4 ⟨rfl, hb4⟩; obtain ⟨r1, r2, r3, r4, r5⟩ := hH3 w4 hb4) | go_in)
        go_roundw
        case rel => exact ⟨done ++ [({ key := k0, val := encV v, born := b0 } : MapEntry)], todo', r1, by rw [HD.out, mem_no hpv], fun g hg => by rw [HD.out, cnt_no hpv]; exact r2 g hg, r3, by omega⟩
        case measure => rw [r1.left_eq, HL.out, HP.out.length_eq]; simp
      | true =>
        rw [hpv] at hgv
        have hfin : ∀ W4, Rng W4 bm w1.heap.size es clock (done ++ [⟨k0, encV v, b0⟩]) todo' → Had W4 w.heap.size n p (done.map dv) → Below w.heap.size w W4 → wr.heap.size < W4.heap.size → ∀ x, x = Value.int .i64 (cnt p (done.map dv) f + 1 : Int) → 
            Rng (W4.setCell ⟨w.heap.size, f, none⟩ x) bm w1.heap.size es clock (done ++ [⟨k0, encV v, b0⟩]) todo' ∧ Had (W4.setCell ⟨w.heap.size, f, none⟩ x) w.heap.size n p ((done ++ [⟨k0, encV v, b0⟩] : List MapEntry).map dv) ∧ Below w.heap.size w (W4.setCell ⟨w.heap.size, f, none⟩ x) ∧ w1.heap.size < (W4.setCell ⟨w.heap.size, f, none⟩ x).heap.size := by
          rintro W4 r1 r2 r3 r4 x rfl
          refine ⟨r1.of_blocks (Below.heap_setCell _ _ _ _ (by simp; omega)) (Below.heap_setCell _ _ _ _ (by simp; omega)), fun g hg => ?_, r3.setCell (p := ⟨w.heap.size, f, none⟩) (Nat.le_refl _) _, by simp [World.setCell]; omega⟩
          rw [HD.out, World.frozen?_setCell]
          refine ⟨?_, (r2 g hg).2⟩
          by_cases hgf : g = f
          · subst hgf
            rw [World.cell?_setCell_same _ _ _ (r2 g hg).1, cnt_same hpv HF.out]
            simp
          · rw [World.cell?_setCell_other _ _ _ _ (by simp), cnt_other HF.out hgf]
            exact (r2 g hg).1
        by_cases hc0 : cnt p (done.map dv) f = 0
        · have HC := hid hc0
          have ht : ((cnt p (done.map dv) f : Int) == 0) = true := by simp [hc0]
          clear hc0
          go_wp2_with (first | (go_at_fn g; refine hgv.mono ?_; clear hgv; rintro e w4 ⟨rfl, hb4⟩; obtain ⟨r1, r2, r3, r4, r5⟩ := hH3 w4 hb4; obtain ⟨r6, r7⟩ := r2 f hfn) | go_in)
          go_roundw
          case rel =>
            obtain ⟨z1, z2, z3, z4⟩ := hfin w4 r1 r2 r3 r4 _ rfl
            exact ⟨done ++ [⟨k0, encV v, b0⟩], todo', z1, by rw [HD.out, mem_new hpv HF.out hfn HC.out]; simp, z2, z3, z4⟩
          case measure =>
            obtain ⟨z1, z2, z3, z4⟩ := hfin w4 r1 r2 r3 r4 _ rfl
            rw [z1.left_eq, HL.out, HP.out.length_eq]; simp
        · have HC := hid hc0
          have ht : ((cnt p (done.map dv) f : Int) == 0) = false := by simp [hc0]
          clear hc0
          go_wp2_with (first | (go_at_fn g; refine hgv.mono ?_; clear hgv; rintro e w4 ⟨rfl, hb4⟩; obtain ⟨r1, r2, r3, r4, r5⟩ := hH3 w4 hb4; obtain ⟨r6, r7⟩ := r2 f hfn) | go_in)
          go_roundw
          case rel =>
            obtain ⟨z1, z2, z3, z4⟩ := hfin w4 r1 r2 r3 r4 _ rfl
            exact ⟨done ++ [⟨k0, encV v, b0⟩], todo', z1, by rw [HD.out, mem_old HF.out HC.out], z2, z3, z4⟩
          case measure =>
            obtain ⟨z1, z2, z3, z4⟩ := hfin w4 r1 r2 r3 r4 _ rfl
            rw [z1.left_eq, HL.out, HP.out.length_eq]; simp
end Go.Proofs.Tly

namespace Go.Proofs.Tly
open Go Go.RowKit Go.Rm Go.Proofs

/-- a tally lies there: of so many members, with these entries -/
structure At (w : World) (bt ot n : Nat) (es : Array MapEntry) : Prop where
  count : w.cell? ⟨bt, ot, none⟩ = some (.int .i64 (n : Int))
  map : ∃ bm clock, w.cell? ⟨bt, ot + 1, none⟩ = some (.map (some bm)) ∧ w.heap[bm]? = some (.map es clock) ∧ Stamps es clock
  few : n ≤ 1000000
  size : es.size ≤ 1000000
  votes : ∀ e ∈ es.toList, e.val = encV (dv e) ∧ ∃ f : Nat, (dv e).fr = (f : Int) ∧ f ≤ n

theorem At.below {w w' : World} {bt ot n : Nat} {es : Array MapEntry} (h : At w bt ot n es) (hb : Below w.heap.size w w') : At w' bt ot n es := by
  obtain ⟨h1, ⟨bm, clock, h2, h3, h4⟩, h5, h6, h7⟩ := h
  exact ⟨cell_below h1 hb (cell_lt h1), ⟨bm, clock, cell_below h2 hb (cell_lt h2), (hb.block _ (Array.getElem?_eq_some_iff.1 h3).1).trans h3, h4⟩, h5, h6, h7⟩
theorem At.alloc {w : World} {bt ot n : Nat} {es : Array MapEntry} (h : At w bt ot n es) (o : Obj) : At (w.alloc o) bt ot n es := h.below ((Below.refl _ _).alloc (Nat.le_refl _) _)

theorem members_at (g : FuncId) (cb : Array Value) (p : Vt → Bool) {bt ot n : Nat} {es : Array MapEntry} {w : World} (h : At w bt ot n es)
    (eg : ∀ args w, (callFunc g args).run Tryz.prog w = .ok (.enter g args) w)
    (hg : ∀ (W : World) (v : Vt), Below w.heap.size w W → Calls Tryz.prog g (#[encV v] ++ cb) W fun e W' => e = .returned (.bool (p v)) ∧ Below W.heap.size W W') :
    Calls Tryz.prog 140 #[.pointer (some ⟨bt, ot, none⟩), .func (.func g) #[] cb] w fun e w' => e = .returned (.int .i64 (mem p n (es.toList.map dv) : Int)) ∧ Below w.heap.size w w' := by
  obtain ⟨h1, ⟨bm, clock, h2, h3, h4⟩, h5, h6, h7⟩ := h
  exact members_any g cb p bt ot bm n es clock w h5 h6 h1 h2 h3 h4 h7 eg hg

set_option maxHeartbeats 1000000 in
theorem sent_any {bt ot n : Nat} {es : Array MapEntry} {w : World} (h : At w bt ot n es) (rd : Int) :
    Calls Tryz.prog 137 #[.pointer (some ⟨bt, ot, none⟩), .int .i64 rd] w fun e w' => e = .returned (.int .i64 (mem (fun v => v.rd == rd) n (es.toList.map dv) : Int)) ∧ Below w.heap.size w w' := by
  have hm := members_at 171 #[.pointer (some ⟨w.heap.size, 0, none⟩)] (fun v => v.rd == rd) (h.alloc (.cells #[.int .i64 rd] 3)) (enters_of Tryz.func171 (by kernel_rfl) rfl) (fun W v hb =>
    (sent1 v rd w.heap.size W (cell_below (World.cell?_alloc_new ..) hb (by simp))).mono fun e W' ⟨he, hw⟩ => ⟨he, hw ▸ (Below.refl _ _).alloc (Nat.le_refl _) _⟩)
  go_enter Tryz.func137, Tryz.ntmps137
  go_wp2_with (first | (go_at_call 140; refine hm.mono ?_; clear hm; rintro e w4 ⟨rfl, hb4⟩) | go_in)
  go_ret
  exact ⟨rfl, ((Below.refl _ _).alloc (Nat.le_refl _) _).trans (hb4.mono (by simp))⟩
set_option maxHeartbeats 1000000 in
theorem all_any {bt ot n : Nat} {es : Array MapEntry} {w : World} (h : At w bt ot n es) (rd kd : Int) :
    Calls Tryz.prog 105 #[.pointer (some ⟨bt, ot, none⟩), .int .i64 rd, .int .u8 kd] w fun e w' => e = .returned (.int .i64 (mem (fun v => v.rd == rd && v.kd == kd) n (es.toList.map dv) : Int)) ∧ Below w.heap.size w w' := by
  have hm := members_at 141 #[.pointer (some ⟨w.heap.size, 0, none⟩), .pointer (some ⟨w.heap.size + 1, 0, none⟩)] (fun v => v.rd == rd && v.kd == kd) ((h.alloc (.cells #[.int .i64 rd] 3)).alloc (.cells #[.int .u8 kd] 5)) (enters_of Tryz.func141 (by kernel_rfl) rfl) (fun W v hb =>
    (all1 v rd kd w.heap.size (w.heap.size + 1) W (cell_below (World.cell?_alloc2_first ..) hb (by simp; omega)) (cell_below (World.cell?_alloc2_new ..) hb (by simp))).mono fun e W' ⟨he, hw⟩ => ⟨he, hw ▸ (Below.refl _ _).alloc (Nat.le_refl _) _⟩)
  go_enter Tryz.func105, Tryz.ntmps105
  go_wp2_with (first | (go_at_call 140; refine hm.mono ?_; clear hm; rintro e w4 ⟨rfl, hb4⟩) | go_in)
  go_ret
  exact ⟨rfl, (((Below.refl _ _).alloc (Nat.le_refl _) _).alloc (by simp) _).trans (hb4.mono (by simp; omega))⟩
set_option maxHeartbeats 1000000 in
theorem count_any {bt ot n : Nat} {es : Array MapEntry} {w : World} (h : At w bt ot n es) (rd kd : Int) (tx : ByteArray) :
    Calls Tryz.prog 169 #[.pointer (some ⟨bt, ot, none⟩), .int .i64 rd, .int .u8 kd, .string tx] w fun e w' => e = .returned (.int .i64 (mem (fun v => v.rd == rd && v.kd == kd && v.tx.toList == tx.toList) n (es.toList.map dv) : Int)) ∧ Below w.heap.size w w' := by
  have hm := members_at 181 #[.pointer (some ⟨w.heap.size, 0, none⟩), .pointer (some ⟨w.heap.size + 1, 0, none⟩), .pointer (some ⟨w.heap.size + 1 + 1, 0, none⟩)] (fun v => v.rd == rd && v.kd == kd && v.tx.toList == tx.toList) (((h.alloc (.cells #[.int .i64 rd] 3)).alloc (.cells #[.int .u8 kd] 5)).alloc (.cells #[.string tx] 9)) (enters_of Tryz.func181 (by kernel_rfl) rfl) (fun W v hb =>
    (count1 v rd kd tx w.heap.size (w.heap.size + 1) (w.heap.size + 1 + 1) W (cell_below (cell_al _ (World.cell?_alloc2_first ..)) hb (by simp; omega)) (cell_below (cell_al _ (World.cell?_alloc2_new ..)) hb (by simp)) (cell_below (by rw [show w.heap.size + 1 + 1 = ((w.alloc (.cells #[.int .i64 rd] 3)).alloc (.cells #[.int .u8 kd] 5)).heap.size by simp]; exact World.cell?_alloc_new ..) hb (by simp))).mono fun e W' ⟨he, hw⟩ => ⟨he, hw ▸ (Below.refl _ _).alloc (Nat.le_refl _) _⟩)
  go_enter Tryz.func169, Tryz.ntmps169
  go_wp2_with (first | (go_at_call 140; refine hm.mono ?_; clear hm; rintro e w4 ⟨rfl, hb4⟩) | go_in)
  go_ret
  exact ⟨rfl, ((((Below.refl _ _).alloc (Nat.le_refl _) _).alloc (by simp) _).alloc (by simp; omega) _).trans (hb4.mono (by simp; omega))⟩
end Go.Proofs.Tly

namespace Go.Proofs.Tly
open Go Go.RowKit Go.Rm Go.Proofs Go.Shelf

theorem rng_walks {w w' : World} {b r : Nat} {es : Array MapEntry} {clock : Nat} {done todo : List MapEntry} (h : Rng w b r es clock done todo) (hk : KeepsWalks w w') : Rng w' b r es clock done todo := by
  obtain ⟨hb, hs, ⟨seen, c0, hr, hc, ht⟩, hp⟩ := h
  exact ⟨hk.same b _ hb rfl, hs, ⟨seen, c0, hk.same r _ hr rfl, hc, ht⟩, hp⟩
theorem rng_iter {w : World} {b r : Nat} {es : Array MapEntry} {clock : Nat} {done todo : List MapEntry} (h : Rng w b r es clock done todo) : ∃ o : Obj, w.heap[r]? = some o ∧ o.isWalk = true := by
  obtain ⟨hb, hs, ⟨seen, c0, hr, hc, ht⟩, hp⟩ := h
  exact ⟨_, hr, rfl⟩

attribute [local go_sem] Oper.semAt_some
set_option maxRecDepth 100000 in
set_option maxHeartbeats 1000000 in
theorem vals1_in (F : Fence) (n : Nat) (h94 : F.fn 144) (hro : F.round = none) (hn : 1 ≤ n) (l Bm bm : Nat) (es : Array MapEntry) (clock : Nat) (J Jx : List Vt → World → Prop)
    (hY : ∀ pre x W, J pre W → pre.length < es.size → YieldAt F (n - 1) Tryz.prog l #[encV x] W fun e W' =>
      (e = .returned (.bool true) ∧ J (pre ++ [x]) W' ∧ KeepsWalks W W') ∨ (e = .returned (.bool false) ∧ Jx (pre ++ [x]) W'))
    (W : World) (hJ : AbidesFrom W.heap.size J) (hm : W.cell? ⟨Bm, 0, none⟩ = some (.map (some bm))) (hb : W.heap[bm]? = some (.map es clock)) (hs : Stamps es clock) (hv : ∀ e ∈ es.toList, e.val = encV (dv e)) (h0 : J [] W) :
    CallsIn F n Tryz.prog 144 #[.func (.yield l) #[] #[], .pointer (some ⟨Bm, 0, none⟩)] W fun e W' => (∃ v, e = .returned v) ∧
      ((∃ xs, xs.Perm (es.toList.map dv) ∧ J xs W') ∨ (∃ pre, True ∧ Jx pre W')) := by
  refine callsIn_of_wp Tryz.func144 rfl h94 ?_ hro
  simp only [Tryz.ntmps144, List.size_toArray, List.length_cons, List.length_nil, Nat.reduceAdd, Nat.reduceSub, Array.replicate_succ, Array.replicate_zero, List.push_toArray, List.append_toArray, List.nil_append, List.cons_append]
  gi_wp2_with (first
    | (gi_at_range; refine wpListIn_range_raw rfl _ 140 rfl 142 85 Tryz.underlying140 rfl hb hs ?_; intro w0 hw0 hrg0)
    | gi_in)
  go_frame
  gi_loopw [4] (fun _ wr => ∃ (done todo : List MapEntry), Rng wr bm W.heap.size es clock done todo ∧ J (done.map dv) wr)
    (fun _ wr => wr.rangeLeft bm W.heap.size)
  case atStart =>
    exact ⟨[], es.toList, hrg0, hJ [] W w0 none h0 (by rw [hw0]; exact World.grownBy_alloc W _ none) (fun r e => by cases e)⟩
  case round =>
    obtain ⟨done, todo, hrg, hJs⟩ := hrel
    gi_wp2_with (first
      | (gi_at_next; refine wpListIn_next_raw rfl _ rfl rfl hrg ?_ ?_)
      | gi_in)
    · intro hc0
      subst hc0
      gi_wp2
      go_end0
      exact ⟨⟨_, rfl⟩, .inl ⟨_, by simpa using hrg.2.2.2.map dv, hJs⟩⟩
    · rintro ⟨k0, x0, b0⟩ todo' w2 hp hrg2 hg2 hs2 hen
      have hx := hv ⟨k0, x0, b0⟩ ((hrg.2.2.2).subset (List.mem_append_right _ (hp.symm.subset List.mem_cons_self)))
      obtain ⟨v, hvd, hx⟩ : ∃ v, dv ⟨k0, x0, b0⟩ = v ∧ x0 = encV v := ⟨_, rfl, hx⟩
      subst hx
      have hJ2 : J (done.map dv) w2 := hJ _ wr w2 (some W.heap.size) hJs hg2 (fun r e => by cases e; exact ⟨Nat.le_refl _, rng_iter hrg⟩)
      have hJ3 : J (done.map dv) (w2.alloc (.cells #[.int .i64 v.fr, .int .i64 v.rd, .int .u8 v.kd, .int .i64 v.va, .string v.tx] 85)) := hJ _ w2 _ none hJ2 (World.grownBy_alloc _ _ none) (fun r e => by cases e)
      have hdl : done.length < es.size := by
        have h1 := hrg.2.2.2.length_eq
        have h2 := hp.length_eq
        simp at h1 h2
        omega
      obtain ⟨fn, tmps, assign, body, hy, hR⟩ := hY (done.map dv) v _ hJ3 (by simpa using hdl)
      have hdone : (done ++ [⟨k0, encV v, b0⟩] : List MapEntry).map dv = done.map dv ++ [v] := by simp [hvd]
      have HD := hid hdone
      have HL := hid hrg.left_eq
      have HP := hid hp
      have hrg3 := hrg2.kept (World.grownBy_alloc w2 (.cells #[.int .i64 v.fr, .int .i64 v.rd, .int .u8 v.kd, .int .i64 v.va, .string v.tx] 85) none) (by simp) (by simp)
      clear hdone hvd hp hJ2 hJ3 hdl
      dsimp only [encV] at hen hy hR ⊢
      gi_wp2
      refine hR.mono ?_
      rintro e W3 (⟨rfl, hJ3, hk3⟩ | ⟨rfl, hJx3⟩)
      · gi_wp2
        have hrg4 := rng_walks hrg3 hk3
        go_roundw
        case rel => exact ⟨done ++ [⟨k0, encV v, b0⟩], todo', hrg4, by rw [HD.out]; exact hJ3⟩
        case measure => rw [hrg4.left_eq, HL.out, HP.out.length_eq]; simp
      · gi_wp2
        refine bodyPost_ret (results_none rfl _ _ _) rfl ?_
        exact ⟨⟨_, rfl⟩, .inr ⟨_, trivial, hJx3⟩⟩
end Go.Proofs.Tly

namespace Go.Proofs.Tly
open Go Go.RowKit Go.Rm Go.Proofs Go.Shelf

def cellsV (v : Vt) : List Value := [.int .i64 v.fr, .int .i64 v.rd, .int .u8 v.kd, .int .i64 v.va, .string v.tx]
theorem info55 : (Tryz.prog.info? 85).map (fun i => (i.zero, i.size, i.bytes)) = some (some (.agg #[.int .i64 0, .int .i64 0, .int .u8 0, .int .i64 0, .string ⟨#[]⟩]), 5, 48) := by kernel_rfl

theorem vals_stops (F : Fence) (n : Nat) (h94 : F.fn 144) (hro : F.round = none) (hn : 1 ≤ n) (Bm bm : Nat) (es : Array MapEntry) (clock : Nat) (w : World) (hBm : Bm < w.heap.size)
    (hm : w.cell? ⟨Bm, 0, none⟩ = some (.map (some bm))) (hb : w.heap[bm]? = some (.map es clock)) (hs : Stamps es clock) (hv : ∀ e ∈ es.toList, e.val = encV (dv e)) :
    SeqStopsK F n Tryz.prog 144 #[.pointer (some ⟨Bm, 0, none⟩)] (fun v : Vt => #[encV v]) KeepsWalks (fun xs => xs.Perm (es.toList.map dv)) (fun _ => True) es.size w := fun l J Jx W hW hJ _ hY h0 =>
  vals1_in F n h94 hro hn l Bm bm es clock J Jx hY W hJ ((hW.cell (p := ⟨Bm, 0, none⟩) hBm).trans hm) ((hW.block bm (Array.getElem?_eq_some_iff.1 hb).1).trans hb) hs hv h0

theorem cellsV_new (W : World) (v : Vt) (t : TypeId) : ∀ j u, (cellsV v)[j]? = some u → (W.alloc (.cells #[.int .i64 v.fr, .int .i64 v.rd, .int .u8 v.kd, .int .i64 v.va, .string v.tx] t)).cell? ((⟨W.heap.size, 0, none⟩ : Addr).add j) = some u := by
  intro j u hj
  have : (⟨W.heap.size, 0, none⟩ : Addr).add j = ⟨W.heap.size, j, none⟩ := by
    unfold Addr.add; split <;> simp_all
  rw [this, World.cell?_alloc_new]
  exact (List.getElem?_toArray (xs := cellsV v)).trans hj
theorem cellsV_one (v : Vt) : ∀ u ∈ cellsV v, u.oneCell' = true := by
  intro u hu
  simp [cellsV] at hu
  rcases hu with rfl | rfl | rfl | rfl | rfl <;> rfl

attribute [local go_sem] Oper.semAt_some
set_option maxRecDepth 100000 in
set_option maxHeartbeats 4000000 in
theorem appendSeq_in (F : Fence) (n : Nat) (h118 : F.fn 173) (h94 : F.fn 144) (hro : F.round = none) (hn : 3 ≤ n) (Bm bm : Nat) (es : Array MapEntry) (clock : Nat) (w : World) (hsz : es.size ≤ 1000000)
    (hm : w.cell? ⟨Bm, 0, none⟩ = some (.map (some bm))) (hb : w.heap[bm]? = some (.map es clock)) (hs : Stamps es clock) (hv : ∀ e ∈ es.toList, e.val = encV (dv e)) :
    CallsIn F n Tryz.prog 173 #[.slice none 0 0, .func (.func 144) #[] #[.pointer (some ⟨Bm, 0, none⟩)]] w fun e W' => ∃ (v : Value) (xs : List Vt), e = .returned v ∧ xs.Perm (es.toList.map dv) ∧ W'.ownsRow w.heap.size 85 5 v xs.length (xs.flatMap cellsV) ∧ (v = .slice none 0 0 ↔ xs = []) ∧ Below w.heap.size w W' := by
  have h1 : 1 ≤ n := by omega
  have hBm := cell_lt hm
  simp only at hBm
  obtain ⟨i0, hi, hz0, hz1, hz2⟩ := info_parts info55
  refine callsIn_of_wp_marks Tryz.func173 rfl h118 ?_ hro
  simp only [Tryz.ntmps173, List.size_toArray, List.length_cons, List.length_nil, Nat.reduceAdd, Nat.reduceSub, Array.replicate_succ, Array.replicate_zero, List.push_toArray, List.append_toArray, List.nil_append, List.cons_append]
  gi_wp2
  have bS := Boxed.new w 46 (.slice none 0 0)
  have hB0 : Below w.heap.size w (w.alloc (.cells #[.slice none 0 0] 46)) := (Below.refl _ w).alloc (Nat.le_refl _) _
  have hm0 := cell_al (.cells #[.slice none 0 0] 46) hm
  have hb0 : (w.alloc (.cells #[.slice none 0 0] 46)).heap[bm]? = some (.map es clock) := (Below.heap_alloc _ _ _ (Array.getElem?_eq_some_iff.1 hb).1).trans hb
  have hsz0 : (w.alloc (.cells #[.slice none 0 0] 46)).heap.size = w.heap.size + 1 := by simp
  have hr0 := World.ownsRow_nil (w.alloc (.cells #[.slice none 0 0] 46)) w.heap.size 85 5
  obtain ⟨W0, hW0⟩ : ∃ W0, w.alloc (.cells #[.slice none 0 0] 46) = W0 := ⟨_, rfl⟩
  rw [hW0] at bS hB0 hm0 hb0 hsz0 hr0 ⊢
  clear hW0
  refine wpIn_rangeFunc_ownH hro h1 (gf := 144) (lb := #[.pointer (some ⟨Bm, 0, none⟩)]) rfl h94 (enters_of Tryz.func144 (by kernel_rfl) rfl)
    (vals_stops F (n - 1) h94 hro (by omega) Bm bm es clock W0 (by omega) hm0 hb0 hs hv) walksK_t walksK_b (Below.refl _ _) (fun _ => rfl)
    (fun pre W => (∃ v, Boxed W w.heap.size 46 v ∧ W.ownsRow w.heap.size 85 5 v pre.length (pre.flatMap cellsV) ∧ (v = .slice none 0 0 ↔ pre = [])) ∧ Below w.heap.size w W)
    (fun _ _ _ => False)
    (OwnFrom.and (Own.from (holdsRow_own w.heap.size w.heap.size 46 85 5 (fun pre : List Vt => pre.length) (fun pre => pre.flatMap cellsV) (fun pre v => (v = .slice none 0 0 ↔ pre = []))) _) (ownFrom_below (Nat.le_refl _) (by omega)))
    (fun _ _ _ _ _ hs _ _ => hs)
    ⟨⟨_, bS, hr0, by simp⟩, hB0⟩
    (fun x a' W => ∃ Bx, w.heap.size < Bx ∧ W.heap[Bx]? = some (.cells #[.int .i64 x.fr, .int .i64 x.rd, .int .u8 x.kd, .int .i64 x.va, .string x.tx] 85 (0, 0)) ∧ a' = { tmps := #[.slice none 0 0, .func (.func 144) #[] #[.pointer (some ⟨Bm, 0, none⟩)], .pointer (some ⟨w.heap.size, 0, none⟩), undef, .slice none 0 0, .pointer (some ⟨Bx, 0, none⟩), .func (.func 144) #[] #[.pointer (some ⟨Bm, 0, none⟩)], encV x, undef, undef, undef, undef, undef], defers := [] })
    (fun x a' _ X Y row hs hg hr => by
      obtain ⟨Bx, h1, h2, h3⟩ := hs
      refine ⟨Bx, h1, (hg.block Bx (Array.getElem?_eq_some_iff.1 h2).1 (fun e => ?_)).trans h2, h3⟩
      obtain ⟨_, o, ho, hc⟩ := hr Bx e.symm
      rw [h2] at ho; cases ho; cases hc)
    ?assign ?body ?done ?stop
  case assign =>
    rintro l pre x W K ⟨⟨v, bS1, hr1, hnl⟩, hB1⟩ hK
    dsimp only [encV] at hK ⊢
    gi_wp2
    refine hK _ _ ((KeepsOthers.alloc _ _).from _) (KeepsWalks.alloc _ _) ⟨⟨v, bS1.alloc _, hr1.alloc _, hnl⟩, hB1.alloc hB1.size _⟩ ⟨W.heap.size, bS1.lt, ?_, rfl⟩
    exact World.alloc_heap_new W _
  case body =>
    rintro l pre x a' W hl ⟨r, hr⟩ ⟨⟨v, bS1, hr1, _⟩, hB1⟩ ⟨Bx, hBx, bX, rfl⟩ hlt
    have cB := bS1.cell
    have hle := hB1.size
    have cX : ∀ j u, (cellsV x)[j]? = some u → W.cell? ⟨Bx, j, none⟩ = some u := fun j u hj => by
      unfold World.cell?; simp only [bX]; exact (List.getElem?_toArray (xs := cellsV x)).trans hj
    have c0 := cX 0 _ rfl
    have c1 := cX 1 _ rfl
    have c2 := cX 2 _ rfl
    have c3 := cX 3 _ rfl
    have c4 := cX 4 _ rfl
    clear cX
    dsimp only [encV]
    gi_wp2_with (first
      | (gi_at_builtin; refine wpListIn_append_own _ rfl _ _ 46 rfl w.heap.size 85 i0 _ 5 48 Tryz.underlying46 hi hz0 hz1 hz2 rfl (by decide) _ _ _ rfl (hr1.alloc _) ⟨W.heap.size, 0, none⟩ 1 1 (cellsV x) rfl rfl (cellsV_new _ _ _) (cellsV_one x) (by unfold maxLen; omega) (by omega) (by simp; omega) ?_; intro v' w1 hown' hgrow _; obtain ⟨g', cap', rfl⟩ := ownsRow_succ hown'; obtain ⟨hv1, hv2, hr2, hk2, hb2⟩ := bS1.appended (by decide) hr1 hle (Nat.le_refl _) hown' hgrow; have hc1 := hv1.cell; have hf1 := hv1.frozen)
      | gi_in)
    refine ⟨hk2.from _, ?_, ⟨⟨_, hv2, ?_, by simp⟩, hB1.trans hb2⟩⟩
    · exact ⟨hk2.size, fun k o hk ho => hk2.same k o hk (Obj.not_cells_of_walk ho)⟩
    · simpa using hr2
  case done =>
    rintro D xs W hD hxs ⟨⟨v, bS1, hr1, hnl⟩, hB1⟩ hK
    have cS := bS1.cell
    gi_wp2
    refine ⟨by simp, .inl ⟨_, _, rfl, run_takeDeferred hK, ?_⟩⟩
    exact ⟨_, results_tmp rfl _ _ _, v, xs, rfl, hxs, ownsRow_putObj hr1 _ hK rfl, hnl, hB1.trans (belowK_b (w := w) (Nat.le_refl _) W D _ _ (by omega) hK rfl rfl)⟩
  case stop =>
    rintro D c pre W _ _ h _
    exact h.elim
end Go.Proofs.Tly

namespace Go.Proofs.Tly
open Go Go.RowKit Go.Rm Go.Proofs Go.Shelf Go.Lib
set_option maxHeartbeats 1000000 in
theorem cmpInt (a b : Int) (w : World) : Calls Tryz.prog 111 #[.int .i64 a, .int .i64 b] w fun e w' => e = .returned (.int .i64 (Lib.compareInt a b)) ∧ w = w' := by
  have hcon := AnyG.cmp_Compare_int Tryz.cmpInt a b w
  change Calls Tryz.prog 111 _ _ _ at hcon
  exact hcon.mono fun _ _ ⟨h1, h2⟩ => ⟨h1, h2.symm⟩
set_option maxHeartbeats 1000000 in
theorem cmpU8 (a b : Int) (w : World) : Calls Tryz.prog 112 #[.int .u8 a, .int .u8 b] w fun e w' => e = .returned (.int .i64 (Lib.compareInt a b)) ∧ w = w' := by
  go_enter Tryz.func112, Tryz.ntmps112
  go_wp2
  all_goals
    go_ret
    refine ⟨ret_int ?_, rfl⟩
    unfold Lib.compareInt
    (repeat' split) <;> first | rfl | omega

def or3 (a b c : Int) : Int := if a ≠ 0 then a else if b ≠ 0 then b else c
set_option maxHeartbeats 1000000 in
theorem cmpOr (a b c : Int) (B : Nat) (w : World) (h0 : w.cell? ⟨B, 0, none⟩ = some (.int .i64 a)) (h1 : w.cell? ⟨B, 1, none⟩ = some (.int .i64 b)) (h2 : w.cell? ⟨B, 2, none⟩ = some (.int .i64 c)) :
    Calls Tryz.prog 110 #[.slice (some ⟨B, 0, none⟩) 3 3] w fun e w' => e = .returned (.int .i64 (or3 a b c)) ∧ w = w' := by
  by_cases ha : a = 0
  · by_cases hb : b = 0
    · by_cases hc : c = 0
      · subst ha; subst hb; subst hc
        go_enter Tryz.func110, Tryz.ntmps110
        go_wp2
        refine wp_loop_rounds 4 ?_
        rw [rounds_succ]
        go_wp2
        rw [rounds_succ]
        go_wp2
        rw [rounds_succ]
        go_wp2
        rw [rounds_succ]
        go_wp2
        go_ret
        exact ⟨rfl, rfl⟩
      · subst ha; subst hb
        have hc' : (c != 0) = true := by simp [hc]
        have H := hid hc
        clear hc
        go_enter Tryz.func110, Tryz.ntmps110
        go_wp2
        refine wp_loop_rounds 3 ?_
        rw [rounds_succ]
        go_wp2
        rw [rounds_succ]
        go_wp2
        rw [rounds_succ]
        go_wp2
        go_ret
        exact ⟨ret_int (by simp [or3]), rfl⟩
    · subst ha
      have hb' : (b != 0) = true := by simp [hb]
      have H := hid hb
      clear hb
      go_enter Tryz.func110, Tryz.ntmps110
      go_wp2
      refine wp_loop_rounds 2 ?_
      rw [rounds_succ]
      go_wp2
      rw [rounds_succ]
      go_wp2
      go_ret
      exact ⟨ret_int (by simp [or3, H.out]), rfl⟩
  · have ha' : (a != 0) = true := by simp [ha]
    have H := hid ha
    clear ha
    go_enter Tryz.func110, Tryz.ntmps110
    go_wp2
    refine wp_loop_rounds 1 ?_
    rw [rounds_succ]
    go_wp2
    go_ret
    exact ⟨ret_int (by simp [or3, H.out]), rfl⟩
end Go.Proofs.Tly

namespace Go.Proofs.Tly
open Go Go.RowKit Go.Rm Go.Proofs Go.Shelf Go.Lib Go.Sort

theorem calls_still {P : Program} {f : FuncId} {args : Array Value} {w : World} {v : Value} (h : Calls P f args w fun e w' => e = .returned v ∧ w = w') : Calls P f args w (fun e w'' => e = .returned v ∧ w'' = w) := h.mono fun _ _ ⟨a, b⟩ => ⟨a, b.symm⟩
def cf (x y : Vt) : Int := or3 (Lib.compareInt x.rd y.rd) (Lib.compareInt x.fr y.fr) (Lib.compareInt x.kd y.kd)
set_option maxRecDepth 100000 in
set_option maxHeartbeats 1000000 in
theorem closure65 (x y : Vt) (W : World) : Calls Tryz.prog 109 #[encV x, encV y] W fun e w' => e = .returned (.int .i64 (cf x y)) ∧ ∃ q os', w' = grow (W.drewN q) os' := by
  unfold encV cf
  have hc1 := fun W => calls_still (cmpInt x.rd y.rd W)
  have hc2 := fun W => calls_still (cmpInt x.fr y.fr W)
  have hc3 := fun W => calls_still (cmpU8 x.kd y.kd W)
  generalize Lib.compareInt x.rd y.rd = r1 at hc1 ⊢
  generalize Lib.compareInt x.fr y.fr = r2 at hc2 ⊢
  generalize Lib.compareInt x.kd y.kd = r3 at hc3 ⊢
  go_enter Tryz.func109, Tryz.ntmps109
  go_wp2
  have cx := cellsV_new W x 85
  have cy := cellsV_new (W.alloc (.cells #[.int .i64 x.fr, .int .i64 x.rd, .int .u8 x.kd, .int .i64 x.va, .string x.tx] 85)) y 85
  have hW2 : ∃ W2, ((W.alloc (.cells #[.int .i64 x.fr, .int .i64 x.rd, .int .u8 x.kd, .int .i64 x.va, .string x.tx] 85)).alloc (.cells #[.int .i64 y.fr, .int .i64 y.rd, .int .u8 y.kd, .int .i64 y.va, .string y.tx] 85)) = W2 := ⟨_, rfl⟩
  obtain ⟨W2, hW2⟩ := hW2
  have x0 : W2.cell? ⟨W.heap.size, 0, none⟩ = some (.int .i64 x.fr) := by rw [← hW2]; exact cell_al _ (cx 0 _ rfl)
  have x1 : W2.cell? ⟨W.heap.size, 1, none⟩ = some (.int .i64 x.rd) := by rw [← hW2]; exact cell_al _ (cx 1 _ rfl)
  have x2 : W2.cell? ⟨W.heap.size, 2, none⟩ = some (.int .u8 x.kd) := by rw [← hW2]; exact cell_al _ (cx 2 _ rfl)
  have y0 : W2.cell? ⟨W.heap.size + 1, 0, none⟩ = some (.int .i64 y.fr) := by rw [← hW2]; simp
  have y1 : W2.cell? ⟨W.heap.size + 1, 1, none⟩ = some (.int .i64 y.rd) := by rw [← hW2]; simp
  have y2 : W2.cell? ⟨W.heap.size + 1, 2, none⟩ = some (.int .u8 y.kd) := by rw [← hW2]; simp
  rw [hW2]
  have HW2 := hid hW2
  have hsz : W2.heap.size = W.heap.size + 2 := by rw [← hW2]; simp
  clear cx cy hW2
  refine wp_region_still_tail 15 (by kernel_rfl) (by kernel_rfl) ?_
  change wpStill _ _ W2.drew _ _ _
  have x0' : W2.drew.cell? ⟨W.heap.size, 0, none⟩ = some (.int .i64 x.fr) := x0
  have x1' : W2.drew.cell? ⟨W.heap.size, 1, none⟩ = some (.int .i64 x.rd) := x1
  have x2' : W2.drew.cell? ⟨W.heap.size, 2, none⟩ = some (.int .u8 x.kd) := x2
  have y0' : W2.drew.cell? ⟨W.heap.size + 1, 0, none⟩ = some (.int .i64 y.fr) := y0
  have y1' : W2.drew.cell? ⟨W.heap.size + 1, 1, none⟩ = some (.int .i64 y.rd) := y1
  have y2' : W2.drew.cell? ⟨W.heap.size + 1, 2, none⟩ = some (.int .u8 y.kd) := y2
  have hsz' : W2.drew.heap.size = W.heap.size + 2 := hsz
  clear x0 x1 x2 y0 y1 y2 hsz
  obtain ⟨W3, hW3⟩ : ∃ W3, W2.drew = W3 := ⟨_, rfl⟩
  rw [hW3] at x0' x1' x2' y0' y1' y2' hsz' ⊢
  have HW3 := hid hW3
  clear hW3
  have HS := hid hsz'
  clear hsz'
  simp only [List.take_succ_cons, List.take_zero, List.drop_succ_cons, List.drop_zero]
  repeat still_step
  still_call (hc1 W3)
  repeat still_step
  still_call (hc2 W3)
  repeat still_step
  still_call (hc3 W3)
  repeat still_step
  try refine wpStill_nil ?_
  have hOr := cmpOr r1 r2 r3 W2.heap.size (W2.alloc (.cells #[.int .i64 r1, .int .i64 r2, .int .i64 r3] 3)).drew (World.cell?_alloc_new ..) (World.cell?_alloc_new ..) (World.cell?_alloc_new ..)
  go_wp2_with (first | (go_at_call 110; refine hOr.mono ?_; clear hOr; rintro e w' ⟨rfl, rfl⟩) | go_in)
  go_ret
  exact ⟨rfl, 1, _, by rw [← HW2.out, alloc_eq_grow, alloc_eq_grow, alloc_eq_grow, drew_grow, drew_grow, drew_grow, grow_grow, grow_grow]; rfl⟩
end Go.Proofs.Tly

namespace Go.Proofs.Tly
open Go Go.RowKit Go.Rm Go.Proofs Go.Shelf Go.Lib Go.Sort

def ltV (x y : Vt) : Bool := decide (x.rd < y.rd ∨ (x.rd = y.rd ∧ (x.fr < y.fr ∨ (x.fr = y.fr ∧ x.kd < y.kd))))
theorem lt_cf (x y : Vt) : ltOf cf x y = ltV x y := by
  unfold ltOf cf or3 ltV Lib.compareInt
  by_cases h1 : x.rd < y.rd
  · simp [h1]
  · by_cases h2 : y.rd < x.rd
    · have h3 : ¬ x.rd = y.rd := by omega
      simp [h1, h2, h3]
    · have h3 : x.rd = y.rd := by omega
      by_cases h4 : x.fr < y.fr
      · simp [h3, h4]
      · by_cases h5 : y.fr < x.fr
        · have h6 : ¬ x.fr = y.fr := by omega
          simp [h3, h4, h5, h6]
        · have h6 : x.fr = y.fr := by omega
          by_cases h7 : x.kd < y.kd
          · simp [h3, h6, h7]
          · by_cases h8 : y.kd < x.kd <;> simp [h3, h6, h7, h8]
theorem ltV_iff (x y : Vt) : ltV x y = true ↔ (x.rd < y.rd ∨ (x.rd = y.rd ∧ (x.fr < y.fr ∨ (x.fr = y.fr ∧ x.kd < y.kd)))) := by unfold ltV; simp
theorem ltV_not (x y : Vt) : ltV x y = false ↔ (y.rd < x.rd ∨ (x.rd = y.rd ∧ (y.fr < x.fr ∨ (x.fr = y.fr ∧ y.kd ≤ x.kd)))) := by
  unfold ltV; simp only [decide_eq_false_iff_not]; omega
theorem swoV : SWO (ltOf cf) where
  irrefl x := by rw [lt_cf, ltV_not]; omega
  trans x y z h1 h2 := by rw [lt_cf, ltV_iff] at *; omega
  ntrans x y z h1 h2 := by rw [lt_cf, ltV_not] at *; omega

theorem flat_get : ∀ (l : List Vt) (t : Nat), t < l.length * 5 → (l.flatMap cellsV)[t]? = some ((cellsV (l.toArray[t / 5]!))[t % 5]!) := by
  intro l
  induction l with
  | nil => intro t h; simp at h
  | cons v l ih =>
    intro t h
    rw [List.flatMap_cons]
    have hl : (cellsV v).length = 5 := rfl
    by_cases ht : t < 5
    · rw [List.getElem?_append_left (by omega)]
      have h1 : t / 5 = 0 := by omega
      have h2 : t % 5 = t := by omega
      rw [h1, h2]
      have : ((v :: l).toArray)[0]! = v := by simp
      rw [this]
      rw [List.getElem?_eq_getElem (by omega), getElem!_pos _ _ (by omega)]
    · rw [List.getElem?_append_right (by omega), hl, ih (t - 5) (by simp at h; omega)]
      have h1 : t / 5 = (t - 5) / 5 + 1 := by omega
      have h2 : t % 5 = (t - 5) % 5 := by omega
      rw [h1, h2]
      have : ((v :: l).toArray)[(t - 5) / 5 + 1]! = l.toArray[(t - 5) / 5]! := by simp
      rw [this]
theorem flat_len (l : List Vt) : (l.flatMap cellsV).length = l.length * 5 := by
  induction l with
  | nil => rfl
  | cons v l ih => rw [List.flatMap_cons, List.length_append, ih, List.length_cons]; simp [cellsV]; omega

theorem total_on {ys : List Vt} (hso : ys.Pairwise fun x y => ltV x y = true) {a b : Vt} (ha : a ∈ ys) (hb : b ∈ ys) : a = b ∨ ltV a b = true ∨ ltV b a = true := by
  obtain ⟨i, hi, rfl⟩ := List.getElem_of_mem ha
  obtain ⟨j, hj, rfl⟩ := List.getElem_of_mem hb
  rw [List.pairwise_iff_getElem] at hso
  rcases Nat.lt_trichotomy i j with h | h | h
  · exact .inr (.inl (hso i j hi hj h))
  · subst h; exact .inl rfl
  · exact .inr (.inr (hso j i hj hi h))

set_option maxHeartbeats 1000000 in
theorem sort_any (blk cap : Nat) (xs ys : List Vt) (W : World) (base : Nat) (hown : W.ownsRow base 85 5 (.slice (some ⟨blk, 0, none⟩) xs.length cap) xs.length (xs.flatMap cellsV)) (hsz : xs.length < 4611686018427387904)
    (hys : ys.Perm xs) (hso : ys.Pairwise fun x y => ltV x y = true) :
    Calls Tryz.prog 143 #[.slice (some ⟨blk, 0, none⟩) xs.length cap, .func (.func 109) #[] #[]] W fun e W' => e = .returned (.tuple #[]) ∧ W'.ownsRow base 85 5 (.slice (some ⟨blk, 0, none⟩) xs.length cap) ys.length (ys.flatMap cellsV) ∧ Below base W W' := by
  obtain ⟨_, h | ⟨gg, cp, cur, he, hbase, hcur, hnc, hcm, hcs, htk⟩⟩ := hown
  · cases h.1
  · injection he with he1 he2 he3
    injection he1 with he1
    injection he1 with he1
    subst he1 he3
    have hH : HoldsK cellsV 5 W blk 0 xs.toArray := by
      intro j hj
      rw [size_flatK] at hj
      rw [get_flatK _ _ _ _ hj]
      simp at hj
      have hg := flat_get xs j hj
      rw [← htk, List.getElem?_take, if_pos hj] at hg
      have hg' : cur[j]? = some ((cellsV (xs.toArray[j / 5]!))[j % 5]!) := by simpa using hg
      constructor
      · unfold World.cell?; simp only [hcur]; simpa using hg'
      · unfold World.frozen?; simp only [hcur]; simp
    have eg : ∀ args w, (callFunc 109 args).run Tryz.prog w = .ok (.enter 109 args) w := enters_of Tryz.func109 (by kernel_rfl) rfl
    have hcon := AnyQ.slices_SortFunc Tryz.sortV 5 Tryz.isAgg85 Tryz.sizeOf85 cellsV (fun _ => rfl) (fun v => cellsV_one v) cf swoV 109 #[] blk 0 cap xs.toArray W eg (fun _ _ _ _ x y => closure65 x y _) hH (Array.getElem?_eq_some_iff.1 hcur).1 (by simpa using hsz)
    change Calls Tryz.prog 143 _ _ _ at hcon
    refine Calls.mono hcon ?_
    rintro e w' ⟨rfl, d', n, os, hp, hs, rfl⟩
    obtain ⟨hds, _, hperm⟩ := hp
    have e1 : d'.extract 0 xs.toArray.size = d' := by rw [← hds]; exact Array.extract_size
    rw [e1, Array.extract_size] at hperm
    have hd : d'.toList = ys := by
      refine List.Perm.eq_of_pairwise (le := fun x y => ltV y x = false) ?_ ?_ ?_ (hperm.trans hys.symm)
      · intro a b ha hb h1 h2
        rcases total_on hso (hys.symm.subset (by simpa using hperm.subset ha)) hb with h | h | h
        · exact h
        · rw [h] at h2; cases h2
        · rw [h] at h1; cases h1
      · rw [List.pairwise_iff_getElem]
        intro i j hi hj hij
        have hi' : i < d'.size := by simpa using hi
        have hj' : j < d'.size := by simpa using hj
        have := hs i j (Nat.zero_le _) hij (by omega)
        rw [getElem!_pos d' j hj', getElem!_pos d' i hi', lt_cf] at this
        simpa using this
      · refine hso.imp fun {a b} h => ?_
        cases hba : ltV b a with
        | false => rfl
        | true => rw [ltV_iff] at h hba; omega
    have hlen : ys.length = xs.length := hys.length_eq
    have hbl := (Array.getElem?_eq_some_iff.1 hcur).1
    have hput : (putRowK cellsV 5 (Go.Sort.ahead W n) blk 0 d').heap[blk]? = some (.cells (putCells id 0 (flatK cellsV 5 d') cur) 85 (0, 0)) := by
      show ((Go.Sort.ahead W n).heap.modify blk _)[blk]? = _
      rw [Array.getElem?_modify, if_pos rfl]
      show Option.map _ W.heap[blk]? = _
      rw [hcur]; rfl
    have hgr : ∀ k, k < W.heap.size → (sortWorldK cellsV 5 W blk 0 n d' os).heap[k]? = (putRowK cellsV 5 (Go.Sort.ahead W n) blk 0 d').heap[k]? := by
      intro k hk
      show ((putRowK cellsV 5 (Go.Sort.ahead W n) blk 0 d').heap ++ os)[k]? = _
      rw [Array.getElem?_append_left]
      show k < (W.heap.modify blk _).size
      rw [Array.size_modify]; exact hk
    have hoth : ∀ k, k ≠ blk → (putRowK cellsV 5 (Go.Sort.ahead W n) blk 0 d').heap[k]? = W.heap[k]? := by
      intro k hk
      show (W.heap.modify blk _)[k]? = _
      rw [Array.getElem?_modify, if_neg (Ne.symm hk)]
    refine ⟨rfl, ⟨flat_len _, .inr ⟨blk, cap, _, by rw [hlen], hbase, (hgr blk hbl).trans hput, by omega, hcm, by simp [putCells, hcs], ?_⟩⟩, rfl, rfl, rfl, ?_, fun k hk => (hgr k (by omega)).trans (hoth k (by omega))⟩
    · have hfs : (flatK cellsV 5 d').size = ys.length * 5 := by rw [size_flatK, ← hd]; simp
      apply List.ext_getElem?
      intro t
      rw [List.getElem?_take]
      by_cases ht : t < ys.length * 5
      · rw [if_pos ht]
        have hg := flat_get ys t ht
        rw [hg]
        have htc : t < cur.size := by rw [hcs]; have : xs.length * 5 ≤ cap * 5 := Nat.mul_le_mul_right _ hnc; omega
        have : (putCells id 0 (flatK cellsV 5 d') cur)[t]? = some ((flatK cellsV 5 d')[t]!) := by
          unfold putCells
          rw [Array.getElem?_mapIdx, Array.getElem?_eq_getElem htc]
          simp [hfs, ht]
        rw [Array.getElem?_toList, this, get_flatK _ _ _ _ (by rw [← hfs, size_flatK] at ht; exact ht)]
        have : d' = ys.toArray := by rw [← hd]
        rw [this]
      · rw [if_neg ht, List.getElem?_eq_none (by rw [flat_len]; omega)]
    · show W.heap.size ≤ ((W.heap.modify blk _) ++ os).size
      rw [Array.size_append, Array.size_modify]; omega
end Go.Proofs.Tly

namespace Go.Proofs.Tly
open Go Go.RowKit Go.Rm Go.Proofs Go.Shelf Go.Lib Go.Sort

theorem ownsRow_below {W W' : World} {base : Nat} {e : TypeId} {size : Nat} {v : Value} {n : Nat} {xs : List Value} (h : W.ownsRow base e size v n xs) {B : Nat} (hb : Below B W W') (hB : W.heap.size ≤ B) : W'.ownsRow base e size v n xs := by
  obtain ⟨h1, h | ⟨g, cap, cur, h2, h3, h4, h5⟩⟩ := h
  · exact ⟨h1, .inl h⟩
  · exact ⟨h1, .inr ⟨g, cap, cur, h2, h3, (hb.block g (by have := (Array.getElem?_eq_some_iff.1 h4).1; omega)).trans h4, h5⟩⟩

theorem ownsRow_mono {W : World} {base base' : Nat} {e : TypeId} {size : Nat} {v : Value} {n : Nat} {xs : List Value} (h : W.ownsRow base e size v n xs) (hb : base' ≤ base) : W.ownsRow base' e size v n xs := by
  obtain ⟨h1, h | ⟨g, cap, cur, h2, h3, h5⟩⟩ := h
  · exact ⟨h1, .inl h⟩
  · exact ⟨h1, .inr ⟨g, cap, cur, h2, Nat.le_trans hb h3, h5⟩⟩
set_option maxHeartbeats 1000000 in
theorem collect_any (Bm bm : Nat) (es : Array MapEntry) (clock : Nat) (w : World) (hsz : es.size ≤ 1000000)
    (hm : w.cell? ⟨Bm, 0, none⟩ = some (.map (some bm))) (hb : w.heap[bm]? = some (.map es clock)) (hs : Stamps es clock) (hv : ∀ e ∈ es.toList, e.val = encV (dv e)) :
    Calls Tryz.prog 142 #[.func (.func 144) #[] #[.pointer (some ⟨Bm, 0, none⟩)]] w fun e W' => ∃ (v : Value) (xs : List Vt), e = .returned v ∧ xs.Perm (es.toList.map dv) ∧ W'.ownsRow w.heap.size 85 5 v xs.length (xs.flatMap cellsV) ∧ (v = .slice none 0 0 ↔ xs = []) ∧ Below w.heap.size w W' := by
  have hcon := (callsIn_wide (n := 3)).1 (appendSeq_in _ 3 trivial trivial rfl (by omega) Bm bm es clock w hsz hm hb hs hv)
  go_enter Tryz.func142, Tryz.ntmps142
  go_wp2_with (first | (go_at_call 173; refine hcon.mono ?_; clear hcon; rintro e w' ⟨v, xs, rfl, h1, h2, hnl, h3⟩) | go_in)
  go_ret
  exact ⟨v, xs, rfl, h1, h2, hnl, h3⟩

set_option maxHeartbeats 1000000 in
theorem sorted_any (Bm bm : Nat) (es : Array MapEntry) (clock : Nat) (w : World) (hsz : es.size ≤ 1000000)
    (hm : w.cell? ⟨Bm, 0, none⟩ = some (.map (some bm))) (hb : w.heap[bm]? = some (.map es clock)) (hs : Stamps es clock) (hv : ∀ e ∈ es.toList, e.val = encV (dv e))
    (ys : List Vt) (hys : ys.Perm (es.toList.map dv)) (hso : ys.Pairwise fun x y => ltV x y = true) :
    Calls Tryz.prog 107 #[.func (.func 144) #[] #[.pointer (some ⟨Bm, 0, none⟩)], .func (.func 109) #[] #[]] w fun e W' => ∃ v : Value, e = .returned v ∧ W'.ownsRow w.heap.size 85 5 v ys.length (ys.flatMap cellsV) ∧ (v = .slice none 0 0 ↔ ys = []) ∧ Below w.heap.size w W' := by
  have hcon := collect_any Bm bm es clock w hsz hm hb hs hv
  have hlen : ys.length = es.size := by rw [hys.length_eq]; simp
  go_enter Tryz.func107, Tryz.ntmps107
  go_wp2_with (first | (go_at_call 142; refine hcon.mono ?_; clear hcon; rintro e w' ⟨v, xs, rfl, h1, h2, hnl, h3⟩) | fail)
  have hyx : ys.Perm xs := hys.trans h1.symm
  have hxl := hyx.length_eq
  rcases h2.2 with ⟨rfl, h0⟩ | ⟨g, cap, cur, rfl, _⟩
  · have hns := AnyF.slices_SortFunc_none Tryz.sortV none 0 (.func (.func 109) #[] #[]) w'
    change Calls Tryz.prog 143 _ _ _ at hns
    have hnil : ys = [] := List.eq_nil_of_length_eq_zero (by omega)
    go_wp2_with (first | (go_at_call 143; refine hns.mono ?_; clear hns; rintro e w1 ⟨rfl, rfl⟩) | go_in)
    go_ret
    exact ⟨_, rfl, by rw [hnil]; exact World.ownsRow_nil _ _ _ _, by simp [hnil], h3⟩
  · have hns := sort_any g cap xs ys w' w.heap.size h2 (by omega) hyx hso
    have HX := hid hxl
    clear hxl hlen
    go_wp2_with (first | (go_at_call 143; refine hns.mono ?_; clear hns; rintro e w1 ⟨rfl, h4, h5⟩) | go_in)
    go_ret
    exact ⟨_, rfl, h4, ⟨fun h => (nomatch h), fun h => (by rw [h] at hyx; have := hnl.2 hyx.symm.eq_nil; cases this)⟩, h3.trans h5⟩

set_option maxHeartbeats 1000000 in
theorem votes_any {bt ot n : Nat} {es : Array MapEntry} {w : World} (h : At w bt ot n es) (ys : List Vt) (hys : ys.Perm (es.toList.map dv)) (hso : ys.Pairwise fun x y => ltV x y = true) :
    Calls Tryz.prog 66 #[.pointer (some ⟨bt, ot, none⟩)] w fun e W' => ∃ v : Value, e = .returned v ∧ W'.ownsRow w.heap.size 85 5 v ys.length (ys.flatMap cellsV) ∧ (v = .slice none 0 0 ↔ ys = []) ∧ Below w.heap.size w W' := by
  obtain ⟨h1, ⟨bm, clock, h2, h3, h4⟩, h5, h6, h7⟩ := h
  have hcon := sorted_any w.heap.size bm es clock (w.alloc (.cells #[.map (some bm)] 140)) h6 (World.cell?_alloc_new ..) ((Below.heap_alloc _ _ _ (Array.getElem?_eq_some_iff.1 h3).1).trans h3) h4 (fun e he => (h7 e he).1) ys hys hso
  go_enter Tryz.func66, Tryz.ntmps66
  go_wp2_with (first | (go_at_call 107; refine hcon.mono ?_; clear hcon; rintro e w' ⟨v, rfl, q1, qn, q2⟩) | go_in)
  go_ret
  exact ⟨_, rfl, ownsRow_mono q1 (by simp), qn, ((Below.refl _ _).alloc (Nat.le_refl _) _).trans (q2.mono (by simp))⟩
end Go.Proofs.Tly
