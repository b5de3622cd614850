/- wire: how a number, a byte, a count, a text and the end are read. -/
import Derived.Test.YtbockfpeohfphaaRda
import Derived.IntWalk
import Derived.Laws.AppendOwn
import Derived.OwnWalk
import Derived.Maps.AppendAt
import Derived.Test.YtbockfpeohfphaaRdb
import Derived.Below
import Derived.WalkKit
import Derived.BigCall
import Derived.Laws.Bits64

namespace Go.Proofs.Rdr
open Go Go.RowKit Go.Proofs
theorem setCell_same {w : World} {bp : Nat} {v : Value} (h : w.cell? ⟨bp, 0, none⟩ = some v) : ∃ u, Below w.heap.size (w.setCell ⟨bp, 0, none⟩ u) w := by
  refine ⟨v, rfl, rfl, rfl, by simp [World.setCell], fun k _ => ?_⟩
  by_cases e : bp = k
  · subst e
    cases hb : w.heap[bp]? with
    | none => simp [World.cell?, hb] at h
    | some o =>
      cases o with
      | cells c t f =>
        have hc : c[0]? = some v := by simpa [World.cell?, hb] using h
        rw [blk_setCell hb]
        have hlt : 0 < c.size := (Array.getElem?_eq_some_iff.1 hc).1
        have he : c[0] = v := (Array.getElem?_eq_some_iff.1 hc).2
        rw [← he]
        congr 2
        apply Array.toList_inj.1
        rw [Array.toList_setIfInBounds]
        exact (List.set_getElem_self hlt).symm
      | _ => simp [World.cell?, hb] at h
  · rw [setCell_blk (by exact e)]
theorem ext_take (s : ByteArray) (n : Nat) : (s.extract 0 n).data.toList = s.data.toList.take n := by simp
theorem how_num (s : ByteArray) (w0 : World) (hn : 8 ≤ s.size) (hs : s.size < 9223372036854775808) : HowOk 100 #[] s (s.extract 8 s.size) (.int .u64 (be (s.data.toList.take 8) : Nat)) w0 := by
  intro bp w _ _ _ hc hz
  have T := number_ok bp 8 s w hc hz hn hs (by omega)
  rw [ext_take] at T
  clear hc hz hn hs
  go_enter Try.func100, Try.ntmps100
  go_wp2_with (go_at_call 96; refine T.mono ?_; rintro e w' ⟨rfl, hb⟩)
  go_ret
  exact ⟨rfl, hb⟩
theorem how_num_no (s : ByteArray) (w0 : World) (hn : s.size < 8) : HowLack 100 #[] s 8 w0 := by
  intro bp w _ _ _ hc hz
  have T := number_short bp 8 s w hc (by omega) (by omega)
  have hp := setCell_same hc
  clear hc hz hn
  go_enter Try.func100, Try.ntmps100
  go_wp2_with (go_at_call 96; refine T.mono ?_; rintro e w' ⟨rfl, rfl⟩)
  exact ⟨rfl, rfl, hp⟩
theorem how_byte (s : ByteArray) (w0 : World) (hn : 1 ≤ s.size) (hs : s.size < 9223372036854775808) : HowOk 98 #[] s (s.extract 1 s.size) (.int .u8 (be (s.data.toList.take 1) : Nat)) w0 := by
  intro bp w _ _ _ hc hz
  have T := number_ok bp 1 s w hc hz hn hs (by omega)
  rw [ext_take] at T
  have hb : be (s.data.toList.take 1) < 256 := Nat.lt_of_lt_of_le (be_lt _) (Nat.pow_le_pow_right (by decide) (List.length_take_le _ _) : 256 ^ _ ≤ 256 ^ 1)
  clear hc hz hn hs
  generalize be (s.data.toList.take 1) = x at *
  have hw : IntKind.u8.wrap (x : Int) = x := by rw [IntKind.wrap_u8]; omega
  go_enter Try.func98, Try.ntmps98
  go_wp2_with (go_at_call 96; refine T.mono ?_; rintro e w' ⟨rfl, hb⟩)
  go_ret
  exact ⟨rfl, hb⟩
theorem how_byte_no (s : ByteArray) (w0 : World) (hn : s.size < 1) : HowLack 98 #[] s 8 w0 := by
  intro bp w _ _ _ hc hz
  have T := number_short bp 1 s w hc (by omega) (by omega)
  have hp := setCell_same hc
  clear hc hz hn
  go_enter Try.func98, Try.ntmps98
  go_wp2_with (go_at_call 96; refine T.mono ?_; rintro e w' ⟨rfl, rfl⟩)
  exact ⟨rfl, rfl, hp⟩
/-! ### a length -/
theorem length_ok (bp : Nat) (most : Nat) (s : ByteArray) (w : World) (hc : w.cell? ⟨bp, 0, none⟩ = some (.string s)) (hz : w.frozen? ⟨bp, 0, none⟩ = false) (hn : 2 ≤ s.size) (hs : s.size < 9223372036854775808) (hm : be (s.data.toList.take 2) ≤ most) :
    Calls Try.prog 103 #[.pointer (some ⟨bp, 0, none⟩), .int .i64 most] w fun r w' => r = .returned (.int .i64 (be (s.data.toList.take 2) : Nat)) ∧ Below w.heap.size (w.setCell ⟨bp, 0, none⟩ (.string (s.extract 2 s.size))) w' := by
  have T := number_ok bp 2 s w hc hz hn hs (by omega)
  rw [ext_take] at T
  have hb : be (s.data.toList.take 2) < 65536 := Nat.lt_of_lt_of_le (be_lt _) (Nat.pow_le_pow_right (by decide) (List.length_take_le _ _) : 256 ^ _ ≤ 256 ^ 2)
  clear hc hz hn hs
  generalize be (s.data.toList.take 2) = x at *
  have hw : IntKind.i64.wrap (x : Int) = x := by rw [IntKind.wrap_i64]; omega
  have hle : decide (x ≤ most) = true := by simpa using hm
  go_enter Try.func103, Try.ntmps103
  go_wp2_with (go_at_call 96; refine T.mono ?_; rintro e w' ⟨rfl, hb⟩)
  go_wp2_with (go_at_call 34; refine (need_ok _ _).mono ?_; rintro e w2 ⟨rfl, hw2⟩; obtain rfl : w' = w2 := hw2.symm)
  go_ret
  exact ⟨rfl, hb⟩
theorem length_short (bp : Nat) (most : Nat) (s : ByteArray) (w : World) (hc : w.cell? ⟨bp, 0, none⟩ = some (.string s)) (hn : s.size < 2) :
    Calls Try.prog 103 #[.pointer (some ⟨bp, 0, none⟩), .int .i64 most] w fun r w' => r = .panicked [lackE 8] ∧ w' = w := by
  have T := number_short bp 2 s w hc (by omega) (by omega)
  clear hc hn
  go_enter Try.func103, Try.ntmps103
  go_wp2_with (go_at_call 96; refine T.mono ?_; rintro e w' ⟨rfl, rfl⟩)
  exact ⟨rfl, rfl, rfl⟩
theorem length_large (bp : Nat) (most : Nat) (s : ByteArray) (w : World) (hc : w.cell? ⟨bp, 0, none⟩ = some (.string s)) (hz : w.frozen? ⟨bp, 0, none⟩ = false) (hn : 2 ≤ s.size) (hs : s.size < 9223372036854775808) (hm : most < be (s.data.toList.take 2)) :
    Calls Try.prog 103 #[.pointer (some ⟨bp, 0, none⟩), .int .i64 most] w fun r w' => r = .panicked [lackE 40] ∧ ∃ v, Below w.heap.size (w.setCell ⟨bp, 0, none⟩ v) w' := by
  have T := number_ok bp 2 s w hc hz hn hs (by omega)
  rw [ext_take] at T
  have hb : be (s.data.toList.take 2) < 65536 := Nat.lt_of_lt_of_le (be_lt _) (Nat.pow_le_pow_right (by decide) (List.length_take_le _ _) : 256 ^ _ ≤ 256 ^ 2)
  clear hc hz hn hs
  generalize be (s.data.toList.take 2) = x at *
  have hw : IntKind.i64.wrap (x : Int) = x := by rw [IntKind.wrap_i64]; omega
  have hle : decide (x ≤ most) = false := by simpa using hm
  go_enter Try.func103, Try.ntmps103
  go_wp2_with (go_at_call 96; refine T.mono ?_; rintro e w' ⟨rfl, hb⟩)
  go_wp2_with (go_at_call 34; refine (need_no _ _).mono ?_; rintro e w2 ⟨rfl, hw2⟩; obtain rfl : w' = w2 := hw2.symm)
  exact ⟨rfl, rfl, _, hb⟩
end Go.Proofs.Rdr

namespace Go.Proofs.Rdr
open Go Go.RowKit Go.Proofs
end Go.Proofs.Rdr

namespace Go.Proofs.Rdr
open Go Go.RowKit Go.Proofs
theorem cell_past {N bp : Nat} {u : Value} {w w' : World} (hb : Below N (w.setCell ⟨bp, 0, none⟩ u) w') {a : Addr} {v : Value} (hN : a.block < N) (hne : bp ≠ a.block) (h : w.cell? a = some v) : w'.cell? a = some v :=
  cell_blk ((hb.block _ hN).trans (setCell_blk (by exact hne))) h
theorem how_count (mb most : Nat) (s : ByteArray) (w0 : World) (hm : w0.cell? ⟨mb, 0, none⟩ = some (.int .i64 most)) (hmb : mb < w0.heap.size) (hmost : most < 9223372036854775808) (hn : 8 ≤ s.size) (hs : s.size < 9223372036854775808) (hle : be (s.data.toList.take 8) ≤ most) :
    HowOk 95 #[.pointer (some ⟨mb, 0, none⟩)] s (s.extract 8 s.size) (.int .i64 (be (s.data.toList.take 8) : Nat)) w0 := by
  intro bp w hB hbp hlt hc hz
  have T := number_ok bp 8 s w hc hz hn hs (by omega)
  rw [ext_take] at T
  have hmw : w.cell? ⟨mb, 0, none⟩ = some (.int .i64 most) := cell_blk (hB.block _ hmb) hm
  have hN : mb < w.heap.size := Nat.lt_of_lt_of_le hmb hB.size
  have hne : bp ≠ mb := by omega
  clear hc hz hn hs hB hm hbp hlt hmb
  generalize be (s.data.toList.take 8) = x at *
  have hw : IntKind.i64.wrap (x : Int) = x := by rw [IntKind.wrap_i64]; omega
  have hw2 : IntKind.u64.wrap (most : Int) = most := by rw [IntKind.wrap_u64]; omega
  have hle2 : decide (x ≤ most) = true := by simpa using hle
  clear hle hmost
  go_enter Try.func95, Try.ntmps95
  go_wp2_with (go_at_call 96; refine T.mono ?_; rintro e w' ⟨rfl, hb⟩; have hmw' := cell_past hb (a := ⟨mb, 0, none⟩) hN hne hmw)
  go_wp2_with (go_at_call 34; refine (need_ok _ _).mono ?_; rintro e w2 ⟨rfl, hw2⟩; obtain rfl : w' = w2 := hw2.symm)
  go_ret
  exact ⟨rfl, hb⟩
theorem how_count_no (mb : Nat) (s : ByteArray) (w0 : World) (hn : s.size < 8) : HowLack 95 #[.pointer (some ⟨mb, 0, none⟩)] s 8 w0 := by
  intro bp w _ _ _ hc hz
  have T := number_short bp 8 s w hc (by omega) (by omega)
  have hp := setCell_same hc
  clear hc hz hn
  go_enter Try.func95, Try.ntmps95
  go_wp2_with (go_at_call 96; refine T.mono ?_; rintro e w' ⟨rfl, rfl⟩)
  exact ⟨rfl, rfl, hp⟩
theorem how_count_large (mb most : Nat) (s : ByteArray) (w0 : World) (hm : w0.cell? ⟨mb, 0, none⟩ = some (.int .i64 most)) (hmb : mb < w0.heap.size) (hmost : most < 9223372036854775808) (hn : 8 ≤ s.size) (hs : s.size < 9223372036854775808) (hle : most < be (s.data.toList.take 8)) :
    HowLack 95 #[.pointer (some ⟨mb, 0, none⟩)] s 4 w0 := by
  intro bp w hB hbp hlt hc hz
  have T := number_ok bp 8 s w hc hz hn hs (by omega)
  rw [ext_take] at T
  have hmw : w.cell? ⟨mb, 0, none⟩ = some (.int .i64 most) := cell_blk (hB.block _ hmb) hm
  have hN : mb < w.heap.size := Nat.lt_of_lt_of_le hmb hB.size
  have hne : bp ≠ mb := by omega
  clear hc hz hn hs hB hm hbp hlt hmb
  generalize be (s.data.toList.take 8) = x at *
  have hw2 : IntKind.u64.wrap (most : Int) = most := by rw [IntKind.wrap_u64]; omega
  have hle2 : decide (x ≤ most) = false := by simpa using hle
  clear hle hmost
  go_enter Try.func95, Try.ntmps95
  go_wp2_with (go_at_call 96; refine T.mono ?_; rintro e w' ⟨rfl, hb⟩; have hmw' := cell_past hb (a := ⟨mb, 0, none⟩) hN hne hmw)
  go_wp2_with (go_at_call 34; refine (need_no _ _).mono ?_; rintro e w2 ⟨rfl, hw2⟩; obtain rfl : w' = w2 := hw2.symm)
  exact ⟨rfl, rfl, _, hb⟩
theorem how_end (w0 : World) : HowOk 33 #[] ⟨#[]⟩ ⟨#[]⟩ (.bool true) w0 := by
  intro bp w _ _ _ hc hz
  have hp : Below w.heap.size (w.setCell ⟨bp, 0, none⟩ (.string ⟨#[]⟩)) w := by
    refine ⟨rfl, rfl, rfl, by simp [World.setCell], fun k _ => ?_⟩
    by_cases e : bp = k
    · subst e
      cases hb : w.heap[bp]? with
      | none => simp [World.cell?, hb] at hc
      | some o =>
        cases o with
        | cells c t f =>
          have hcc : c[0]? = some (.string ⟨#[]⟩) := by simpa [World.cell?, hb] using hc
          rw [blk_setCell hb]
          have hlt : 0 < c.size := (Array.getElem?_eq_some_iff.1 hcc).1
          have he : c[0] = .string ⟨#[]⟩ := (Array.getElem?_eq_some_iff.1 hcc).2
          rw [← he]
          congr 2
          apply Array.toList_inj.1
          rw [Array.toList_setIfInBounds]
          exact (List.set_getElem_self hlt).symm
        | _ => simp [World.cell?, hb] at hc
    · rw [setCell_blk (by exact e)]
  go_enter Try.func33, Try.ntmps33
  go_wp2_with (go_at_call 34; refine (need_ok _ _).mono ?_; rintro e w2 ⟨rfl, hw2⟩; obtain rfl : w = w2 := hw2.symm)
  go_ret
  exact ⟨rfl, hp⟩
theorem how_end_no (s : ByteArray) (w0 : World) (hne : s.toList.isEmpty = false) : HowLack 33 #[] s 10 w0 := by
  intro bp w _ _ _ hc hz
  have hp := setCell_same hc
  go_enter Try.func33, Try.ntmps33
  go_wp2_with (go_at_call 34; refine (need_no _ _).mono ?_; rintro e w2 ⟨rfl, hw2⟩; obtain rfl : w = w2 := hw2.symm)
  exact ⟨rfl, rfl, hp⟩
/-! ### texts -/
theorem set_below {N : Nat} {w : World} {bp : Nat} {u v : Value} : Below N (w.setCell ⟨bp, 0, none⟩ v) ((w.setCell ⟨bp, 0, none⟩ u).setCell ⟨bp, 0, none⟩ v) := by
  refine ⟨rfl, rfl, rfl, by simp [World.setCell], fun k _ => ?_⟩
  by_cases e : bp = k
  · subst e
    cases hb : w.heap[bp]? with
    | none => simp [World.setCell, Array.getElem?_modify, hb]
    | some o =>
      cases o with
      | cells c t f => rw [blk_setCell (blk_setCell hb), blk_setCell hb]; simp
      | _ => simp [World.setCell, Array.getElem?_modify, hb]
  · rw [setCell_blk (by exact e), setCell_blk (by exact e), setCell_blk (by exact e)]
theorem cell_new {N bp : Nat} {u v : Value} {w w' : World} (hb : Below N (w.setCell ⟨bp, 0, none⟩ u) w') (hN : bp < N) (h : w.cell? ⟨bp, 0, none⟩ = some v) : w'.cell? ⟨bp, 0, none⟩ = some u :=
  cell_blk (w := w.setCell ⟨bp, 0, none⟩ u) (hb.block _ hN) (World.cell?_setCell_same _ _ _ h)
theorem froz_new {N bp : Nat} {u : Value} {w w' : World} (hb : Below N (w.setCell ⟨bp, 0, none⟩ u) w') (hN : bp < N) (h : w.frozen? ⟨bp, 0, none⟩ = false) : w'.frozen? ⟨bp, 0, none⟩ = false :=
  froz_blk (w := w.setCell ⟨bp, 0, none⟩ u) (hb.block _ hN) (by rw [World.frozen?_setCell]; exact h)
theorem how_text (s s1 : ByteArray) (n : Nat) (w0 : World) (h1 : s.extract 2 s.size = s1) (hn0 : be (s.data.toList.take 2) = n) (hn2 : n ≤ 2048) (hn : 2 ≤ s.size) (hs : s.size < 9223372036854775808) (hs1 : n ≤ s1.size) :
    HowOk 105 #[] s (s1.extract n s1.size) (.string (s1.extract 0 n)) w0 := by
  intro bp w _ _ hlt hc hz
  have T := length_ok bp 2048 s w hc hz hn hs (by omega)
  rw [h1, hn0] at T
  have hl1 : s1.size < 9223372036854775808 := by rw [← h1, ByteArray.size_extract]; omega
  have K : ∀ w', Below w.heap.size (w.setCell ⟨bp, 0, none⟩ (.string s1)) w' → Calls Try.prog 106 #[.pointer (some ⟨bp, 0, none⟩), .int .i64 n] w' fun r w2 => r = .returned (.string (s1.extract 0 n)) ∧ w2 = w'.setCell ⟨bp, 0, none⟩ (.string (s1.extract n s1.size)) := fun w' hb =>
    take_ok bp n s1 w' (cell_new hb hlt hc) (froz_new hb hlt hz) hs1 hl1
  have B : ∀ w', Below w.heap.size (w.setCell ⟨bp, 0, none⟩ (.string s1)) w' → Below w.heap.size (w.setCell ⟨bp, 0, none⟩ (.string (s1.extract n s1.size))) (w'.setCell ⟨bp, 0, none⟩ (.string (s1.extract n s1.size))) := fun w' hb => set_below.trans (below_both hb _ _)
  clear hc hz hn hs h1 hn0 hs1 hl1
  generalize s1.extract n s1.size = rest at *
  generalize s1.extract 0 n = out at *
  go_enter Try.func105, Try.ntmps105
  go_wp2_with (go_at_call 103; refine T.mono ?_; rintro e w' ⟨rfl, hb⟩; have K1 := K w' hb; have B1 := B w' hb; clear K B)
  go_wp2_with (go_at_call 106; refine K1.mono ?_; rintro e w2 ⟨rfl, hw2⟩; obtain rfl : w'.setCell ⟨bp, 0, none⟩ (.string rest) = w2 := hw2.symm)
  go_ret
  exact ⟨rfl, B1⟩
theorem how_text_short (s : ByteArray) (w0 : World) (hn : s.size < 2) : HowLack 105 #[] s 8 w0 := by
  intro bp w _ _ _ hc hz
  have T := length_short bp 2048 s w hc hn
  have hp := setCell_same hc
  clear hc hz hn
  go_enter Try.func105, Try.ntmps105
  go_wp2_with (go_at_call 103; refine T.mono ?_; rintro e w' ⟨rfl, rfl⟩)
  exact ⟨rfl, rfl, hp⟩
theorem how_text_large (s : ByteArray) (w0 : World) (hn : 2 ≤ s.size) (hs : s.size < 9223372036854775808) (hm : 2048 < be (s.data.toList.take 2)) : HowLack 105 #[] s 40 w0 := by
  intro bp w _ _ _ hc hz
  have T := length_large bp 2048 s w hc hz hn hs hm
  clear hc hz hn hs hm
  go_enter Try.func105, Try.ntmps105
  go_wp2_with (go_at_call 103; refine T.mono ?_; rintro e w' ⟨rfl, hb⟩)
  exact ⟨rfl, rfl, hb⟩
theorem how_text_cut (s s1 : ByteArray) (n : Nat) (w0 : World) (h1 : s.extract 2 s.size = s1) (hn0 : be (s.data.toList.take 2) = n) (hn2 : n ≤ 2048) (hn : 2 ≤ s.size) (hs : s.size < 9223372036854775808) (hs1 : s1.size < n) : HowLack 105 #[] s 8 w0 := by
  intro bp w _ _ hlt hc hz
  have T := length_ok bp 2048 s w hc hz hn hs (by omega)
  rw [h1, hn0] at T
  have hl1 : s1.size < 9223372036854775808 := by rw [← h1, ByteArray.size_extract]; omega
  have K : ∀ w', Below w.heap.size (w.setCell ⟨bp, 0, none⟩ (.string s1)) w' → Calls Try.prog 106 #[.pointer (some ⟨bp, 0, none⟩), .int .i64 n] w' fun r w2 => r = .panicked [lackE 8] ∧ w2 = w' := fun w' hb =>
    take_short bp n s1 w' (cell_new hb hlt hc) hs1 hl1
  clear hc hz hn hs h1 hn0 hs1 hl1
  go_enter Try.func105, Try.ntmps105
  go_wp2_with (go_at_call 103; refine T.mono ?_; rintro e w' ⟨rfl, hb⟩; have K1 := K w' hb; clear K)
  go_wp2_with (go_at_call 106; refine K1.mono ?_; rintro e w2 ⟨rfl, hw2⟩; obtain rfl : w' = w2 := hw2.symm)
  exact ⟨rfl, rfl, _, hb⟩
end Go.Proofs.Rdr

namespace Go.Proofs.Rdr
open Go Go.RowKit Go.Proofs
/-- so many numbers off bytes -/
def wds (l : List UInt8) (k : Nat) : List Nat := (List.range k).map fun i => be ((l.drop (8 * i)).take 8)
theorem wds_succ (l : List UInt8) (k : Nat) : wds l (k + 1) = wds l k ++ [be ((l.drop (8 * k)).take 8)] := by simp [wds, List.range_succ]
theorem wds_length (l : List UInt8) (k : Nat) : (wds l k).length = k := by simp [wds]
def wvals (l : List UInt8) (k : Nat) : List Value := (wds l k).map fun x => .int .u64 ((x : Nat) : Int)
theorem wvals_succ (l : List UInt8) (k : Nat) : wvals l (k + 1) = wvals l k ++ [.int .u64 ((be ((l.drop (8 * k)).take 8) : Nat) : Int)] := by simp [wvals, wds_succ]
theorem owns_past {w w' : World} {B : Nat} {e : TypeId} {sz : Nat} {v : Value} {n : Nat} {xs : List Value} (h : w.ownsRow B e sz v n xs) (hk : ∀ g, B ≤ g → g < w.heap.size → w'.heap[g]? = w.heap[g]?) : w'.ownsRow B e sz v n xs := by
  refine ⟨h.1, ?_⟩
  rcases h.2 with h2 | ⟨g, cap, cur, h1, h2, h3, h4⟩
  · exact .inl h2
  · exact .inr ⟨g, cap, cur, h1, h2, (hk g h2 (Array.getElem?_eq_some_iff.1 h3).1).trans h3, h4⟩
theorem ext_drop' (s : ByteArray) (n : Nat) : (s.extract n s.size).data.toList = s.data.toList.drop n := by
  rw [ByteArray.data_extract, Array.toList_extract]
  unfold List.extract
  exact List.take_of_length_le (by rw [List.length_drop]; exact Nat.le_refl _)
theorem ext_ext (s : ByteArray) (a b : Nat) : (s.extract a s.size).extract b (s.extract a s.size).size = s.extract (a + b) s.size := by
  apply ByteArray.ext; apply Array.toList_inj.1
  rw [ext_drop', ext_drop', ext_drop', List.drop_drop]
theorem info64 : (Try.prog.info? 56).map (fun i => (i.zero, i.size, i.bytes)) = some (some (.int .u64 0), 1, 8) := by kernel_rfl
/-- a list: after the run there is a row of its own, of these numbers -/
def HowList (h : FuncId) (cap : Array Value) (s rest : ByteArray) (xs : List Value) (w0 : World) : Prop := ∀ (bp : Nat) (w : World), Below w0.heap.size w0 w → w0.heap.size ≤ bp → bp < w.heap.size → w.cell? ⟨bp, 0, none⟩ = some (.string s) → w.frozen? ⟨bp, 0, none⟩ = false →
  Calls Try.prog h (#[.pointer (some ⟨bp, 0, none⟩)] ++ cap) w fun r w' => ∃ x xc, r = .returned (.slice x xs.length xc) ∧ (xs.length = 0 → x = none ∧ xc = 0) ∧ w'.ownsRow w.heap.size 56 1 (.slice x xs.length xc) xs.length xs ∧ Below w.heap.size (w.setCell ⟨bp, 0, none⟩ (.string rest)) w'
set_option maxHeartbeats 2000000 in
set_option maxRecDepth 100000 in
theorem how_list (s s1 : ByteArray) (n : Nat) (w0 : World) (h1 : s.extract 2 s.size = s1) (hn0 : be (s.data.toList.take 2) = n) (hn2 : n ≤ 1024) (hn : 2 ≤ s.size) (hs : s.size < 9223372036854775808) (hs1 : n * 8 ≤ s1.size) :
    HowList 102 #[] s (s1.extract (8 * n) s1.size) (wvals s1.data.toList n) w0 := by
  intro bp w _ _ hlt hc hz
  obtain ⟨i0, hi0, hi1, hi2, hi3⟩ := info_parts info64
  have T := length_ok bp 1024 s w hc hz hn hs (by omega)
  rw [h1, hn0] at T
  have hl1 : s1.size < 9223372036854775808 := by rw [← h1, ByteArray.size_extract]; omega
  have C1 : ∀ w', Below w.heap.size (w.setCell ⟨bp, 0, none⟩ (.string s1)) w' → w'.cell? ⟨bp, 0, none⟩ = some (.string s1) := fun w' hb => cell_new hb hlt hc
  have C2 : ∀ (x : ByteArray) w', Below w.heap.size (w.setCell ⟨bp, 0, none⟩ (.string x)) w' → w'.cell? ⟨bp, 0, none⟩ = some (.string x) ∧ w'.frozen? ⟨bp, 0, none⟩ = false := fun x w' hb => ⟨cell_new hb hlt hc, froz_new hb hlt hz⟩
  clear hc hz hn hs h1 hn0
  have hle : decide ((n : Int) * 8 ≤ (s1.size : Int)) = true := by rw [decide_eq_true_eq]; omega
  go_enter Try.func102, Try.ntmps102
  go_wp2_with (go_at_call 103; refine T.mono ?_; rintro e w' ⟨rfl, hb⟩; have c1 := C1 w' hb)
  go_wp2_with (go_at_call 34; refine (need_ok _ _).mono ?_; rintro e w2 ⟨rfl, hw2⟩; obtain rfl : w' = w2 := hw2.symm)
  go_loopw [2, 16] (fun v i wr => ∃ (k : Nat) (ao : Option Addr) (cv : Nat), k ≤ n ∧ i = .int .i64 k ∧ v = .slice ao k cv ∧ (k = 0 → ao = none ∧ cv = 0) ∧ wr.ownsRow w.heap.size 56 1 v k (wvals s1.data.toList k) ∧ Below w.heap.size (w.setCell ⟨bp, 0, none⟩ (.string (s1.extract (8 * k) s1.size))) wr)
    (fun _ i _ => n - (intOf i).toNat)
  case atStart => exact ⟨0, none, 0, Nat.zero_le _, rfl, rfl, fun _ => ⟨rfl, rfl⟩, World.ownsRow_nil _ _ _ _, by simpa using hb⟩
  case round =>
    obtain ⟨k, ao, cv, hk, rfl, rfl, hz0, hown, hbw⟩ := hrel
    by_cases hlt2 : k < n
    · have e8 : (s1.extract (8 * k) s1.size).size = s1.size - 8 * k := by rw [ByteArray.size_extract]; omega
      have T2 := number_ok bp 8 (s1.extract (8 * k) s1.size) wr (C2 _ _ hbw).1 (C2 _ _ hbw).2 (by omega) (by omega) (by omega)
      rw [ext_take, ext_ext, ext_drop', show 8 * k + 8 = 8 * (k + 1) by omega] at T2
      clear e8
      generalize hx : be (List.take 8 (List.drop (8 * k) s1.data.toList)) = x at T2
      generalize hr : s1.extract (8 * (k + 1)) s1.size = rest1 at T2
      have HO : ∀ w2, Below wr.heap.size (wr.setCell ⟨bp, 0, none⟩ (.string rest1)) w2 → w2.ownsRow w.heap.size 56 1 (.slice ao k cv) k (wvals s1.data.toList k) := fun w2 hb2 =>
        owns_past hown fun g a1 a2 => (hb2.block g a2).trans (setCell_blk (by show bp ≠ g; omega))
      have HB : ∀ w2, Below wr.heap.size (wr.setCell ⟨bp, 0, none⟩ (.string rest1)) w2 → Below w.heap.size (w.setCell ⟨bp, 0, none⟩ (.string rest1)) w2 := fun w2 hb2 =>
        (set_below.trans (below_both hbw _ _)).trans (hb2.mono (by have := hbw.size; simpa [World.setCell] using this))
      clear hown hbw
      go_wp2_with (first
        | (go_at_call 96; refine T2.mono ?_; rintro e w2 ⟨rfl, hb2⟩; have hown := HO w2 hb2; have hbw := HB w2 hb2; have hsz := hbw.size; clear HO HB)
        | (at_builtin; refine wpList_append_own _ rfl _ _ 49 rfl w.heap.size 56 i0 (.int .u64 0) 1 8 Try.underlying49 hi0 hi1 hi2 hi3 rfl (by decide) _ _ _ rfl (hown.alloc _) ⟨w2.heap.size, 0, none⟩ 1 1 [.int .u64 (x : Nat)] rfl rfl (cell_one_new _ _ _) (fun x hx => by simp at hx; subst hx; rfl) (by unfold maxLen; omega) (by omega) (by simp [World.setCell] at hsz ⊢; omega) ?_; intro v' w3 hown' hgrow3 hnil3))
      go_roundw
      case rel =>
        obtain ⟨g3, cap3, hv3⟩ : ∃ g3 cap3, v' = .slice (some ⟨g3, 0, none⟩) (k + 1) cap3 := by
          rcases hown'.2 with ⟨_, h⟩ | ⟨g3, cap3, _, h, _⟩
          · omega
          · exact ⟨g3, cap3, h⟩
        refine ⟨k + 1, some ⟨g3, 0, none⟩, cap3, by omega, by go_num, hv3, fun h => absurd h (by omega), ?_, ?_⟩
        · rw [wvals_succ, hx]; exact hown'
        · rw [hr]
          exact (hbw.alloc (by simp [World.setCell] at hsz ⊢; omega) _).grown hgrow3 (by simp [World.setCell] at hsz ⊢; omega) (fun q hq => (hown.lt q hq).1)
      case measure => simp [intOf]; omega
    · go_wp2
      go_ret
      have hkk : k = n := by omega
      subst hkk
      have hl : (wvals s1.data.toList k).length = k := by simp [wvals, wds_length]
      rw [hl]
      exact ⟨ao, cv, rfl, hz0, hown, hbw⟩
end Go.Proofs.Rdr

namespace Go.Proofs.Rdr
open Go Go.RowKit Go.Proofs
theorem how_list_short (s : ByteArray) (w0 : World) (hn : s.size < 2) : HowLack 102 #[] s 8 w0 := by
  intro bp w _ _ _ hc hz
  have T := length_short bp 1024 s w hc hn
  have hp := setCell_same hc
  clear hc hz hn
  go_enter Try.func102, Try.ntmps102
  go_wp2_with (go_at_call 103; refine T.mono ?_; rintro e w' ⟨rfl, rfl⟩)
  exact ⟨rfl, rfl, hp⟩
theorem how_list_large (s : ByteArray) (w0 : World) (hn : 2 ≤ s.size) (hs : s.size < 9223372036854775808) (hm : 1024 < be (s.data.toList.take 2)) : HowLack 102 #[] s 40 w0 := by
  intro bp w _ _ _ hc hz
  have T := length_large bp 1024 s w hc hz hn hs hm
  clear hc hz hn hs hm
  go_enter Try.func102, Try.ntmps102
  go_wp2_with (go_at_call 103; refine T.mono ?_; rintro e w' ⟨rfl, hb⟩)
  exact ⟨rfl, rfl, hb⟩
theorem how_list_cut (s s1 : ByteArray) (n : Nat) (w0 : World) (h1 : s.extract 2 s.size = s1) (hn0 : be (s.data.toList.take 2) = n) (hn2 : n ≤ 1024) (hn : 2 ≤ s.size) (hs : s.size < 9223372036854775808) (hs1 : s1.size < n * 8) : HowLack 102 #[] s 8 w0 := by
  intro bp w _ _ hlt hc hz
  have T := length_ok bp 1024 s w hc hz hn hs (by omega)
  rw [h1, hn0] at T
  have hl1 : s1.size < 9223372036854775808 := by rw [← h1, ByteArray.size_extract]; omega
  have C1 : ∀ w', Below w.heap.size (w.setCell ⟨bp, 0, none⟩ (.string s1)) w' → w'.cell? ⟨bp, 0, none⟩ = some (.string s1) := fun w' hb => cell_new hb hlt hc
  clear hc hz hn hs h1 hn0
  have hle : decide ((n : Int) * 8 ≤ (s1.size : Int)) = false := by rw [decide_eq_false_iff_not]; omega
  go_enter Try.func102, Try.ntmps102
  go_wp2_with (go_at_call 103; refine T.mono ?_; rintro e w' ⟨rfl, hb⟩; have c1 := C1 w' hb)
  go_wp2_with (go_at_call 34; refine (need_no _ _).mono ?_; rintro e w2 ⟨rfl, hw2⟩; obtain rfl : w' = w2 := hw2.symm)
  exact ⟨rfl, rfl, _, hb⟩
end Go.Proofs.Rdr

namespace Go.Proofs.Rdr
open Go Go.RowKit Go.Proofs
theorem owns_mono {w : World} {B B' : Nat} {e : TypeId} {sz : Nat} {v : Value} {n : Nat} {xs : List Value} (h : w.ownsRow B e sz v n xs) (hB : B' ≤ B) : w.ownsRow B' e sz v n xs := by
  refine ⟨h.1, ?_⟩
  rcases h.2 with h2 | ⟨g, cap, cur, h1, h2, h3⟩
  · exact .inl h2
  · exact .inr ⟨g, cap, cur, h1, Nat.le_trans hB h2, h3⟩
set_option maxHeartbeats 2000000 in
theorem readM_ok (rb ro : Nat) (h : FuncId) (cap : Array Value) (s rest : ByteArray) (xs : List Value) (w : World) (hr0 : rb < w.heap.size) (h1 : w.cell? ⟨rb, ro, none⟩ = some (.string s)) (h2 : w.cell? ⟨rb, ro + 1, none⟩ = some (.int .i64 0)) (h3 : w.frozen? ⟨rb, ro, none⟩ = false)
    (he : ∀ args w, (callFunc h args).run Try.prog w = .ok (.enter h args) w) (H : HowList h cap s rest xs w) :
    Calls Try.prog 101 #[.pointer (some ⟨rb, ro, none⟩), .func (.func h) #[] cap] w fun r w' => ∃ x xc, r = .returned (.tuple #[.slice x xs.length xc, .int .i64 0]) ∧ (xs.length = 0 → x = none ∧ xc = 0) ∧ w'.ownsRow w.heap.size 56 1 (.slice x xs.length xc) xs.length xs ∧ Below w.heap.size (w.setCell ⟨rb, ro, none⟩ (.string rest)) w' := by
  have hmf : ∀ (fn : Fn) (first cap : Array Value) (w : World), (Instr.makeFunc fn first cap).run Try.prog w = .ok (.func fn first cap) w := fun _ _ _ _ => rfl
  have k1 : ∀ o1 o2 o3, (((w.alloc o1).alloc o2).alloc o3).cell? ⟨rb, ro, none⟩ = some (.string s) := fun o1 o2 o3 =>
    ((((Below.refl _ w).alloc (Nat.le_refl _) o1).alloc (by simp) o2).alloc (by simp; omega) o3).cell (p := ⟨rb, ro, none⟩) hr0 |>.trans h1
  have k2 : ∀ o1 o2 o3, (((w.alloc o1).alloc o2).alloc o3).cell? ⟨rb, ro + 1, none⟩ = some (.int .i64 0) := fun o1 o2 o3 =>
    ((((Below.refl _ w).alloc (Nat.le_refl _) o1).alloc (by simp) o2).alloc (by simp; omega) o3).cell (p := ⟨rb, ro + 1, none⟩) hr0 |>.trans h2
  have HH := Go.Lib.hid H
  have HR := Go.Lib.hid hr0
  clear H hr0
  go_enter_defers Try.func101, Try.ntmps101
  go_wp2
  generalize hW : ((((w.alloc (Obj.cells #[Value.pointer (some { block := rb, off := ro })] 70)).alloc (Obj.cells #[(.slice none 0 0)] 49)).alloc (Obj.cells #[.int .i64 0] 37)).alloc (Obj.cells #[Value.string s] 115)).alloc (Obj.cells #[Value.pointer (some { block := w.heap.size + 1 + 1 + 1, off := 0 })] 112) = W
  have hr0 : rb < w.heap.size := HR
  obtain ⟨b0, b1, b2, b3, b4, hsz⟩ := chain5 w _ _ _ _ _ W hW
  have hBW : Below w.heap.size w W := by
    rw [← hW]
    exact (((((Below.refl _ w).alloc (Nat.le_refl _) _).alloc (by simp) _).alloc (by simp; omega) _).alloc (by simp; omega) _).alloc (by simp; omega) _
  clear hW k1 k2
  have c3 : W.cell? ⟨w.heap.size + 1 + 1 + 1, 0, none⟩ = some (.string s) := cell_one b3
  refine ((HH : HowList h cap s rest xs w) (w.heap.size + 1 + 1 + 1) W hBW (by omega) (by omega) c3 (froz_one b3)).mono ?_
  rintro r w1 ⟨x, xc, rfl, hX, hO, hB⟩
  have HX := Go.Lib.hid hX
  clear hX
  rw [hsz] at hO
  have HO := Go.Lib.hid hO
  clear hO
  have hk : ∀ k, k < w.heap.size + 5 → k ≠ w.heap.size + 1 + 1 + 1 → w1.heap[k]? = W.heap[k]? := fun k h1 h2 => (hB.block k (by omega)).trans (setCell_blk (Ne.symm h2))
  have d0 : w1.heap[w.heap.size]? = _ := (hk _ (by omega) (by omega)).trans b0
  have d1 : w1.heap[w.heap.size + 1]? = _ := (hk _ (by omega) (by omega)).trans b1
  have d2 : w1.heap[w.heap.size + 1 + 1]? = _ := (hk _ (by omega) (by omega)).trans b2
  have d3 : w1.heap[w.heap.size + 1 + 1 + 1]? = some (Obj.cells #[Value.string rest] 115) := by
    rw [hB.block _ (by omega), blk_setCell b3]; rfl
  have d4 : w1.heap[w.heap.size + 1 + 1 + 1 + 1]? = _ := (hk _ (by omega) (by omega)).trans b4
  have hB1 : Below w.heap.size w w1 := (hBW.setCell (p := ⟨w.heap.size + 1 + 1 + 1, 0, none⟩) (by show _ ≤ w.heap.size + 1 + 1 + 1; omega) (.string rest)).trans (hB.mono (by omega))
  clear hk hB b0 b1 b2 b3 b4 c3 hBW
  have x1 : w1.cell? ⟨w.heap.size + 1, 0, none⟩ = some (.slice none 0 0) := cell_one d1
  have x2 : w1.frozen? ⟨w.heap.size + 1, 0, none⟩ = false := froz_one d1
  have x3 : w1.cell? ⟨w.heap.size + 1 + 1, 0, none⟩ = some (.int .i64 0) := cell_one d2
  have x4 : w1.frozen? ⟨w.heap.size + 1 + 1, 0, none⟩ = false := froz_one d2
  have HD := Go.Lib.hid d0
  have HD1 := Go.Lib.hid d1
  have HD2 := Go.Lib.hid d2
  have HD3 := Go.Lib.hid d3
  have HD4 := Go.Lib.hid d4
  have HZ := Go.Lib.hid hsz
  have h1 := Go.Lib.hid h1
  have h3 := Go.Lib.hid h3
  clear d0 d1 d2 d3 d4 hsz h2 hr0
  go_wp2
  have hr0 : rb < w.heap.size := HR
  have g0 := (HD : w1.heap[w.heap.size]? = _)
  have g1 := (HD1 : w1.heap[w.heap.size + 1]? = _)
  have g2 := (HD2 : w1.heap[w.heap.size + 1 + 1]? = _)
  have g3 := (HD3 : w1.heap[w.heap.size + 1 + 1 + 1]? = _)
  have g4 := (HD4 : w1.heap[w.heap.size + 1 + 1 + 1 + 1]? = _)
  clear HD HD1 HD2 HD3 HD4 HZ HR HH x1 x2 x3 x4
  generalize hw2 : (w1.setCell { block := w.heap.size + 1, off := 0 } (.slice x xs.length xc)).setCell { block := w.heap.size + 1 + 1, off := 0 } (Value.int IntKind.i64 0) = w2
  have ho : ∀ k, k ≠ w.heap.size + 1 → k ≠ w.heap.size + 1 + 1 → w2.heap[k]? = w1.heap[k]? := fun k a1 a2 => by rw [← hw2, setCell_blk (by exact Ne.symm a2), setCell_blk (by exact Ne.symm a1)]
  have e0 := (ho _ (by omega) (by omega)).trans g0
  have e3 := (ho _ (by omega) (by omega)).trans g3
  have e4 := (ho _ (by omega) (by omega)).trans g4
  have e1 : w2.heap[w.heap.size + 1]? = some (Obj.cells #[(.slice x xs.length xc)] 49) := by rw [← hw2, setCell_blk (by show w.heap.size + 1 + 1 ≠ _; omega), blk_setCell g1]; rfl
  have e2 : w2.heap[w.heap.size + 1 + 1]? = some (Obj.cells #[.int .i64 0] 37) := by rw [← hw2, blk_setCell ((setCell_blk (by show w.heap.size + 1 ≠ _; omega)).trans g2)]; rfl
  have hB2 : Below w.heap.size w w2 := by rw [← hw2]; exact (hB1.setCell (by show _ ≤ w.heap.size + 1; omega) _).setCell (by show _ ≤ w.heap.size + 1 + 1; omega) _
  have er : w2.heap[rb]? = w.heap[rb]? := hB2.block rb hr0
  have o2 : w2.ownsRow (w.heap.size + 5) 56 1 (.slice x xs.length xc) xs.length xs := owns_past HO.out fun g a1 _ => ho g (by omega) (by omega)
  clear hw2 ho g0 g1 g2 g3 g4 hB1
  clear HO
  refine leaves_cons (f := 110) (args := #[.pointer (some ⟨w.heap.size + 1 + 1 + 1 + 1, 0, none⟩), .pointer (some ⟨w.heap.size, 0, none⟩), .pointer (some ⟨w.heap.size + 1, 0, none⟩), .pointer (some ⟨w.heap.size + 1 + 1, 0, none⟩)]) (by simp) (by simp [go_sem]) ?_
  refine (idleL _ _ _ _ (w.heap.size + 1 + 1 + 1) rb ro rest w2 (cell_one e4) (cell_one e0) (cell_one e3) (.string s) (cell_blk (a := ⟨rb, ro, none⟩) er h1) (froz_blk (a := ⟨rb, ro, none⟩) er h3)).mono ?_
  rintro e u' w3 ⟨rfl, rfl, rfl⟩
  have y1 : (w2.drew.setCell ⟨rb, ro, none⟩ (.string rest)).cell? ⟨w.heap.size + 1, 0, none⟩ = some (.slice x xs.length xc) := cell_blk (w := w2) (setCell_blk (by show rb ≠ w.heap.size + 1; omega)) (cell_one e1)
  have y2 : (w2.drew.setCell ⟨rb, ro, none⟩ (.string rest)).cell? ⟨w.heap.size + 1 + 1, 0, none⟩ = some (.int .i64 0) := cell_blk (w := w2) (setCell_blk (by show rb ≠ w.heap.size + 1 + 1; omega)) (cell_one e2)
  have hB3 : Below w.heap.size (w.setCell ⟨rb, ro, none⟩ (.string rest)) (w2.drew.setCell ⟨rb, ro, none⟩ (.string rest)) := below_both hB2.drew _ _
  have o3 : (w2.drew.setCell ⟨rb, ro, none⟩ (.string rest)).ownsRow (w.heap.size + 5) 56 1 (.slice x xs.length xc) xs.length xs := owns_past o2 fun g a1 _ => setCell_blk (w := w2.drew) (by show rb ≠ g; omega)
  clear o2
  generalize w2.drew.setCell ⟨rb, ro, none⟩ (.string rest) = w3 at *
  clear e0 e1 e2 e3 e4 er hB2
  have o4 := owns_mono o3 (show w.heap.size ≤ w.heap.size + 5 by omega)
  clear o3
  simp [Leaves, settle, results, Try.results101, go_sem, y1, y2]
  exact ⟨x, xc, ⟨rfl, rfl⟩, by simpa using HX.out, o4, hB3⟩
end Go.Proofs.Rdr

namespace Go.Proofs.Rdr
open Go Go.RowKit Go.Proofs
/-- so many bytes of a number, the highest first -/
def beb : Nat → Nat → List UInt8
  | 0, _ => []
  | k + 1, n => UInt8.ofNat (n / 256 ^ k) :: beb k n
set_option maxHeartbeats 4000000 in
set_option maxRecDepth 1000000 in
theorem put_ok (s : ByteArray) (n k : Nat) (w : World) (_hn : n < 18446744073709551616) (hk : k ≤ 8) (hs : s.size ≤ 35184372088832) :
    Calls Try.prog 76 #[.string s, .int .u64 n, .int .i64 k] w fun e w' => e = .returned (.string ⟨(s.data.toList ++ beb k n).toArray⟩) ∧ Below w.heap.size w w' := by
  go_enter Try.func76, Try.ntmps76
  have hI := Lib.IsBuilderF.of (Lib.fresh_isBuilder 64 5 w)
  have hb0 : Below w.heap.size w (w.alloc (.cells #[.pointer none, .slice none 0 0] 64)) := (Below.refl _ w).alloc (Nat.le_refl _) _
  have C := Try.Builder_WriteString_k w.heap.size w.heap.size [] s _ hI (by simp only [List.length_nil]; omega) (by show w.heap.size ≤ (w.heap.push _).size; rw [Array.size_push]; omega)
  go_wp2_with (go_at_call 69; refine C.mono ?_)
  rintro e W1 ⟨rfl, h1, b1, k1⟩
  go_wp2
  go_loopw [2] (fun v wr => ∃ (j : Nat) (acc : List UInt8), j ≤ 8 ∧ v = .int .i64 j ∧ Lib.IsBuilderF 64 5 w.heap.size w.heap.size (Lib.byteCells acc) wr ∧ Below w.heap.size w wr ∧ acc ++ beb j n = s.data.toList ++ beb k n ∧ acc.length + j = s.size + k) (fun v _ => (intOf v).toNat)
  case atStart =>
    refine ⟨k, s.data.toList, hk, rfl, ?_, hb0.trans b1, rfl, by rw [Array.length_toList]; rfl⟩
    exact Or.inr h1
  case round =>
    obtain ⟨j, acc, hj, rfl, hJ, hbw, hacc, hlen⟩ := hrel
    cases j with
    | zero =>
      have C2 := Try.Builder_String_any_k w.heap.size w.heap.size acc wr hJ hbw.size
      go_wp2_with (go_at_call 15; refine C2.mono ?_)
      rintro e W2 ⟨rfl, _, b2, _⟩
      go_wp2
      go_ret
      exact ⟨by rw [← hacc]; simp [beb], hbw.trans b2⟩
    | succ j =>
      have C3 := Try.Builder_WriteByte_k w.heap.size w.heap.size (Lib.byteCells acc) ((n : Int) / 2 ^ (8 * j) % 256) wr hJ (by rw [Lib.byteCells_length]; omega) hbw.size
      go_wp2_with (go_at_call 78; refine C3.mono ?_)
      rintro e W2 ⟨rfl, h2, b2, _⟩
      go_wp2
      go_roundw
      case rel =>
        refine ⟨j, acc ++ [UInt8.ofNat (n / 256 ^ j)], by omega, by go_num, ?_, hbw.trans b2, ?_, ?_⟩
        · refine Or.inr ?_
          rw [Lib.byteCells_append, show Lib.byteCells [UInt8.ofNat (n / 256 ^ j)] = [.int .u8 ((n : Int) / 2 ^ (8 * j) % 256)] from ?_]
          · exact h2
          · have e1 : (256 : Nat) ^ j = 2 ^ (8 * j) := by rw [Nat.pow_mul]
            have e2 : (UInt8.ofNat (n / 2 ^ (8 * j))).toNat = n / 2 ^ (8 * j) % 256 := by simp
            simp only [Lib.byteCells, List.map_cons, List.map_nil, e1, e2]
            norm_cast
        · rw [← hacc]; simp [beb]
        · rw [List.length_append]; simp only [List.length_cons, List.length_nil]; omega
      case measure => simp [intOf]
end Go.Proofs.Rdr
